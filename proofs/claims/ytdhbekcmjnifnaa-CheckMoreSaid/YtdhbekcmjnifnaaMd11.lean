/- CheckMore is proved: a rule more that nobody speaks of, of a new name, and that speaks of none, leaves rules as they were; for every input, with no condition. -/
import Derived.Test.YtdhbekcmjnifnaaMd10
import Derived.Shelf.Sort.Plain
import Derived.Shelf.Slices.In.SortNone
import Derived.Test.YtdhbekcmjnifnaaProg
import Derived.Maps.RangeRun
import Derived.Sort.OwnSortedInts
import Derived.Test.YtdhbekcmjnifnaaRows
import Derived.WalkKit
import Derived.ProofKit
import Derived.OpenShut
import Derived.JoinedCond
import Derived.ReadAgain
import Derived.ChangeStays
import Derived.SizedLaws
set_option maxRecDepth 100000
namespace Go.Proofs
open Go.Shelf
/-! slices.Sort at []int: the shelf's contract, laid over this program -/
def Try.lays189_ren : Go.Shelf.Ren := ⟨fun
      | 189 => 29
      | 125 => 49
      | 257 => 48
      | 128 => 76
      | 129 => 77
      | 294 => 67
      | 295 => 68
      | 296 => 69
      | 297 => 70
      | 298 => 71
      | 299 => 72
      | 216 => 73
      | 300 => 74
      | 301 => 75
      | 328 => 84
      | 329 => 85
      | 330 => 86
      | 331 => 87
      | 332 => 88
      | 215 => 89
      | 343 => 96
      | n => n, fun
      | 28 => 28
      | 3 => 3
      | 46 => 96
      | 0 => 0
      | 51 => 128
      | 53 => 29
      | 4 => 4
      | 183 => 120
      | 182 => 119
      | 131 => 125
      | 5 => 5
      | 9 => 9
      | 218 => 134
      | 222 => 138
      | 228 => 147
      | 229 => 148
      | n => n, fun n => n⟩
theorem Try.lays189 : Lays.n189 Try.prog Try.lays189_ren := {
  mixed := by kernel_rfl,
  f125 := Try.func49.trans (congrArg some (by kernel_rfl)),
  f128 := Try.func76.trans (congrArg some (by kernel_rfl)),
  f129 := Try.func77.trans (congrArg some (by kernel_rfl)),
  f189 := Try.func29.trans (congrArg some (by kernel_rfl)),
  f215 := Try.func89.trans (congrArg some (by kernel_rfl)),
  f216 := Try.func73.trans (congrArg some (by kernel_rfl)),
  f257 := Try.func48.trans (congrArg some (by kernel_rfl)),
  f294 := Try.func67.trans (congrArg some (by kernel_rfl)),
  f295 := Try.func68.trans (congrArg some (by kernel_rfl)),
  f296 := Try.func69.trans (congrArg some (by kernel_rfl)),
  f297 := Try.func70.trans (congrArg some (by kernel_rfl)),
  f298 := Try.func71.trans (congrArg some (by kernel_rfl)),
  f299 := Try.func72.trans (congrArg some (by kernel_rfl)),
  f300 := Try.func74.trans (congrArg some (by kernel_rfl)),
  f301 := Try.func75.trans (congrArg some (by kernel_rfl)),
  f328 := Try.func84.trans (congrArg some (by kernel_rfl)),
  f329 := Try.func85.trans (congrArg some (by kernel_rfl)),
  f330 := Try.func86.trans (congrArg some (by kernel_rfl)),
  f331 := Try.func87.trans (congrArg some (by kernel_rfl)),
  f332 := Try.func88.trans (congrArg some (by kernel_rfl)),
  f343 := Try.func96.trans (congrArg some (by kernel_rfl)),
  t0 := Try.underlying0,
  a0 := Try.isAgg0,
  z0 := Try.sizeOf0,
  v0 := Try.zeroValue0,
  t3 := Try.underlying3,
  a3 := Try.isAgg3,
  z3 := Try.sizeOf3,
  v3 := Try.zeroValue3,
  t4 := Try.underlying4,
  a4 := Try.isAgg4,
  z4 := Try.sizeOf4,
  v4 := Try.zeroValue4,
  t5 := Try.underlying5,
  a5 := Try.isAgg5,
  z5 := Try.sizeOf5,
  v5 := Try.zeroValue5,
  t9 := Try.underlying9,
  a9 := Try.isAgg9,
  z9 := Try.sizeOf9,
  v9 := Try.zeroValue9,
  t28 := Try.underlying28,
  a28 := Try.isAgg28,
  z28 := Try.sizeOf28,
  v28 := Try.zeroValue28,
  t46 := Try.underlying96,
  a46 := Try.isAgg96,
  z46 := Try.sizeOf96,
  v46 := Try.zeroValue96,
  t51 := Try.underlying128,
  a51 := Try.isAgg128,
  z51 := Try.sizeOf128,
  v51 := Try.zeroValue128,
  t53 := Try.underlying29,
  a53 := Try.isAgg29,
  z53 := Try.sizeOf29,
  v53 := Try.zeroValue29,
  t131 := Try.underlying125,
  a131 := Try.isAgg125,
  z131 := Try.sizeOf125,
  v131 := Try.zeroValue125,
  t182 := Try.underlying119,
  a182 := Try.isAgg119,
  z182 := Try.sizeOf119,
  v182 := Try.zeroValue119,
  t183 := Try.underlying120,
  a183 := Try.isAgg120,
  z183 := Try.sizeOf120,
  v183 := Try.zeroValue120,
  t218 := Try.underlying134,
  a218 := Try.isAgg134,
  z218 := Try.sizeOf134,
  v218 := Try.zeroValue134,
  t222 := Try.underlying138,
  a222 := Try.isAgg138,
  z222 := Try.sizeOf138,
  v222 := Try.zeroValue138,
  t228 := Try.underlying147,
  a228 := Try.isAgg147,
  z228 := Try.sizeOf147,
  v228 := Try.zeroValue147,
  t229 := Try.underlying148,
  a229 := Try.isAgg148,
  z229 := Try.sizeOf148,
  v229 := Try.zeroValue148 }
end Go.Proofs
set_option linter.unusedVariables false
set_option linter.unusedSimpArgs false
set_option maxRecDepth 100000
namespace Go.Vc
open Go.Proofs

/-! slices.Sort at []int; a map gone through -/
def sortI (l : List Int) : List Int := l.mergeSort fun x y => decide (x ≤ y)
theorem sortI_perm (l : List Int) : (sortI l).Perm l := List.mergeSort_perm l _
theorem sortI_len (l : List Int) : (sortI l).length = l.length := (sortI_perm l).length_eq
theorem sortI_sorted (l : List Int) : (sortI l).Pairwise (· ≤ ·) := by
  have := List.pairwise_mergeSort (le := fun x y : Int => decide (x ≤ y)) (fun a b c h1 h2 => by simp at *; omega) (fun a b => by simp; omega) l
  simpa [sortI] using this
theorem sortI_congr {l m : List Int} (h : l.Perm m) : sortI l = sortI m := by
  refine List.Perm.eq_of_pairwise (le := (· ≤ ·)) (fun a b _ _ h1 h2 => by omega) (sortI_sorted l) (sortI_sorted m) ?_
  exact ((sortI_perm l).trans h).trans (sortI_perm m).symm
theorem mem_sortI {l : List Int} {x : Int} : x ∈ sortI l ↔ x ∈ l := (sortI_perm l).mem_iff
theorem putCells_list (l : List Int) (cur : List Value) (h : l.length ≤ cur.length) : (Sort.putCells (Value.int .i64) 0 l.toArray cur.toArray) = (l.map (Value.int .i64) ++ cur.drop l.length).toArray := by
  apply Array.ext'
  apply List.ext_getElem?
  intro j
  simp only [Sort.putCells, Array.getElem?_toList, Array.getElem?_mapIdx, List.getElem?_toArray]
  rcases Nat.lt_or_ge j l.length with hj | hj
  · rw [List.getElem?_append_left (by simpa using hj)]
    have hc : j < cur.length := by omega
    simp [hj, hc]
  · rw [List.getElem?_append_right (by simpa using hj)]
    simp only [List.length_map, List.getElem?_drop]
    rw [show l.length + (j - l.length) = j by omega]
    cases hcj : cur[j]? with
    | none => rfl
    | some v => simp; omega
theorem Sort_is {H : Heap} {b : Nat} {l : List Int} {rest : List Value} {T : TypeId} (hb : H[b]? = some (C (l.map (Value.int .i64) ++ rest) T)) (hl : l.length < 4611686018427387904) (c : Nat) : CallsH Try.prog 29 ⟨[.slice (some (bA b)) l.length c]⟩ H fun e H' => e = .returned (.tuple ⟨[]⟩) ∧ Ext (· = b) H H' ∧ H'[b]? = some (C ((sortI l).map (Value.int .i64) ++ rest) T) := by
  intro w d
  have hlt : b < H.size := lt_of_get hb
  have hbw : (wk w H d).heap[b]? = some (.cells (l.map (Value.int .i64) ++ rest).toArray T (0, 0)) := hb
  have h := Any.slices_Sort_int (P := Try.prog) (ρ := Try.lays189_ren) Try.lays189 b 0 c l (wk w H d) (holds_of_blockI hbw (by simp)) hlt hl
  refine h.mono fun e w' ⟨he, n, os, hw⟩ => ?_
  subst he
  subst hw
  obtain ⟨_, _, _, h4, h5⟩ := grownBy_sortedI (w := wk w H d) (n := n) (os := os) (g := b) (l.mergeSort fun x y => decide (x ≤ y)).toArray
  refine ⟨_, d + n, rfl, rfl, ⟨h4, fun k hk hne => h5 k hk fun e => hne (Option.some.inj e)⟩, ?_⟩
  · have := heap_sortedI (n := n) (os := os) (l.mergeSort fun x y => decide (x ≤ y)).toArray hbw
    refine this.trans ?_
    have hlen : (l.mergeSort fun x y => decide (x ≤ y)).length = l.length := sortI_len l
    rw [putCells_list _ _ (by rw [hlen]; simp)]
    rw [hlen]
    simp [sortI]
end Go.Vc
set_option linter.unusedVariables false
set_option linter.unusedSimpArgs false
set_option maxRecDepth 100000
namespace Go.Vc
open Go.Proofs

/-! a map gone through, in whatever order -/
theorem entG_get : ∀ (l : List (Value × Value)) (i j : Nat), (entG l i)[j]? = (l[j]?).map fun x => { key := x.1, val := x.2, born := i + j }
  | [], i, j => by simp [entG]
  | x :: r, i, 0 => by simp [entG]
  | x :: r, i, j + 1 => by
    simp only [entG, List.getElem?_cons_succ]
    rw [entG_get r (i + 1) j, show i + 1 + j = i + (j + 1) by omega]
theorem mem_entG {l : List (Value × Value)} {e : MapEntry} : e ∈ entG l 0 ↔ ∃ j x, l[j]? = some x ∧ e = { key := x.1, val := x.2, born := j } := by
  constructor
  · intro h
    obtain ⟨j, hj⟩ := List.getElem?_of_mem h
    rw [entG_get] at hj
    cases hl : l[j]? with
    | none => rw [hl] at hj; simp at hj
    | some x =>
      rw [hl] at hj
      simp only [Option.map_some, Option.some.injEq, Nat.zero_add] at hj
      exact ⟨j, x, hl, hj.symm⟩
  · rintro ⟨j, x, hj, rfl⟩
    refine List.mem_of_getElem? (i := j) ?_
    rw [entG_get, hj]
    simp
theorem entG_born : ∀ (l : List (Value × Value)) (i : Nat), (entG l i).map (·.born) = List.range' i l.length
  | [], i => rfl
  | x :: r, i => by
    simp only [entG, List.map_cons, List.length_cons, List.range'_succ]
    rw [entG_born r (i + 1)]
abbrev iterO (m n : Nat) (seen : List Nat) : Obj := .mapIter (some m) n seen.toArray n
section
variable {P : Program} {H : Heap} {K : Value → Heap → Prop} {l : List (Value × Value)} {m r : Nat}
theorem range_map {mt k e : TypeId} (ht : P.underlying mt = some (.map k e)) (hb : H[m]? = some (mapO l)) (hK : K (.pointer (some ⟨H.size, 0, none⟩)) (H.push (iterO m l.length []))) : RunD P (Instr.range mt (.map (some m))) H K := by
  intro w d
  exact ⟨_, _, d, run_range_map (wk w H d) mt k e m _ _ ht hb, hK⟩
theorem next_map {seen : List Nat} (hr : H[r]? = some (iterO m l.length seen)) (hb : H[m]? = some (mapO l)) (ty : TypeId)
    (h0 : (∀ j, j < l.length → j ∈ seen) → K (.tuple ⟨[.bool false]⟩) H)
    (h1 : ∀ j x, l[j]? = some x → j ∉ seen → K (.tuple ⟨[.bool true, x.1, x.2]⟩) (H.setIfInBounds r (iterO m l.length (seen ++ [j])))) :
    RunD P (Instr.next (.pointer (some ⟨r, 0, none⟩)) false ty) H K := by
  intro w d
  have hold : ∀ x ∈ (⟨entG l 0⟩ : Array MapEntry).toList, x.born < l.length := fun x hx => by
    obtain ⟨j, y, hj, rfl⟩ := mem_entG.1 hx
    exact (List.getElem?_eq_some_iff.1 hj).1
  rcases run_next_at (P := P) (wk w H d) ty r m l.length l.length seen.toArray ⟨entG l 0⟩ l.length hr hb hold (Nat.le_refl _) with ⟨hs, hrun⟩ | ⟨e, he, w1, hw1, hrun⟩
  · refine ⟨_, H, d, hrun, h0 fun j hj => ?_⟩
    have hemp := Array.eq_empty_of_size_eq_zero hs
    unfold leftOf at hemp
    rw [Array.filter_eq_empty_iff] at hemp
    have := hemp { key := l[j].1, val := l[j].2, born := j } (by
      rw [← Array.mem_toList_iff]
      exact mem_entG.2 ⟨j, l[j], by simp [hj], rfl⟩)
    simpa using this
  · unfold leftOf at he
    simp only [Array.toList_filter, List.mem_filter] at he
    obtain ⟨he1, he2⟩ := he
    obtain ⟨j, x, hj, rfl⟩ := mem_entG.1 he1
    have hns : j ∉ seen := by simpa using he2
    have hpush : seen.toArray.push j = (seen ++ [j]).toArray := by simp
    have hk := h1 j x hj hns
    rcases hw1 with rfl | rfl
    · refine ⟨_, _, d, hrun, ?_⟩
      show K _ (H.setIfInBounds r (.mapIter (some m) l.length (seen.toArray.push j) l.length))
      rw [hpush]; exact hk
    · refine ⟨_, _, d + 1, hrun, ?_⟩
      show K _ (H.setIfInBounds r (.mapIter (some m) l.length (seen.toArray.push j) l.length))
      rw [hpush]; exact hk
theorem entry_map {seen : List Nat} {j : Nat} {x : Value × Value} (hr : H[r]? = some (iterO m l.length (seen ++ [j]))) (hb : H[m]? = some (mapO l)) (hj : l[j]? = some x) (hK : K (.tuple ⟨[x.1, x.2]⟩) H) :
    RunD P (Instr.entry (.pointer (some ⟨r, 0, none⟩))) H K := by
  intro w d
  have hpush : (seen ++ [j]).toArray = seen.toArray.push j := by simp
  rw [iterO, hpush] at hr
  exact ⟨_, H, d, run_entry_at (P := P) (wk w H d) r m l.length seen.toArray ⟨entG l 0⟩ l.length { key := x.1, val := x.2, born := j } hr hb (mem_entG.2 ⟨j, x, hj, rfl⟩) (by
    show ((entG l 0).map (·.born)).Nodup
    rw [entG_born]
    exact List.nodup_range'), hK⟩
end
end Go.Vc
set_option linter.unusedVariables false
set_option linter.unusedSimpArgs false
set_option maxRecDepth 100000
namespace Go.Vc
open Go.Proofs

/-! check.Uses -/
def usesF (l : List Ru) (i : Int) : List Int := if (i < 0 ∨ i ≥ l.length) ∨ (wrongC l).1 ≠ 0 then [] else sortI (closeF (directF l) i.toNat)
theorem closeF_len {d : List (List Int)} (hd : DirOk d) (i : Nat) : (closeF d i).length ≤ 40 := by
  have h := nodup_len (l := closeF d i) (m := (List.range d.length).map fun x : Nat => (x : Int)) (closeF_spec hd i).1 fun x hx => by
    have := (closeF_spec hd i).2.1 x hx
    refine List.mem_map.2 ⟨x.toNat, List.mem_range.2 (by omega), by omega⟩
  simp at h
  have := hd.len
  omega
theorem nodup_lenN {l : List Nat} {n : Nat} (hn : l.Nodup) (h : ∀ x ∈ l, x < n) : l.length ≤ n := by
  have := nodup_len (l := l.map fun x : Nat => (x : Int)) (m := (List.range n).map fun x : Nat => (x : Int)) (by
    show List.Pairwise _ _
    rw [List.pairwise_map]
    exact List.Pairwise.imp (fun h e => h (by omega)) hn) (fun x hx => by
    obtain ⟨y, hy, rfl⟩ := List.mem_map.1 hx
    exact List.mem_map.2 ⟨y, List.mem_range.2 (h y hy), rfl⟩)
  simpa using this
theorem Uses_is {l : List Ru} {ad : Option Addr} {c : Nat} {H : Heap} (hl : RulesAt H ad l) (i : Int) : CallsH Try.prog 15 ⟨[.slice ad l.length c, .int .i64 i]⟩ H fun e H' => ∃ a c', e = .returned (.slice a (usesF l i).length c') ∧ Ext0 H H' ∧ IntsAt H' a (usesF l i) := by
  generalize hU : usesF l i = U
  unfold usesF at hU
  apply check_Uses_calls
  unfold check_Uses
  refine ⟨fun b H' => Ext0 H H' ∧ (b = true ↔ ((i < 0 ∨ i ≥ l.length) ∨ (wrongC l).1 ≠ 0)), ifB_mk (fun h => ?_) (fun h => ?_), ?_⟩
  · have h : i < 0 ∨ i ≥ l.length := by simpa using h
    exact ⟨Ext0.refl H, by simp [h]⟩
  · have h : ¬ (i < 0 ∨ i ≥ l.length) := by simpa using h
    refine (Wrong_is hl).call fun H2 hx2 => ⟨_, _, rfl, hx2, ?_⟩
    simp [h]
  rintro q H1 ⟨hx1, hq⟩
  refine ifB_mk (fun h => ?_) (fun h => ?_)
  · rw [if_pos (hq.1 h)] at hU
    subst hU
    exact ⟨none, 0, rfl, hx1, .inl rfl⟩
  have hno : ¬ ((i < 0 ∨ i ≥ l.length) ∨ (wrongC l).1 ≠ 0) := fun h2 => by rw [hq.2 h2] at h; cases h
  rw [if_neg hno] at hU
  clear hq h
  have hw : (wrongC l).1 = 0 := by
    by_cases h : (wrongC l).1 = 0
    · exact h
    · exact absurd (.inr h) hno
  obtain ⟨k, rfl⟩ : ∃ k : Nat, i = k := ⟨i.toNat, by omega⟩
  have hk : k < l.length := by omega
  rw [Int.toNat_natCast] at hU
  obtain ⟨hdok, hac⟩ := wrongC_dir hw
  obtain ⟨hw1, hw2, hw3, hw4⟩ := wrongC_ok hw
  obtain ⟨hlen, hok⟩ := wrongP_ok hw1
  have hdl := direct_len l
  refine (direct_is hlen (fun r hr => (hok r hr).2) (hl.grow hx1)).call (fun v H4 hr => ?_) (fun ch H6 hr5 => by obtain ⟨_, _, hr5, _⟩ := hr5; cases hr5) (fun H6 hr5 => by obtain ⟨_, _, hr5, _⟩ := hr5; cases hr5)
  obtain ⟨da, dc, hv, hx4, hdir⟩ := hr
  simp only [Ending.returned.injEq] at hv
  subst hv
  refine ⟨_, _, _, rfl, ?_⟩
  rw [show l.length = (directF l).length from hdl.symm]
  refine (closed_is hdok hdir).call (fun v H5 hr => ?_) (fun ch H6 hr5 => by obtain ⟨_, hr5, _⟩ := hr5; cases hr5) (fun H6 hr5 => by obtain ⟨_, hr5, _⟩ := hr5; cases hr5)
  obtain ⟨ca, hv, hx5, hclo⟩ := hr
  simp only [Ending.returned.injEq] at hv
  subst hv
  have hx05 := hx1.trans (hx4.trans hx5)
  obtain ⟨m, hcm, hm⟩ := hclo k (by omega)
  generalize hcl : closeF (directF l) k = cl at hU hm
  have hcl40 : cl.length ≤ 40 := by rw [← hcl]; exact closeF_len hdok k
  refine ⟨_, _, _, rfl, by omega, by omega, ca, rfl, some m, by rw [Int.toNat_natCast]; exact hcm, ?_⟩
  refine range_map (mt := 48) (by kernel_rfl : Try.prog.underlying 48 = some (.map 3 4)) hm ?_
  have hml : m < H5.size := lt_of_get hm
  have hklen : (cl.map kvB).length = cl.length := by simp
  refine ⟨fun oa on oc H' => ∃ (seen : List Nat) (E : List (Nat × Obj)), seen.Nodup ∧ (∀ j ∈ seen, j < cl.length) ∧ on = seen.length ∧ St none0 H5 H' ((H5.size, iterO m (cl.map kvB).length seen) :: E) ∧ RowE E oa on oc 1 ((seen.map fun j => cl.getD j 0).map (Value.int .i64)) 3, fun _ on _ _ => cl.length - on, ⟨[], [], by simp, by simp, rfl, (St.start none0 H5).push _, .inl ⟨rfl, rfl, rfl, rfl, rfl⟩⟩, ?_⟩
  rintro oa on oc H7 ⟨seen, E, hnd, hin, rfl, hS, hr⟩
  have hsl : seen.length ≤ cl.length := nodup_lenN hnd hin
  have hm7 : H7[m]? = some (mapO (cl.map kvB)) := by rw [hS.ext0.block m hml fun h => h]; exact hm
  refine next_map (hS.obj (k := 0) rfl) hm7 _ (fun hall => ?_) (fun j x hj hns => ?_)
  · refine ⟨false, [], rfl, ifB_mk (fun h => by cases h) (fun _ => ?_)⟩
    have hperm : (seen.map fun j => cl.getD j 0).Perm cl := by
      have h1 : seen.Perm (List.range cl.length) := (List.perm_ext_iff_of_nodup hnd List.nodup_range).2 fun j => ⟨fun h => List.mem_range.2 (hin j h), fun h => hall j (by rw [hklen]; exact List.mem_range.1 h)⟩
      have h2 : (List.range cl.length).map (fun j => cl.getD j 0) = cl := by
        apply List.ext_getElem?
        intro j
        by_cases hj : j < cl.length
        · simp [hj, List.getD_eq_getElem?_getD]
        · simp [hj]
      have := h1.map fun j => cl.getD j 0
      rwa [h2] at this
    have hUs : U = sortI (seen.map fun j => cl.getD j 0) := by rw [← hU]; exact (sortI_congr hperm).symm
    have hUl : U.length = seen.length := by rw [hUs, sortI_len]; simp
    rcases hr with ⟨rfl, rfl, h0, rfl, h1⟩ | ⟨b, rest, rfl, rfl, h1, h2, h3⟩
    · have hs0 : seen = [] := List.length_eq_zero_iff.1 h0
      subst hs0
      have hcall : CallsH Try.prog 29 ⟨[.slice none 0 0]⟩ H7 fun e H' => e = .returned (.tuple ⟨[]⟩) ∧ H' = H7 := fun w d => (Any.slices_Sort_int_none (P := Try.prog) (ρ := Try.lays189_ren) Try.lays189 none 0 (wk w H7 d)).mono fun e w' ⟨he, hw⟩ => ⟨H7, d, hw, he, rfl⟩
      refine hcall.call (fun v H12 hr => ?_) (fun ch H6 hr5 => by obtain ⟨hr5, _⟩ := hr5; cases hr5) (fun H6 hr5 => by obtain ⟨hr5, _⟩ := hr5; cases hr5)
      obtain ⟨_, rfl⟩ := hr
      exact ⟨none, 0, by rw [hUl], hx05.trans hS.ext0, .inl (List.length_eq_zero_iff.1 hUl)⟩
    · have hb : H7[b]? = some (C ((seen.map fun j => cl.getD j 0).map (Value.int .i64) ++ rest) 3) := hS.obj (k := 1) rfl
      have hcall := Sort_is hb (by simp; omega) oc
      rw [List.length_map] at hcall
      refine hcall.call (fun v H12 hr => ?_) (fun ch H6 hr5 => by obtain ⟨hr5, _⟩ := hr5; cases hr5) (fun H6 hr5 => by obtain ⟨hr5, _⟩ := hr5; cases hr5)
      obtain ⟨_, hx12, hb12⟩ := hr
      have hown : H5.size ≤ b := by
        have := hS.own (b, C ((seen.map fun j => cl.getD j 0).map (Value.int .i64) ++ rest) 3) (by simp)
        simpa using this
      refine ⟨some (bA b), oc, by rw [hUl], hx05.trans ⟨Nat.le_trans hS.ext.size hx12.size, fun b' hb' _ => ?_⟩, .inr ⟨_, rfl, At_of_blk hb12 rfl fun j v hj => ?_⟩⟩
      · rw [hx12.block b' (Nat.lt_of_lt_of_le hb' hS.ext.size) (by omega)]
        exact hS.ext0.block b' hb' fun h => h
      · show (_ ++ rest)[0 + j]? = _
        rw [Nat.zero_add, List.getElem?_append_left (by have := (List.getElem?_eq_some_iff.1 hj).1; rw [hUs] at this; exact this), ← hUs]
        exact hj
  · rw [List.getElem?_map] at hj
    cases hcj : cl[j]? with
    | none => rw [hcj] at hj; simp at hj
    | some y =>
      rw [hcj] at hj
      simp only [Option.map_some, Option.some.injEq] at hj
      subst hj
      have hjl : j < cl.length := (List.getElem?_eq_some_iff.1 hcj).1
      have hj' : (cl.map kvB)[j]? = some (kvB y) := by rw [List.getElem?_map, hcj]; rfl
      replace hS := hS.setO (k := 0) rfl (o' := iterO m (cl.map kvB).length (seen ++ [j]))
      simp only [setN] at hS
      generalize H7.setIfInBounds H5.size (iterO m (cl.map kvB).length (seen ++ [j])) = H8 at hS
      refine ⟨true, _, rfl, ifB_mk (fun _ => ?_) (fun h => by cases h)⟩
      have hm8 : H8[m]? = some (mapO (cl.map kvB)) := by rw [hS.ext0.block m hml fun h => h]; exact hm
      refine entry_map (hS.obj (k := 0) rfl) hm8 hj' ?_
      refine ⟨y, _, rfl, ?_⟩
      intro H10
      replace hS : St _ _ H10 _ := St.push hS _
      clear_value H10
      have hnd2 : (seen ++ [j]).Nodup := by
        rw [List.nodup_append]
        exact ⟨hnd, by simp, fun a ha b hb hab => by simp at hb; rw [hab, hb] at ha; exact hns ha⟩
      have hin2 : ∀ x ∈ seen ++ [j], x < cl.length := fun x hx => by
        rcases List.mem_append.1 hx with hx | hx
        · exact hin x hx
        · simp at hx; omega
      have hsl2 : (seen ++ [j]).length ≤ cl.length := nodup_lenN hnd2 hin2
      simp only [List.length_append, List.length_singleton] at hsl2
      refine append_row (L := [_, _]) (by kernel_rfl : appB Try.prog 28 3 1 8 = true) hS hr (St.atAll (k := 0) hS rfl rfl rfl) rfl (by simp [plainL, Value.oneCell']) (plain_ints _ _) (by omega) (by omega) (by omega) ?_
      intro a' c' H' E' hS hr _
      refine ⟨_, _, _, rfl, ⟨seen ++ [j], E', hnd2, hin2, by simp, hS.sub (List.Sublist.cons _ (List.Sublist.refl _)), ?_⟩, ?_⟩
      · have h1 : cl[j]?.getD 0 = y := by rw [hcj]; rfl
        rw [List.map_append, List.map_append]
        simpa [h1] using hr
      · show cl.length - (seen.length + 1) < cl.length - seen.length
        omega
end Go.Vc
set_option linter.unusedVariables false
set_option linter.unusedSimpArgs false
set_option maxRecDepth 100000
namespace Go.Vc
open Go.Proofs

/-! slotlaw5.rules, slotlaw5.alive -/
theorem rules5_is (s : ByteArray) (hs : s.size ≤ 4611686018427387904) (hp : (parseF s).2.1 = 0) (H : Heap) : CallsH Try.prog 24 ⟨[.string s]⟩ H fun e H' => ∃ a c, e = .returned (.slice a (parseF s).1.length c) ∧ Ext0 H H' ∧ RulesAt H' a (parseF s).1 := by
  apply slotlaw5_rules_calls
  unfold slotlaw5_rules
  refine (Parse_is s hs H).call (fun v H1 hr => ?_) (fun ch H6 hr5 => by obtain ⟨_, _, hr5, _⟩ := hr5; cases hr5) (fun H6 hr5 => by obtain ⟨_, _, hr5, _⟩ := hr5; cases hr5)
  obtain ⟨a, c, hv, hx, hru⟩ := hr
  simp only [Ending.returned.injEq] at hv
  subst hv
  refine ⟨_, _, _, _, _, rfl, ?_⟩
  have hS := St.start none0 H1
  intro H2
  replace hS : St _ _ H2 _ := St.push hS _
  clear_value H2
  refine ⟨St.may (k := 0) hS rfl rfl (by simp [newA, bA, add_off]), ?_⟩
  intro H3
  replace hS : St _ _ H3 _ := St.put (k := 0) hS rfl rfl _
  clear_value H3
  simp only [setN, splice, newA, bA, add_off, add_block, Nat.add_zero, Nat.zero_add, Nat.reduceAdd] at hS
  refine ⟨_, St.cell (k := 0) hS rfl rfl rfl, ?_⟩
  refine ifB_mk (fun h => ?_) (fun h => ?_)
  · rw [hp] at h; simp at h
  · exact ⟨a, c, rfl, hx.trans hS.ext0, hru.grow hS.ext0⟩
theorem wrong1 : wrongC rules1 = (0, 0) := by kernel_rfl
theorem wrong2 : (wrongC rules2).1 = 9 := by kernel_rfl
theorem close1 : closeF (directF rules1) 0 = [1, 2] := by kernel_rfl
theorem sortI_id {l : List Int} (h : l.Pairwise (· ≤ ·)) : sortI l = l :=
  List.Perm.eq_of_pairwise (le := (· ≤ ·)) (fun a b _ _ h1 h2 => by omega) (sortI_sorted l) h (sortI_perm l)
theorem uses1 : usesF rules1 0 = [1, 2] := by
  unfold usesF
  rw [if_neg (by rw [wrong1]; simp [rules1])]
  rw [show (0 : Int).toNat = 0 from rfl, close1]
  exact sortI_id (by decide)
theorem alive5_is (H : Heap) : CallsH Try.prog 13 ⟨[]⟩ H fun e H' => e = .returned (.bool true) ∧ Ext0 H H' := by
  apply slotlaw5_alive_calls
  unfold slotlaw5_alive
  have h1 := parse1
  have h2 := parse2
  refine (rules5_is text1 (by decide) (by rw [h1]) H).call (fun v H1 hr => ?_) (fun ch H6 hr5 => by obtain ⟨_, _, hr5, _⟩ := hr5; cases hr5) (fun H6 hr5 => by obtain ⟨_, _, hr5, _⟩ := hr5; cases hr5)
  obtain ⟨a, c, hv, hx, hru⟩ := hr
  rw [h1] at hv hru
  simp only [Ending.returned.injEq] at hv
  subst hv
  refine ⟨_, _, _, rfl, (Wrong_is hru).call fun H2 hx2 => ?_⟩
  rw [wrong1]
  refine ⟨_, _, rfl, ?_⟩
  refine ⟨fun b H' => b = true ∧ Ext0 H2 H', ifB_mk (fun _ => ?_) (fun h => by cases h), ?_⟩
  · refine (Uses_is (hru.grow hx2) 0).call (fun v H4 hr => ?_) (fun ch H6 hr5 => by obtain ⟨_, _, hr5, _⟩ := hr5; cases hr5) (fun H6 hr5 => by obtain ⟨_, _, hr5, _⟩ := hr5; cases hr5)
    obtain ⟨ua, uc, hv, hx4, hints⟩ := hr
    simp only [Ending.returned.injEq] at hv
    subst hv
    refine ⟨_, _, _, rfl, ?_⟩
    have hS := St.start none0 H4
    intro H5
    replace hS : St _ _ H5 _ := St.push hS _
    clear_value H5
    rw [uses1] at hints ⊢
    have hi2 : IntsAt H5 (some (newA H4)) [1, 2] := .inr ⟨_, rfl, St.atAll (k := 0) hS rfl rfl rfl⟩
    have hcall := Ints_is (hints.grow hS.ext0) hi2 (by simp) (by simp) uc 2
    exact hcall.call ⟨_, rfl, rfl, hx4.trans hS.ext0⟩
  rintro q H3 ⟨rfl, hx3⟩
  refine ⟨fun b H' => b = true ∧ Ext0 H3 H', ifB_mk (fun _ => ?_) (fun h => by cases h), ?_⟩
  · refine (rules5_is text2 (by decide) (by rw [h2]) H3).call (fun v H10 hr => ?_) (fun ch H6 hr5 => by obtain ⟨_, _, hr5, _⟩ := hr5; cases hr5) (fun H6 hr5 => by obtain ⟨_, _, hr5, _⟩ := hr5; cases hr5)
    obtain ⟨a2, c2, hv, hx10, hru2⟩ := hr
    rw [h2] at hv hru2
    simp only [Ending.returned.injEq] at hv
    subst hv
    refine ⟨_, _, _, rfl, (Wrong_is hru2).call fun H11 hx11 => ?_⟩
    refine ⟨_, _, rfl, ?_, hx10.trans hx11⟩
    rw [wrong2]; rfl
  rintro q H9 ⟨rfl, hx9⟩
  exact ⟨rfl, hx.trans (hx2.trans (hx3.trans hx9))⟩
end Go.Vc
set_option linter.unusedVariables false
set_option linter.unusedSimpArgs false
set_option maxRecDepth 100000
namespace Go.Vc
open Go.Proofs

/-! sets of integers as maps; who refers to whom -/
theorem findNow_set (k : Int) : ∀ (s : List Int) (i j : Nat), k ∈ s → ∃ p, Instr.findNow (.int .i64) (.int .i64 k) (entG (s.map kvB) i) j = some (some (j + p, .bool true)) ∧ s[p]? = some k
  | x :: r, i, j, h => by
    simp only [List.map_cons, entG, Instr.findNow, Instr.sameNow]
    by_cases hx : k = x
    · subst hx
      exact ⟨0, by simp, rfl⟩
    · have hb : (k == x) = false := by simpa using hx
      have hr : k ∈ r := by
        rcases List.mem_cons.1 h with h | h
        · exact absurd h hx
        · exact h
      obtain ⟨p, h1, h2⟩ := findNow_set k r (i + 1) (j + 1) hr
      refine ⟨p + 1, ?_, by simpa using h2⟩
      rw [if_pos trivial, hb]
      simp only
      rw [h1, show j + 1 + p = j + (p + 1) by omega]
theorem set_put {H : Heap} {r : Nat} {s : List Int} {k : Int} {K : Heap → Prop} (h : H[r]? = some (mapO (s.map kvB))) (hK : ∀ s' : List Int, (∀ x, x ∈ s' ↔ x ∈ s ∨ x = k) → K (H.setIfInBounds r (mapO (s'.map kvB)))) :
    RunU Try.prog (Instr.mapUpdate 48 (.map (some r)) (.int .i64 k) (.bool true)) H K := by
  have hfv := findV_set k s
  by_cases hks : k ∈ s
  · intro w dr
    have hb' : (wk w H dr).heap[r]? = some (mapO (s.map kvB)) := h
    obtain ⟨p, h1, h2⟩ := findNow_set k s 0 0 hks
    rw [Nat.zero_add] at h1
    have hk := hK s (fun x => ⟨.inl, fun h => h.elim (fun h => h) fun h => by rw [h]; exact hks⟩)
    refine ⟨_, dr, ?_, hk⟩
    have hent : (entG (s.map kvB) 0)[p]? = some { key := .int .i64 k, val := .bool true, born := p } := by
      rw [entG_get, List.getElem?_map, h2]; simp [kvB]
    have hmod : (⟨entG (s.map kvB) 0⟩ : Array MapEntry).modify p (fun e => { e with key := .int .i64 k, val := .bool true }) = ⟨entG (s.map kvB) 0⟩ := by
      apply Array.ext_getElem?
      intro j
      rw [Array.getElem?_modify]
      split
      · rename_i hj
        subst hj
        simp only [List.getElem?_toArray, hent, Option.map_some]
      · rfl
    have hkey : (((⟨entG (s.map kvB) 0⟩ : Array MapEntry)[p]?).map (·.key)).getD (.int .i64 k) = .int .i64 k := by
      simp only [List.getElem?_toArray, hent, Option.map_some, Option.getD_some]
    have hm : Try.prog.underlying 48 = some (.map 3 4) := by kernel_rfl
    have hi : Try.prog.underlying 3 = some (.int .i64) := by kernel_rfl
    simp only [Instr.mapUpdate, Sem.run_bind, run_underlying hm, Result.andThen_ok, MapKept.run_getObj_map hb', MapKept.run_checkKey hi (k := .int .i64 k) rfl, MapKept.run_findKey hi h1, hkey]
    simp only [Instr.keyThatStays, Instr.sameBits, beq_self_eq_true, Bool.and_self, if_true, Sem.run_pure, Result.andThen_ok, hmod, MapKept.run_setObj_map _ hb']
    rfl
  · rw [if_neg hks] at hfv
    have hk := hK (s ++ [k]) (fun x => by simp)
    rw [List.map_append] at hk
    exact update_new (P := Try.prog) (mt := 48) (by kernel_rfl : Try.prog.underlying 48 = some (.map 3 4)) (by kernel_rfl : Try.prog.underlying 3 = some (.int .i64)) (key := .int .i64 k) rfl h hfv hk
/-- Who is referred to: who is spoken of, and who those refer to. -/
theorem close_iff {d : List (List Int)} (hd : DirOk d) (i : Nat) (k : Int) : k ∈ closeF d i ↔ ∃ j : Nat, j < d.length ∧ (j : Int) ∈ d.getD i [] ∧ (k = j ∨ k ∈ closeF d j) := by
  have hs := closeF_spec hd
  constructor
  · intro hk
    refine closeG_least (T := fun k => ∃ j : Nat, j < d.length ∧ (j : Int) ∈ d.getD i [] ∧ (k = j ∨ k ∈ closeF d j)) ?_ _ _ _ (by simp) (fun k hk => ?_) k hk
    · rintro x ⟨j, hj, hji, h⟩ y hy
      refine ⟨j, hj, hji, .inr ?_⟩
      rcases h with rfl | h
      · rw [Int.toNat_natCast] at hy
        exact (hs j).2.2.1 y hy
      · exact (hs j).2.2.2 x h y hy
    · have := (hd.at_ i).2 k hk
      exact ⟨k.toNat, by omega, by rw [Int.toNat_of_nonneg this.1]; exact hk, .inl (by omega)⟩
  · rintro ⟨j, hj, hji, h⟩
    have h1 := (hs i).2.2.1 _ hji
    rcases h with rfl | h
    · exact h1
    · exact closeF_sub hd h1 k h
theorem findF_self {l : List Ru} (hu : Uniq l) {j : Nat} (hj : j < l.length) : findF (ruAt l j).name l 0 = j := by
  rcases findF_at (ruAt l j).name l 0 with h | ⟨q, h1, h2, h3⟩
  · exfalso
    have : ∀ (l : List Ru) (i j : Nat), j < l.length → findF (ruAt l j).name l i ≠ -1 := by
      intro l
      induction l with
      | nil => intro i j hj; simp at hj
      | cons r rs ih =>
        intro i j hj
        simp only [findF]
        split
        · omega
        · cases j with
          | zero => rename_i hne; exact absurd (by simp [ruAt]) hne
          | succ j =>
            have e : ruAt (r :: rs) (j + 1) = ruAt rs j := by simp [ruAt]
            rw [e]
            exact ih (i + 1) j (by simpa using hj)
    exact this l 0 j hj h
  · have := hu q j h1 hj h3
    rw [h2, this]
    simp
/-- To speak of a rule's name is to refer to it. -/
theorem speaks_iff {l : List Ru} (hw : (wrongC l).1 = 0) {i j : Nat} (hi : i < l.length) (hj : j < l.length) : (ruAt l j).name ∈ nmEx (ruAt l i).e ↔ (j : Int) ∈ (directF l).getD i [] := by
  obtain ⟨_, hw2, _, _⟩ := wrongC_ok hw
  have hu := uniq_of hw2
  rw [dir_at hi]
  constructor
  · intro h
    have := List.mem_map_of_mem (f := fun n => findF n l 0) h
    rwa [findF_self hu hj] at this
  · intro h
    obtain ⟨n, h1, h2⟩ := List.mem_map.1 h
    rcases findF_at n l 0 with h3 | ⟨q, h3, h4, h5⟩
    · omega
    · have : q = j := by omega
      subst this
      rw [h5]; exact h1
end Go.Vc
set_option linter.unusedVariables false
set_option linter.unusedSimpArgs false
set_option maxRecDepth 100000
namespace Go.Vc
open Go.Proofs

/-! slotlaw5.CheckUses -/
theorem mem_take_succ {l : List Int} {j : Nat} (hj : j < l.length) (x : Int) : x ∈ l.take (j + 1) ↔ x ∈ l.take j ∨ x = l[j] := by
  have h : l[j]? = some l[j] := by simp [hj]
  rw [List.take_add_one, h]
  simp only [Option.toList, List.mem_append, List.mem_singleton]
theorem cell_keep {H H' : Heap} {a : Addr} {v : Value} {b : Nat} {es : List (Value × Value)} (hc : cellH H a = some v) (hb : H[b]? = some (mapO es)) (hx : Ext (· = b) H H') : cellH H' a = some v := by
  have hne : a.block ≠ b := fun h => by
    unfold cellH at hc
    rw [h, hb] at hc
    cases hc
  unfold cellH at hc ⊢
  rw [hx.block a.block ?_ hne]
  · exact hc
  · cases h : H[a.block]? with
    | none => rw [h] at hc; cases hc
    | some o => exact lt_of_get h
theorem usesF_mem {l : List Ru} (hw : (wrongC l).1 = 0) {i : Nat} (hi : i < l.length) (k : Int) : k ∈ usesF l i ↔ k ∈ closeF (directF l) i := by
  unfold usesF
  rw [if_neg (by simp [hw]; omega), Int.toNat_natCast]
  exact mem_sortI
theorem usesF_len {l : List Ru} (i : Int) : (usesF l i).length ≤ 40 := by
  unfold usesF
  split
  · simp
  · rename_i h
    have hw : (wrongC l).1 = 0 := by
      by_cases h2 : (wrongC l).1 = 0
      · exact h2
      · exact absurd (.inr h2) h
    rw [sortI_len]
    exact closeF_len (wrongC_dir hw).1 _
theorem IntsAt.get {H : Heap} {a : Option Addr} {r : List Int} (h : IntsAt H a r) {j : Nat} (hj : j < r.length) : ∃ p, a = some p ∧ cellH H (p.add j) = some (.int .i64 r[j]) := by
  rcases h with h | ⟨p, h1, h2⟩
  · subst h; simp at hj
  · exact ⟨p, h1, h2.get (by simp [hj])⟩
theorem At.tl {H : Heap} {a : Addr} {v : Value} {c : List Value} (h : At H a (v :: c)) : At H (a.add 1) c := At.right (x := [v]) h
/-- A set turned within one's own. -/
theorem St.set {M : Nat → Prop} {H0 H : Heap} {L : List (Nat × Obj)} {k b : Nat} {es es' : List (Value × Value)} (h : St M H0 H L) (hk : nthO L k = some (b, mapO es)) : Ext (· = b) H (H.setIfInBounds b (mapO es')) :=
  ⟨by simp, fun b' hb' hne => by rw [Array.getElem?_setIfInBounds, if_neg (fun e => hne e.symm)]⟩
theorem Ext.trans1 {M : Nat → Prop} {H H1 H2 : Heap} (h : Ext M H H1) (h2 : Ext M H1 H2) : Ext M H H2 := h.trans ⟨h2.size, fun b hb hm => h2.block b hb hm⟩
set_option maxHeartbeats 1000000 in
theorem CheckUses_is {l : List Ru} {ad : Option Addr} {H : Heap} (hl : RulesAt H ad l) (cap : Nat) : CallsH Try.prog 5 ⟨[.slice ad l.length cap]⟩ H fun r H' => r = .returned (.bool true) ∧ Ext0 H H' := by
  apply slotlaw5_CheckUses_calls
  unfold slotlaw5_CheckUses
  refine (alive5_is H).call (fun v H1 hr => ?_) (fun ch H6 hr5 => by obtain ⟨hr5, _⟩ := hr5; cases hr5) (fun H6 hr5 => by obtain ⟨hr5, _⟩ := hr5; cases hr5)
  obtain ⟨hv, hx1⟩ := hr
  simp only [Ending.returned.injEq] at hv
  subst hv
  refine ⟨_, rfl, ifB_mk (fun h => by simp at h) (fun _ => ?_)⟩
  refine (Wrong_is (hl.grow hx1)).call fun H2 hx2 => ⟨_, _, rfl, ifB_mk (fun h => ?_) (fun h => ?_)⟩
  · have h : (wrongC l).1 ≠ 0 := by simpa using h
    have hx02 := hx1.trans hx2
    refine (Uses_is (hl.grow hx02) 0).call (fun v H4 hr => ?_) (fun ch H6 hr5 => by obtain ⟨_, _, hr5, _⟩ := hr5; cases hr5) (fun H6 hr5 => by obtain ⟨_, _, hr5, _⟩ := hr5; cases hr5)
    obtain ⟨ua, uc, hv, hx4, hints⟩ := hr
    simp only [Ending.returned.injEq] at hv
    subst hv
    refine ⟨_, _, _, rfl, ?_, hx02.trans hx4⟩
    rw [show usesF l 0 = [] by unfold usesF; rw [if_pos (.inr h)]]
    rfl
  have hw : (wrongC l).1 = 0 := by simpa using h
  clear h
  obtain ⟨hd, hac⟩ := wrongC_dir hw
  obtain ⟨hw1, hw2, hw3, hw4⟩ := wrongC_ok hw
  obtain ⟨hlen, hok⟩ := wrongP_ok hw1
  have hdl := direct_len l
  have hx02 := hx1.trans hx2
  refine ⟨fun x H' => ∃ i : Nat, x = i ∧ i ≤ l.length ∧ Ext0 H H', fun x _ => (l.length - x : Int).toNat, ⟨0, rfl, Nat.zero_le _, hx02⟩, ?_⟩
  rintro x H5 ⟨i, rfl, hi, hx5⟩
  refine ifB_mk (fun hc => ?_) (fun hc => ⟨rfl, hx5⟩)
  have hi : i < l.length := by simp at hc; omega
  clear hc
  have hS := St.start none0 H5
  intro H6
  replace hS : St _ _ H6 [(H5.size, mapO (([] : List Int).map kvB))] := St.push hS _
  clear_value H6
  refine (Uses_is (hl.grow (hx5.trans hS.ext0)) i).call (fun v H7 hr => ?_) (fun ch H6 hr5 => by obtain ⟨_, _, hr5, _⟩ := hr5; cases hr5) (fun H6 hr5 => by obtain ⟨_, _, hr5, _⟩ := hr5; cases hr5)
  obtain ⟨ua, uc, hv, hx7, hints⟩ := hr
  simp only [Ending.returned.injEq] at hv
  subst hv
  replace hS := hS.grow hx7
  have hb7 := hS.obj (k := 0) rfl
  have hu40 := usesF_len (l := l) i
  have huc := usesF_mem hw hi
  generalize usesF l i = u at hints hu40 huc
  refine ⟨_, _, _, rfl, ?_⟩
  refine ⟨fun x H' => ∃ (j : Nat) (s : List Int), x = j ∧ j ≤ u.length ∧ St none0 H5 H' [(H5.size, mapO (s.map kvB))] ∧ Ext (· = H5.size) H7 H' ∧ ∀ k, k ∈ s ↔ k ∈ u.take j, fun x _ => (u.length - x : Int).toNat, ⟨0, [], rfl, Nat.zero_le _, hS, Ext.refl _ _, by simp⟩, ?_⟩
  clear hS
  rintro x H8 ⟨j, s, rfl, hj, hS, hx78, hs⟩
  refine ifB_mk (fun hc => ?_) (fun hc => ?_)
  · have hj : j < u.length := by simp at hc; omega
    obtain ⟨p, rfl, hcell⟩ := hints.get hj
    have hmem : u[j] ∈ closeF (directF l) i := (huc _).1 (List.getElem_mem hj)
    have hrg := (closeF_spec hd i).2.1 _ hmem
    have hni : u[j] ≠ (i : Int) := fun h => hac i (by omega) (by rw [← h]; exact hmem)
    refine ⟨by omega, by omega, p, rfl, u[j], by rw [Int.toNat_natCast, Nat.mul_one]; exact cell_keep hcell hb7 hx78, ifB_mk (fun h => ?_) (fun _ => ?_)⟩
    · simp at h; omega
    · refine set_put (hS.obj (k := 0) rfl) fun s' hs' => ⟨⟨j + 1, s', by rw [i64_id (by omega) (by omega)]; omega, hj, hS.setO (k := 0) rfl, hx78.trans1 (hS.set (k := 0) rfl), fun k => ?_⟩, ?_⟩
      · rw [hs', hs, mem_take_succ hj]
      · show Int.toNat _ < Int.toNat _
        rw [i64_id (by omega) (by omega)]
        omega
  have hj : j = u.length := by simp at hc; omega
  subst hj
  rw [List.take_length] at hs
  replace hs : ∀ k, k ∈ s ↔ k ∈ closeF (directF l) i := fun k => (hs k).trans (huc k)
  clear hints hb7 huc hu40 hc
  have hwb : H5.size < H8.size := lt_of_get (hS.obj (k := 0) rfl)
  intro H10
  replace hS : St _ _ H10 [(H8.size, mapO (([] : List Int).map kvB)), (H5.size, mapO (s.map kvB))] := St.push hS _
  clear_value H10
  refine ⟨fun x H' => ∃ (k : Nat) (t : List Int), x = k ∧ k ≤ l.length ∧ St none0 H5 H' [(H8.size, mapO (t.map kvB)), (H5.size, mapO (s.map kvB))] ∧ ∀ m, m ∈ t ↔ ∃ q : Nat, q < k ∧ (q : Int) ∈ (directF l).getD i [] ∧ (m = q ∨ m ∈ closeF (directF l) q), fun x _ => (l.length - x : Int).toNat, ⟨0, [], rfl, Nat.zero_le _, hS, by simp⟩, ?_⟩
  clear hS
  rintro x H11 ⟨k, t, rfl, hk, hS, ht⟩
  refine ifB_mk (fun hc => ?_) (fun hc => ?_)
  · have hk : k < l.length := by simp at hc; omega
    clear hc
    have hru := hl.grow (hx5.trans hS.ext0)
    obtain ⟨p, c, hp, hat, hex⟩ := hru i _ (ruAt_some hi)
    obtain ⟨p2, c2, hp2, hat2, hex2⟩ := hru k _ (ruAt_some hk)
    subst hp
    simp only [Option.some.injEq] at hp2
    subst hp2
    obtain ⟨ek, ea, eb, en, ead, elen, ecap, rfl⟩ := ruC_of hex
    have hoki : okEx (ruAt l i).e := (hok _ (List.mem_of_getElem? (ruAt_some hi))).2.1
    refine ⟨by omega, by omega, p, rfl, _, _, _, _, _, _, _, by rw [Int.toNat_natCast]; exact hat.tl, by omega, by omega, p, rfl, (ruAt l k).name, by rw [Int.toNat_natCast]; exact hat2.get (j := 0) rfl, _, Speaks_is hoki hex _, fun H12 hx12 => ?_⟩
    replace hS := hS.grow hx12
    refine ifB_mk (fun h => ?_) (fun h => ?_)
    · have hsp : (k : Int) ∈ (directF l).getD i [] := (speaks_iff hw hi hk).1 (spkB_iff.1 h)
      refine set_put (hS.obj (k := 0) rfl) fun t' ht' => ?_
      replace hS := hS.setO (k := 0) rfl (o' := mapO (t'.map kvB))
      simp only [setN] at hS
      generalize H12.setIfInBounds H8.size (mapO (t'.map kvB)) = H13 at hS
      refine (Uses_is (hl.grow (hx5.trans hS.ext0)) k).call (fun v H14 hr => ?_) (fun ch H6 hr5 => by obtain ⟨_, _, hr5, _⟩ := hr5; cases hr5) (fun H6 hr5 => by obtain ⟨_, _, hr5, _⟩ := hr5; cases hr5)
      obtain ⟨va, vc, hv, hx14, hints⟩ := hr
      simp only [Ending.returned.injEq] at hv
      subst hv
      replace hS := hS.grow hx14
      have hb14 := hS.obj (k := 0) rfl
      have hu40 := usesF_len (l := l) k
      have huc := usesF_mem hw hk
      generalize usesF l k = u2 at hints hu40 huc
      refine ⟨_, _, _, rfl, ?_⟩
      refine ⟨fun x H' => ∃ (j : Nat) (r : List Int), x = j ∧ j ≤ u2.length ∧ St none0 H5 H' [(H8.size, mapO (r.map kvB)), (H5.size, mapO (s.map kvB))] ∧ Ext (· = H8.size) H14 H' ∧ ∀ m, m ∈ r ↔ m ∈ t' ∨ m ∈ u2.take j, fun x _ => (u2.length - x : Int).toNat, ⟨0, t', rfl, Nat.zero_le _, hS, Ext.refl _ _, by simp⟩, ?_⟩
      clear hS
      rintro x H15 ⟨j, r, rfl, hj, hS, hx15, hr⟩
      refine ifB_mk (fun hc => ?_) (fun hc => ?_)
      · have hj : j < u2.length := by simp at hc; omega
        obtain ⟨p, rfl, hcell⟩ := hints.get hj
        refine ⟨by omega, by omega, p, rfl, u2[j], by rw [Int.toNat_natCast, Nat.mul_one]; exact cell_keep hcell hb14 hx15, ?_⟩
        refine set_put (hS.obj (k := 0) rfl) fun r' hr' => ⟨⟨j + 1, r', by rw [i64_id (by omega) (by omega)]; omega, hj, hS.setO (k := 0) rfl, hx15.trans1 (hS.set (k := 0) rfl), fun m => ?_⟩, ?_⟩
        · rw [hr', hr, mem_take_succ hj, or_assoc]
        · show Int.toNat _ < Int.toNat _
          rw [i64_id (by omega) (by omega)]
          omega
      · have hj : j = u2.length := by simp at hc; omega
        subst hj
        rw [List.take_length] at hr
        refine ⟨⟨k + 1, r, by rw [i64_id (by omega) (by omega)]; omega, hk, hS, fun m => ?_⟩, ?_⟩
        · rw [hr, ht', ht, huc]
          constructor
          · rintro ((⟨q, h1, h2⟩ | rfl) | h)
            · exact ⟨q, by omega, h2⟩
            · exact ⟨k, by omega, hsp, .inl rfl⟩
            · exact ⟨k, by omega, hsp, .inr h⟩
          · rintro ⟨q, h1, h2, h3⟩
            rcases Nat.lt_or_ge q k with h4 | h4
            · exact .inl (.inl ⟨q, h4, h2, h3⟩)
            · have : q = k := by omega
              subst this
              rcases h3 with h3 | h3
              · exact .inl (.inr h3)
              · exact .inr h3
        · show Int.toNat _ < Int.toNat _
          rw [i64_id (by omega) (by omega)]
          omega
    · have hsp : ¬ (k : Int) ∈ (directF l).getD i [] := fun h2 => by
        have := spkB_iff.2 ((speaks_iff hw hi hk).2 h2)
        rw [this] at h; cases h
      refine ⟨⟨k + 1, t, by rw [i64_id (by omega) (by omega)]; omega, hk, hS, fun m => ?_⟩, ?_⟩
      · rw [ht]
        constructor
        · rintro ⟨q, h1, h2⟩
          exact ⟨q, by omega, h2⟩
        · rintro ⟨q, h1, h2, h3⟩
          rcases Nat.lt_or_ge q k with h4 | h4
          · exact ⟨q, h4, h2, h3⟩
          · have : q = k := by omega
            subst this
            exact absurd h2 hsp
      · show Int.toNat _ < Int.toNat _
        rw [i64_id (by omega) (by omega)]
        omega
  have hk : k = l.length := by simp at hc; omega
  subst hk
  clear hc hk
  have hst : ∀ m, m ∈ t ↔ m ∈ s := fun m => by rw [ht, hs, close_iff hd, hdl]
  refine ⟨fun x H' => H' = H11 ∧ ∃ k : Nat, x = k ∧ k ≤ l.length, fun x _ => (l.length - x : Int).toNat, ⟨rfl, 0, rfl, Nat.zero_le _⟩, ?_⟩
  rintro x H19 ⟨rfl, k, rfl, hk⟩
  refine ifB_mk (fun hc => ?_) (fun hc => ?_)
  · have hk : k < l.length := by simp at hc; omega
    refine ⟨_, set_look (hS.obj (k := 1) rfl) k, _, set_look (hS.obj (k := 0) rfl) k, ifB_mk (fun h => ?_) (fun _ => ?_)⟩
    · exfalso
      have := hst k
      by_cases h1 : (k : Int) ∈ s
      · rw [decide_eq_true h1, decide_eq_true (this.2 h1)] at h; cases h
      · rw [decide_eq_false h1, decide_eq_false (fun h2 => h1 (this.1 h2))] at h; cases h
    · refine ⟨⟨rfl, k + 1, by rw [i64_id (by omega) (by omega)]; omega, hk⟩, ?_⟩
      show Int.toNat _ < Int.toNat _
      rw [i64_id (by omega) (by omega)]
      omega
  · refine ⟨⟨i + 1, by rw [i64_id (by omega) (by omega)]; omega, hi, hx5.trans hS.ext0⟩, ?_⟩
    show Int.toNat _ < Int.toNat _
    rw [i64_id (by omega) (by omega)]
    omega
end Go.Vc
set_option linter.unusedVariables false
set_option linter.unusedSimpArgs false
set_option maxRecDepth 100000
namespace Go.Vc
open Go.Proofs

/-! slotlaw5: a rule more that nobody speaks of -/
theorem wrongL_front {r : Ru} : ∀ {l : List Ru} {i : Nat}, (wrongL (l ++ [r]) i).1 = 0 → (wrongL l i).1 = 0
  | [], i, h => rfl
  | x :: xs, i, h => by
    simp only [List.cons_append, wrongL] at h ⊢
    split
    · rename_i h1
      rw [if_pos h1] at h
      exact h
    · rename_i h1
      rw [if_neg h1] at h
      exact wrongL_front h
theorem wrongP_front {l : List Ru} {r : Ru} (h : (wrongP (l ++ [r])).1 = 0) : (wrongP l).1 = 0 := by
  unfold wrongP at h ⊢
  split at h
  · cases h
  · rename_i h1
    rw [if_neg (by simp at h1; omega)]
    exact wrongL_front h
theorem findF_skip {n : ByteArray} {r : Ru} (h : r.name ≠ n) : ∀ (l : List Ru) (i : Nat), findF n (l ++ [r]) i = findF n l i
  | [], i => by simp only [List.nil_append, findF]; rw [if_neg h]
  | x :: xs, i => by simp only [List.cons_append, findF, findF_skip h xs (i + 1)]
theorem findF_new {n : ByteArray} {r : Ru} (hr : r.name = n) : ∀ (l : List Ru) (i : Nat), (∀ x ∈ l, x.name ≠ n) → findF n (l ++ [r]) i = ((i + l.length : Nat) : Int)
  | [], i, h => by simp only [List.nil_append, findF]; rw [if_pos hr]; simp
  | x :: xs, i, h => by
    simp only [List.cons_append, findF]
    rw [if_neg (h x (by simp)), findF_new hr xs (i + 1) fun y hy => h y (by simp [hy])]
    simp only [List.length_cons]; omega
theorem firstG_congr {p q : Nat → Bool} : ∀ {m i : Nat}, (∀ j, i ≤ j → j < i + m → p j = q j) → firstG p m i = firstG q m i
  | 0, i, h => rfl
  | m + 1, i, h => by
    simp only [firstG]
    rw [h i (Nat.le_refl _) (by omega), firstG_congr (m := m) (i := i + 1) fun j h1 h2 => h j (by omega) (by omega)]
theorem firstG_snoc {q : Nat → Bool} : ∀ {m i : Nat}, q (i + m) = false → firstG q (m + 1) i = firstG q m i
  | 0, i, h => by simp only [firstG]; rw [if_neg (by simpa using h)]
  | m + 1, i, h => by
    rw [firstG]
    conv => rhs; rw [firstG]
    rw [firstG_snoc (m := m) (i := i + 1) (by rw [show i + 1 + m = i + (m + 1) by omega]; exact h)]
theorem getD_snoc (d : List (List Int)) (k : Nat) : (d ++ [[]]).getD k [] = d.getD k [] := by
  rw [List.getD_eq_getElem?_getD, List.getD_eq_getElem?_getD]
  rcases Nat.lt_or_ge k d.length with h | h
  · rw [List.getElem?_append_left h]
  · rw [List.getElem?_append_right h, List.getElem?_eq_none h]
    cases k - d.length with
    | zero => rfl
    | succ n => simp
theorem closeG_snoc (d : List (List Int)) : ∀ (m : Nat) (todo seen : List Int), closeG (d ++ [[]]) m todo seen = closeG d m todo seen
  | 0, todo, seen => rfl
  | m + 1, [], seen => rfl
  | m + 1, k :: todo, seen => by
    simp only [closeG, getD_snoc, closeG_snoc d m]
/-- More fuel than enough is enough. -/
theorem closeG_fuel {d : List (List Int)} (hd : DirOk d) : ∀ (m : Nat) (todo seen : List Int), seen.Nodup → (∀ k ∈ seen, 0 ≤ k ∧ k < d.length) → (∀ k ∈ todo, 0 ≤ k ∧ k < d.length) → (d.length - seen.length) * 601 + todo.length ≤ m → closeG d (m + 1) todo seen = closeG d m todo seen
  | 0, todo, seen, h1, h2, h3, h4 => by
    have h0 : todo = [] := List.length_eq_zero_iff.1 (by omega)
    subst h0
    rfl
  | m + 1, [], seen, h1, h2, h3, h4 => rfl
  | m + 1, k :: todo, seen, h1, h2, h3, h4 => by
    have hk := h3 k (by simp)
    rw [closeG]
    conv => rhs; rw [closeG]
    simp only [List.length_cons] at h4
    by_cases hks : k ∈ seen
    · rw [if_pos hks, if_pos hks]
      exact closeG_fuel hd m todo seen h1 h2 (fun x hx => h3 x (by simp [hx])) (by omega)
    · rw [if_neg hks, if_neg hks]
      have hn1 : (k :: seen).Nodup := by rw [List.nodup_cons]; exact ⟨hks, h1⟩
      have hslt := nodup_lt (n := d.length) hn1 (fun x hx => by rcases List.mem_cons.1 hx with rfl | hx; exact hk; exact h2 x hx)
      simp only [List.length_cons] at hslt
      have hdk := hd.at_ k.toNat
      refine closeG_fuel hd m _ _ ?_ (fun x hx => ?_) (fun x hx => ?_) ?_
      · rw [List.nodup_append]
        exact ⟨h1, by simp, fun x hx y hy hxy => by simp at hy; subst hy; subst hxy; exact hks hx⟩
      · rcases List.mem_append.1 hx with hx | hx
        · exact h2 x hx
        · simp at hx; subst hx; exact hk
      · rcases List.mem_append.1 hx with hx | hx
        · exact h3 x (by simp [hx])
        · exact hdk.2 x hx
      · simp only [List.length_append, List.length_singleton]; omega
theorem closeG_fuels {d : List (List Int)} (hd : DirOk d) {m : Nat} {todo : List Int} (h3 : ∀ k ∈ todo, 0 ≤ k ∧ k < d.length) (h4 : d.length * 601 + todo.length ≤ m) : ∀ j, closeG d (m + j) todo [] = closeG d m todo []
  | 0 => rfl
  | j + 1 => by
    rw [← closeG_fuels hd h3 h4 j, ← Nat.add_assoc]
    exact closeG_fuel hd (m + j) todo [] (by simp) (by simp) h3 (by simp; omega)
theorem closeF_snoc {d : List (List Int)} (hd : DirOk d) (i : Nat) : closeF (d ++ [[]]) i = closeF d i := by
  unfold closeF
  rw [closeG_snoc, getD_snoc]
  have := closeG_fuels hd (m := d.length * 601 + (d.getD i []).length) (todo := d.getD i []) (hd.at_ i).2 (by omega) 601
  rw [← this]
  congr 1
  simp only [List.length_append, List.length_singleton]
  omega
section
variable {l : List Ru} {name : ByteArray} (hp : (wrongP (l ++ [⟨name, .mk 1 0 0 noT []⟩])).1 = 0) (hno : ∀ r ∈ l, r.name ≠ name ∧ name ∉ nmEx r.e)
include hno
theorem directF_more : directF (l ++ [⟨name, .mk 1 0 0 noT []⟩]) = directF l ++ [[]] := by
  simp only [directF, List.map_append, List.map_cons, List.map_nil]
  congr 1
  refine List.map_congr_left fun r hr => List.map_congr_left fun n hn => ?_
  exact findF_skip (fun h => (hno r hr).2 (by rw [← show name = n from h] at hn; exact hn)) l 0
include hp
theorem more_wrong : wrongC (l ++ [⟨name, .mk 1 0 0 noT []⟩]) = wrongC l := by
  have hpl := wrongP_front hp
  obtain ⟨hlen, hok⟩ := wrongP_ok hpl
  have hd1 := directF_more hno
  have hdl := direct_len l
  have hl1 : (l ++ [(⟨name, .mk 1 0 0 noT []⟩ : Ru)]).length = l.length + 1 := by simp
  have e1 : firstG (dupB (l ++ [⟨name, .mk 1 0 0 noT []⟩])) (l.length + 1) 0 = firstG (dupB l) l.length 0 := by
    rw [firstG_snoc]
    · refine firstG_congr fun j _ hj => ?_
      rw [Nat.zero_add] at hj
      simp only [dupB, List.getElem?_append_left hj, ruAt_some hj]
      rw [findF_skip (fun h => (hno _ (List.mem_of_getElem? (ruAt_some hj))).1 h.symm)]
    · simp only [dupB]
      rw [List.getElem?_append_right (by omega), show 0 + l.length - l.length = 0 by omega]
      simp only [List.getElem?_cons_zero]
      have hf := findF_new (r := ⟨name, .mk 1 0 0 noT []⟩) rfl l 0 fun x hx => (hno x hx).1
      exact decide_eq_false fun h => by rw [hf] at h; omega
  have e2 : firstG (noneB (l ++ [⟨name, .mk 1 0 0 noT []⟩])) (l.length + 1) 0 = firstG (noneB l) l.length 0 := by
    rw [firstG_snoc]
    · refine firstG_congr fun j _ hj => ?_
      simp only [noneB, hd1, getD_snoc]
    · simp only [noneB, hd1, getD_snoc]
      rw [List.getD_eq_getElem?_getD, List.getElem?_eq_none (by omega)]
      simp
  unfold wrongC
  rw [if_neg (by simp [hp]), if_neg (by simp [hpl]), hl1, e1]
  cases firstG (dupB l) l.length 0 with
  | some i => rfl
  | none =>
    simp only
    rw [e2]
    cases hn : firstG (noneB l) l.length 0 with
    | some i => rfl
    | none =>
      simp only
      have hd := direct_ok hlen (fun r hr => (hok r hr).2.2) hn
      have e3 : firstG (cycB (l ++ [⟨name, .mk 1 0 0 noT []⟩])) (l.length + 1) 0 = firstG (cycB l) l.length 0 := by
        rw [firstG_snoc]
        · refine firstG_congr fun j _ hj => ?_
          simp only [cycB, hd1, closeF_snoc hd]
        · simp only [cycB, hd1, closeF_snoc hd]
          unfold closeF
          rw [List.getD_eq_getElem?_getD, List.getElem?_eq_none (by omega)]
          simp only [Option.getD_none, closeG_nil]
          simp
      rw [e3]
theorem more_uses (i : Nat) (hi : i < l.length) : usesF (l ++ [⟨name, .mk 1 0 0 noT []⟩]) i = usesF l i := by
  have hl1 : (l ++ [(⟨name, .mk 1 0 0 noT []⟩ : Ru)]).length = l.length + 1 := by simp
  unfold usesF
  rw [more_wrong hp hno, hl1]
  by_cases hw : (wrongC l).1 = 0
  · rw [if_neg (by simp [hw]; omega), if_neg (by simp [hw]; omega), directF_more hno, closeF_snoc (wrongC_dir hw).1]
  · rw [if_pos (.inr hw), if_pos (.inr hw)]
theorem more_last : usesF (l ++ [⟨name, .mk 1 0 0 noT []⟩]) l.length = [] := by
  unfold usesF
  rw [more_wrong hp hno]
  by_cases hw : (wrongC l).1 = 0
  · split
    · rfl
    · rw [directF_more hno, closeF_snoc (wrongC_dir hw).1, Int.toNat_natCast]
      unfold closeF
      rw [List.getD_eq_getElem?_getD, List.getElem?_eq_none (by rw [direct_len]; omega)]
      simp only [Option.getD_none, closeG_nil]
      exact List.length_eq_zero_iff.1 (by rw [sortI_len]; rfl)
  · rw [if_pos (.inr hw)]
end
end Go.Vc
set_option linter.unusedVariables false
set_option linter.unusedSimpArgs false
set_option maxRecDepth 100000
namespace Go.Vc
open Go.Proofs

/-! slotlaw5.CheckMore -/
theorem wrongC_small {l : List Ru} (h : (wrongP l).1 = 0) : 0 ≤ (wrongC l).1 ∧ (wrongC l).1 ≤ 9 ∧ 0 ≤ (wrongC l).2 ∧ (wrongC l).2 ≤ 40 := by
  obtain ⟨hlen, _⟩ := wrongP_ok h
  have hf : ∀ {p : Nat → Bool} {m i j : Nat}, firstG p m i = some j → j < i + m := by
    intro p m
    induction m with
    | zero => intro i j h; cases h
    | succ m ih =>
      intro i j h
      simp only [firstG] at h
      split at h
      · simp only [Option.some.injEq] at h; omega
      · have := ih h; omega
  unfold wrongC
  rw [if_neg (by simp [h])]
  cases h1 : firstG (dupB l) l.length 0 with
  | some i => have := hf h1; simp; omega
  | none =>
    simp only
    cases h2 : firstG (noneB l) l.length 0 with
    | some i => have := hf h2; simp; omega
    | none =>
      simp only
      cases h3 : firstG (cycB l) l.length 0 with
      | some i => have := hf h3; simp; omega
      | none => simp
theorem neqV_fault {a b : Int} (ha : 0 ≤ a ∧ a ≤ 9) (hb : 0 ≤ b ∧ b ≤ 40) : EqV Try.prog .neq 39 (faultV (a, b)) (faultV (a, b)) false := by
  have hwa : (Lit.int .i64 a).wf = true := by simp [Lit.wf, IntKind.min, IntKind.max, IntKind.signed, IntKind.bits]; omega
  have hwb : (Lit.int .i64 b).wf = true := by simp [Lit.wf, IntKind.min, IntKind.max, IntKind.signed, IntKind.bits]; omega
  have hl : Try.prog.keyLits 2 39 [.int .i64 a, .int .i64 b] = some [Lit.int .i64 a, Lit.int .i64 b] := by
    have h1 : Try.prog.keyLits 1 3 [.int .i64 b] = some [Lit.int .i64 b] := by
      simp [Program.keyLits, Try.underlying3, hwb]
    have h2 : Try.prog.keyLits 1 37 [.int .i64 a] = some [Lit.int .i64 a] := by
      simp [Program.keyLits, Try.underlying37, hwa]
    have c1 : Try.prog.cellsOf 37 = 1 := by kernel_rfl
    have c2 : Try.prog.cellsOf 3 = 1 := by kernel_rfl
    have c3 : Try.prog.cellsOf 39 = 2 := by kernel_rfl
    rw [show (2 : Nat) = 1 + 1 from rfl]
    unfold Program.keyLits
    simp only [Try.underlying39, c3, List.length_cons, List.length_nil, Nat.zero_add, Nat.reduceAdd, if_true]
    simp [c1, c2, h1, h2]
  refine neqV_agg (m := 2) (by kernel_rfl) (by omega) (by kernel_rfl) ?_ ?_ hl hl (by simp)
  · have c3 : Try.prog.cellsOf 39 = 2 := by kernel_rfl
    simp [Value.formed, Try.underlying39, c3]
  · have c3 : Try.prog.cellsOf 39 = 2 := by kernel_rfl
    simp [Value.formed, Try.underlying39, c3]
set_option maxHeartbeats 1000000 in
theorem CheckMore_is {l : List Ru} {ad : Option Addr} {H : Heap} (hl : RulesAt H ad l) (hn : l.length * 80 ≤ 140737488351232) (cap : Nat) (name : ByteArray) : CallsH Try.prog 6 ⟨[.slice ad l.length cap, .string name]⟩ H fun r H' => r = .returned (.bool true) ∧ Ext0 H H' := by
  apply slotlaw5_CheckMore_calls
  unfold slotlaw5_CheckMore
  refine (alive5_is H).call (fun v H1 hr => ?_) (fun ch H6 hr5 => by obtain ⟨hr5, _⟩ := hr5; cases hr5) (fun H6 hr5 => by obtain ⟨hr5, _⟩ := hr5; cases hr5)
  obtain ⟨hv, hx1⟩ := hr
  simp only [Ending.returned.injEq] at hv
  subst hv
  refine ⟨_, rfl, ifB_mk (fun h => by simp at h) (fun _ => ?_)⟩
  have hS : St none0 H H1 [] := (St.start none0 H).grow hx1
  intro H2
  replace hS : St none0 H H2 [] := hS.grow (ext0_push H1 _)
  clear_value H2
  obtain ⟨cs, hcl, hcr0, hc6, hsrc0⟩ := rules_src hl
  have hsrc := hsrc0.grow hS.ext0
  have hx2 := hS.ext0
  refine append_two (b := H1.size) (k := l.length) (kc := cap) (by kernel_rfl : appB Try.prog 22 43 6 80 = true) hsrc (by omega) (by omega) (by omega) ?_
  intro a5 c5 H3 hx3 happ
  refine ⟨_, _, _, rfl, ?_⟩
  replace hS := hS.grow hx3
  have hT := St.start none0 H3
  intro H4
  replace hT : St _ _ H4 _ := St.push hT _
  replace hS : St none0 H H4 [] := hS.grow (ext0_push H3 _)
  clear_value H4
  refine happ H4 (some (newA H3)) _ _ hT.ext0 (.inr ⟨_, rfl, St.atAll (k := 0) hT rfl rfl rfl, rfl, by simp [plainL, Value.oneCell']⟩) ?_
  intro a' c' H5 hx5 hat
  replace hS := hS.part hx5 (fun b hb => by have := hx2.size; omega) (fun x hx => by cases hx)
  have hle : ExAt H5 (.mk 1 0 0 noT []) [.int .i64 1, .int .i64 0, .int .i64 0, .string noT, .slice none 0 0] := by
    simp only [ExAt, KidsAt]; exact ⟨none, 0, rfl, trivial⟩
  have hru : RulesAt H5 (some a') (l ++ [⟨name, .mk 1 0 0 noT []⟩]) := rules_more (H := H) hcl (fun i r c h1 h2 => hcr0 i r c h1 h2) hc6 hS.ext0 hle hat
  have hl1 : l.length + 1 = (l ++ [(⟨name, .mk 1 0 0 noT []⟩ : Ru)]).length := by simp
  have hx05 := hS.ext0
  clear hS hT happ hat hsrc hcr0 hcl hc6 hsrc0 hx3 hx5
  refine ⟨_, _, _, rfl, ?_⟩
  rw [hl1]
  refine ⟨fun b H' => Ext0 H5 H' ∧ (b = false → l.length < 40 ∧ (wrongP (l ++ [⟨name, .mk 1 0 0 noT []⟩])).1 = 0), ifB_mk (fun h => ⟨Ext0.refl _, fun h => by cases h⟩) (fun h => ?_), ?_⟩
  · have h40 : l.length < 40 := by simp at h; omega
    refine (pWrong_is hru).call fun H7 hx7 => ⟨_, _, rfl, hx7, fun h => ⟨h40, by simpa using h⟩⟩
  rintro q H6 ⟨hx6, hq⟩
  refine ifB_mk (fun _ => ⟨rfl, hx05.trans hx6⟩) (fun h => ?_)
  obtain ⟨h40, hp⟩ := hq h
  clear h hq
  have hpl := wrongP_front hp
  obtain ⟨_, hok⟩ := wrongP_ok hpl
  refine ⟨fun x H' => ∃ k : Nat, x = k ∧ k ≤ l.length ∧ Ext0 H5 H' ∧ ∀ r ∈ l.take k, r.name ≠ name ∧ name ∉ nmEx r.e, fun x _ => (l.length - x : Int).toNat, ⟨0, rfl, Nat.zero_le _, hx6, by simp⟩, ?_⟩
  rintro x H9 ⟨k, rfl, hk, hx9, hno⟩
  have hx09 := hx05.trans hx9
  refine ifB_mk (fun hc => ?_) (fun hc => ?_)
  · have hk : k < l.length := by simp at hc; omega
    clear hc
    have hlk := ruAt_some hk
    obtain ⟨p, c, rfl, hat, hex⟩ := (hl.grow hx09) k _ hlk
    obtain ⟨ek, ea, eb, en, ead, elen, ecap, rfl⟩ := ruC_of hex
    have hoki : okEx (ruAt l k).e := (hok _ (List.mem_of_getElem? hlk)).2.1
    refine ⟨by omega, by omega, p, rfl, _, _, _, _, _, _, _, _, by rw [Int.toNat_natCast]; exact hat, ?_⟩
    have hS := St.start none0 H9
    intro H10
    replace hS : St _ _ H10 _ := St.push hS _
    clear_value H10
    refine ⟨St.may (k := 0) hS rfl rfl (by simp [newA, bA, add_off]), ?_⟩
    intro H11
    replace hS : St _ _ H11 _ := St.put (k := 0) hS rfl rfl _
    clear_value H11
    simp only [setN, splice, newA, bA, add_off, add_block, Nat.add_zero, Nat.zero_add, Nat.reduceAdd] at hS
    refine ⟨(ruAt l k).name, St.cell (k := 0) hS rfl rfl rfl, ?_⟩
    refine ⟨fun b H' => Ext0 H9 H' ∧ (b = false → (ruAt l k).name ≠ name ∧ name ∉ nmEx (ruAt l k).e), ifB_mk (fun h => ⟨hS.ext0, fun h => by cases h⟩) (fun h => ?_), ?_⟩
    · rw [bytes_eq] at h
      have hne := of_decide_eq_false h
      refine ⟨_, _, _, _, _, _, _, St.atp (k := 0) (post := []) hS rfl rfl rfl, ?_⟩
      refine (Speaks_is hoki (hex.grow hS.ext0) name).call fun H13 hx13 => ⟨_, rfl, hS.ext0.trans hx13, fun h => ⟨hne, fun hm => ?_⟩⟩
      rw [spkB_iff.2 hm] at h
      cases h
    rintro q H12 ⟨hx12, hq⟩
    refine ifB_mk (fun _ => ⟨rfl, hx09.trans hx12⟩) (fun h => ⟨⟨k + 1, by rw [i64_id (by omega) (by omega)]; omega, hk, hx9.trans hx12, fun r hr => ?_⟩, ?_⟩)
    · rw [List.take_add_one, hlk] at hr
      rcases List.mem_append.1 hr with hr | hr
      · exact hno r hr
      · simp at hr; rw [hr]; exact hq h
    · show Int.toNat _ < Int.toNat _
      rw [i64_id (by omega) (by omega)]
      omega
  have hk : k = l.length := by simp at hc; omega
  subst hk
  rw [List.take_length] at hno
  clear hc hk
  have hru9 := hru.grow hx9
  have hweq := more_wrong hp hno
  refine (Wrong_is (hl.grow hx09)).call fun H15 hx15 => ⟨_, _, rfl, ?_⟩
  refine (Wrong_is (hru9.grow hx15)).call fun H16 hx16 => ⟨_, _, rfl, ?_⟩
  rw [hweq]
  obtain ⟨w1, w2, w3, w4⟩ := wrongC_small hpl
  refine ⟨false, neqV_fault ⟨w1, w2⟩ ⟨w3, w4⟩, ifB_mk (fun h => by cases h) (fun _ => ?_)⟩
  have hx916 := hx15.trans hx16
  refine ⟨fun x H' => ∃ k : Nat, x = k ∧ k ≤ l.length ∧ Ext0 H9 H', fun x _ => (l.length - x : Int).toNat, ⟨0, rfl, Nat.zero_le _, hx916⟩, ?_⟩
  rintro x H17 ⟨k, rfl, hk, hx17⟩
  refine ifB_mk (fun hc => ?_) (fun hc => ?_)
  · have hk : k < l.length := by simp at hc; omega
    refine (Uses_is (hl.grow (hx09.trans hx17)) k).call (fun v H18 hr => ?_) (fun ch H6 hr5 => by obtain ⟨_, _, hr5, _⟩ := hr5; cases hr5) (fun H6 hr5 => by obtain ⟨_, _, hr5, _⟩ := hr5; cases hr5)
    obtain ⟨ua, uc, hv, hx18, hints⟩ := hr
    simp only [Ending.returned.injEq] at hv
    subst hv
    refine ⟨_, _, _, rfl, ?_⟩
    refine (Uses_is (hru9.grow (hx17.trans hx18)) k).call (fun v H19 hr => ?_) (fun ch H6 hr5 => by obtain ⟨_, _, hr5, _⟩ := hr5; cases hr5) (fun H6 hr5 => by obtain ⟨_, _, hr5, _⟩ := hr5; cases hr5)
    obtain ⟨va, vc, hv, hx19, hints2⟩ := hr
    simp only [Ending.returned.injEq] at hv
    subst hv
    refine ⟨_, _, _, rfl, ?_⟩
    have hu := more_uses hp hno k hk
    have h1 := usesF_len (l := l) k
    have h2 := usesF_len (l := l ++ [⟨name, .mk 1 0 0 noT []⟩]) k
    refine (Ints_is (hints.grow hx19) hints2 (by omega) (by omega) uc vc).call ⟨_, rfl, ifB_mk (fun h => ?_) (fun _ => ?_)⟩
    · rw [decide_eq_true hu.symm] at h; cases h
    · refine ⟨⟨k + 1, by rw [i64_id (by omega) (by omega)]; omega, hk, hx17.trans (hx18.trans hx19)⟩, ?_⟩
      show Int.toNat _ < Int.toNat _
      rw [i64_id (by omega) (by omega)]
      omega
  · refine (Uses_is (hru9.grow hx17) (l.length : Int)).call (fun v H18 hr => ?_) (fun ch H6 hr5 => by obtain ⟨_, _, hr5, _⟩ := hr5; cases hr5) (fun H6 hr5 => by obtain ⟨_, _, hr5, _⟩ := hr5; cases hr5)
    obtain ⟨ua, uc, hv, hx18, hints⟩ := hr
    simp only [Ending.returned.injEq] at hv
    subst hv
    refine ⟨_, _, _, rfl, ?_, hx09.trans (hx17.trans hx18)⟩
    rw [more_last hp hno]
    rfl
end Go.Vc
set_option linter.unusedVariables false
set_option linter.unusedSimpArgs false
set_option maxRecDepth 100000
namespace Go.Vc
open Go.Proofs Go.ChangeShapes Go.WideShapes Go.ChangeAt Go.RowKit

/-! from the reading of the arguments to rules and expressions, and back -/
section
variable {H : Type} {enc : TypeId × Value → H} {w : World} {base : Nat} {spare : Nat → Bool} {held : Bool}
theorem cells_at {a : Addr} {n : Nat} {cs : List Value} (h : w.cells? base a n = some cs) : At w.heap a cs ∧ cs.length = n := by
  obtain ⟨_, hl, hc⟩ := World.cells?_some h
  refine ⟨At.mk fun j v hj => ?_, hl⟩
  have := hc j (by have := (List.getElem?_eq_some_iff.1 hj).1; omega)
  rw [hj] at this
  exact this
theorem kids_of {hp : Heap} {a : Addr} : ∀ (n i0 : Nat), (∀ i, i < n → ∃ c e, At hp (a.add ((i0 + i) * 5)) c ∧ ExAt hp e c) → ∃ kids : List Ex, kids.length = n ∧ KidsAt hp (some a) i0 kids
  | 0, i0, _ => ⟨[], rfl, by simp only [KidsAt]⟩
  | n + 1, i0, h => by
    obtain ⟨kids, h1, h2⟩ := kids_of n (i0 + 1) fun i hi => by
      have := h (i + 1) (by omega)
      rwa [show i0 + (i + 1) = i0 + 1 + i by omega] at this
    obtain ⟨c, e, h3, h4⟩ := h 0 (by omega)
    exact ⟨e :: kids, by simp [h1], by simp only [KidsAt]; exact ⟨⟨a, c, rfl, h3, h4⟩, h2⟩⟩
theorem ty_exprs : Try.prog.underlying 23 = some (.slice 25) := by kernel_rfl
theorem ty_rules : Try.prog.underlying 22 = some (.slice 43) := by kernel_rfl
theorem ty_int : Try.prog.underlying 3 = some (.int .i64) := by kernel_rfl
theorem ty_bool : Try.prog.underlying 4 = some .bool := by kernel_rfl
theorem ty_string : Try.prog.underlying 9 = some .string := by kernel_rfl
theorem cells_expr : Try.prog.cellsOf 25 = 5 := by kernel_rfl
theorem cells_rule : Try.prog.cellsOf 43 = 6 := by kernel_rfl
theorem cells_int : Try.prog.cellsOf 3 = 1 := by kernel_rfl
theorem cells_string : Try.prog.cellsOf 9 = 1 := by kernel_rfl
theorem cells_exprs : Try.prog.cellsOf 23 = 1 := by kernel_rfl
theorem open_ex : ∀ (fuel : Nat) (cs : List Value) (x : DataW H × List MemPlace), DataW.trod enc Try.prog w base spare held fuel 25 cs = some x → ∃ e, ExAt w.heap e cs := by
  intro fuel
  induction fuel using Nat.strongRecOn with
  | ind fuel ih =>
    intro cs x h
    obtain ⟨xs, n, rfl, rfl, hl, hxl, hf⟩ := DataW.trod_struct Try.underlying25 h
    rw [cells_expr] at hl
    clear h
    match cs, hl, xs, hxl with
    | [c0, c1, c2, c3, c4], _, [y0, y1, y2, y3, y4], _ =>
      have f0 := hf 0 _ rfl
      have f1 := hf 1 _ rfl
      have f2 := hf 2 _ rfl
      have f3 := hf 3 _ rfl
      have f4 := hf 4 _ rfl
      simp only [cells_int, cells_string, cells_exprs, List.drop_zero, List.drop_succ_cons, List.take_succ_cons, List.take_zero, List.getElem?_cons_zero, List.getElem?_cons_succ] at f0 f1 f2 f3 f4
      obtain ⟨n0, e0, _, _⟩ := DataW.trod_int ty_int f0
      obtain ⟨n1, e1, _, _⟩ := DataW.trod_int ty_int f1
      obtain ⟨n2, e2, _, _⟩ := DataW.trod_int ty_int f2
      obtain ⟨s3, e3, _, _⟩ := DataW.trod_string ty_string f3
      cases e0; cases e1; cases e2; cases e3
      rcases DataW.trod_slice ty_exprs f4 with ⟨e4, _⟩ | ⟨a, len, cap, elems, rest, m, rfl, e4, _, _, _, _, hel, hall, _, _⟩
      · cases e4
        refine ⟨.mk n0 n1 n2 s3 [], ?_⟩
        simp only [ExAt, KidsAt]
        exact ⟨none, 0, rfl, trivial⟩
      · cases e4
        obtain ⟨kids, h1, h2⟩ := kids_of (hp := w.heap) (a := a) len 0 fun i hi => by
          have hi2 := hall i hi
          have hlt : i < elems.length := by omega
          rw [List.getElem?_eq_getElem hlt] at hi2
          obtain ⟨cs', h3, h4⟩ := Option.bind_eq_some_iff.1 hi2
          rw [cells_expr] at h3
          obtain ⟨e, he⟩ := ih m (by omega) cs' _ h4
          exact ⟨cs', e, by rw [Nat.zero_add]; exact (cells_at h3).1, he⟩
        refine ⟨.mk n0 n1 n2 s3 kids, ?_⟩
        simp only [ExAt]
        exact ⟨some a, cap, by rw [h1], h2⟩
theorem rules_of {hp : Heap} {a : Addr} : ∀ (n : Nat), (∀ i, i < n → ∃ s c e, At hp (a.add (i * 6)) (.string s :: c) ∧ ExAt hp e c) → ∃ l : List Ru, l.length = n ∧ RulesAt hp (some a) l
  | 0, _ => ⟨[], rfl, RulesAt.nil⟩
  | n + 1, h => by
    obtain ⟨l, h1, h2⟩ := rules_of n fun i hi => h i (by omega)
    obtain ⟨s, c, e, h3, h4⟩ := h n (by omega)
    refine ⟨l ++ [⟨s, e⟩], by simp [h1], fun i r hr => ?_⟩
    rcases Nat.lt_or_ge i l.length with hi | hi
    · rw [List.getElem?_append_left hi] at hr
      exact h2 i r hr
    · rw [List.getElem?_append_right hi] at hr
      have : i = l.length := by
        have := (List.getElem?_eq_some_iff.1 hr).1
        simp at this
        omega
      subst this
      simp at hr
      subst hr
      exact ⟨a, c, rfl, by rw [h1]; exact h3, h4⟩
theorem bytes_rule : Try.prog.bytesOf 43 = 80 := by kernel_rfl
theorem open_rules {fuel : Nat} {cs : List Value} {x : DataW H × List MemPlace} (h : DataW.trod enc Try.prog w base spare held fuel 22 cs = some x) :
    ∃ (a : Option Addr) (cap : Nat) (l : List Ru), cs = [.slice a l.length cap] ∧ RulesAt w.heap a l ∧ ((DataW.weights Try.prog 22 x.1).all (· ≤ reachBytes) = true → l.length * 80 ≤ 140737488351232) := by
  rcases DataW.trod_slice ty_rules h with ⟨rfl, _⟩ | ⟨a, len, cap, elems, rest, m, rfl, rfl, rfl, _, _, _, hel, hall, _, _⟩
  · exact ⟨none, 0, [], rfl, RulesAt.nil, fun _ => by simp⟩
  · obtain ⟨l, h1, h2⟩ := rules_of (hp := w.heap) (a := a) len fun i hi => by
      have hi2 := hall i hi
      have hlt : i < elems.length := by omega
      rw [List.getElem?_eq_getElem hlt] at hi2
      obtain ⟨cs', h3, h4⟩ := Option.bind_eq_some_iff.1 hi2
      rw [cells_rule] at h3
      obtain ⟨hat, hl6⟩ := cells_at h3
      obtain ⟨xs, n, hn, _, _, hxl, hf⟩ := DataW.trod_struct Try.underlying43 h4
      clear h4 hi2 h3
      replace hxl : xs.length = 2 := hxl
      match cs', hl6, xs, hxl with
      | [c0, c1, c2, c3, c4, c5], _, [y0, y1], _ =>
        have f0 := hf 0 _ rfl
        have f1 := hf 1 _ rfl
        simp only [cells_string, cells_expr, List.drop_zero, List.drop_succ_cons, List.take_succ_cons, List.take_zero, List.getElem?_cons_zero, List.getElem?_cons_succ] at f0 f1
        obtain ⟨s3, e3, _, _⟩ := DataW.trod_string ty_string f0
        cases e3
        obtain ⟨e, he⟩ := open_ex _ _ _ f1
        exact ⟨s3, _, e, hat, he⟩
    refine ⟨some a, cap, l, by rw [h1], h2, fun hw => ?_⟩
    simp only [DataW.weights, ty_rules, List.all_cons, Bool.and_eq_true, decide_eq_true_eq, bytes_rule, List.length_map] at hw
    have := hw.1
    unfold reachBytes at this
    rw [h1, ← hel]
    omega
/-- What was there reads as it did. -/
theorem trodAll_grown {ts : List TypeId} {vs : List Value} {ds : List (DataW H)} {ps : List MemPlace} {H' : Heap} {d' : Nat} (hts : ∀ t ∈ ts, t < Try.prog.types.size) (h : DataW.TrodAll enc Try.prog w 0 (fun _ => true) true ts vs ds ps) (hx : Ext0 w.heap H') {sp : Nat → Bool} (hsp : ∀ p ∈ ps, sp p.block = true) :
    DataW.TrodAll enc Try.prog (wk w H' d') 0 sp true ts vs ds ps := by
  refine DataW.TrodAll.respare (T := (· < Try.prog.types.size)) (kids_rows (by kernel_rfl) (by kernel_rfl)) (slices_full_of Try.prog (by kernel_rfl)) hts ?_ hsp
  have hlt := h.lt
  clear hsp
  induction ts generalizing vs ds ps with
  | nil =>
    obtain ⟨rfl, rfl, rfl⟩ := trodAll_nil h
    exact h
  | cons t ts ih =>
    obtain ⟨v, vs1, d, ds1, p, q, rfl, rfl, rfl, ⟨fuel, h1⟩, h2⟩ := trodAll_cons h
    refine ⟨p, q, ⟨fuel, DataW.trod_carry _ _ _ _ h1 fun x hx2 => ?_⟩, ih (fun t ht => hts t (by simp [ht])) h2 (fun x hx2 => hlt x (by simp [hx2])), rfl⟩
    have hb := hlt x (by simp [hx2])
    have he := hx.block x.block hb fun h => h
    cases x with
    | cell b off =>
      show cellH H' ⟨b, off, none⟩ = cellH w.heap ⟨b, off, none⟩
      unfold cellH
      rw [show H'[(⟨b, off, none⟩ : Addr).block]? = w.heap[b]? from he]
    | map b => exact he
end
/-- The answer true, and all as it was. -/
theorem post_true {H : Type} {enc : TypeId × Value → H} {f : Func} {s : ChangeSpec} {W : World} {args : Array Value} {ds gs : List (DataW H)} {before : List MemPlace} {H' : Heap} {d' : Nat} (hr : f.resultTypes = #[4]) (hvars : s.vars = []) (hp : ∀ t ∈ f.params.toList, t < Try.prog.types.size)
    (hW : DataW.Whole enc Try.prog f.params.toList s.vars false W args.toList ds gs before) (hres : (s.fn H ds).results = [.lit (.bool true)]) (hargs : (s.fn H ds).args = ds) (hv : (s.fn H ds).vars = []) (hx : Ext0 W.heap H') :
    s.post enc Try.prog f false true false false W args (.bool true) (wk W H' d') := by
  have hW' := hW
  obtain ⟨p, q, hA, hV, rfl, hz, hn⟩ := hW
  rw [hvars] at hV
  obtain ⟨rfl, rfl⟩ := trodVars_none hV
  have hlt := hA.lt
  rw [List.append_nil] at hz
  have hRes : ∀ (b : Nat) (sp : Nat → Bool) (hd : Bool), DataW.TrodAll enc Try.prog (wk W H' d') b sp hd f.resultTypes.toList ((Value.bool true).resultList f.resultTypes.size) (s.fn H (ds ++ [])).results [] := fun b sp hd => by
    rw [List.append_nil, hres, hr]
    exact trodAll_cons_mk (shut_bool ty_bool _) trodAll_mk0
  have hArg : ∀ sp : Nat → Bool, (∀ x ∈ p, sp x.block = true) → DataW.TrodAll enc Try.prog (wk W H' d') 0 sp true f.params.toList args.toList (s.fn H (ds ++ [])).args p := fun sp hsp => by
    rw [List.append_nil, hargs]
    exact trodAll_grown hp hA hx hsp
  have hVar : ∀ sp : Nat → Bool, DataW.TrodVars enc Try.prog (wk W H' d') sp s.vars (s.fn H (ds ++ [])).vars [] := fun sp => by
    rw [List.append_nil, hv, hvars]; rfl
  refine ⟨ds, [], p ++ [], [], p, [], hW', hRes _ _ _, hArg _ (fun x hx2 => by have := hlt x hx2; simpa using this), hVar _, ⟨rfl, rfl, fun i hi => ?_⟩, fun h => by cases h⟩
  have he : (wk W H' d').heap[i]? = W.heap[i]? := hx.block i hi fun h => h
  rw [he]
  cases hh : W.heap[i]? with
  | none => rfl
  | some o =>
    cases o with
    | cells c t fr => exact ⟨rfl, rfl, rfl, fun _ _ => rfl⟩
    | map es clock => exact .inr ⟨rfl, rfl⟩
    | _ => rfl
end Go.Vc
/- CheckMore: a rule more that nobody speaks of, of a new name, and that speaks of none, leaves rules as they were: proved for every input, with no condition. -/
set_option linter.unusedVariables false
set_option linter.unusedSimpArgs false
set_option maxRecDepth 100000
namespace Go.Proofs.Ytdhbekcmjnifnaa.CMore
open Go.ChangeShapes Go.WideShapes Go.ChangeAt Go.RowKit Go.Vc
theorem own : ownKnob Try.prog.godebug = none := by kernel_rfl
theorem contract (H : Type) (enc : TypeId × Value → H) (W : World) (base : Nat) (args : Array Value) (ds gs : List (DataW H)) (before : List MemPlace)
    (hval : ∀ (j : Nat) t v, Try.f6.params[j]? = some t → args[j]? = some v → Value.okWide Try.prog W .any base t v)
    (hW : DataW.Whole enc Try.prog Try.f6.params.toList Rows.checkMoreSpec.vars false W args.toList ds gs before)
    (hwt : (DataW.weightsEach Try.prog (Try.f6.params.toList ++ Rows.checkMoreSpec.plain.varTypes Try.prog) (ds ++ gs)).all (· ≤ reachBytes) = true) :
    Calls Try.prog 6 args W fun e W' => ∃ v, e = .returned v ∧ Rows.checkMoreSpec.post enc Try.prog Try.f6 false true false false W args v W' := by
  have hW' := hW
  obtain ⟨p, q, hA0, hV, rfl, _, _⟩ := hW
  have hA : DataW.TrodAll enc Try.prog W 0 (fun _ => true) true Try.f6.params.toList args.toList ds p := hA0
  have hwt2 : (DataW.weightsEach Try.prog (Try.f6.params.toList ++ []) (ds ++ gs)).all (· ≤ reachBytes) = true := hwt
  rw [Try.params6] at hA hval hwt2
  obtain ⟨v0, vs0, d0, ds0, p0, q0, hargs, rfl, rfl, ⟨f0, h0⟩, r0⟩ := trodAll_cons hA
  obtain ⟨v1, vs1, d1, ds1, p1, q1, rfl, rfl, rfl, h1, r1⟩ := trodAll_cons r0
  obtain ⟨rfl, rfl, rfl⟩ := trodAll_nil r1
  obtain rfl : args = #[v0, v1] := by cases args; simp_all
  obtain ⟨rfl, rfl⟩ := trodVars_none hV
  obtain ⟨a, len, cap, rfl⟩ := okWide_slice ty_rules (hval 0 _ v0 rfl rfl)
  obtain ⟨name, rfl, rfl, rfl, _⟩ := Go.ChangeMaps.open_string ty_string (hval 1 _ v1 rfl rfl) h1
  obtain ⟨a', cap', l, hcs, hl, hlw⟩ := open_rules h0
  have hcs2 : Value.slice a len cap = Value.slice a' l.length cap' := by simpa [Value.cells] using hcs
  simp only [Value.slice.injEq] at hcs2
  obtain ⟨rfl, rfl, rfl⟩ := hcs2
  have hln : l.length * 80 ≤ 140737488351232 := hlw (by
    simp only [List.append_nil, List.cons_append, List.nil_append, DataW.weightsEach, List.all_append, Bool.and_eq_true] at hwt2
    exact hwt2.1)
  clear hA hA0 hval hwt hwt2 hlw
  have hcall := CheckMore_is (H := W.heap) hl hln cap name W W.drawn
  rw [wk_self] at hcall
  refine hcall.mono fun e W' ⟨H', d', hw, hr, hx⟩ => ?_
  subst hw
  exact ⟨_, hr, post_true rfl rfl (by decide +kernel) hW' rfl rfl rfl hx⟩
theorem lifted (os : Os) (started : os.Started) (H : Type) (enc : TypeId × Value → H) :
    ReturnsInHanded {} Try.checked os 6 .any (Rows.checkMoreSpec.pre6 enc Try.prog Try.f6 Rows.checkMoreRow.domain false) (Rows.checkMoreSpec.post enc Try.prog Try.f6 false true false false) := by
  refine returnsInHanded_of_change_sized (C := Try.checked) own started (by kernel_rfl) Try.func6
    (ChangeSpec.witness6 (enc := enc) (C := Try.checked) false ⟨#[], #[.slice none 0 0, .string ⟨#[]⟩], []⟩ 8 (by kernel_rfl) (by kernel_rfl) (by kernel_rfl) (by kernel_rfl)) ?_
  intro W base args ds gs before hval hW _ hwt _
  exact contract H enc W base args ds gs before hval hW hwt
end Go.Proofs.Ytdhbekcmjnifnaa.CMore
namespace Go.Proofs.Ytdhbekcmjnifnaa
/-- CheckMore: a rule more. -/
theorem checkMore_holds : Rows.CheckMoreSaid :=
  OpenClaim.holds_of_wide 6 Try.f6 rfl rfl rfl rfl rfl rfl rfl ⟨rfl, rfl, rfl, rfl, rfl⟩ rfl rfl rfl rfl rfl (by kernel_rfl) Try.func6 (by kernel_rfl)
    (of_decide_eq_true (by kernel_rfl)) (by unfold Func.isWrapper; first | (rw [if_pos (by decide +kernel)]; kernel_rfl) | (rw [if_neg (by decide +kernel)]; exact ⟨rfl, rfl⟩))
    (fun os started H enc _ => CMore.lifted os started H enc)
#print axioms checkMore_holds
end Go.Proofs.Ytdhbekcmjnifnaa
