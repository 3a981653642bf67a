/- CheckMore is proved: a rule more that nobody speaks of, of a new name, and that speaks of none, leaves rules as they were; for every input, with no condition. This text is a part of the way there. -/
import Derived.Test.YtdhbekcmjnifnaaMd8
import Derived.KernelRfl
set_option linter.unusedVariables false
set_option linter.unusedSimpArgs false
set_option maxRecDepth 100000
namespace Go.Vc
open Go.Proofs

/-! who refers to whom: plain laws -/
theorem closeG_spec {d : List (List Int)} (hd : DirOk d) : ∀ (m : Nat) (todo seen : List Int), seen.Nodup → (∀ k ∈ seen, 0 ≤ k ∧ k < d.length) → (∀ k ∈ todo, 0 ≤ k ∧ k < d.length) → (d.length - seen.length) * 601 + todo.length ≤ m → (∀ k ∈ seen, ∀ j ∈ d.getD k.toNat [], j ∈ seen ∨ j ∈ todo) →
    (closeG d m todo seen).Nodup ∧ (∀ k ∈ closeG d m todo seen, 0 ≤ k ∧ k < d.length) ∧ (∀ k ∈ seen, k ∈ closeG d m todo seen) ∧ (∀ k ∈ todo, k ∈ closeG d m todo seen) ∧ (∀ k ∈ closeG d m todo seen, ∀ j ∈ d.getD k.toNat [], j ∈ closeG d m todo seen)
  | 0, todo, seen, h1, h2, h3, h4, h5 => by
    have h0 : todo = [] := List.length_eq_zero_iff.1 (by omega)
    subst h0
    simp only [closeG]
    exact ⟨h1, h2, fun k hk => hk, by simp, fun k hk j hj => by simpa using h5 k hk j hj⟩
  | m + 1, [], seen, h1, h2, h3, h4, h5 => by
    simp only [closeG]
    exact ⟨h1, h2, fun k hk => hk, by simp, fun k hk j hj => by simpa using h5 k hk j hj⟩
  | m + 1, k :: todo, seen, h1, h2, h3, h4, h5 => by
    have hk := h3 k (by simp)
    simp only [closeG]
    simp only [List.length_cons] at h4
    split
    · rename_i hks
      obtain ⟨g1, g2, g3, g4, g5⟩ := closeG_spec hd m todo seen h1 h2 (fun x hx => h3 x (by simp [hx])) (by omega) (fun x hx j hj => by
        rcases h5 x hx j hj with h | h
        · exact .inl h
        · rcases List.mem_cons.1 h with rfl | h
          · exact .inl hks
          · exact .inr h)
      refine ⟨g1, g2, g3, fun x hx => ?_, g5⟩
      rcases List.mem_cons.1 hx with rfl | hx
      · exact g3 _ hks
      · exact g4 x hx
    · rename_i hks
      have hn1 : (k :: seen).Nodup := by rw [List.nodup_cons]; exact ⟨hks, h1⟩
      have hslt := nodup_lt (n := d.length) hn1 (fun x hx => by rcases List.mem_cons.1 hx with rfl | hx; exact hk; exact h2 x hx)
      simp only [List.length_cons] at hslt
      have hdk := hd.at_ k.toNat
      obtain ⟨g1, g2, g3, g4, g5⟩ := closeG_spec hd m (todo ++ d.getD k.toNat []) (seen ++ [k]) (by
          rw [List.nodup_append]
          exact ⟨h1, by simp, fun x hx y hy hxy => by simp at hy; subst hy; subst hxy; exact hks hx⟩)
        (fun x hx => by
          rcases List.mem_append.1 hx with hx | hx
          · exact h2 x hx
          · simp at hx; subst hx; exact hk)
        (fun x hx => by
          rcases List.mem_append.1 hx with hx | hx
          · exact h3 x (by simp [hx])
          · exact hdk.2 x hx)
        (by simp only [List.length_append, List.length_singleton]; omega)
        (fun x hx j hj => by
          rcases List.mem_append.1 hx with hx | hx
          · rcases h5 x hx j hj with h | h
            · exact .inl (by simp [h])
            · rcases List.mem_cons.1 h with rfl | h
              · exact .inl (by simp)
              · exact .inr (by simp [h])
          · simp at hx; subst hx; exact .inr (List.mem_append_right _ hj))
      refine ⟨g1, g2, fun x hx => g3 x (by simp [hx]), fun x hx => ?_, g5⟩
      rcases List.mem_cons.1 hx with rfl | hx
      · exact g3 _ (by simp)
      · exact g4 x (by simp [hx])
theorem closeG_least {d : List (List Int)} {T : Int → Prop} (hT : ∀ k, T k → ∀ j ∈ d.getD k.toNat [], T j) : ∀ (m : Nat) (todo seen : List Int), (∀ k ∈ seen, T k) → (∀ k ∈ todo, T k) → ∀ k ∈ closeG d m todo seen, T k
  | 0, todo, seen, h1, h2, k, hk => h1 k hk
  | m + 1, [], seen, h1, h2, k, hk => h1 k hk
  | m + 1, x :: todo, seen, h1, h2, k, hk => by
    simp only [closeG] at hk
    split at hk
    · exact closeG_least hT m todo seen h1 (fun y hy => h2 y (by simp [hy])) k hk
    · refine closeG_least hT m _ _ (fun y hy => ?_) (fun y hy => ?_) k hk
      · rcases List.mem_append.1 hy with hy | hy
        · exact h1 y hy
        · simp at hy; subst hy; exact h2 _ (by simp)
      · rcases List.mem_append.1 hy with hy | hy
        · exact h2 y (by simp [hy])
        · exact hT x (h2 x (by simp)) y hy
section
variable {d : List (List Int)} (hd : DirOk d)
include hd
theorem closeF_spec (i : Nat) : (closeF d i).Nodup ∧ (∀ k ∈ closeF d i, 0 ≤ k ∧ k < d.length) ∧ (∀ k ∈ d.getD i [], k ∈ closeF d i) ∧ (∀ k ∈ closeF d i, ∀ j ∈ d.getD k.toNat [], j ∈ closeF d i) := by
  obtain ⟨g1, g2, g3, g4, g5⟩ := closeG_spec hd (d.length * 601 + (d.getD i []).length) (d.getD i []) [] (by simp) (by simp) (hd.at_ i).2 (by simp) (by simp)
  exact ⟨g1, g2, g4, g5⟩
theorem closeF_sub {i j : Nat} (hj : (j : Int) ∈ closeF d i) : ∀ k ∈ closeF d j, k ∈ closeF d i := by
  obtain ⟨_, _, _, h4⟩ := closeF_spec hd i
  refine closeG_least (T := fun k => k ∈ closeF d i) h4 _ _ _ (by simp) fun k hk => ?_
  exact h4 j hj k (by rw [Int.toNat_natCast]; exact hk)
theorem rank_lt {i j : Nat} (hj : (j : Int) ∈ d.getD i []) (hac : (j : Int) ∉ closeF d j) : (closeF d j).length < (closeF d i).length := by
  have hmem := (closeF_spec hd i).2.2.1 j hj
  have := nodup_len (l := (j : Int) :: closeF d j) (m := closeF d i) (by rw [List.nodup_cons]; exact ⟨hac, (closeF_spec hd j).1⟩) fun x hx => by
    rcases List.mem_cons.1 hx with rfl | hx
    · exact hmem
    · exact closeF_sub hd hmem x hx
  simp only [List.length_cons] at this
  omega
theorem ready_ex (hac : ∀ i, i < d.length → (i : Int) ∉ closeF d i) (out : List Int) : ∀ (n i : Nat), (closeF d i).length ≤ n → i < d.length → (i : Int) ∉ out → ∃ j, j < d.length ∧ (j : Int) ∉ out ∧ ∀ k ∈ d.getD j [], k ∈ out
  | n, i, hn, hi, ho => by
    by_cases hall : ∀ k ∈ d.getD i [], k ∈ out
    · exact ⟨i, hi, ho, hall⟩
    · have : ∃ k, k ∈ d.getD i [] ∧ k ∉ out := by
        refine Classical.byContradiction fun hne => hall fun k hk => Classical.byContradiction fun hko => hne ⟨k, hk, hko⟩
      obtain ⟨k, hk, hko⟩ := this
      have hr := (hd.at_ i).2 k hk
      obtain ⟨j, rfl⟩ : ∃ j : Nat, k = j := ⟨k.toNat, by omega⟩
      have hjl : j < d.length := by omega
      have hlt := rank_lt hd hk (hac j hjl)
      cases n with
      | zero => omega
      | succ n => exact ready_ex hac out n j (by omega) hjl hko
end
def readyB (d : List (List Int)) (out : List Int) (i : Nat) : Bool := !decide ((i : Int) ∈ out) && (d.getD i []).all fun k => decide (k ∈ out)
def passG (d : List (List Int)) : Nat → Nat → List Int → List Int
  | 0, _, out => out
  | m + 1, i, out => passG d m (i + 1) (if readyB d out i = true then out ++ [(i : Int)] else out)
/-- Each behind those that it speaks of. -/
def Topo (d : List (List Int)) (out : List Int) : Prop := ∀ (p : Nat) (x : Int), out[p]? = some x → (0 ≤ x ∧ x < d.length) ∧ x ∉ out.take p ∧ ∀ k ∈ d.getD x.toNat [], k ∈ out.take p
theorem Topo.nil (d : List (List Int)) : Topo d [] := fun p x h => by simp at h
theorem Topo.snoc {d : List (List Int)} {out : List Int} (h : Topo d out) {i : Nat} (hi : i < d.length) (hr : readyB d out i = true) : Topo d (out ++ [(i : Int)]) := fun p x hp => by
  simp only [readyB, Bool.and_eq_true, Bool.not_eq_true', decide_eq_false_iff_not, List.all_eq_true, decide_eq_true_eq] at hr
  rcases Nat.lt_trichotomy p out.length with h1 | h1 | h1
  · rw [List.getElem?_append_left h1] at hp
    rw [List.take_append_of_le_length (by omega)]
    exact h p x hp
  · subst h1
    rw [List.getElem?_append_right (Nat.le_refl _), Nat.sub_self] at hp
    simp only [List.getElem?_cons_zero, Option.some.injEq] at hp
    subst hp
    rw [List.take_append_of_le_length (Nat.le_refl _), List.take_length]
    exact ⟨by omega, hr.1, by rw [Int.toNat_natCast]; exact hr.2⟩
  · rw [List.getElem?_eq_none (by simp; omega)] at hp
    cases hp
theorem Topo.nodup {d : List (List Int)} {out : List Int} (h : Topo d out) : out.Nodup := by
  rw [List.Nodup, List.pairwise_iff_getElem]
  intro i j hi hj hij e
  have := (h j out[j] (by simp [hj])).2.1
  apply this
  rw [← e]
  exact List.mem_take_iff_getElem.2 ⟨i, by omega, rfl⟩
theorem Topo.in_ {d : List (List Int)} {out : List Int} (h : Topo d out) : ∀ x ∈ out, 0 ≤ x ∧ x < d.length := fun x hx => by
  obtain ⟨p, hp⟩ := List.getElem?_of_mem hx
  exact (h p x hp).1
theorem passG_topo {d : List (List Int)} : ∀ (m i : Nat) (out : List Int), i + m ≤ d.length → Topo d out → Topo d (passG d m i out) ∧ out.length ≤ (passG d m i out).length
  | 0, i, out, _, h => ⟨h, Nat.le_refl _⟩
  | m + 1, i, out, hi, h => by
    simp only [passG]
    split
    · rename_i hr
      have := passG_topo m (i + 1) (out ++ [(i : Int)]) (by omega) (h.snoc (by omega) hr)
      refine ⟨this.1, ?_⟩
      have h2 := this.2
      simp only [List.length_append, List.length_singleton] at h2
      omega
    · exact passG_topo m (i + 1) out (by omega) h
theorem passG_more {d : List (List Int)} {j : Nat} : ∀ (m i : Nat) (out : List Int), i ≤ j → j < i + m → i + m ≤ d.length → Topo d out → readyB d out j = true → out.length < (passG d m i out).length
  | 0, i, out, h1, h2, _, _, _ => by omega
  | m + 1, i, out, h1, h2, h3, ht, hr => by
    simp only [passG]
    split
    · rename_i hri
      have := (passG_topo m (i + 1) (out ++ [(i : Int)]) (by omega) (ht.snoc (by omega) hri)).2
      simp only [List.length_append, List.length_singleton] at this
      omega
    · rename_i hri
      have : i ≠ j := fun e => by subst e; exact hri hr
      exact passG_more m (i + 1) out (by omega) (by omega) (by omega) ht hr
theorem pass_grows {d : List (List Int)} (hd : DirOk d) (hac : ∀ i, i < d.length → (i : Int) ∉ closeF d i) {out : List Int} (ht : Topo d out) (hl : out.length < d.length) : out.length < (passG d d.length 0 out).length := by
  have : ∃ i, i < d.length ∧ (i : Int) ∉ out := by
    refine Classical.byContradiction fun hne => ?_
    have hall : ∀ i, i < d.length → (i : Int) ∈ out := fun i hi => Classical.byContradiction fun h => hne ⟨i, hi, h⟩
    have hnd : ((List.range d.length).map Int.ofNat).Nodup := by
      rw [List.Nodup, List.pairwise_map]
      exact List.nodup_range.imp fun h e => h (Int.ofNat.inj e)
    have := nodup_len hnd fun x hx => by
      obtain ⟨i, hi, rfl⟩ := List.mem_map.1 hx
      exact hall i (List.mem_range.1 hi)
    simp at this
    omega
  obtain ⟨i, hi, hio⟩ := this
  obtain ⟨j, hj, hjo, hjd⟩ := ready_ex hd hac out _ i (Nat.le_refl _) hi hio
  refine passG_more d.length 0 out (Nat.zero_le _) (by omega) (by omega) ht (j := j) ?_
  simp only [readyB, Bool.and_eq_true, Bool.not_eq_true', decide_eq_false_iff_not, List.all_eq_true, decide_eq_true_eq]
  exact ⟨hjo, hjd⟩
theorem wrongC_ok {l : List Ru} (h : (wrongC l).1 = 0) : (wrongP l).1 = 0 ∧ firstG (dupB l) l.length 0 = none ∧ firstG (noneB l) l.length 0 = none ∧ firstG (cycB l) l.length 0 = none := by
  unfold wrongC at h
  split at h
  · rename_i h1; exact absurd h h1
  rename_i h1
  split at h
  · cases h
  rename_i h2
  split at h
  · cases h
  rename_i h3
  split at h
  · cases h
  rename_i h4
  exact ⟨by simpa using h1, h2, h3, h4⟩
theorem direct_len (l : List Ru) : (directF l).length = l.length := by simp [directF]
theorem wrongC_dir {l : List Ru} (h : (wrongC l).1 = 0) : DirOk (directF l) ∧ ∀ i, i < (directF l).length → (i : Int) ∉ closeF (directF l) i := by
  obtain ⟨h1, h2, h3, h4⟩ := wrongC_ok h
  obtain ⟨g1, g2⟩ := wrongP_ok h1
  refine ⟨direct_ok g1 (fun r hr => (g2 r hr).2.2) h3, fun i hi => ?_⟩
  rw [direct_len] at hi
  have := firstG_none h4 i (Nat.zero_le _) (by omega)
  simpa [cycB] using this
end Go.Vc
set_option linter.unusedVariables false
set_option linter.unusedSimpArgs false
set_option maxRecDepth 100000
namespace Go.Vc
open Go.Proofs

/-! check.Order -/
theorem callV_mono {P : Program} {f : FuncId} {args : Array Value} {H : Heap} {R R' : Ending → Heap → Prop} (h : callV P f args H R) (hr : ∀ e H', R e H' → R' e H') : callV P f args H R' := by
  unfold callV at h ⊢
  split at h
  · exact h.elim
  · exact h.mono hr
def idxB (p : Int → Bool) : List Int → Nat → Int
  | [], _ => -1
  | w :: r, k => if p w = true then k else idxB p r (k + 1)
theorem idxB_nonneg (p : Int → Bool) : ∀ (ws : List Int) (k : Nat), decide (idxB p ws k ≥ 0) = ws.any p
  | [], k => by simp [idxB]
  | w :: r, k => by
    simp only [idxB, List.any_cons]
    split
    · rename_i h; rw [h]; simp
    · rename_i h
      rw [idxB_nonneg p r (k + 1)]
      simp [h]
theorem ContainsFunc_int {ws : List Int} {ad : Option Addr} {H : Heap} (hlen : ws.length ≤ 4611686018427387904) (hr : IntsAt H ad ws) (c : Nat) (f : FuncId) (cap : List Value) (p : Int → Bool)
    (hcall : ∀ x, callV Try.prog f ⟨[] ++ ([.int .i64 x] ++ cap)⟩ H fun e H' => e = .returned (.bool (p x)) ∧ H' = H) :
    CallsQ Try.prog 37 ⟨[.slice ad ws.length c, .func (.func f) ⟨[]⟩ ⟨cap⟩]⟩ H (.bool (ws.any p)) := by
  have main : CallsQ Try.prog 64 ⟨[.slice ad ws.length c, .func (.func f) ⟨[]⟩ ⟨cap⟩]⟩ H (.int .i64 (idxB p ws 0)) := by
    apply slices_IndexFunc_int_int_calls
    unfold slices_IndexFunc_int_int
    refine ⟨fun x H' => H' = H ∧ ∃ k : Nat, x = k ∧ k ≤ ws.length ∧ idxB p ws 0 = idxB p (ws.drop k) k, fun x _ => ((ws.length : Int) - x).toNat, ⟨rfl, 0, rfl, Nat.zero_le _, rfl⟩, ?_⟩
    rintro x H1 ⟨rfl, k, rfl, hk, hi⟩
    refine ifB_mk (fun hc => ?_) (fun hc => ?_)
    · have hc : k < ws.length := by simp at hc; omega
      have hw : ws[k]? = some ws[k] := by simp [hc]
      obtain ⟨q, hp, hcell⟩ := hr.cell hw
      have hd : ws.drop k = ws[k] :: ws.drop (k + 1) := by rw [List.drop_eq_getElem_cons hc]
      refine ⟨by omega, by omega, q, hp, ws[k], by rw [Int.toNat_natCast]; exact hcell, callV_mono (hcall ws[k]) ?_⟩
      rintro e H' ⟨rfl, rfl⟩
      refine ⟨_, rfl, ifB_mk (fun h => ?_) (fun h => ?_)⟩
      · refine ⟨?_, rfl⟩
        rw [hi, hd, idxB, if_pos h]
      · refine ⟨⟨rfl, k + 1, by rw [i64_id (by omega) (by omega)]; omega, hc, by rw [hi, hd, idxB, if_neg (by rw [h]; simp)]⟩, ?_⟩
        show Int.toNat _ < Int.toNat _
        rw [i64_id (by omega) (by omega)]
        omega
    · have hk : k = ws.length := by simp at hc; omega
      subst hk
      rw [hi, List.drop_length]
      exact ⟨rfl, rfl⟩
  apply slices_ContainsFunc_int_int_calls
  unfold slices_ContainsFunc_int_int
  exact main.go ⟨_, rfl, by rw [idxB_nonneg], rfl⟩
theorem St.under {H0 H1 H : Heap} {L : List (Nat × Obj)} (h : St none0 H1 H L) (hx : Ext0 H0 H1) : St none0 H0 H L :=
  ⟨hx.trans h.ext, fun e he => (h.own e he).elim (fun h => .inl (Nat.le_trans hx.size h)) (fun h => h.elim), h.at_, h.nd⟩
def lenH (b : Nat) (H : Heap) : Nat := match cellH H (bA b) with
  | some (.slice _ n _) => n
  | _ => 0
abbrev outO (a : Option Addr) (n c : Nat) : Obj := C [.slice a n c] 28
theorem lenH_of {M : Nat → Prop} {H0 H : Heap} {L : List (Nat × Obj)} {b k : Nat} {a : Option Addr} {n c : Nat} (hS : St M H0 H L) (hk : nthO L k = some (b, outO a n c)) : lenH b H = n := by
  have : cellH H (bA b) = some (.slice a n c) := St.cell (k := k) (a := bA b) hS hk rfl rfl
  unfold lenH
  rw [this]
theorem Order_is {l : List Ru} {ad : Option Addr} {c : Nat} {H : Heap} (hl : RulesAt H ad l) (hw : (wrongC l).1 = 0) : CallsH Try.prog 22 ⟨[.slice ad l.length c]⟩ H fun e H' => ∃ a c' out E, e = .returned (.slice a l.length c') ∧ St none0 H H' E ∧ (∀ H'', Held E H'' → IntsAt H'' a out) ∧ out.length = l.length ∧ Topo (directF l) out := by
  obtain ⟨hdok, hac⟩ := wrongC_dir hw
  obtain ⟨hw1, _, _, _⟩ := wrongC_ok hw
  obtain ⟨hlen, hok⟩ := wrongP_ok hw1
  have hdl := direct_len l
  apply check_Order_calls
  unfold check_Order
  refine (direct_is hlen (fun r hr => (hok r hr).2) hl).call (fun v H1 hr => ?_) (fun ch H6 hr5 => by obtain ⟨_, _, hr5, _⟩ := hr5; cases hr5) (fun H6 hr5 => by obtain ⟨_, _, hr5, _⟩ := hr5; cases hr5)
  obtain ⟨da, dc, hv, hx1, hdir⟩ := hr
  simp only [Ending.returned.injEq] at hv
  subst hv
  refine ⟨_, _, _, rfl, ?_⟩
  have hS := St.start none0 H1
  intro H2
  replace hS : St _ _ H2 _ := St.push hS _
  clear_value H2
  refine ⟨fun H' => ∃ (out : List Int) (E : List (Nat × Obj)) (oa : Option Addr) (oc : Nat), St none0 H1 H' ((H1.size, outO oa out.length oc) :: E) ∧ RowE E oa out.length oc 1 (out.map (Value.int .i64)) 3 ∧ Topo (directF l) out, fun H' => l.length - lenH H1.size H', ⟨[], [], none, 0, hS, RowE.nil, Topo.nil _⟩, ?_⟩
  clear hS
  rintro H3 ⟨out, E, oa, oc, hS, hr, ht⟩
  have hlh := lenH_of (k := 0) hS rfl
  have hol : out.length ≤ l.length := by
    have := nodup_lt ht.nodup ht.in_
    omega
  refine ⟨_, _, _, St.cell (k := 0) hS rfl rfl rfl, ifB_mk (fun hc => ?_) (fun hc => ?_)⟩
  rotate_left
  · have hc : out.length = l.length := by simp at hc; omega
    refine ⟨_, _, _, St.cell (k := 0) hS rfl rfl rfl, oa, oc, out, E, by rw [hc], (hS.sub (List.Sublist.cons _ (List.Sublist.refl _))).under hx1, fun H'' hh => hr.ints hh, hc, ht⟩
  have hc : out.length < l.length := by simp at hc; omega
  have hgrow := pass_grows hdok hac ht (by omega)
  generalize hP : passG (directF l) (directF l).length 0 out = Pp at hgrow
  have hPt : Topo (directF l) Pp := by rw [← hP]; exact (passG_topo _ 0 out (by omega) ht).1
  refine ⟨fun x H' => ∃ (i m : Nat) (out : List Int) (E : List (Nat × Obj)) (oa : Option Addr) (oc : Nat), x = i ∧ i + m = l.length ∧ St none0 H1 H' ((H1.size, outO oa out.length oc) :: E) ∧ RowE E oa out.length oc 1 (out.map (Value.int .i64)) 3 ∧ Topo (directF l) out ∧ passG (directF l) m i out = Pp, fun x _ => (l.length - x : Int).toNat, ⟨0, l.length, out, E, oa, oc, rfl, by omega, hS, hr, ht, by rw [← hdl]; exact hP⟩, ?_⟩
  clear hS hr ht hP hol
  rintro x H4 ⟨i, m, out2, E, oa, oc, rfl, him, hS, hr, ht, hp⟩
  have hol : out2.length ≤ l.length := by
    have := nodup_lt ht.nodup ht.in_
    omega
  refine ifB_mk (fun hc2 => ?_) (fun hc2 => ?_)
  rotate_left
  · have hm0 : m = 0 := by simp at hc2; omega
    subst hm0
    simp only [passG] at hp
    subst hp
    refine ⟨⟨out2, E, oa, oc, hS, hr, ht⟩, ?_⟩
    show l.length - _ < l.length - _
    rw [hlh, lenH_of (k := 0) hS rfl]
    omega
  have hi : i < l.length := by simp at hc2; omega
  obtain ⟨m, rfl⟩ : ∃ m', m = m' + 1 := ⟨m - 1, by omega⟩
  simp only [passG] at hp
  have hints := hr.ints (hS.held (F := E) fun y hy => by simp [hy])
  have hdi : (directF l)[i]? = some (directF l)[i] := by simp [hdl, hi]
  have hgd : (directF l).getD i [] = (directF l)[i] := by simp [List.getD_eq_getElem?_getD, hdi]
  have hdr := hdok.at_ i
  rw [hgd] at hdr
  refine ⟨_, _, _, St.cell (k := 0) hS rfl rfl rfl, (Contains_int (by omega) hints oc i).go ⟨_, rfl, ?_⟩⟩
  refine ⟨fun b H' => H' = H4 ∧ b = readyB (directF l) out2 i, ifB_mk (fun h => ?_) (fun h => ?_), ?_⟩
  · have h : decide ((i : Int) ∈ out2) = false := by simpa using h
    obtain ⟨p, ka, kc, rfl, hcell, hk⟩ := (hdir.grow hS.ext0) i _ hdi
    refine ⟨by omega, by omega, p, rfl, _, _, _, by rw [Int.toNat_natCast]; exact hcell, ?_⟩
    refine (ContainsFunc_int (by omega) hk kc 38 [.pointer (some (newA H1))] (fun k => !decide (k ∈ out2)) fun x => ?_).go ⟨_, rfl, rfl, ?_⟩
    · refine callV_mk Try.func38 (by kernel_rfl) ((check_Order_c1_calls x (newA H1) (H := H4) (R := fun e H' => e = .returned (.bool (!decide (x ∈ out2))) ∧ H' = H4) ?_))
      unfold check_Order_c1
      exact ⟨_, _, _, St.cell (k := 0) hS rfl rfl rfl, (Contains_int (by omega) hints oc x).go ⟨_, rfl, rfl, rfl⟩⟩
    · rw [readyB, h, hgd]
      simp only [Bool.not_false, Bool.true_and]
      rw [List.not_any_eq_all_not]
      simp
  · have h : decide ((i : Int) ∈ out2) = true := by simpa using h
    exact ⟨rfl, by rw [readyB, h]; rfl⟩
  rintro q H6 ⟨rfl, rfl⟩
  refine ifB_mk (fun h => ?_) (fun h => ?_)
  · rw [if_pos h] at hp
    refine ⟨_, _, _, St.cell (k := 0) hS rfl rfl rfl, ?_⟩
    intro H9
    replace hS : St _ _ H9 _ := St.push hS _
    clear_value H9
    refine append_row (L := [_, _]) (by kernel_rfl : appB Try.prog 28 3 1 8 = true) hS hr (St.atAll (k := 0) hS rfl rfl rfl) rfl (by simp [plainL, Value.oneCell']) (plain_ints _ _) (by omega) (by omega) (by omega) ?_
    intro a' c' H10 E' hS hr _
    simp only [List.cons_append, List.nil_append] at hS
    refine ⟨_, _, _, rfl, ?_⟩
    refine ⟨St.may (k := 1) hS rfl rfl (by simp [newA, bA, add_off]), ?_⟩
    intro H11
    replace hS : St _ _ H11 _ := St.put (k := 1) hS rfl rfl _
    clear_value H11
    simp only [setN, splice, newA, bA, add_off, add_block, Nat.add_zero, Nat.zero_add, Nat.reduceAdd] at hS
    unfold check_Order_k1
    refine ⟨⟨i + 1, m, out2 ++ [(i : Int)], E', a', c', by rw [i64_id (by omega) (by omega)]; omega, by omega, ?_, ?_, ht.snoc (by omega) h, hp⟩, ?_⟩
    · rw [List.length_append, List.length_singleton]
      exact hS.sub (List.Sublist.cons _ (List.Sublist.refl _))
    · rw [List.length_append, List.length_singleton]
      simpa using hr
    · show Int.toNat _ < Int.toNat _
      rw [i64_id (by omega) (by omega)]
      omega
  · rw [if_neg (by rw [h]; simp)] at hp
    unfold check_Order_k1
    refine ⟨⟨i + 1, m, out2, E, oa, oc, by rw [i64_id (by omega) (by omega)]; omega, by omega, hS, hr, ht, hp⟩, ?_⟩
    show Int.toNat _ < Int.toNat _
    rw [i64_id (by omega) (by omega)]
    omega
end Go.Vc
set_option linter.unusedVariables false
set_option maxRecDepth 100000
namespace Go.Vc
open Go.Proofs

/-! slotrules mean.All -/
def mean_All (l0a : Option Addr) (l0n : Nat) (l0c : Nat) (n1 : Int) (H : Heap) (R : Ending → Heap → Prop) : Prop :=
  let H1 : Heap := H.push (.cells ⟨[(.int .i64 0), (.int .i64 0)]⟩ 39)
  CallsH Try.prog 14 ⟨[(.slice l0a l0n l0c)]⟩ H1 (onCall (fun rx14 H2 => ∃ x14_0 : Int, ∃ x14_1 : Int, rx14 = (.agg ⟨[(.int .i64 x14_0), (.int .i64 x14_1)]⟩) ∧ let H3 : Heap := H2.push (.cells ⟨[(.int .i64 0), (.int .i64 0)]⟩ 39)
  MayPut H3 (newA H2) 2 ∧ let H4 : Heap := putH H3 (newA H2) ([(.int .i64 x14_0), (.int .i64 x14_1)])
  ∃ x16 : Int, cellH H4 ((newA H2).add 0) = some (.int .i64 x16) ∧ ifB (x16 != 0)
  (∃ x18_0 : Int, ∃ x18_1 : Int, At H4 (newA H2) ([(.int .i64 x18_0), (.int .i64 x18_1)]) ∧ MayPut H4 (newA H) 2 ∧ let H5 : Heap := putH H4 (newA H) ([(.int .i64 x18_0), (.int .i64 x18_1)])
  ∃ o5_0 : Int, ∃ o5_1 : Int, At H5 (newA H) ([(.int .i64 o5_0), (.int .i64 o5_1)]) ∧ R (.returned (.tuple ⟨[(.slice none 0 0), (.agg ⟨[(.int .i64 o5_0), (.int .i64 o5_1)]⟩)]⟩)) H5)
  (ifB ((decide (n1 < 0)) || (decide (n1 ≥ 146097)))
  (MayPut H4 (newA H) 2 ∧ let H6 : Heap := putH H4 (newA H) ([(.int .i64 3), (.int .i64 0)])
  ∃ o5_0 : Int, ∃ o5_1 : Int, At H6 (newA H) ([(.int .i64 o5_0), (.int .i64 o5_1)]) ∧ R (.returned (.tuple ⟨[(.slice none 0 0), (.agg ⟨[(.int .i64 o5_0), (.int .i64 o5_1)]⟩)]⟩)) H6)
  (let H7 : Heap := H4.push (.map #[] 0)
  let H8 : Heap := H7.push (.cells ⟨[(.slice l0a l0n l0c), (.int .i64 n1), (.map (some H4.size))]⟩ 61)
  CallsH Try.prog 22 ⟨[(.slice l0a l0n l0c)]⟩ H8 (onCall (fun rx32 H9 => ∃ (x32a : Option Addr) (x32n x32c : Nat), rx32 = (.slice x32a x32n x32c) ∧ ∃ (I8 : Int → Heap → Prop) (m8 : Int → Heap → Nat), I8 0 H9 ∧ ∀ (x34 : Int) (H10 : Heap), I8 x34 H10 → 
  ifB (decide (x34 < (x32n : Int)))
  ((0 : Int) ≤ x34 ∧ x34 < (x32n : Int) ∧ ∃ px36 : Addr, x32a = some px36 ∧ ∃ x37 : Int, cellH H10 (px36.add (Int.toNat x34 * 1)) = some (.int .i64 x37) ∧ ∃ x41 : Option Nat, cellH H10 ((newA H7).add 2) = some (.map x41) ∧ (0 : Int) ≤ x37 ∧ x37 < (l0n : Int) ∧ ∃ px44 : Addr, l0a = some px44 ∧ ∃ x46 : ByteArray, cellH H10 ((px44.add (Int.toNat x37 * 6)).add 0) = some (.string x46) ∧ (0 : Int) ≤ x37 ∧ x37 < (l0n : Int) ∧ ∃ px50 : Addr, l0a = some px50 ∧ ∃ x52 : List Int, x52.length = 23 ∧ CallsE Try.prog 23 ⟨[(.pointer (some (newA H7))), (.pointer (some ((px50.add (Int.toNat x37 * 6)).add 1)))]⟩ H10 (.agg ⟨(List.map (Value.int .u64) x52)⟩) ∧ ∀ H11 : Heap, Ext0 H10 H11 → RunU Try.prog (Instr.mapUpdate 59 (.map x41) (.string x46) (.agg ⟨(List.map (Value.int .u64) x52)⟩)) H11 (fun H12 => (I8 (IntKind.i64.wrap (x34 + 1)) H12 ∧ m8 (IntKind.i64.wrap (x34 + 1)) H12 < m8 x34 H10)))
  (∃ (I14 : Option Addr → Nat → Nat → Int → Heap → Prop) (m14 : Option Addr → Nat → Nat → Int → Heap → Nat), I14 none 0 0 0 H10 ∧ ∀ (out10a : Option Addr) (out10n : Nat) (out10c : Nat) (x56 : Int) (H13 : Heap), I14 out10a out10n out10c x56 H13 → 
  ifB (decide (x56 < (l0n : Int)))
  ((0 : Int) ≤ x56 ∧ x56 < (l0n : Int) ∧ ∃ px58 : Addr, l0a = some px58 ∧ ∃ x59_0 : ByteArray, ∃ x59_1 : Int, ∃ x59_2 : Int, ∃ x59_3 : Int, ∃ x59_4 : ByteArray, ∃ (x59_5a : Option Addr) (x59_5n x59_5c : Nat), At H13 (px58.add (Int.toNat x56 * 6)) ([(.string x59_0), (.int .i64 x59_1), (.int .i64 x59_2), (.int .i64 x59_3), (.string x59_4), (.slice x59_5a x59_5n x59_5c)]) ∧ let H14 : Heap := H13.push (.cells ⟨[(.string (⟨#[]⟩ : ByteArray)), (.int .i64 0), (.int .i64 0), (.int .i64 0), (.string (⟨#[]⟩ : ByteArray)), (.slice none 0 0)]⟩ 43)
  MayPut H14 (newA H13) 6 ∧ let H15 : Heap := putH H14 (newA H13) ([(.string x59_0), (.int .i64 x59_1), (.int .i64 x59_2), (.int .i64 x59_3), (.string x59_4), (.slice x59_5a x59_5n x59_5c)])
  ∃ x64 : Option Nat, cellH H15 ((newA H7).add 2) = some (.map x64) ∧ ∃ x66 : ByteArray, cellH H15 ((newA H13).add 0) = some (.string x66) ∧ ∃ x67 : List Int, x67.length = 23 ∧ RunV Try.prog (Instr.lookup 59 (.map x64) (.string x66) false) H15 (.agg ⟨(List.map (Value.int .u64) x67)⟩) ∧ okL (∀ H16 : Heap, Ext0 H15 H16 → ∀ b68 : Nat, Fresh [] [] H15 H16 b68 (List.map (Value.int .u64) x67) 31 → RunD Try.prog (Builtin.append_ #[36, 36] 36 ⟨[(.slice out10a out10n out10c), (.slice (some (bA b68)) 1 1)]⟩) H16 (fun rx69 H17 => ∃ (x69a : Option Addr) (x69n x69c : Nat), rx69 = (.slice x69a x69n x69c) ∧ (I14 x69a x69n x69c (IntKind.i64.wrap (x56 + 1)) H17 ∧ m14 x69a x69n x69c (IntKind.i64.wrap (x56 + 1)) H17 < m14 out10a out10n out10c x56 H13))) (List.map (Value.int .u64) x67) 23)
  (MayPut H13 (newA H) 2 ∧ let H18 : Heap := putH H13 (newA H) ([(.int .i64 0), (.int .i64 0)])
  ∃ o5_0 : Int, ∃ o5_1 : Int, At H18 (newA H) ([(.int .i64 o5_0), (.int .i64 o5_1)]) ∧ R (.returned (.tuple ⟨[(.slice out10a out10n out10c), (.agg ⟨[(.int .i64 o5_0), (.int .i64 o5_1)]⟩)]⟩)) H18))) (fun ch H19 => R (.panicked ch) H19))))) (fun ch H20 => R (.panicked ch) H20))
def mean_All_ann : Ann := ⟨lookN (false, 0) [(3, false, 2), (10, true, 15), (16, false, 10)], lookN [] [(16, [.s 0, .s 1, .s 2, .s 3, .s 4, .s 5, .s 6, .s 7, .p 8, .t 8, .e 9])], lookN [] [(8, [(34, .int .i64)]), (14, [(10, .slc), (56, .int .i64)])]⟩
theorem mean_All_den (l0a : Option Addr) (l0n : Nat) (l0c : Nat) (n1 : Int) (H : Heap) (R : Ending → Heap → Prop) : denF Try.prog Try.f11 mean_All_ann [(.slice l0a l0n l0c), (.int .i64 n1)] H R = mean_All l0a l0n l0c n1 H R := by kernel_rfl
theorem mean_All_calls (l0a : Option Addr) (l0n : Nat) (l0c : Nat) (n1 : Int) {H : Heap} {R : Ending → Heap → Prop} (h : mean_All l0a l0n l0c n1 H R) : CallsH Try.prog 11 ⟨[(.slice l0a l0n l0c), (.int .i64 n1)]⟩ H R :=
  callsH_of namesOk mixedOk Try.func11 (ann := mean_All_ann) (by rw [mean_All_den]; exact h)

/-! (*slotrules mean.day).expr -/
def mean_day_expr_k1 (H : Heap) (H13 : Heap) (R : Ending → Heap → Prop) : Prop :=
  okL (MayPut H13 (newA H) 23 ∧ let H14 : Heap := putH H13 (newA H) (List.map (Value.int .u64) (List.replicate 23 0))
  ∃ o4 : List Int, o4.length = 23 ∧ At H14 (newA H) (List.map (Value.int .u64) o4) ∧ R (.returned (.agg ⟨(List.map (Value.int .u64) o4)⟩)) H14) (List.map (Value.int .u64) (List.replicate 23 0)) 23
def mean_day_expr (d0 : Addr) (e1 : Addr) (H : Heap) (R : Ending → Heap → Prop) : Prop :=
  let H1 : Heap := H.push (.cells ⟨(List.map (Value.int .u64) (List.replicate 23 0))⟩ 31)
  ∃ x8 : Int, cellH H1 (e1.add 0) = some (.int .i64 x8) ∧ ifB (x8 == 2)
  (let H2 : Heap := H1.push (.cells ⟨[(.int .i64 0), (.int .i64 1440)]⟩ 57)
  CallsH Try.prog 36 ⟨[(.slice (some (newA H1)) 1 1)]⟩ H2 (onCall (fun rx13 H3 => ∃ x13 : List Int, x13.length = 23 ∧ rx13 = (.agg ⟨(List.map (Value.int .u64) x13)⟩) ∧ okL (MayPut H3 (newA H) 23 ∧ let H4 : Heap := putH H3 (newA H) (List.map (Value.int .u64) x13)
  ∃ o4 : List Int, o4.length = 23 ∧ At H4 (newA H) (List.map (Value.int .u64) o4) ∧ R (.returned (.agg ⟨(List.map (Value.int .u64) o4)⟩)) H4) (List.map (Value.int .u64) x13) 23) (fun ch H5 => R (.panicked ch) H5)))
  (ifB (x8 == 3)
  (∃ x19 : Int, cellH H1 (e1.add 1) = some (.int .i64 x19) ∧ ∃ x23 : Int, cellH H1 (e1.add 2) = some (.int .i64 x23) ∧ ∀ H6 : Heap, Ext0 H1 H6 → ∀ b25 : Nat, Fresh [] [] H1 H6 b25 ([(.int .i64 x19), (.int .i64 x23)]) 57 → CallsH Try.prog 36 ⟨[(.slice (some (bA b25)) 1 1)]⟩ H6 (onCall (fun rx26 H7 => ∃ x26 : List Int, x26.length = 23 ∧ rx26 = (.agg ⟨(List.map (Value.int .u64) x26)⟩) ∧ okL (MayPut H7 (newA H) 23 ∧ let H8 : Heap := putH H7 (newA H) (List.map (Value.int .u64) x26)
  ∃ o4 : List Int, o4.length = 23 ∧ At H8 (newA H) (List.map (Value.int .u64) o4) ∧ R (.returned (.agg ⟨(List.map (Value.int .u64) o4)⟩)) H8) (List.map (Value.int .u64) x26) 23) (fun ch H9 => R (.panicked ch) H9)))
  (ifB (x8 == 4)
  (∃ x32 : Int, cellH H1 (e1.add 1) = some (.int .i64 x32) ∧ ∃ x36 : Int, cellH H1 (d0.add 1) = some (.int .i64 x36) ∧ ∃ x37 : Int, CallsQ Try.prog 39 ⟨[(.int .i64 x36)]⟩ H1 (.int .i64 x37) ∧ (0 : Int) ≤ x37 ∧ ifB ((bAnd .i64 (Int.fdiv x32 (2 ^ (min (Int.toNat x37) 64))) 1) == 1)
  (∃ (x45a : Option Addr) (x45n x45c : Nat), cellH H1 (e1.add 4) = some (.slice x45a x45n x45c) ∧ (0 : Int) ≤ 0 ∧ 0 < (x45n : Int) ∧ ∃ px46 : Addr, x45a = some px46 ∧ CallsH Try.prog 23 ⟨[(.pointer (some d0)), (.pointer (some (px46.add (Int.toNat 0 * 5))))]⟩ H1 (onCall (fun rx47 H10 => ∃ x47 : List Int, x47.length = 23 ∧ rx47 = (.agg ⟨(List.map (Value.int .u64) x47)⟩) ∧ okL (MayPut H10 (newA H) 23 ∧ let H11 : Heap := putH H10 (newA H) (List.map (Value.int .u64) x47)
  ∃ o4 : List Int, o4.length = 23 ∧ At H11 (newA H) (List.map (Value.int .u64) o4) ∧ R (.returned (.agg ⟨(List.map (Value.int .u64) o4)⟩)) H11) (List.map (Value.int .u64) x47) 23) (fun ch H12 => R (.panicked ch) H12)))
  (mean_day_expr_k1 H H1 R))
  (ifB (x8 == 5)
  (∃ x53 : Int, cellH H1 (e1.add 1) = some (.int .i64 x53) ∧ ∃ x57 : Int, cellH H1 (d0.add 1) = some (.int .i64 x57) ∧ ∃ q69 : Bool, ifB (decide (x53 ≤ x57)) (∃ x63 : Int, cellH H1 (d0.add 1) = some (.int .i64 x63) ∧ ∃ x67 : Int, cellH H1 (e1.add 2) = some (.int .i64 x67) ∧ (decide (x63 ≤ x67)) = q69 ∧ H1 = H1) (false = q69) ∧ ifB q69
  (∃ (x74a : Option Addr) (x74n x74c : Nat), cellH H1 (e1.add 4) = some (.slice x74a x74n x74c) ∧ (0 : Int) ≤ 0 ∧ 0 < (x74n : Int) ∧ ∃ px75 : Addr, x74a = some px75 ∧ CallsH Try.prog 23 ⟨[(.pointer (some d0)), (.pointer (some (px75.add (Int.toNat 0 * 5))))]⟩ H1 (onCall (fun rx76 H15 => ∃ x76 : List Int, x76.length = 23 ∧ rx76 = (.agg ⟨(List.map (Value.int .u64) x76)⟩) ∧ okL (MayPut H15 (newA H) 23 ∧ let H16 : Heap := putH H15 (newA H) (List.map (Value.int .u64) x76)
  ∃ o4 : List Int, o4.length = 23 ∧ At H16 (newA H) (List.map (Value.int .u64) o4) ∧ R (.returned (.agg ⟨(List.map (Value.int .u64) o4)⟩)) H16) (List.map (Value.int .u64) x76) 23) (fun ch H17 => R (.panicked ch) H17)))
  (mean_day_expr_k1 H H1 R))
  (ifB (x8 == 6)
  (∃ (x83a : Option Addr) (x83n x83c : Nat), cellH H1 (e1.add 4) = some (.slice x83a x83n x83c) ∧ (0 : Int) ≤ 0 ∧ 0 < (x83n : Int) ∧ ∃ px84 : Addr, x83a = some px84 ∧ ∃ x85 : List Int, x85.length = 23 ∧ CallsE Try.prog 23 ⟨[(.pointer (some d0)), (.pointer (some (px84.add (Int.toNat 0 * 5))))]⟩ H1 (.agg ⟨(List.map (Value.int .u64) x85)⟩) ∧ ∃ (x90a : Option Addr) (x90n x90c : Nat), cellH H1 (e1.add 4) = some (.slice x90a x90n x90c) ∧ (0 : Int) ≤ 1 ∧ 1 < (x90n : Int) ∧ ∃ px91 : Addr, x90a = some px91 ∧ ∃ x92 : List Int, x92.length = 23 ∧ CallsE Try.prog 23 ⟨[(.pointer (some d0)), (.pointer (some (px91.add (Int.toNat 1 * 5))))]⟩ H1 (.agg ⟨(List.map (Value.int .u64) x92)⟩) ∧ ∃ x93 : List Int, x93.length = 23 ∧ CallsE Try.prog 40 ⟨[(.agg ⟨(List.map (Value.int .u64) x85)⟩), (.agg ⟨(List.map (Value.int .u64) x92)⟩)]⟩ H1 (.agg ⟨(List.map (Value.int .u64) x93)⟩) ∧ ∀ H18 : Heap, Ext0 H1 H18 → okL (MayPut H18 (newA H) 23 ∧ let H19 : Heap := putH H18 (newA H) (List.map (Value.int .u64) x93)
  ∃ o4 : List Int, o4.length = 23 ∧ At H19 (newA H) (List.map (Value.int .u64) o4) ∧ R (.returned (.agg ⟨(List.map (Value.int .u64) o4)⟩)) H19) (List.map (Value.int .u64) x93) 23)
  (ifB (x8 == 7)
  (∃ (x100a : Option Addr) (x100n x100c : Nat), cellH H1 (e1.add 4) = some (.slice x100a x100n x100c) ∧ (0 : Int) ≤ 0 ∧ 0 < (x100n : Int) ∧ ∃ px101 : Addr, x100a = some px101 ∧ ∃ x102 : List Int, x102.length = 23 ∧ CallsE Try.prog 23 ⟨[(.pointer (some d0)), (.pointer (some (px101.add (Int.toNat 0 * 5))))]⟩ H1 (.agg ⟨(List.map (Value.int .u64) x102)⟩) ∧ ∃ (x107a : Option Addr) (x107n x107c : Nat), cellH H1 (e1.add 4) = some (.slice x107a x107n x107c) ∧ (0 : Int) ≤ 1 ∧ 1 < (x107n : Int) ∧ ∃ px108 : Addr, x107a = some px108 ∧ ∃ x109 : List Int, x109.length = 23 ∧ CallsE Try.prog 23 ⟨[(.pointer (some d0)), (.pointer (some (px108.add (Int.toNat 1 * 5))))]⟩ H1 (.agg ⟨(List.map (Value.int .u64) x109)⟩) ∧ ∃ x110 : List Int, x110.length = 23 ∧ CallsE Try.prog 35 ⟨[(.agg ⟨(List.map (Value.int .u64) x102)⟩), (.agg ⟨(List.map (Value.int .u64) x109)⟩)]⟩ H1 (.agg ⟨(List.map (Value.int .u64) x110)⟩) ∧ ∀ H20 : Heap, Ext0 H1 H20 → okL (MayPut H20 (newA H) 23 ∧ let H21 : Heap := putH H20 (newA H) (List.map (Value.int .u64) x110)
  ∃ o4 : List Int, o4.length = 23 ∧ At H21 (newA H) (List.map (Value.int .u64) o4) ∧ R (.returned (.agg ⟨(List.map (Value.int .u64) o4)⟩)) H21) (List.map (Value.int .u64) x110) 23)
  (ifB (x8 == 8)
  (∃ (x117a : Option Addr) (x117n x117c : Nat), cellH H1 (e1.add 4) = some (.slice x117a x117n x117c) ∧ (0 : Int) ≤ 0 ∧ 0 < (x117n : Int) ∧ ∃ px118 : Addr, x117a = some px118 ∧ ∃ x119 : List Int, x119.length = 23 ∧ CallsE Try.prog 23 ⟨[(.pointer (some d0)), (.pointer (some (px118.add (Int.toNat 0 * 5))))]⟩ H1 (.agg ⟨(List.map (Value.int .u64) x119)⟩) ∧ ∃ (x124a : Option Addr) (x124n x124c : Nat), cellH H1 (e1.add 4) = some (.slice x124a x124n x124c) ∧ (0 : Int) ≤ 1 ∧ 1 < (x124n : Int) ∧ ∃ px125 : Addr, x124a = some px125 ∧ ∃ x126 : List Int, x126.length = 23 ∧ CallsE Try.prog 23 ⟨[(.pointer (some d0)), (.pointer (some (px125.add (Int.toNat 1 * 5))))]⟩ H1 (.agg ⟨(List.map (Value.int .u64) x126)⟩) ∧ ∃ x127 : List Int, x127.length = 23 ∧ CallsE Try.prog 41 ⟨[(.agg ⟨(List.map (Value.int .u64) x119)⟩), (.agg ⟨(List.map (Value.int .u64) x126)⟩)]⟩ H1 (.agg ⟨(List.map (Value.int .u64) x127)⟩) ∧ ∀ H22 : Heap, Ext0 H1 H22 → okL (MayPut H22 (newA H) 23 ∧ let H23 : Heap := putH H22 (newA H) (List.map (Value.int .u64) x127)
  ∃ o4 : List Int, o4.length = 23 ∧ At H23 (newA H) (List.map (Value.int .u64) o4) ∧ R (.returned (.agg ⟨(List.map (Value.int .u64) o4)⟩)) H23) (List.map (Value.int .u64) x127) 23)
  (ifB (x8 == 9)
  (∃ (x134a : Option Addr) (x134n x134c : Nat), cellH H1 (e1.add 4) = some (.slice x134a x134n x134c) ∧ (0 : Int) ≤ 0 ∧ 0 < (x134n : Int) ∧ ∃ px135 : Addr, x134a = some px135 ∧ ∃ x136 : List Int, x136.length = 23 ∧ CallsE Try.prog 23 ⟨[(.pointer (some d0)), (.pointer (some (px135.add (Int.toNat 0 * 5))))]⟩ H1 (.agg ⟨(List.map (Value.int .u64) x136)⟩) ∧ ∃ x140 : Int, cellH H1 (e1.add 1) = some (.int .i64 x140) ∧ ∃ x141 : List Int, x141.length = 23 ∧ CallsE Try.prog 42 ⟨[(.agg ⟨(List.map (Value.int .u64) x136)⟩), (.int .i64 x140)]⟩ H1 (.agg ⟨(List.map (Value.int .u64) x141)⟩) ∧ ∀ H24 : Heap, Ext0 H1 H24 → okL (MayPut H24 (newA H) 23 ∧ let H25 : Heap := putH H24 (newA H) (List.map (Value.int .u64) x141)
  ∃ o4 : List Int, o4.length = 23 ∧ At H25 (newA H) (List.map (Value.int .u64) o4) ∧ R (.returned (.agg ⟨(List.map (Value.int .u64) o4)⟩)) H25) (List.map (Value.int .u64) x141) 23)
  (ifB (x8 == 10)
  (∃ x147 : Option Nat, cellH H1 (d0.add 2) = some (.map x147) ∧ ∃ x151 : ByteArray, cellH H1 (e1.add 3) = some (.string x151) ∧ ∃ x152 : List Int, x152.length = 23 ∧ RunV Try.prog (Instr.lookup 59 (.map x147) (.string x151) false) H1 (.agg ⟨(List.map (Value.int .u64) x152)⟩) ∧ okL (MayPut H1 (newA H) 23 ∧ let H26 : Heap := putH H1 (newA H) (List.map (Value.int .u64) x152)
  ∃ o4 : List Int, o4.length = 23 ∧ At H26 (newA H) (List.map (Value.int .u64) o4) ∧ R (.returned (.agg ⟨(List.map (Value.int .u64) o4)⟩)) H26) (List.map (Value.int .u64) x152) 23)
  (mean_day_expr_k1 H H1 R)))))))))
def mean_day_expr_ann : Ann := ⟨lookN (false, 0) [(5, false, 11), (7, false, 12), (10, false, 20), (13, true, 15), (15, true, 15), (17, true, 15), (19, true, 12), (21, false, 9)], lookN [] [(5, [.s 0, .s 1, .s 2, .s 3, .s 4, .s 5, .s 6, .s 7, .s 8, .p 9, .t 9, .e 10])], lookN [] []⟩
theorem mean_day_expr_den (d0 : Addr) (e1 : Addr) (H : Heap) (R : Ending → Heap → Prop) : denF Try.prog Try.f23 mean_day_expr_ann [(.pointer (some d0)), (.pointer (some e1))] H R = mean_day_expr d0 e1 H R := by kernel_rfl
theorem mean_day_expr_calls (d0 : Addr) (e1 : Addr) {H : Heap} {R : Ending → Heap → Prop} (h : mean_day_expr d0 e1 H R) : CallsH Try.prog 23 ⟨[(.pointer (some d0)), (.pointer (some e1))]⟩ H R :=
  callsH_of namesOk mixedOk Try.func23 (ann := mean_day_expr_ann) (by rw [mean_day_expr_den]; exact h)

end Go.Vc
set_option linter.unusedVariables false
set_option linter.unusedSimpArgs false
set_option maxRecDepth 100000
namespace Go.Vc
open Go.Proofs

/-! mean.day.expr -/
abbrev Menv := List (ByteArray × Nat)
def envV (env : Menv) : List (Value × Value) := env.map fun p => (.string p.1, maskV p.2)
def lookO (n : ByteArray) : Menv → Option Nat
  | [] => none
  | p :: r => if n = p.1 then some p.2 else lookO n r
def lookE (n : ByteArray) (env : Menv) : Nat := (lookO n env).getD 0
theorem ba_beq (a b : ByteArray) : (a == b) = decide (a = b) := by
  rcases a with ⟨a⟩
  rcases b with ⟨b⟩
  show (a == b) = _
  rw [Bool.eq_iff_iff, beq_iff_eq, decide_eq_true_iff, ByteArray.mk.injEq]
theorem findV_env (n : ByteArray) : ∀ (env : Menv), findV .string (.string n) (envV env) = some ((lookO n env).map maskV)
  | [] => rfl
  | p :: r => by
    have ih := findV_env n r
    simp only [envV, List.map_cons, findV, Instr.sameNow, lookO] at ih ⊢
    by_cases h : n = p.1
    · rw [if_pos h, show (n == p.1) = true by rw [ba_beq]; exact decide_eq_true h]; rfl
    · rw [if_neg h, show (n == p.1) = false by rw [ba_beq]; exact decide_eq_false h]
      exact ih
theorem env_look {H : Heap} {mb : Nat} {env : Menv} (h : H[mb]? = some (mapO (envV env))) (n : ByteArray) : RunV Try.prog (Instr.lookup 59 (.map (some mb)) (.string n) false) H (maskV (lookE n env)) := by
  have hf := findV_env n env
  unfold lookE
  cases hl : lookO n env with
  | some m =>
    rw [hl] at hf
    exact look_found (P := Try.prog) (mt := 59) (by kernel_rfl : Try.prog.underlying 59 = some (.map 9 31)) (by kernel_rfl : Try.prog.underlying 9 = some .string) (key := .string n) trivial h hf
  | none =>
    rw [hl] at hf
    have hz : maskV 0 = .agg ⟨List.map (Value.int .u64) (List.replicate 23 0)⟩ := by rw [maskV, wordsOf_zero]
    show RunV _ _ _ (maskV 0)
    rw [hz]
    exact look_none (P := Try.prog) (mt := 59) (by kernel_rfl : Try.prog.underlying 59 = some (.map 9 31)) (by kernel_rfl : Try.prog.underlying 9 = some .string) (key := .string n) trivial h hf (fun w => by kernel_rfl)
def weekB (a day : Int) : Bool := bAnd .i64 (Int.fdiv a (2 ^ (min (Int.toNat (weekF day)) 64))) 1 == 1
def comb (day : Int) (lk : ByteArray → Nat) (k a b : Int) (n : ByteArray) (ms : List Nat) : Nat :=
  if k = 2 then ofN [(0, 1440)]
  else if k = 3 then ofN [(a, b)]
  else if k = 4 then if weekB a day = true then ms.getD 0 0 else 0
  else if k = 5 then if a ≤ day ∧ day ≤ b then ms.getD 0 0 else 0
  else if k = 6 then (ms.getD 0 0 ||| ms.getD 1 0) % dayN
  else if k = 7 then diffN (ms.getD 0 0) (ms.getD 1 0) % dayN
  else if k = 8 then (ms.getD 0 0 &&& ms.getD 1 0) % dayN
  else if k = 9 then if a ≤ -1440 ∨ a ≥ 1440 then 0 else shiftN (ms.getD 0 0) a
  else if k = 10 then lk n
  else 0
mutual
def mnEx (day : Int) (lk : ByteArray → Nat) : Ex → Nat
  | .mk k a b n kids => comb day lk k a b n (mnL day lk kids)
def mnL (day : Int) (lk : ByteArray → Nat) : List Ex → List Nat
  | [] => []
  | e :: r => mnEx day lk e :: mnL day lk r
end
theorem mnL_get (day : Int) (lk : ByteArray → Nat) : ∀ {l : List Ex} {i : Nat} {e : Ex}, l[i]? = some e → (mnL day lk l).getD i 0 = mnEx day lk e
  | x :: r, 0, e, h => by
    simp only [List.getElem?_cons_zero, Option.some.injEq] at h
    subst h
    simp [mnL]
  | x :: r, i + 1, e, h => by
    simp only [List.getElem?_cons_succ] at h
    have := mnL_get day lk h
    simpa [mnL] using this
structure DayAt (H : Heap) (dd : Addr) (day : Int) (mb : Nat) (env : Menv) : Prop where
  day : cellH H (dd.add 1) = some (.int .i64 day)
  mp : cellH H (dd.add 2) = some (.map (some mb))
  en : H[mb]? = some (mapO (envV env))
theorem DayAt.grow {H H' : Heap} {dd : Addr} {day : Int} {mb : Nat} {env : Menv} (h : DayAt H dd day mb env) (hx : Ext0 H H') : DayAt H' dd day mb env :=
  ⟨hx.cell h.day, hx.cell h.mp, by rw [hx.block mb (lt_of_get h.en) fun h => h]; exact h.en⟩
def MnC (day : Int) (env : Menv) (e : Ex) : Prop := okEx e → ∀ (H : Heap) (dd a : Addr) (c : List Value) (mb : Nat), DayAt H dd day mb env → At H a c → ExAt H e c → CallsE Try.prog 23 ⟨[.pointer (some dd), .pointer (some a)]⟩ H (maskV (mnEx day (fun n => lookE n env) e))
theorem weekF_range (d : Int) (h0 : 0 ≤ d) (h1 : d < 146097) : 0 ≤ weekF d ∧ weekF d ≤ 6 := by
  unfold weekF
  rw [show IntKind.i64.wrap (d + 5) = d + 5 from i64_id (by omega) (by omega)]
  have h2 : 0 ≤ Int.tmod (d + 5) 7 := Int.tmod_nonneg _ (by omega)
  have h3 : Int.tmod (d + 5) 7 < 7 := Int.tmod_lt_of_pos _ (by omega)
  rw [i64_id (by omega) (by omega)]
  have h4 : 0 ≤ Int.tmod (Int.tmod (d + 5) 7 + 7) 7 := Int.tmod_nonneg _ (by omega)
  have h5 : Int.tmod (Int.tmod (d + 5) 7 + 7) 7 < 7 := Int.tmod_lt_of_pos _ (by omega)
  omega
set_option maxHeartbeats 2000000 in
theorem mn_step {day : Int} (hday : 0 ≤ day ∧ day < 146097) {env : Menv} {k a b : Int} {n : ByteArray} {kids : List Ex} (ih : ∀ e ∈ kids, MnC day env e) : MnC day env (.mk k a b n kids) := by
  intro hok H dd ad c mb hdd hat hex H0 hx0
  replace hdd := hdd.grow hx0
  replace hat := hat.ext0 hx0
  replace hex := hex.grow hx0
  clear hx0
  simp only [ExAt] at hex
  simp only [okEx] at hok
  obtain ⟨hk1, hk2, hkl, hrng, hkids⟩ := hok
  obtain ⟨ka, cap, rfl, hka⟩ := hex
  apply mean_day_expr_calls
  unfold mean_day_expr
  generalize hv : mnEx day (fun n => lookE n env) (.mk k a b n kids) = V
  simp only [mnEx] at hv
  have hS := St.start none0 H0
  intro H1
  replace hS : St _ _ H1 _ := St.push hS _
  clear_value H1
  have hx1 := hS.ext0
  have get : ∀ {H2 : Heap}, Ext0 H1 H2 → ∀ {j : Nat} {v : Value}, (exC k a b n ka kids.length cap)[j]? = some v → cellH H2 (ad.add j) = some v := fun h j v hj => (hx1.trans h).cell (hat.get hj)
  have g0 := Ext0.refl H1
  have hdd1 := hdd.grow hx1
  have eqb : ∀ j : Int, (k == j) = decide (k = j) := fun j => by
    by_cases h : k = j
    · simp [h]
    · simp [h]
  have kid : ∀ {i : Nat}, i < kids.length → ∃ p, ka = some p ∧ CallsE Try.prog 23 ⟨[.pointer (some dd), .pointer (some (p.add (i * 5)))]⟩ H1 (maskV ((mnL day (fun n => lookE n env) kids).getD i 0)) := fun {i} hi => by
    have hki : kids[i]? = some kids[i] := by simp [hi]
    obtain ⟨p, c, hp, hpa, hpe⟩ := hka.get hki
    rw [Nat.zero_add] at hpa
    rw [mnL_get day _ hki]
    exact ⟨p, hp, ih _ (List.getElem_mem hi) (okKids_mem hkids (List.getElem_mem hi)) H1 dd _ c mb hdd1 (hpa.ext0 hx1) (hpe.grow hx1)⟩
  have out : ∀ {H3 : Heap} (B : Nat), Ext0 H1 H3 → B = V → okL (MayPut H3 (newA H0) 23 ∧ let H4 : Heap := putH H3 (newA H0) (List.map (Value.int .u64) (wordsOf B))
      ∃ o : List Int, o.length = 23 ∧ At H4 (newA H0) (List.map (Value.int .u64) o) ∧ (fun e H2 => e = Ending.returned (maskV V) ∧ Ext0 H0 H2) (.returned (.agg ⟨List.map (Value.int .u64) o⟩)) H4) (List.map (Value.int .u64) (wordsOf B)) 23 := fun {H3} B hx hB =>
    mask_out (R := fun e H2 => e = Ending.returned (maskV V) ∧ Ext0 H0 H2) (B := B) (b := newA H0) (j := 0) (hS.grow hx) rfl rfl rfl (by simp) fun H4 hx4 => ⟨by rw [hB], hx4⟩
  have outK : V = 0 → mean_day_expr_k1 H0 H1 (fun e H2 => e = Ending.returned (maskV V) ∧ Ext0 H0 H2) := fun h0 => by
    unfold mean_day_expr_k1
    have := out 0 g0 h0.symm
    rw [wordsOf_zero] at this
    exact this
  have row1s : ∀ {H3 : Heap} {p : Addr} (x y : Int), At H3 p [.int .i64 x, .int .i64 y] → RowAt H3 (some p) 2 ([(x, y)].map spanC) := fun {H3 p} x y h i c hc => by
    cases i with
    | zero =>
      simp only [List.map_cons, List.getElem?_cons_zero, Option.some.injEq] at hc
      subst hc
      exact ⟨_, rfl, h⟩
    | succ i => simp at hc
  refine ⟨_, get g0 (j := 0) rfl, ?_⟩
  simp (config := { zeta := false }) only [eqb]
  refine ifB_mk (fun h => ?_) (fun h2 => ?_)
  · have h := of_decide_eq_true h
    subst h
    have hv : ofN [(0, 1440)] = V := hv
    intro H2
    replace hS : St _ _ H2 _ := St.push hS _
    clear_value H2
    refine (Of_calls [(0, 1440)] (some (newA H1)) 1 (by simp) (row1s 0 1440 (St.atAll (k := 0) hS rfl rfl rfl))).call (fun v H4 hr => ?_) (fun c H4 hr => by simp at hr) (fun H4 hr => by simp at hr)
    obtain ⟨hv2, hx⟩ := hr
    simp only [Ending.returned.injEq] at hv2
    subst hv2
    replace hS := hS.grow hx
    exact ⟨wordsOf _, wordsOf_length _, rfl, mask_out (R := fun e H2 => e = Ending.returned (maskV V) ∧ Ext0 H0 H2) (b := newA H0) (j := 1) hS rfl rfl rfl (by simp) fun H4 hx4 => ⟨by rw [hv], hx4⟩⟩
  have h2 := of_decide_eq_false h2
  refine ifB_mk (fun h => ?_) (fun h3 => ?_)
  · have h := of_decide_eq_true h
    subst h
    have hv : ofN [(a, b)] = V := hv
    refine ⟨_, get g0 (j := 1) rfl, _, get g0 (j := 2) rfl, fun H6 hx b25 hf => ?_⟩
    replace hS := hS.fresh hx hf
    refine (Of_calls [(a, b)] (some (bA b25)) 1 (by simp) (row1s a b (St.atAll (k := 0) hS rfl rfl rfl))).call (fun v H4 hr => ?_) (fun c H4 hr => by simp at hr) (fun H4 hr => by simp at hr)
    obtain ⟨hv2, hx⟩ := hr
    simp only [Ending.returned.injEq] at hv2
    subst hv2
    replace hS := hS.grow hx
    exact ⟨wordsOf _, wordsOf_length _, rfl, mask_out (R := fun e H2 => e = Ending.returned (maskV V) ∧ Ext0 H0 H2) (b := newA H0) (j := 1) hS rfl rfl rfl (by simp) fun H4 hx4 => ⟨by rw [hv], hx4⟩⟩
  have h3 := of_decide_eq_false h3
  refine ifB_mk (fun h => ?_) (fun h4 => ?_)
  · have h := of_decide_eq_true h
    subst h
    have hl : kids.length = 1 := by
      have : kidsF 4 = 1 := rfl
      omega
    have hv : (if weekB a day = true then (mnL day (fun n => lookE n env) kids).getD 0 0 else 0) = V := hv
    have hwr := weekF_range day hday.1 hday.2
    refine ⟨_, get g0 (j := 1) rfl, day, hdd1.day, _, Week_is day H1, by omega, ifB_mk (fun hw => ?_) (fun hw => ?_)⟩
    · have hw : weekB a day = true := hw
      rw [if_pos hw] at hv
      obtain ⟨p, rfl, hc⟩ := kid (i := 0) (by omega)
      exact ⟨_, _, _, get g0 (j := 4) rfl, by omega, by omega, p, rfl, hc.call fun H10 hx => ⟨wordsOf _, wordsOf_length _, rfl, out _ hx hv⟩⟩
    · have hw : weekB a day = false := hw
      rw [if_neg (by rw [hw]; simp)] at hv
      exact outK hv.symm
  have h4 := of_decide_eq_false h4
  refine ifB_mk (fun h => ?_) (fun h5 => ?_)
  · have h := of_decide_eq_true h
    subst h
    have hl : kids.length = 1 := by
      have : kidsF 5 = 1 := rfl
      omega
    have hv : (if a ≤ day ∧ day ≤ b then (mnL day (fun n => lookE n env) kids).getD 0 0 else 0) = V := hv
    refine ⟨_, get g0 (j := 1) rfl, day, hdd1.day, decide (a ≤ day) && decide (day ≤ b), ifB_mk (fun h => ⟨day, hdd1.day, _, get g0 (j := 2) rfl, by rw [h]; rfl, (by trivial)⟩) (fun h => by rw [h]; rfl), ifB_mk (fun hw => ?_) (fun hw => ?_)⟩
    · have hw : a ≤ day ∧ day ≤ b := by simpa using hw
      rw [if_pos hw] at hv
      obtain ⟨p, rfl, hc⟩ := kid (i := 0) (by omega)
      exact ⟨_, _, _, get g0 (j := 4) rfl, by omega, by omega, p, rfl, hc.call fun H10 hx => ⟨wordsOf _, wordsOf_length _, rfl, out _ hx hv⟩⟩
    · have hw : ¬ (a ≤ day ∧ day ≤ b) := by simpa using hw
      rw [if_neg hw] at hv
      exact outK hv.symm
  have h5 := of_decide_eq_false h5
  have two : ∀ {H3 : Heap}, kids.length = 2 → ∃ p, ka = some p ∧ CallsE Try.prog 23 ⟨[.pointer (some dd), .pointer (some (p.add (Int.toNat 0 * 5)))]⟩ H1 (maskV ((mnL day (fun n => lookE n env) kids).getD 0 0)) ∧ CallsE Try.prog 23 ⟨[.pointer (some dd), .pointer (some (p.add (Int.toNat 1 * 5)))]⟩ H1 (maskV ((mnL day (fun n => lookE n env) kids).getD 1 0)) := fun hl => by
    obtain ⟨p, hp, hc⟩ := kid (i := 0) (by omega)
    obtain ⟨p', hp', hc'⟩ := kid (i := 1) (by omega)
    rw [hp] at hp'
    cases hp'
    exact ⟨p, hp, hc, hc'⟩
  refine ifB_mk (fun h => ?_) (fun h6 => ?_)
  · have h := of_decide_eq_true h
    subst h
    have hl : kids.length = 2 := by
      have : kidsF 6 = 2 := rfl
      omega
    have hv : ((mnL day (fun n => lookE n env) kids).getD 0 0 ||| (mnL day (fun n => lookE n env) kids).getD 1 0) % dayN = V := hv
    obtain ⟨p, rfl, hc, hc'⟩ := two (H3 := H1) hl
    exact ⟨_, _, _, get g0 (j := 4) rfl, by omega, by omega, p, rfl, wordsOf _, wordsOf_length _, hc, _, _, _, get g0 (j := 4) rfl, by omega, by omega, p, rfl, wordsOf _, wordsOf_length _, hc', wordsOf _, wordsOf_length _, Union_is _ _ H1, fun H18 hx => out _ hx hv⟩
  have h6 := of_decide_eq_false h6
  refine ifB_mk (fun h => ?_) (fun h7 => ?_)
  · have h := of_decide_eq_true h
    subst h
    have hl : kids.length = 2 := by
      have : kidsF 7 = 2 := rfl
      omega
    have hv : diffN ((mnL day (fun n => lookE n env) kids).getD 0 0) ((mnL day (fun n => lookE n env) kids).getD 1 0) % dayN = V := hv
    obtain ⟨p, rfl, hc, hc'⟩ := two (H3 := H1) hl
    exact ⟨_, _, _, get g0 (j := 4) rfl, by omega, by omega, p, rfl, wordsOf _, wordsOf_length _, hc, _, _, _, get g0 (j := 4) rfl, by omega, by omega, p, rfl, wordsOf _, wordsOf_length _, hc', wordsOf _, wordsOf_length _, Diff_is _ _ H1, fun H18 hx => out _ hx hv⟩
  have h7 := of_decide_eq_false h7
  refine ifB_mk (fun h => ?_) (fun h8 => ?_)
  · have h := of_decide_eq_true h
    subst h
    have hl : kids.length = 2 := by
      have : kidsF 8 = 2 := rfl
      omega
    have hv : ((mnL day (fun n => lookE n env) kids).getD 0 0 &&& (mnL day (fun n => lookE n env) kids).getD 1 0) % dayN = V := hv
    obtain ⟨p, rfl, hc, hc'⟩ := two (H3 := H1) hl
    exact ⟨_, _, _, get g0 (j := 4) rfl, by omega, by omega, p, rfl, wordsOf _, wordsOf_length _, hc, _, _, _, get g0 (j := 4) rfl, by omega, by omega, p, rfl, wordsOf _, wordsOf_length _, hc', wordsOf _, wordsOf_length _, Both_is _ _ H1, fun H18 hx => out _ hx hv⟩
  have h8 := of_decide_eq_false h8
  refine ifB_mk (fun h => ?_) (fun h9 => ?_)
  · have h := of_decide_eq_true h
    subst h
    have hl : kids.length = 1 := by
      have : kidsF 9 = 1 := rfl
      omega
    have hv : (if a ≤ -1440 ∨ a ≥ 1440 then 0 else shiftN ((mnL day (fun n => lookE n env) kids).getD 0 0) a) = V := hv
    obtain ⟨p, rfl, hc⟩ := kid (i := 0) (by omega)
    exact ⟨_, _, _, get g0 (j := 4) rfl, by omega, by omega, p, rfl, wordsOf _, wordsOf_length _, hc, a, get g0 (j := 1) rfl, wordsOf _, wordsOf_length _, Shift_is _ a H1, fun H24 hx => out _ hx hv⟩
  have h9 := of_decide_eq_false h9
  refine ifB_mk (fun h => ?_) (fun h10 => ?_)
  · have h := of_decide_eq_true h
    subst h
    have hv : lookE n env = V := hv
    exact ⟨some mb, hdd1.mp, n, get g0 (j := 3) rfl, wordsOf _, wordsOf_length _, env_look hdd1.en n, out _ g0 hv⟩
  · have h10 := of_decide_eq_false h10
    refine outK ?_
    rw [← hv]
    simp only [comb, if_neg h2, if_neg h3, if_neg h4, if_neg h5, if_neg h6, if_neg h7, if_neg h8, if_neg h9, if_neg h10]
mutual
theorem mn_ex {day : Int} (hday : 0 ≤ day ∧ day < 146097) (env : Menv) : ∀ e : Ex, MnC day env e
  | .mk k a b n kids => mn_step hday (mn_kids hday env kids)
theorem mn_kids {day : Int} (hday : 0 ≤ day ∧ day < 146097) (env : Menv) : ∀ l : List Ex, ∀ e ∈ l, MnC day env e
  | [], e, h => by cases h
  | x :: r, e, h => by
    rcases List.mem_cons.1 h with h | h
    · rw [h]; exact mn_ex hday env x
    · exact mn_kids hday env r e h
end
end Go.Vc
set_option linter.unusedVariables false
set_option linter.unusedSimpArgs false
set_option maxRecDepth 100000
namespace Go.Vc
open Go.Proofs

/-! mean.All -/
mutual
theorem mn_congr {day : Int} {lk lk' : ByteArray → Nat} : ∀ e : Ex, (∀ n ∈ nmEx e, lk n = lk' n) → (okEx e) → mnEx day lk e = mnEx day lk' e
  | .mk k a b n kids, h, hok => by
    simp only [mnEx]
    simp only [okEx] at hok
    by_cases h10 : k = 10
    · subst h10
      have := h n (by simp [nmEx])
      show lk n = lk' n
      exact this
    · have hk := mn_congrL (day := day) kids (fun x hx => h x (by simp only [nmEx]; rw [if_neg h10]; exact hx)) hok.2.2.2.2
      rw [hk]
      simp only [comb, if_neg h10]
theorem mn_congrL {day : Int} {lk lk' : ByteArray → Nat} : ∀ l : List Ex, (∀ n ∈ nmKids l, lk n = lk' n) → okKids l → mnL day lk l = mnL day lk' l
  | [], h, hok => rfl
  | e :: r, h, hok => by
    simp only [mnL]
    simp only [okKids] at hok
    rw [mn_congr e (fun x hx => h x (by simp [nmKids, hx])) hok.1, mn_congrL r (fun x hx => h x (by simp [nmKids, hx])) hok.2]
end
theorem lookO_append (n : ByteArray) : ∀ (env x : Menv), lookO n (env ++ x) = (lookO n env).or (lookO n x)
  | [], x => by simp [lookO]
  | p :: r, x => by
    simp only [List.cons_append, lookO]
    split
    · rfl
    · exact lookO_append n r x
theorem lookO_dom {n : ByteArray} : ∀ {env : Menv}, n ∈ env.map (·.1) → ∃ v, lookO n env = some v
  | p :: r, h => by
    simp only [lookO]
    split
    · exact ⟨_, rfl⟩
    · rename_i h1
      rcases List.mem_cons.1 h with h | h
      · exact absurd h h1
      · exact lookO_dom h
theorem lookO_out {n : ByteArray} : ∀ {env : Menv}, n ∉ env.map (·.1) → lookO n env = none
  | [], h => rfl
  | p :: r, h => by
    simp only [List.map_cons, List.mem_cons, not_or] at h
    simp only [lookO]
    rw [if_neg h.1]
    exact lookO_out h.2
theorem lookE_keep {n : ByteArray} {env : Menv} (h : n ∈ env.map (·.1)) (x : Menv) : lookE n (env ++ x) = lookE n env := by
  obtain ⟨v, hv⟩ := lookO_dom h
  unfold lookE
  rw [lookO_append, hv]; rfl
/-- The rule at a place. -/
def ruAt (l : List Ru) (i : Nat) : Ru := l.getD i ⟨noT, .mk 0 0 0 noT []⟩
def envOf (l : List Ru) (st : List (Nat × Nat)) : Menv := st.map fun x => ((ruAt l x.1).name, x.2)
/-- Names stand once. -/
def Uniq (l : List Ru) : Prop := ∀ i j, i < l.length → j < l.length → (ruAt l i).name = (ruAt l j).name → i = j
theorem ruAt_some {l : List Ru} {i : Nat} (h : i < l.length) : l[i]? = some (ruAt l i) := by
  simp [ruAt, List.getD_eq_getElem?_getD, h]
theorem findF_at (n : ByteArray) : ∀ (l : List Ru) (i : Nat), findF n l i = -1 ∨ ∃ j, j < l.length ∧ findF n l i = ((i + j : Nat) : Int) ∧ (ruAt l j).name = n
  | [], i => .inl rfl
  | r :: rs, i => by
    simp only [findF]
    split
    · rename_i h
      exact .inr ⟨0, by simp, by simp, by simpa [ruAt] using h⟩
    · rcases findF_at n rs (i + 1) with h | ⟨j, h1, h2, h3⟩
      · exact .inl h
      · exact .inr ⟨j + 1, by simpa using h1, by rw [h2]; congr 1; omega, by simpa [ruAt] using h3⟩
theorem uniq_of {l : List Ru} (h : firstG (dupB l) l.length 0 = none) : Uniq l := by
  have key : ∀ i j, i < j → j < l.length → (ruAt l i).name ≠ (ruAt l j).name := fun i j hij hj e => by
    have h1 := firstG_none h j (Nat.zero_le _) (by omega)
    simp only [dupB, ruAt_some hj, decide_eq_false_iff_not] at h1
    have : ∀ (l : List Ru) (k i : Nat), i < l.length → findF (ruAt l i).name l k ≤ k + i := by
      intro l
      induction l with
      | nil => intro k i hi; simp at hi
      | cons r rs ih =>
        intro k i hi
        cases i with
        | zero => simp [findF, ruAt]
        | succ i =>
          have := ih (k + 1) i (by simpa using hi)
          have e : ruAt (r :: rs) (i + 1) = ruAt rs i := by simp [ruAt]
          rw [e]
          simp only [findF]
          split <;> omega
    have := this l 0 i (by omega)
    rw [e] at this
    have h2 := findF_range (ruAt l j).name l 0
    omega
  intro i j hi hj e
  rcases Nat.lt_trichotomy i j with h | h | h
  · exact absurd e (key i j h hj)
  · exact h
  · exact absurd e.symm (key j i h hi)
theorem dir_at {l : List Ru} {i : Nat} (hi : i < l.length) : (directF l).getD i [] = (nmEx (ruAt l i).e).map fun n => findF n l 0 := by
  rw [List.getD_eq_getElem?_getD, directF, List.getElem?_map, ruAt_some hi]; rfl
/-- What is reckoned so far is what rules mean, as far as is known; and knows all that it leans on. -/
def MInv (l : List Ru) (day : Int) (st : List (Nat × Nat)) : Prop := ∀ x ∈ st, x.1 < l.length ∧ x.2 = mnEx day (fun n => lookE n (envOf l st)) (ruAt l x.1).e ∧ ∀ n ∈ nmEx (ruAt l x.1).e, n ∈ (envOf l st).map (·.1)
theorem envOf_append (l : List Ru) (a b : List (Nat × Nat)) : envOf l (a ++ b) = envOf l a ++ envOf l b := by simp [envOf]
theorem MInv.snoc {l : List Ru} {day : Int} {st : List (Nat × Nat)} (hok : ∀ r ∈ l, okEx r.e) (h : MInv l day st) {i : Nat} (hi : i < l.length) (hn : ∀ n ∈ nmEx (ruAt l i).e, n ∈ (envOf l st).map (·.1)) : MInv l day (st ++ [(i, mnEx day (fun n => lookE n (envOf l st)) (ruAt l i).e)]) := by
  have hokA : ∀ j, j < l.length → okEx (ruAt l j).e := fun j hj => hok _ (List.mem_of_getElem? (ruAt_some hj))
  intro x hx
  rw [envOf_append]
  rcases List.mem_append.1 hx with hx | hx
  · obtain ⟨h1, h2, h3⟩ := h x hx
    refine ⟨h1, ?_, fun n hn => by rw [List.map_append]; exact List.mem_append_left _ (h3 n hn)⟩
    rw [h2]
    exact mn_congr _ (fun n hn => (lookE_keep (h3 n hn) _).symm) (hokA _ h1)
  · simp only [List.mem_singleton] at hx
    subst hx
    refine ⟨hi, ?_, fun n hn' => by rw [List.map_append]; exact List.mem_append_left _ (hn n hn')⟩
    exact mn_congr _ (fun n hn' => (lookE_keep (hn n hn') _).symm) (hokA _ hi)
def wordsV (v : Nat) : List Value := (wordsOf v).map (Value.int .u64)
def allErr (l : List Ru) (day : Int) : Int × Int := if (wrongC l).1 ≠ 0 then wrongC l else if day < 0 ∨ day ≥ 146097 then (3, 0) else (0, 0)
/-- What the masks of rules are, where there are any. -/
structure AllOk (l : List Ru) (day : Int) (ms : List Nat) : Prop where
  len : ms.length = l.length
  rng : 0 ≤ day ∧ day < 146097
  wr : (wrongC l).1 = 0
  eqn : ∀ i, i < l.length → ms.getD i 0 = mnEx day (fun n => ms.getD (findF n l 0).toNat 0) (ruAt l i).e
theorem find_env {l : List Ru} {n : ByteArray} {st : List (Nat × Nat)} (hu : Uniq l) (hst : ∀ x ∈ st, x.1 < l.length) (h : n ∈ (envOf l st).map (·.1)) : ∃ j v, findF n l 0 = ((j : Nat) : Int) ∧ j < l.length ∧ (ruAt l j).name = n ∧ (j, v) ∈ st ∧ lookE n (envOf l st) = v := by
  obtain ⟨v, hv⟩ := lookO_dom h
  have : ∀ (st : List (Nat × Nat)), (∀ x ∈ st, x.1 < l.length) → lookO n (envOf l st) = some v → ∃ j, (j, v) ∈ st ∧ j < l.length ∧ (ruAt l j).name = n := by
    intro st
    induction st with
    | nil => intro _ h; cases h
    | cons x r ih =>
      intro hst h
      simp only [envOf, List.map_cons, lookO] at h
      split at h
      · rename_i hn
        simp only [Option.some.injEq] at h
        exact ⟨x.1, by rw [← h]; simp, hst x (by simp), hn.symm⟩
      · obtain ⟨j, h1, h2, h3⟩ := ih (fun x hx => hst x (by simp [hx])) h
        exact ⟨j, by simp [h1], h2, h3⟩
  obtain ⟨j, h1, h2, h3⟩ := this st hst hv
  rcases findF_at n l 0 with h4 | ⟨j', h5, h6, h7⟩
  · exfalso
    have hne : ∀ (l : List Ru) (k i : Nat), i < l.length → findF (ruAt l i).name l k ≠ -1 := by
      intro l
      induction l with
      | nil => intro k i hi; simp at hi
      | cons r rs ih =>
        intro k i hi
        simp only [findF]
        split
        · omega
        · cases i with
          | zero => rename_i hne; simp [ruAt] at hne
          | succ i =>
            have e : ruAt (r :: rs) (i + 1) = ruAt rs i := by simp [ruAt]
            rw [e]
            exact ih (k + 1) i (by simpa using hi)
    have := hne l 0 j h2
    rw [h3] at this
    exact this h4
  · have : j' = j := hu j' j h5 h2 (by rw [h7, h3])
    subst this
    exact ⟨j', v, by rw [h6]; simp, h5, h7, h1, by unfold lookE; rw [hv]; rfl⟩
abbrev dayO (ad : Option Addr) (n c : Nat) (day : Int) (mb : Nat) : Obj := C [.slice ad n c, .int .i64 day, .map (some mb)] 61
set_option maxHeartbeats 2000000 in
theorem All_is {l : List Ru} {ad : Option Addr} {c : Nat} {H : Heap} (hl : RulesAt H ad l) (day : Int) : CallsH Try.prog 11 ⟨[.slice ad l.length c, .int .i64 day]⟩ H fun e H' => ∃ a c' ms, e = .returned (.tuple ⟨[.slice a ms.length c', faultV (allErr l day)]⟩) ∧ Ext0 H H' ∧ RowAt H' a 23 (ms.map wordsV) ∧ ((allErr l day).1 = 0 → AllOk l day ms) ∧ ((allErr l day).1 ≠ 0 → ms = []) ∧ ms.length ≤ c' := by
  generalize hA : allErr l day = A
  unfold allErr at hA
  apply mean_All_calls
  unfold mean_All
  have hS := St.start none0 H
  intro H1
  replace hS : St _ _ H1 _ := St.push hS _
  clear_value H1
  refine (Wrong_is (hl.grow hS.ext0)).call fun H2 hx2 => ⟨_, _, rfl, ?_⟩
  replace hS := hS.grow hx2
  intro H3
  replace hS : St _ _ H3 _ := St.push hS _
  clear_value H3
  refine ⟨St.may (k := 0) hS rfl rfl (by simp [newA, bA, add_off]), ?_⟩
  intro H4
  replace hS : St _ _ H4 _ := St.put (k := 0) hS rfl rfl _
  clear_value H4
  simp only [setN, splice, newA, bA, add_off, add_block, Nat.add_zero, Nat.zero_add, Nat.reduceAdd] at hS
  refine ⟨_, St.cell (k := 0) hS rfl rfl rfl, ?_⟩
  refine ifB_mk (fun h => ?_) (fun h => ?_)
  · have h : (wrongC l).1 ≠ 0 := by simpa using h
    rw [if_pos h] at hA
    subst hA
    refine ⟨_, _, St.atp (k := 0) hS rfl rfl rfl, ?_⟩
    refine ⟨St.may (k := 1) hS rfl rfl (by simp [newA, bA, add_off]), ?_⟩
    intro H5
    replace hS : St _ _ H5 _ := St.put (k := 1) hS rfl rfl _
    clear_value H5
    simp only [setN, splice, newA, bA, add_off, add_block, Nat.add_zero, Nat.zero_add, Nat.reduceAdd] at hS
    refine ⟨_, _, St.atp (k := 1) hS rfl rfl rfl, ?_⟩
    exact ⟨none, 0, [], rfl, hS.ext0, RowAt.nil, fun h0 => absurd h0 h, fun _ => rfl, Nat.le_refl _⟩
  have hw : (wrongC l).1 = 0 := by simpa using h
  clear h
  rw [if_neg (by simp [hw])] at hA
  replace hS : St none0 H H4 [(H.size, C [.int .i64 0, .int .i64 0] 39)] := hS.sub (List.Sublist.cons _ (List.Sublist.refl _))
  refine ifB_mk (fun h => ?_) (fun h => ?_)
  · have h : day < 0 ∨ day ≥ 146097 := by simpa using h
    rw [if_pos h] at hA
    subst hA
    refine ⟨St.may (k := 0) hS rfl rfl (by simp [newA, bA, add_off]), ?_⟩
    intro H6
    replace hS : St _ _ H6 _ := St.put (k := 0) hS rfl rfl _
    clear_value H6
    simp only [setN, splice, newA, bA, add_off, add_block, Nat.add_zero, Nat.zero_add, Nat.reduceAdd] at hS
    refine ⟨_, _, St.atp (k := 0) hS rfl rfl rfl, ?_⟩
    exact ⟨none, 0, [], rfl, hS.ext0, RowAt.nil, fun h0 => absurd h0 (by decide), fun _ => rfl, Nat.le_refl _⟩
  have hday : ¬ (day < 0 ∨ day ≥ 146097) := by simpa using h
  rw [if_neg hday] at hA
  subst hA
  have hday2 : 0 ≤ day ∧ day < 146097 := by omega
  clear h hday
  intro H7
  have hm7 : (H4.push (.map #[] 0))[H4.size]? = some (mapO (envV (envOf l []))) := by simp [envOf, envV, entG]
  replace hS : St _ _ H7 _ := St.push hS _
  clear_value H7
  intro H8
  replace hS : St _ _ H8 _ := St.push hS _
  clear_value H8
  obtain ⟨hdok, hac⟩ := wrongC_dir hw
  obtain ⟨hw1, hw2, hw3, hw4⟩ := wrongC_ok hw
  obtain ⟨hlen, hok⟩ := wrongP_ok hw1
  have hu := uniq_of hw2
  have hokr : ∀ r ∈ l, okEx r.e := fun r hr => (hok r hr).2.1
  have hdl := direct_len l
  refine (Order_is (hl.grow hS.ext0) hw).call (fun v H9 hr => ?_) (fun ch H6 hr5 => by obtain ⟨_, _, _, _, hr5, _⟩ := hr5; cases hr5) (fun H6 hr5 => by obtain ⟨_, _, _, _, hr5, _⟩ := hr5; cases hr5)
  obtain ⟨oa, oc, out, E, hv, hT, hints, hol, htopo⟩ := hr
  simp only [Ending.returned.injEq] at hv
  subst hv
  replace hS := hS.join hT
  clear hT
  simp only [List.cons_append, List.nil_append] at hS
  refine ⟨_, _, _, rfl, ?_⟩
  -- the rules in their order
  refine ⟨fun x H' => ∃ (p : Nat) (st : List (Nat × Nat)), x = p ∧ p ≤ l.length ∧ St none0 H H' ((H7.size, dayO ad l.length c day H4.size) :: (H4.size, mapO (envV (envOf l st))) :: (H.size, C [.int .i64 0, .int .i64 0] 39) :: E) ∧ MInv l day st ∧ out.take p = st.map (fun x => (x.1 : Int)),
    fun x _ => (l.length - x : Int).toNat, ⟨0, [], rfl, Nat.zero_le _, hS, (fun x hx => by cases hx), rfl⟩, ?_⟩
  clear hS
  rintro x H10 ⟨p, st, rfl, hp, hS, hinv, hst⟩
  have hDA : DayAt H10 (newA H7) day H4.size (envOf l st) := ⟨St.cell (k := 0) (a := (newA H7).add 1) hS rfl rfl rfl, St.cell (k := 0) (a := (newA H7).add 2) hS rfl rfl rfl, hS.obj (k := 1) rfl⟩
  have hOI := hints H10 (hS.held fun y hy => by simp [hy])
  refine ifB_mk (fun hc => ?_) (fun hc => ?_)
  · have hc : p < l.length := by simp at hc; omega
    have hop : out[p]? = some out[p] := by simp [hol, hc]
    obtain ⟨hr1, hr2, hr3⟩ := htopo p _ hop
    obtain ⟨i, hi⟩ : ∃ i : Nat, out[p] = (i : Int) := ⟨out[p].toNat, by omega⟩
    rw [hi] at hop hr1 hr2 hr3
    have hil : i < l.length := by omega
    obtain ⟨q, hq, hqc⟩ := hOI.cell hop
    subst hq
    have hli := ruAt_some hil
    obtain ⟨pl, cs, rfl, hat, hex⟩ := hl i _ hli
    have hat10 := hat.ext0 hS.ext0
    have hex10 := hex.grow hS.ext0
    rw [hst] at hr2 hr3
    rw [Int.toNat_natCast, dir_at hil] at hr3
    have hnames : ∀ n ∈ nmEx (ruAt l i).e, n ∈ (envOf l st).map (·.1) := fun n hn => by
      have h1 := hr3 (findF n l 0) (List.mem_map.2 ⟨n, hn, rfl⟩)
      obtain ⟨y, hy, hyn⟩ := List.mem_map.1 h1
      rcases findF_at n l 0 with h4 | ⟨j, h5, h6, h7⟩
      · omega
      · have : y.1 = j := by omega
        refine List.mem_map.2 ⟨((ruAt l y.1).name, y.2), List.mem_map.2 ⟨y, hy, rfl⟩, ?_⟩
        rw [this]; exact h7
    have hfresh : (ruAt l i).name ∉ (envOf l st).map (·.1) := fun hm => by
      obtain ⟨y, hy, hyn⟩ := List.mem_map.1 hm
      obtain ⟨z, hz, rfl⟩ := List.mem_map.1 hy
      have := hu z.1 i (hinv z hz).1 hil hyn
      exact hr2 (List.mem_map.2 ⟨z, hz, by rw [this]⟩)
    refine ⟨by omega, by omega, q, rfl, _, by rw [Int.toNat_natCast]; exact hqc, some H4.size, hDA.mp, by omega, by omega, pl, rfl, _, by rw [Int.toNat_natCast]; exact hat10.get (j := 0) rfl, by omega, by omega, pl, rfl, wordsOf (mnEx day (fun n => lookE n (envOf l st)) (ruAt l i).e), wordsOf_length _, ?_, ?_⟩
    · rw [Int.toNat_natCast]
      exact mn_ex hday2 (envOf l st) _ (hokr _ (List.mem_of_getElem? hli)) H10 (newA H7) _ cs H4.size hDA hat10.tail hex10
    intro H11 hx11
    replace hS := hS.grow hx11
    refine update_new (by kernel_rfl : Try.prog.underlying 59 = some (.map 9 31)) (by kernel_rfl : Try.prog.underlying 9 = some .string) trivial (hS.obj (k := 1) rfl) (by rw [findV_env, lookO_out hfresh]; rfl) ?_
    replace hS := St.setO (k := 1) (o' := mapO (envV (envOf l (st ++ [(i, mnEx day (fun n => lookE n (envOf l st)) (ruAt l i).e)])))) hS rfl
    simp only [setN] at hS
    have he : envV (envOf l (st ++ [(i, mnEx day (fun n => lookE n (envOf l st)) (ruAt l i).e)])) = envV (envOf l st) ++ [(.string (ruAt l i).name, .agg ⟨List.map (Value.int .u64) (wordsOf (mnEx day (fun n => lookE n (envOf l st)) (ruAt l i).e))⟩)] := by
      simp [envOf, envV, maskV]
    refine ⟨⟨p + 1, st ++ [(i, mnEx day (fun n => lookE n (envOf l st)) (ruAt l i).e)], by rw [i64_id (by omega) (by omega)]; omega, hc, by rw [← he]; exact hS, hinv.snoc hokr hil hnames, ?_⟩, ?_⟩
    · rw [List.take_succ_eq_append_getElem (by omega), hst, hi]; simp
    · show Int.toNat _ < Int.toNat _
      rw [i64_id (by omega) (by omega)]
      omega
  have hpl : p = l.length := by simp at hc; omega
  subst hpl
  rw [← hol, List.take_length] at hst
  -- what they are, rule by rule
  have hstl : ∀ x ∈ st, x.1 < l.length := fun x hx => (hinv x hx).1
  have hall : ∀ i, i < l.length → ∃ v, (i, v) ∈ st ∧ lookE (ruAt l i).name (envOf l st) = v ∧ findF (ruAt l i).name l 0 = i := fun i hi => by
    have hmem : (i : Int) ∈ out := by
      have hnd := htopo.nodup
      refine Classical.byContradiction fun hne => ?_
      have := nodup_lt (l := (i : Int) :: out) (n := l.length) (by rw [List.nodup_cons]; exact ⟨hne, hnd⟩) fun x hx => by
        rcases List.mem_cons.1 hx with rfl | hx
        · omega
        · have := htopo.in_ x hx; omega
      simp only [List.length_cons] at this
      omega
    rw [hst] at hmem
    obtain ⟨y, hy, hyi⟩ := List.mem_map.1 hmem
    have hy1 : y.1 = i := by omega
    have hdom : (ruAt l i).name ∈ (envOf l st).map (·.1) := List.mem_map.2 ⟨((ruAt l y.1).name, y.2), List.mem_map.2 ⟨y, hy, rfl⟩, by rw [hy1]⟩
    obtain ⟨j, v, h1, h2, h3, h4, h5⟩ := find_env hu hstl hdom
    have hji := hu j i h2 hi h3
    subst hji
    exact ⟨v, h4, h5, h1⟩
  have hmsl : ∀ i, i < l.length → ((List.range l.length).map fun i => lookE (ruAt l i).name (envOf l st)).getD i 0 = lookE (ruAt l i).name (envOf l st) := fun i hi => by
    simp [List.getD_eq_getElem?_getD, hi]
  have hAO : AllOk l day ((List.range l.length).map fun i => lookE (ruAt l i).name (envOf l st)) := by
    refine ⟨by simp, hday2, hw, fun i hi => ?_⟩
    rw [hmsl i hi]
    obtain ⟨v, h1, h2, h3⟩ := hall i hi
    obtain ⟨g1, g2, g3⟩ := hinv (i, v) h1
    rw [h2]
    simp only at g2 g3
    rw [g2]
    refine mn_congr _ (fun n hn => ?_) (hokr _ (List.mem_of_getElem? (ruAt_some hi)))
    obtain ⟨j, v', k1, k2, k3, k4, k5⟩ := find_env hu hstl (g3 n hn)
    rw [k1, Int.toNat_natCast, hmsl j k2, k3]
  generalize hms : (List.range l.length).map (fun i => lookE (ruAt l i).name (envOf l st)) = ms at hAO
  have hmslen := hAO.len
  refine ⟨fun ma mn mc x H' => ∃ (i : Nat) (E' : List (Nat × Obj)), x = i ∧ i ≤ l.length ∧ mn = i ∧ St none0 H H' (((H7.size, dayO ad l.length c day H4.size) :: (H4.size, mapO (envV (envOf l st))) :: (H.size, C [.int .i64 0, .int .i64 0] 39) :: []) ++ E') ∧ RowE E' ma mn mc 23 ((ms.take i).map wordsV).flatten 31,
    fun _ _ _ x _ => (l.length - x : Int).toNat, ⟨0, [], rfl, Nat.zero_le _, rfl, by rw [List.append_nil]; exact hS.sub (List.prefix_append [_, _, _] E).sublist, RowE.nil⟩, ?_⟩
  clear hS hDA hOI hc
  rintro ma mn mc x H13 ⟨i, E', rfl, hi, rfl, hS, hr⟩
  simp only [List.cons_append, List.nil_append] at hS
  refine ifB_mk (fun hc => ?_) (fun hc => ?_)
  rotate_left
  · have hi : mn = l.length := by simp at hc; omega
    rw [hi, ← hmslen, List.take_length] at hr
    refine ⟨St.may (k := 2) hS rfl rfl (by simp [newA, bA, add_off]), ?_⟩
    intro H18
    replace hS : St _ _ H18 _ := St.put (k := 2) hS rfl rfl _
    clear_value H18
    refine ⟨_, _, St.atp (k := 2) hS rfl rfl rfl, ?_⟩
    refine ⟨ma, mc, ms, by rw [hi, hmslen], hS.ext0, ?_, fun _ => hAO, fun h => absurd rfl h, by have := hr.p.cap; omega⟩
    refine RowE.row (L := [_, _, _]) hS hr (fun r hr => ?_) (by decide)
    obtain ⟨v, _, rfl⟩ := List.mem_map.1 hr
    simp [wordsV, wordsOf_length]
  have hc : mn < l.length := by simp at hc; omega
  have hli := ruAt_some hc
  obtain ⟨pl, cs, rfl, hat, hex⟩ := hl mn _ hli
  obtain ⟨ek, ea, eb, en, ead, elen, ecap, rfl⟩ := ruC_of hex
  refine ⟨by omega, by omega, pl, rfl, _, _, _, _, _, _, _, _, by rw [Int.toNat_natCast]; exact hat.ext0 hS.ext0, ?_⟩
  intro H14
  replace hS : St _ _ H14 _ := St.push hS _
  clear_value H14
  refine ⟨St.may (k := 0) hS rfl rfl (by simp [newA, bA, add_off]), ?_⟩
  intro H15
  replace hS : St _ _ H15 _ := St.put (k := 0) hS rfl rfl _
  clear_value H15
  simp only [setN, splice, newA, bA, add_off, add_block, Nat.add_zero, Nat.zero_add, Nat.reduceAdd] at hS
  have hmm : ms[mn]? = some (lookE (ruAt l mn).name (envOf l st)) := by rw [← hms]; simp [hc]
  refine ⟨some H4.size, St.cell (k := 1) hS rfl rfl rfl, (ruAt l mn).name, St.cell (k := 0) hS rfl rfl rfl, wordsOf (lookE (ruAt l mn).name (envOf l st)), wordsOf_length _, env_look (hS.obj (k := 2) rfl) _, okL_ints (wordsOf_length _) ?_⟩
  intro H16 hx16 b68 hf
  replace hS := hS.fresh hx16 hf
  refine append_row (L := [_, _, _, _, _]) (by kernel_rfl : appB Try.prog 36 31 23 184 = true) hS hr (St.atAll (k := 0) hS rfl rfl rfl) (by simp [wordsOf_length]) (plain_ints _ _) ?_ (by omega) (by omega) (by omega) ?_
  · intro v hv
    obtain ⟨r, hr, hv⟩ := List.mem_flatten.1 hv
    obtain ⟨y, _, rfl⟩ := List.mem_map.1 hr
    exact plain_ints _ _ v hv
  intro a' c' H17 E'' hS hr _
  refine ⟨_, _, _, rfl, ⟨mn + 1, E'', by rw [i64_id (by omega) (by omega)]; omega, hc, rfl, ?_, ?_⟩, ?_⟩
  · exact hS.sub ((List.Sublist.refl _).cons _ |>.cons _)
  · rw [List.take_add_one, hmm]
    simpa [wordsV] using hr
  · show Int.toNat _ < Int.toNat _
    rw [i64_id (by omega) (by omega)]
    omega
end Go.Vc
set_option linter.unusedVariables false
set_option maxRecDepth 100000
namespace Go.Vc
open Go.Proofs

/-! slotrules slotlaw6.MeanShift -/
def slotlaw6_MeanShift (l0a : Option Addr) (l0n : Nat) (l0c : Nat) (a1_0 : Int) (a1_1 : Int) (a1_2 : Int) (a1_3 : ByteArray) (a1_4a : Option Addr) (a1_4n : Nat) (a1_4c : Nat) (b2_0 : Int) (b2_1 : Int) (b2_2 : Int) (b2_3 : ByteArray) (b2_4a : Option Addr) (b2_4n : Nat) (b2_4c : Nat) (x3 : Int) (y4 : Int) (day5 : Int) (H : Heap) (R : Ending → Heap → Prop) : Prop :=
  let H1 : Heap := H.push (.cells ⟨[(.int .i64 a1_0), (.int .i64 a1_1), (.int .i64 a1_2), (.string a1_3), (.slice a1_4a a1_4n a1_4c)]⟩ 25)
  let H2 : Heap := H1.push (.cells ⟨[(.int .i64 b2_0), (.int .i64 b2_1), (.int .i64 b2_2), (.string b2_3), (.slice b2_4a b2_4n b2_4c)]⟩ 25)
  CallsH Try.prog 7 ⟨[]⟩ H2 (onCall (fun rx20 H3 => ∃ x20 : Bool, rx20 = (.bool x20) ∧ ifB (!x20)
  (R (.returned (.bool false)) H3)
  (ifB (((((decide (x3 < 1)) || (decide (y4 < 1))) || (decide ((IntKind.i64.wrap (x3 + y4)) ≥ 1440))) || (decide (x3 ≥ 1440))) || (decide (y4 ≥ 1440)))
  (R (.returned (.bool true)) H3)
  (let H4 : Heap := H3.push (.cells ⟨[(.int .i64 1), (.int .i64 (-1))]⟩ 3)
  ∃ (I7 : Int → Heap → Prop) (m7 : Int → Heap → Nat), I7 0 H4 ∧ ∀ (x44 : Int) (H5 : Heap), I7 x44 H5 → 
  ifB (decide (x44 < (2 : Int)))
  ((0 : Int) ≤ x44 ∧ x44 < (2 : Int) ∧ ∃ px46 : Addr, (some (newA H3)) = some px46 ∧ ∃ x47 : Int, cellH H5 (px46.add (Int.toNat x44 * 1)) = some (.int .i64 x47) ∧ ∃ x52_0 : Int, ∃ x52_1 : Int, ∃ x52_2 : Int, ∃ x52_3 : ByteArray, ∃ (x52_4a : Option Addr) (x52_4n x52_4c : Nat), At H5 (newA H) ([(.int .i64 x52_0), (.int .i64 x52_1), (.int .i64 x52_2), (.string x52_3), (.slice x52_4a x52_4n x52_4c)]) ∧ CallsH Try.prog 8 ⟨[(.agg ⟨[(.int .i64 x52_0), (.int .i64 x52_1), (.int .i64 x52_2), (.string x52_3), (.slice x52_4a x52_4n x52_4c)]⟩), (.int .i64 (IntKind.i64.wrap (x47 * x3)))]⟩ H5 (onCall (fun rx56 H6 => ∃ x56_0 : Int, ∃ x56_1 : Int, ∃ x56_2 : Int, ∃ x56_3 : ByteArray, ∃ (x56_4a : Option Addr) (x56_4n x56_4c : Nat), rx56 = (.agg ⟨[(.int .i64 x56_0), (.int .i64 x56_1), (.int .i64 x56_2), (.string x56_3), (.slice x56_4a x56_4n x56_4c)]⟩) ∧ CallsH Try.prog 8 ⟨[(.agg ⟨[(.int .i64 x56_0), (.int .i64 x56_1), (.int .i64 x56_2), (.string x56_3), (.slice x56_4a x56_4n x56_4c)]⟩), (.int .i64 (IntKind.i64.wrap (x47 * y4)))]⟩ H6 (onCall (fun rx60 H7 => ∃ x60_0 : Int, ∃ x60_1 : Int, ∃ x60_2 : Int, ∃ x60_3 : ByteArray, ∃ (x60_4a : Option Addr) (x60_4n x60_4c : Nat), rx60 = (.agg ⟨[(.int .i64 x60_0), (.int .i64 x60_1), (.int .i64 x60_2), (.string x60_3), (.slice x60_4a x60_4n x60_4c)]⟩) ∧ CallsH Try.prog 9 ⟨[(.slice l0a l0n l0c), (.agg ⟨[(.int .i64 x60_0), (.int .i64 x60_1), (.int .i64 x60_2), (.string x60_3), (.slice x60_4a x60_4n x60_4c)]⟩), (.int .i64 day5)]⟩ H7 (onCall (fun rx62 H8 => ∃ x62_0 : List Int, x62_0.length = 23 ∧ ∃ x62_1 : Bool, rx62 = (.tuple ⟨[(.agg ⟨(List.map (Value.int .u64) x62_0)⟩), (.bool x62_1)]⟩) ∧ let H9 : Heap := H8.push (.cells ⟨(List.map (Value.int .u64) (List.replicate 23 0))⟩ 31)
  okL (MayPut H9 (newA H8) 23 ∧ let H10 : Heap := putH H9 (newA H8) (List.map (Value.int .u64) x62_0)
  ∃ x68_0 : Int, ∃ x68_1 : Int, ∃ x68_2 : Int, ∃ x68_3 : ByteArray, ∃ (x68_4a : Option Addr) (x68_4n x68_4c : Nat), At H10 (newA H) ([(.int .i64 x68_0), (.int .i64 x68_1), (.int .i64 x68_2), (.string x68_3), (.slice x68_4a x68_4n x68_4c)]) ∧ CallsH Try.prog 8 ⟨[(.agg ⟨[(.int .i64 x68_0), (.int .i64 x68_1), (.int .i64 x68_2), (.string x68_3), (.slice x68_4a x68_4n x68_4c)]⟩), (.int .i64 (IntKind.i64.wrap (x47 * (IntKind.i64.wrap (x3 + y4)))))]⟩ H10 (onCall (fun rx74 H11 => ∃ x74_0 : Int, ∃ x74_1 : Int, ∃ x74_2 : Int, ∃ x74_3 : ByteArray, ∃ (x74_4a : Option Addr) (x74_4n x74_4c : Nat), rx74 = (.agg ⟨[(.int .i64 x74_0), (.int .i64 x74_1), (.int .i64 x74_2), (.string x74_3), (.slice x74_4a x74_4n x74_4c)]⟩) ∧ CallsH Try.prog 9 ⟨[(.slice l0a l0n l0c), (.agg ⟨[(.int .i64 x74_0), (.int .i64 x74_1), (.int .i64 x74_2), (.string x74_3), (.slice x74_4a x74_4n x74_4c)]⟩), (.int .i64 day5)]⟩ H11 (onCall (fun rx76 H12 => ∃ x76_0 : List Int, x76_0.length = 23 ∧ ∃ x76_1 : Bool, rx76 = (.tuple ⟨[(.agg ⟨(List.map (Value.int .u64) x76_0)⟩), (.bool x76_1)]⟩) ∧ let H13 : Heap := H12.push (.cells ⟨(List.map (Value.int .u64) (List.replicate 23 0))⟩ 31)
  okL (MayPut H13 (newA H12) 23 ∧ let H14 : Heap := putH H13 (newA H12) (List.map (Value.int .u64) x76_0)
  ∃ q87 : Bool, ifB (x62_1 && x76_1) (∃ x84 : List Int, x84.length = 23 ∧ At H14 (newA H8) (List.map (Value.int .u64) x84) ∧ ∃ x85 : List Int, x85.length = 23 ∧ At H14 (newA H12) (List.map (Value.int .u64) x85) ∧ ∃ x86 : Bool, EqV Try.prog .neq 31 (.agg ⟨(List.map (Value.int .u64) x84)⟩) (.agg ⟨(List.map (Value.int .u64) x85)⟩) x86 ∧ x86 = q87 ∧ H14 = H14) (false = q87) ∧ ifB q87
  (R (.returned (.bool false)) H14)
  (∃ x91_0 : Int, ∃ x91_1 : Int, ∃ x91_2 : Int, ∃ x91_3 : ByteArray, ∃ (x91_4a : Option Addr) (x91_4n x91_4c : Nat), At H14 (newA H) ([(.int .i64 x91_0), (.int .i64 x91_1), (.int .i64 x91_2), (.string x91_3), (.slice x91_4a x91_4n x91_4c)]) ∧ ∃ x92_0 : Int, ∃ x92_1 : Int, ∃ x92_2 : Int, ∃ x92_3 : ByteArray, ∃ (x92_4a : Option Addr) (x92_4n x92_4c : Nat), At H14 (newA H1) ([(.int .i64 x92_0), (.int .i64 x92_1), (.int .i64 x92_2), (.string x92_3), (.slice x92_4a x92_4n x92_4c)]) ∧ CallsH Try.prog 10 ⟨[(.int .i64 6), (.agg ⟨[(.int .i64 x91_0), (.int .i64 x91_1), (.int .i64 x91_2), (.string x91_3), (.slice x91_4a x91_4n x91_4c)]⟩), (.agg ⟨[(.int .i64 x92_0), (.int .i64 x92_1), (.int .i64 x92_2), (.string x92_3), (.slice x92_4a x92_4n x92_4c)]⟩)]⟩ H14 (onCall (fun rx93 H15 => ∃ x93_0 : Int, ∃ x93_1 : Int, ∃ x93_2 : Int, ∃ x93_3 : ByteArray, ∃ (x93_4a : Option Addr) (x93_4n x93_4c : Nat), rx93 = (.agg ⟨[(.int .i64 x93_0), (.int .i64 x93_1), (.int .i64 x93_2), (.string x93_3), (.slice x93_4a x93_4n x93_4c)]⟩) ∧ CallsH Try.prog 8 ⟨[(.agg ⟨[(.int .i64 x93_0), (.int .i64 x93_1), (.int .i64 x93_2), (.string x93_3), (.slice x93_4a x93_4n x93_4c)]⟩), (.int .i64 (IntKind.i64.wrap (x47 * x3)))]⟩ H15 (onCall (fun rx97 H16 => ∃ x97_0 : Int, ∃ x97_1 : Int, ∃ x97_2 : Int, ∃ x97_3 : ByteArray, ∃ (x97_4a : Option Addr) (x97_4n x97_4c : Nat), rx97 = (.agg ⟨[(.int .i64 x97_0), (.int .i64 x97_1), (.int .i64 x97_2), (.string x97_3), (.slice x97_4a x97_4n x97_4c)]⟩) ∧ CallsH Try.prog 9 ⟨[(.slice l0a l0n l0c), (.agg ⟨[(.int .i64 x97_0), (.int .i64 x97_1), (.int .i64 x97_2), (.string x97_3), (.slice x97_4a x97_4n x97_4c)]⟩), (.int .i64 day5)]⟩ H16 (onCall (fun rx99 H17 => ∃ x99_0 : List Int, x99_0.length = 23 ∧ ∃ x99_1 : Bool, rx99 = (.tuple ⟨[(.agg ⟨(List.map (Value.int .u64) x99_0)⟩), (.bool x99_1)]⟩) ∧ okL (MayPut H17 (newA H8) 23 ∧ let H18 : Heap := putH H17 (newA H8) (List.map (Value.int .u64) x99_0)
  ∃ x105_0 : Int, ∃ x105_1 : Int, ∃ x105_2 : Int, ∃ x105_3 : ByteArray, ∃ (x105_4a : Option Addr) (x105_4n x105_4c : Nat), At H18 (newA H) ([(.int .i64 x105_0), (.int .i64 x105_1), (.int .i64 x105_2), (.string x105_3), (.slice x105_4a x105_4n x105_4c)]) ∧ ∃ x111_0 : Int, ∃ x111_1 : Int, ∃ x111_2 : Int, ∃ x111_3 : ByteArray, ∃ (x111_4a : Option Addr) (x111_4n x111_4c : Nat), At H18 (newA H1) ([(.int .i64 x111_0), (.int .i64 x111_1), (.int .i64 x111_2), (.string x111_3), (.slice x111_4a x111_4n x111_4c)]) ∧ CallsH Try.prog 8 ⟨[(.agg ⟨[(.int .i64 x105_0), (.int .i64 x105_1), (.int .i64 x105_2), (.string x105_3), (.slice x105_4a x105_4n x105_4c)]⟩), (.int .i64 (IntKind.i64.wrap (x47 * x3)))]⟩ H18 (onCall (fun rx109 H19 => ∃ x109_0 : Int, ∃ x109_1 : Int, ∃ x109_2 : Int, ∃ x109_3 : ByteArray, ∃ (x109_4a : Option Addr) (x109_4n x109_4c : Nat), rx109 = (.agg ⟨[(.int .i64 x109_0), (.int .i64 x109_1), (.int .i64 x109_2), (.string x109_3), (.slice x109_4a x109_4n x109_4c)]⟩) ∧ (((.int .i64 day5) : Value) = (.int .i64 day5)) ∧ (((.int .i64 (IntKind.i64.wrap (x47 * x3))) : Value) = (.int .i64 (IntKind.i64.wrap (x47 * x3)))) ∧ (((.int .i64 x3) : Value) = (.int .i64 x3)) ∧ (((.int .i64 x47) : Value) = (.int .i64 x47)) ∧ (∃ x111r_0 : Int, ∃ x111r_1 : Int, ∃ x111r_2 : Int, ∃ x111r_3 : ByteArray, ∃ (x111r_4a : Option Addr) (x111r_4n x111r_4c : Nat), At H19 (newA H1) ([(.int .i64 x111r_0), (.int .i64 x111r_1), (.int .i64 x111r_2), (.string x111r_3), (.slice x111r_4a x111r_4n x111r_4c)]) ∧ ((.agg ⟨[(.int .i64 x111r_0), (.int .i64 x111r_1), (.int .i64 x111r_2), (.string x111r_3), (.slice x111r_4a x111r_4n x111r_4c)]⟩) : Value) = (.agg ⟨[(.int .i64 x111_0), (.int .i64 x111_1), (.int .i64 x111_2), (.string x111_3), (.slice x111_4a x111_4n x111_4c)]⟩)) ∧ (((.func (.func 8) #[] #[]) : Value) = (.func (.func 8) #[] #[])) ∧ (((.slice l0a l0n l0c) : Value) = (.slice l0a l0n l0c)) ∧ CallsH Try.prog 8 ⟨[(.agg ⟨[(.int .i64 x111_0), (.int .i64 x111_1), (.int .i64 x111_2), (.string x111_3), (.slice x111_4a x111_4n x111_4c)]⟩), (.int .i64 (IntKind.i64.wrap (x47 * x3)))]⟩ H19 (onCall (fun rx115 H20 => ∃ x115_0 : Int, ∃ x115_1 : Int, ∃ x115_2 : Int, ∃ x115_3 : ByteArray, ∃ (x115_4a : Option Addr) (x115_4n x115_4c : Nat), rx115 = (.agg ⟨[(.int .i64 x115_0), (.int .i64 x115_1), (.int .i64 x115_2), (.string x115_3), (.slice x115_4a x115_4n x115_4c)]⟩) ∧ (((.int .i64 day5) : Value) = (.int .i64 day5)) ∧ (((.slice l0a l0n l0c) : Value) = (.slice l0a l0n l0c)) ∧ CallsH Try.prog 10 ⟨[(.int .i64 6), (.agg ⟨[(.int .i64 x109_0), (.int .i64 x109_1), (.int .i64 x109_2), (.string x109_3), (.slice x109_4a x109_4n x109_4c)]⟩), (.agg ⟨[(.int .i64 x115_0), (.int .i64 x115_1), (.int .i64 x115_2), (.string x115_3), (.slice x115_4a x115_4n x115_4c)]⟩)]⟩ H20 (onCall (fun rx116 H21 => ∃ x116_0 : Int, ∃ x116_1 : Int, ∃ x116_2 : Int, ∃ x116_3 : ByteArray, ∃ (x116_4a : Option Addr) (x116_4n x116_4c : Nat), rx116 = (.agg ⟨[(.int .i64 x116_0), (.int .i64 x116_1), (.int .i64 x116_2), (.string x116_3), (.slice x116_4a x116_4n x116_4c)]⟩) ∧ (((.int .i64 day5) : Value) = (.int .i64 day5)) ∧ (((.slice l0a l0n l0c) : Value) = (.slice l0a l0n l0c)) ∧ CallsH Try.prog 9 ⟨[(.slice l0a l0n l0c), (.agg ⟨[(.int .i64 x116_0), (.int .i64 x116_1), (.int .i64 x116_2), (.string x116_3), (.slice x116_4a x116_4n x116_4c)]⟩), (.int .i64 day5)]⟩ H21 (onCall (fun rx118 H22 => ∃ x118_0 : List Int, x118_0.length = 23 ∧ ∃ x118_1 : Bool, rx118 = (.tuple ⟨[(.agg ⟨(List.map (Value.int .u64) x118_0)⟩), (.bool x118_1)]⟩) ∧ okL (MayPut H22 (newA H12) 23 ∧ let H23 : Heap := putH H22 (newA H12) (List.map (Value.int .u64) x118_0)
  (((.bool x118_1) : Value) = (.bool x118_1)) ∧ ∃ q129 : Bool, ifB (x99_1 && x118_1) (∃ x126 : List Int, x126.length = 23 ∧ At H23 (newA H8) (List.map (Value.int .u64) x126) ∧ ∃ x127 : List Int, x127.length = 23 ∧ At H23 (newA H12) (List.map (Value.int .u64) x127) ∧ ∃ x128 : Bool, EqV Try.prog .neq 31 (.agg ⟨(List.map (Value.int .u64) x126)⟩) (.agg ⟨(List.map (Value.int .u64) x127)⟩) x128 ∧ x128 = q129 ∧ H23 = H23) (false = q129) ∧ ifB q129
  (R (.returned (.bool false)) H23)
  ((I7 (IntKind.i64.wrap (x44 + 1)) H23 ∧ m7 (IntKind.i64.wrap (x44 + 1)) H23 < m7 x44 H5))) (List.map (Value.int .u64) x118_0) 23) (fun ch H24 => R (.panicked ch) H24))) (fun ch H25 => R (.panicked ch) H25))) (fun ch H26 => R (.panicked ch) H26))) (fun ch H27 => R (.panicked ch) H27))) (List.map (Value.int .u64) x99_0) 23) (fun ch H28 => R (.panicked ch) H28))) (fun ch H29 => R (.panicked ch) H29))) (fun ch H30 => R (.panicked ch) H30)))) (List.map (Value.int .u64) x76_0) 23) (fun ch H31 => R (.panicked ch) H31))) (fun ch H32 => R (.panicked ch) H32))) (List.map (Value.int .u64) x62_0) 23) (fun ch H33 => R (.panicked ch) H33))) (fun ch H34 => R (.panicked ch) H34))) (fun ch H35 => R (.panicked ch) H35)))
  (R (.returned (.bool true)) H5)))) (fun ch H36 => R (.panicked ch) H36))
def slotlaw6_MeanShift_ann : Ann := ⟨lookN (false, 0) [(14, false, 20)], lookN [] [(14, [.s 0, .s 1, .s 2, .s 3, .s 4, .s 5, .s 7, .s 8, .s 9, .s 10, .s 11, .s 14, .e 6, .e 12, .e 13, .e 15, .s 16, .s 17, .s 18, .e 19])], lookN [] [(7, [(44, .int .i64)])]⟩
theorem slotlaw6_MeanShift_den (l0a : Option Addr) (l0n : Nat) (l0c : Nat) (a1_0 : Int) (a1_1 : Int) (a1_2 : Int) (a1_3 : ByteArray) (a1_4a : Option Addr) (a1_4n : Nat) (a1_4c : Nat) (b2_0 : Int) (b2_1 : Int) (b2_2 : Int) (b2_3 : ByteArray) (b2_4a : Option Addr) (b2_4n : Nat) (b2_4c : Nat) (x3 : Int) (y4 : Int) (day5 : Int) (H : Heap) (R : Ending → Heap → Prop) : denF Try.prog Try.f3 slotlaw6_MeanShift_ann [(.slice l0a l0n l0c), (.agg ⟨[(.int .i64 a1_0), (.int .i64 a1_1), (.int .i64 a1_2), (.string a1_3), (.slice a1_4a a1_4n a1_4c)]⟩), (.agg ⟨[(.int .i64 b2_0), (.int .i64 b2_1), (.int .i64 b2_2), (.string b2_3), (.slice b2_4a b2_4n b2_4c)]⟩), (.int .i64 x3), (.int .i64 y4), (.int .i64 day5)] H R = slotlaw6_MeanShift l0a l0n l0c a1_0 a1_1 a1_2 a1_3 a1_4a a1_4n a1_4c b2_0 b2_1 b2_2 b2_3 b2_4a b2_4n b2_4c x3 y4 day5 H R := by kernel_rfl
theorem slotlaw6_MeanShift_calls (l0a : Option Addr) (l0n : Nat) (l0c : Nat) (a1_0 : Int) (a1_1 : Int) (a1_2 : Int) (a1_3 : ByteArray) (a1_4a : Option Addr) (a1_4n : Nat) (a1_4c : Nat) (b2_0 : Int) (b2_1 : Int) (b2_2 : Int) (b2_3 : ByteArray) (b2_4a : Option Addr) (b2_4n : Nat) (b2_4c : Nat) (x3 : Int) (y4 : Int) (day5 : Int) {H : Heap} {R : Ending → Heap → Prop} (h : slotlaw6_MeanShift l0a l0n l0c a1_0 a1_1 a1_2 a1_3 a1_4a a1_4n a1_4c b2_0 b2_1 b2_2 b2_3 b2_4a b2_4n b2_4c x3 y4 day5 H R) : CallsH Try.prog 3 ⟨[(.slice l0a l0n l0c), (.agg ⟨[(.int .i64 a1_0), (.int .i64 a1_1), (.int .i64 a1_2), (.string a1_3), (.slice a1_4a a1_4n a1_4c)]⟩), (.agg ⟨[(.int .i64 b2_0), (.int .i64 b2_1), (.int .i64 b2_2), (.string b2_3), (.slice b2_4a b2_4n b2_4c)]⟩), (.int .i64 x3), (.int .i64 y4), (.int .i64 day5)]⟩ H R :=
  callsH_of namesOk mixedOk Try.func3 (ann := slotlaw6_MeanShift_ann) (by rw [slotlaw6_MeanShift_den]; exact h)

/-! slotrules slotlaw6.MeanMore -/
def slotlaw6_MeanMore (l0a : Option Addr) (l0n : Nat) (l0c : Nat) (name1 : ByteArray) (e2_0 : Int) (e2_1 : Int) (e2_2 : Int) (e2_3 : ByteArray) (e2_4a : Option Addr) (e2_4n : Nat) (e2_4c : Nat) (day3 : Int) (H : Heap) (R : Ending → Heap → Prop) : Prop :=
  let H1 : Heap := H.push (.cells ⟨[(.int .i64 e2_0), (.int .i64 e2_1), (.int .i64 e2_2), (.string e2_3), (.slice e2_4a e2_4n e2_4c)]⟩ 25)
  CallsH Try.prog 7 ⟨[]⟩ H1 (onCall (fun rx13 H2 => ∃ x13 : Bool, rx13 = (.bool x13) ∧ ifB (!x13)
  (R (.returned (.bool false)) H2)
  (CallsH Try.prog 11 ⟨[(.slice l0a l0n l0c), (.int .i64 day3)]⟩ H2 (onCall (fun rx18 H3 => ∃ (x18_0a : Option Addr) (x18_0n x18_0c : Nat), ∃ x18_1_0 : Int, ∃ x18_1_1 : Int, rx18 = (.tuple ⟨[(.slice x18_0a x18_0n x18_0c), (.agg ⟨[(.int .i64 x18_1_0), (.int .i64 x18_1_1)]⟩)]⟩) ∧ let H4 : Heap := H3.push (.cells ⟨[(.int .i64 0), (.int .i64 0)]⟩ 39)
  MayPut H4 (newA H3) 2 ∧ let H5 : Heap := putH H4 (newA H3) ([(.int .i64 x18_1_0), (.int .i64 x18_1_1)])
  ∃ x26_0 : Int, ∃ x26_1 : Int, ∃ x26_2 : Int, ∃ x26_3 : ByteArray, ∃ (x26_4a : Option Addr) (x26_4n x26_4c : Nat), At H5 (newA H) ([(.int .i64 x26_0), (.int .i64 x26_1), (.int .i64 x26_2), (.string x26_3), (.slice x26_4a x26_4n x26_4c)]) ∧ ∀ H6 : Heap, Ext0 H5 H6 → ∀ b22 : Nat, Fresh [] [] H5 H6 b22 ([]) 43 → ∀ H7 : Heap, Ext0 H6 H7 → RunD Try.prog (Builtin.append_ #[22, 22] 22 ⟨[(.slice (some (bA b22)) 0 0), (.slice l0a l0n l0c)]⟩) H7 (fun rx24 H8 => ∃ (x24a : Option Addr) (x24n x24c : Nat), rx24 = (.slice x24a x24n x24c) ∧ Keep [] H5 H7 H8 ∧ (((.int .i64 day3) : Value) = (.int .i64 day3)) ∧ (((.agg ⟨[(.string name1), (.int .i64 x26_0), (.int .i64 x26_1), (.int .i64 x26_2), (.string x26_3), (.slice x26_4a x26_4n x26_4c)]⟩) : Value) = (.agg ⟨[(.string name1), (.int .i64 x26_0), (.int .i64 x26_1), (.int .i64 x26_2), (.string x26_3), (.slice x26_4a x26_4n x26_4c)]⟩)) ∧ (∃ x26r_0 : Int, ∃ x26r_1 : Int, ∃ x26r_2 : Int, ∃ x26r_3 : ByteArray, ∃ (x26r_4a : Option Addr) (x26r_4n x26r_4c : Nat), At H8 (newA H) ([(.int .i64 x26r_0), (.int .i64 x26r_1), (.int .i64 x26r_2), (.string x26r_3), (.slice x26r_4a x26r_4n x26r_4c)]) ∧ ((.agg ⟨[(.int .i64 x26r_0), (.int .i64 x26r_1), (.int .i64 x26r_2), (.string x26r_3), (.slice x26r_4a x26r_4n x26r_4c)]⟩) : Value) = (.agg ⟨[(.int .i64 x26_0), (.int .i64 x26_1), (.int .i64 x26_2), (.string x26_3), (.slice x26_4a x26_4n x26_4c)]⟩)) ∧ (((.string name1) : Value) = (.string name1)) ∧ ∀ H9 : Heap, Ext0 H8 H9 → ∀ b28 : Nat, Fresh [(H7.size, H8.size)] [b22] H5 H9 b28 ([(.string name1), (.int .i64 x26_0), (.int .i64 x26_1), (.int .i64 x26_2), (.string x26_3), (.slice x26_4a x26_4n x26_4c)]) 43 → ∀ H10 : Heap, Ext0 H9 H10 → RunD Try.prog (Builtin.append_ #[22, 22] 22 ⟨[(.slice x24a x24n x24c), (.slice (some (bA b28)) 1 1)]⟩) H10 (fun rx29 H11 => ∃ (x29a : Option Addr) (x29n x29c : Nat), rx29 = (.slice x29a x29n x29c) ∧ Keep [(H7.size, H8.size)] H5 H10 H11 ∧ (((.int .i64 day3) : Value) = (.int .i64 day3)) ∧ ∀ H12 : Heap, Ext0 H11 H12 → CallsH Try.prog 11 ⟨[(.slice x29a x29n x29c), (.int .i64 day3)]⟩ H12 (onCall (fun rx31 H13 => ∃ (x31_0a : Option Addr) (x31_0n x31_0c : Nat), ∃ x31_1_0 : Int, ∃ x31_1_1 : Int, rx31 = (.tuple ⟨[(.slice x31_0a x31_0n x31_0c), (.agg ⟨[(.int .i64 x31_1_0), (.int .i64 x31_1_1)]⟩)]⟩) ∧ Keep [(H10.size, H11.size), (H7.size, H8.size)] H5 H12 H13 ∧ ∀ H14 : Heap, Ext0 H13 H14 → ∀ b12 : Nat, Fresh [(H12.size, H13.size), (H10.size, H11.size), (H7.size, H8.size)] [b28, b22] H5 H14 b12 ([(.int .i64 0), (.int .i64 0)]) 39 → MayPut H14 (bA b12) 2 ∧ let H15 : Heap := putH H14 (bA b12) ([(.int .i64 x31_1_0), (.int .i64 x31_1_1)])
  ∃ x35 : Int, cellH H15 ((newA H3).add 0) = some (.int .i64 x35) ∧ ∃ q41 : Bool, ifB (x35 != 0) (true = q41) (∃ x39 : Int, cellH H15 ((bA b12).add 0) = some (.int .i64 x39) ∧ (x39 != 0) = q41 ∧ H15 = H15) ∧ ifB q41
  (R (.returned (.bool true)) H15)
  (∃ J55 : Bool → Heap → Prop, ifB ((x31_0n : Int) == (IntKind.i64.wrap ((x18_0n : Int) + 1))) ((0 : Int) ≤ (x18_0n : Int) ∧ ((x18_0n : Int) : Int) ≤ (x31_0c : Int) ∧ CallsH Try.prog 12 ⟨[(.slice x18_0a x18_0n x18_0c), (.slice x31_0a (Int.toNat (x18_0n : Int)) x31_0c)]⟩ H15 (onCall (fun rx54 H17 => ∃ x54 : Bool, rx54 = (.bool x54) ∧ J55 x54 H17) (fun ch H18 => R (.panicked ch) H18))) (J55 false H15) ∧ ∀ (q55 : Bool) (H16 : Heap), J55 q55 H16 → R (.returned (.bool q55)) H16)) (fun ch H19 => R (.panicked ch) H19))))) (fun ch H20 => R (.panicked ch) H20)))) (fun ch H21 => R (.panicked ch) H21))
def slotlaw6_MeanMore_ann : Ann := ⟨lookN (false, 0) [(4, false, 15)], lookN [] [(4, [.p 0, .s 1, .s 3, .s 4, .s 5, .p 6, .s 8, .p 13, .t 0, .e 2, .t 6, .e 7, .e 9, .s 10, .s 11, .s 12, .t 13, .s 14])], lookN [] []⟩
theorem slotlaw6_MeanMore_den (l0a : Option Addr) (l0n : Nat) (l0c : Nat) (name1 : ByteArray) (e2_0 : Int) (e2_1 : Int) (e2_2 : Int) (e2_3 : ByteArray) (e2_4a : Option Addr) (e2_4n : Nat) (e2_4c : Nat) (day3 : Int) (H : Heap) (R : Ending → Heap → Prop) : denF Try.prog Try.f4 slotlaw6_MeanMore_ann [(.slice l0a l0n l0c), (.string name1), (.agg ⟨[(.int .i64 e2_0), (.int .i64 e2_1), (.int .i64 e2_2), (.string e2_3), (.slice e2_4a e2_4n e2_4c)]⟩), (.int .i64 day3)] H R = slotlaw6_MeanMore l0a l0n l0c name1 e2_0 e2_1 e2_2 e2_3 e2_4a e2_4n e2_4c day3 H R := by kernel_rfl
theorem slotlaw6_MeanMore_calls (l0a : Option Addr) (l0n : Nat) (l0c : Nat) (name1 : ByteArray) (e2_0 : Int) (e2_1 : Int) (e2_2 : Int) (e2_3 : ByteArray) (e2_4a : Option Addr) (e2_4n : Nat) (e2_4c : Nat) (day3 : Int) {H : Heap} {R : Ending → Heap → Prop} (h : slotlaw6_MeanMore l0a l0n l0c name1 e2_0 e2_1 e2_2 e2_3 e2_4a e2_4n e2_4c day3 H R) : CallsH Try.prog 4 ⟨[(.slice l0a l0n l0c), (.string name1), (.agg ⟨[(.int .i64 e2_0), (.int .i64 e2_1), (.int .i64 e2_2), (.string e2_3), (.slice e2_4a e2_4n e2_4c)]⟩), (.int .i64 day3)]⟩ H R :=
  callsH_of namesOk mixedOk Try.func4 (ann := slotlaw6_MeanMore_ann) (by rw [slotlaw6_MeanMore_den]; exact h)

/-! slotrules slotlaw6.alive -/
def slotlaw6_alive (H : Heap) (R : Ending → Heap → Prop) : Prop :=
  CallsH Try.prog 19 ⟨[(.string (⟨#[114, 117, 108, 101, 32, 97, 32, 61, 32, 119, 101, 101, 107, 108, 121, 32, 115, 97, 116, 58, 32, 48, 57, 58, 48, 48, 45, 49, 48, 58, 48, 48, 59, 32, 114, 117, 108, 101, 32, 98, 32, 61, 32, 97, 32, 115, 104, 105, 102, 116, 32, 54, 48, 59]⟩ : ByteArray))]⟩ H (onCall (fun rx4 H1 => ∃ (x4a : Option Addr) (x4n x4c : Nat), rx4 = (.slice x4a x4n x4c) ∧ CallsH Try.prog 11 ⟨[(.slice x4a x4n x4c), (.int .i64 0)]⟩ H1 (onCall (fun rx5 H2 => ∃ (x5_0a : Option Addr) (x5_0n x5_0c : Nat), ∃ x5_1_0 : Int, ∃ x5_1_1 : Int, rx5 = (.tuple ⟨[(.slice x5_0a x5_0n x5_0c), (.agg ⟨[(.int .i64 x5_1_0), (.int .i64 x5_1_1)]⟩)]⟩) ∧ let H3 : Heap := H2.push (.cells ⟨[(.int .i64 0), (.int .i64 0)]⟩ 39)
  MayPut H3 (newA H2) 2 ∧ let H4 : Heap := putH H3 (newA H2) ([(.int .i64 x5_1_0), (.int .i64 x5_1_1)])
  ∃ x9 : Int, cellH H4 ((newA H2).add 0) = some (.int .i64 x9) ∧ ∃ J22 : Bool → Heap → Prop, ifB ((x9 == 0) && ((x5_0n : Int) == 2)) ((0 : Int) ≤ 0 ∧ 0 < (x5_0n : Int) ∧ ∃ px18 : Addr, x5_0a = some px18 ∧ ∃ x19 : List Int, x19.length = 23 ∧ At H4 (px18.add (Int.toNat 0 * 23)) (List.map (Value.int .u64) x19) ∧ CallsH Try.prog 20 ⟨[(.agg ⟨(List.map (Value.int .u64) x19)⟩)]⟩ H4 (onCall (fun rx20 H6 => ∃ x20 : Int, rx20 = (.int .i64 x20) ∧ J22 (x20 == 60) H6) (fun ch H7 => R (.panicked ch) H7))) (J22 false H4) ∧ ∀ (q22 : Bool) (H5 : Heap), J22 q22 H5 → ∃ J29 : Bool → Heap → Prop, ifB q22 ((0 : Int) ≤ 1 ∧ 1 < (x5_0n : Int) ∧ ∃ px25 : Addr, x5_0a = some px25 ∧ ∃ x26 : List Int, x26.length = 23 ∧ At H5 (px25.add (Int.toNat 1 * 23)) (List.map (Value.int .u64) x26) ∧ CallsH Try.prog 21 ⟨[(.agg ⟨(List.map (Value.int .u64) x26)⟩), (.agg ⟨[(.int .i64 600), (.int .i64 660)]⟩)]⟩ H5 (onCall (fun rx28 H9 => ∃ x28 : Bool, rx28 = (.bool x28) ∧ J29 x28 H9) (fun ch H10 => R (.panicked ch) H10))) (J29 false H5) ∧ ∀ (q29 : Bool) (H8 : Heap), J29 q29 H8 → R (.returned (.bool q29)) H8) (fun ch H11 => R (.panicked ch) H11))) (fun ch H12 => R (.panicked ch) H12))
def slotlaw6_alive_ann : Ann := ⟨lookN (false, 0) [], lookN [] [], lookN [] []⟩
theorem slotlaw6_alive_den (H : Heap) (R : Ending → Heap → Prop) : denF Try.prog Try.f7 slotlaw6_alive_ann [] H R = slotlaw6_alive  H R := by kernel_rfl
theorem slotlaw6_alive_calls {H : Heap} {R : Ending → Heap → Prop} (h : slotlaw6_alive  H R) : CallsH Try.prog 7 ⟨[]⟩ H R :=
  callsH_of namesOk mixedOk Try.func7 (ann := slotlaw6_alive_ann) (by rw [slotlaw6_alive_den]; exact h)

/-! slotrules slotlaw6.MeanShift$1 -/
def slotlaw6_MeanShift_c1 (e0_0 : Int) (e0_1 : Int) (e0_2 : Int) (e0_3 : ByteArray) (e0_4a : Option Addr) (e0_4n : Nat) (e0_4c : Nat) (n1 : Int) (H : Heap) (R : Ending → Heap → Prop) : Prop :=
  let H1 : Heap := H.push (.cells ⟨[(.int .i64 e0_0), (.int .i64 e0_1), (.int .i64 e0_2), (.string e0_3), (.slice e0_4a e0_4n e0_4c)]⟩ 25)
  let H2 : Heap := H1.push (.cells ⟨[(.int .i64 0), (.int .i64 0), (.int .i64 0), (.string (⟨#[]⟩ : ByteArray)), (.slice none 0 0)]⟩ 25)
  ∃ x6_0 : Int, ∃ x6_1 : Int, ∃ x6_2 : Int, ∃ x6_3 : ByteArray, ∃ (x6_4a : Option Addr) (x6_4n x6_4c : Nat), At H2 (newA H) ([(.int .i64 x6_0), (.int .i64 x6_1), (.int .i64 x6_2), (.string x6_3), (.slice x6_4a x6_4n x6_4c)]) ∧ let H3 : Heap := H2.push (.cells ⟨[(.int .i64 x6_0), (.int .i64 x6_1), (.int .i64 x6_2), (.string x6_3), (.slice x6_4a x6_4n x6_4c)]⟩ 25)
  MayPut H3 (newA H1) 5 ∧ let H4 : Heap := putH H3 (newA H1) ([(.int .i64 9), (.int .i64 n1), (.int .i64 0), (.string (⟨#[]⟩ : ByteArray)), (.slice (some (newA H2)) 1 1)])
  ∃ o4_0 : Int, ∃ o4_1 : Int, ∃ o4_2 : Int, ∃ o4_3 : ByteArray, ∃ (o4_4a : Option Addr) (o4_4n o4_4c : Nat), At H4 (newA H1) ([(.int .i64 o4_0), (.int .i64 o4_1), (.int .i64 o4_2), (.string o4_3), (.slice o4_4a o4_4n o4_4c)]) ∧ R (.returned (.agg ⟨[(.int .i64 o4_0), (.int .i64 o4_1), (.int .i64 o4_2), (.string o4_3), (.slice o4_4a o4_4n o4_4c)]⟩)) H4
def slotlaw6_MeanShift_c1_ann : Ann := ⟨lookN (false, 0) [], lookN [] [], lookN [] []⟩
theorem slotlaw6_MeanShift_c1_den (e0_0 : Int) (e0_1 : Int) (e0_2 : Int) (e0_3 : ByteArray) (e0_4a : Option Addr) (e0_4n : Nat) (e0_4c : Nat) (n1 : Int) (H : Heap) (R : Ending → Heap → Prop) : denF Try.prog Try.f8 slotlaw6_MeanShift_c1_ann [(.agg ⟨[(.int .i64 e0_0), (.int .i64 e0_1), (.int .i64 e0_2), (.string e0_3), (.slice e0_4a e0_4n e0_4c)]⟩), (.int .i64 n1)] H R = slotlaw6_MeanShift_c1 e0_0 e0_1 e0_2 e0_3 e0_4a e0_4n e0_4c n1 H R := by kernel_rfl
theorem slotlaw6_MeanShift_c1_calls (e0_0 : Int) (e0_1 : Int) (e0_2 : Int) (e0_3 : ByteArray) (e0_4a : Option Addr) (e0_4n : Nat) (e0_4c : Nat) (n1 : Int) {H : Heap} {R : Ending → Heap → Prop} (h : slotlaw6_MeanShift_c1 e0_0 e0_1 e0_2 e0_3 e0_4a e0_4n e0_4c n1 H R) : CallsH Try.prog 8 ⟨[(.agg ⟨[(.int .i64 e0_0), (.int .i64 e0_1), (.int .i64 e0_2), (.string e0_3), (.slice e0_4a e0_4n e0_4c)]⟩), (.int .i64 n1)]⟩ H R :=
  callsH_of namesOk mixedOk Try.func8 (ann := slotlaw6_MeanShift_c1_ann) (by rw [slotlaw6_MeanShift_c1_den]; exact h)

/-! slotrules slotlaw6.of -/
def slotlaw6_of (l0a : Option Addr) (l0n : Nat) (l0c : Nat) (e1_0 : Int) (e1_1 : Int) (e1_2 : Int) (e1_3 : ByteArray) (e1_4a : Option Addr) (e1_4n : Nat) (e1_4c : Nat) (day2 : Int) (H : Heap) (R : Ending → Heap → Prop) : Prop :=
  let H1 : Heap := H.push (.cells ⟨[(.int .i64 e1_0), (.int .i64 e1_1), (.int .i64 e1_2), (.string e1_3), (.slice e1_4a e1_4n e1_4c)]⟩ 25)
  let H2 : Heap := H1.push (.cells ⟨(List.map (Value.int .u64) (List.replicate 23 0))⟩ 31)
  ∃ x14_0 : Int, ∃ x14_1 : Int, ∃ x14_2 : Int, ∃ x14_3 : ByteArray, ∃ (x14_4a : Option Addr) (x14_4n x14_4c : Nat), At H2 (newA H) ([(.int .i64 x14_0), (.int .i64 x14_1), (.int .i64 x14_2), (.string x14_3), (.slice x14_4a x14_4n x14_4c)]) ∧ ∀ H3 : Heap, Ext0 H2 H3 → ∀ b11 : Nat, Fresh [] [] H2 H3 b11 ([]) 43 → ∀ H4 : Heap, Ext0 H3 H4 → RunD Try.prog (Builtin.append_ #[22, 22] 22 ⟨[(.slice (some (bA b11)) 0 0), (.slice l0a l0n l0c)]⟩) H4 (fun rx13 H5 => ∃ (x13a : Option Addr) (x13n x13c : Nat), rx13 = (.slice x13a x13n x13c) ∧ Keep [] H2 H4 H5 ∧ (((.int .i64 day2) : Value) = (.int .i64 day2)) ∧ (((.agg ⟨[(.string (⟨#[122, 122, 95, 110, 101, 119]⟩ : ByteArray)), (.int .i64 x14_0), (.int .i64 x14_1), (.int .i64 x14_2), (.string x14_3), (.slice x14_4a x14_4n x14_4c)]⟩) : Value) = (.agg ⟨[(.string (⟨#[122, 122, 95, 110, 101, 119]⟩ : ByteArray)), (.int .i64 x14_0), (.int .i64 x14_1), (.int .i64 x14_2), (.string x14_3), (.slice x14_4a x14_4n x14_4c)]⟩)) ∧ (∃ x14r_0 : Int, ∃ x14r_1 : Int, ∃ x14r_2 : Int, ∃ x14r_3 : ByteArray, ∃ (x14r_4a : Option Addr) (x14r_4n x14r_4c : Nat), At H5 (newA H) ([(.int .i64 x14r_0), (.int .i64 x14r_1), (.int .i64 x14r_2), (.string x14r_3), (.slice x14r_4a x14r_4n x14r_4c)]) ∧ ((.agg ⟨[(.int .i64 x14r_0), (.int .i64 x14r_1), (.int .i64 x14r_2), (.string x14r_3), (.slice x14r_4a x14r_4n x14r_4c)]⟩) : Value) = (.agg ⟨[(.int .i64 x14_0), (.int .i64 x14_1), (.int .i64 x14_2), (.string x14_3), (.slice x14_4a x14_4n x14_4c)]⟩)) ∧ ∀ H6 : Heap, Ext0 H5 H6 → ∀ b16 : Nat, Fresh [(H4.size, H5.size)] [b11] H2 H6 b16 ([(.string (⟨#[122, 122, 95, 110, 101, 119]⟩ : ByteArray)), (.int .i64 x14_0), (.int .i64 x14_1), (.int .i64 x14_2), (.string x14_3), (.slice x14_4a x14_4n x14_4c)]) 43 → ∀ H7 : Heap, Ext0 H6 H7 → RunD Try.prog (Builtin.append_ #[22, 22] 22 ⟨[(.slice x13a x13n x13c), (.slice (some (bA b16)) 1 1)]⟩) H7 (fun rx17 H8 => ∃ (x17a : Option Addr) (x17n x17c : Nat), rx17 = (.slice x17a x17n x17c) ∧ Keep [(H4.size, H5.size)] H2 H7 H8 ∧ (((.int .i64 day2) : Value) = (.int .i64 day2)) ∧ ∀ H9 : Heap, Ext0 H8 H9 → CallsH Try.prog 11 ⟨[(.slice x17a x17n x17c), (.int .i64 day2)]⟩ H9 (onCall (fun rx19 H10 => ∃ (x19_0a : Option Addr) (x19_0n x19_0c : Nat), ∃ x19_1_0 : Int, ∃ x19_1_1 : Int, rx19 = (.tuple ⟨[(.slice x19_0a x19_0n x19_0c), (.agg ⟨[(.int .i64 x19_1_0), (.int .i64 x19_1_1)]⟩)]⟩) ∧ Keep [(H7.size, H8.size), (H4.size, H5.size)] H2 H9 H10 ∧ ∀ H11 : Heap, Ext0 H10 H11 → ∀ b9 : Nat, Fresh [(H9.size, H10.size), (H7.size, H8.size), (H4.size, H5.size)] [b16, b11] H2 H11 b9 ([(.int .i64 0), (.int .i64 0)]) 39 → MayPut H11 (bA b9) 2 ∧ let H12 : Heap := putH H11 (bA b9) ([(.int .i64 x19_1_0), (.int .i64 x19_1_1)])
  ∃ x23 : Int, cellH H12 ((bA b9).add 0) = some (.int .i64 x23) ∧ ifB (x23 != 0)
  (okL (MayPut H12 (newA H1) 23 ∧ let H13 : Heap := putH H12 (newA H1) (List.map (Value.int .u64) (List.replicate 23 0))
  ∃ o6 : List Int, o6.length = 23 ∧ At H13 (newA H1) (List.map (Value.int .u64) o6) ∧ R (.returned (.tuple ⟨[(.agg ⟨(List.map (Value.int .u64) o6)⟩), (.bool false)]⟩)) H13) (List.map (Value.int .u64) (List.replicate 23 0)) 23)
  ((0 : Int) ≤ (l0n : Int) ∧ (l0n : Int) < (x19_0n : Int) ∧ ∃ px29 : Addr, x19_0a = some px29 ∧ ∃ x30 : List Int, x30.length = 23 ∧ At H12 (px29.add (Int.toNat (l0n : Int) * 23)) (List.map (Value.int .u64) x30) ∧ okL (MayPut H12 (newA H1) 23 ∧ let H14 : Heap := putH H12 (newA H1) (List.map (Value.int .u64) x30)
  ∃ o6 : List Int, o6.length = 23 ∧ At H14 (newA H1) (List.map (Value.int .u64) o6) ∧ R (.returned (.tuple ⟨[(.agg ⟨(List.map (Value.int .u64) o6)⟩), (.bool true)]⟩)) H14) (List.map (Value.int .u64) x30) 23)) (fun ch H15 => R (.panicked ch) H15))))
def slotlaw6_of_ann : Ann := ⟨lookN (false, 0) [(1, false, 14)], lookN [] [(1, [.p 0, .s 1, .s 3, .s 4, .p 5, .s 7, .p 12, .t 0, .e 2, .t 5, .e 6, .e 8, .s 9, .s 10, .s 11, .t 12, .s 13])], lookN [] []⟩
theorem slotlaw6_of_den (l0a : Option Addr) (l0n : Nat) (l0c : Nat) (e1_0 : Int) (e1_1 : Int) (e1_2 : Int) (e1_3 : ByteArray) (e1_4a : Option Addr) (e1_4n : Nat) (e1_4c : Nat) (day2 : Int) (H : Heap) (R : Ending → Heap → Prop) : denF Try.prog Try.f9 slotlaw6_of_ann [(.slice l0a l0n l0c), (.agg ⟨[(.int .i64 e1_0), (.int .i64 e1_1), (.int .i64 e1_2), (.string e1_3), (.slice e1_4a e1_4n e1_4c)]⟩), (.int .i64 day2)] H R = slotlaw6_of l0a l0n l0c e1_0 e1_1 e1_2 e1_3 e1_4a e1_4n e1_4c day2 H R := by kernel_rfl
theorem slotlaw6_of_calls (l0a : Option Addr) (l0n : Nat) (l0c : Nat) (e1_0 : Int) (e1_1 : Int) (e1_2 : Int) (e1_3 : ByteArray) (e1_4a : Option Addr) (e1_4n : Nat) (e1_4c : Nat) (day2 : Int) {H : Heap} {R : Ending → Heap → Prop} (h : slotlaw6_of l0a l0n l0c e1_0 e1_1 e1_2 e1_3 e1_4a e1_4n e1_4c day2 H R) : CallsH Try.prog 9 ⟨[(.slice l0a l0n l0c), (.agg ⟨[(.int .i64 e1_0), (.int .i64 e1_1), (.int .i64 e1_2), (.string e1_3), (.slice e1_4a e1_4n e1_4c)]⟩), (.int .i64 day2)]⟩ H R :=
  callsH_of namesOk mixedOk Try.func9 (ann := slotlaw6_of_ann) (by rw [slotlaw6_of_den]; exact h)

/-! slotrules slotlaw6.two -/
def slotlaw6_two (kind0 : Int) (a1_0 : Int) (a1_1 : Int) (a1_2 : Int) (a1_3 : ByteArray) (a1_4a : Option Addr) (a1_4n : Nat) (a1_4c : Nat) (b2_0 : Int) (b2_1 : Int) (b2_2 : Int) (b2_3 : ByteArray) (b2_4a : Option Addr) (b2_4n : Nat) (b2_4c : Nat) (H : Heap) (R : Ending → Heap → Prop) : Prop :=
  let H1 : Heap := H.push (.cells ⟨[(.int .i64 a1_0), (.int .i64 a1_1), (.int .i64 a1_2), (.string a1_3), (.slice a1_4a a1_4n a1_4c)]⟩ 25)
  let H2 : Heap := H1.push (.cells ⟨[(.int .i64 b2_0), (.int .i64 b2_1), (.int .i64 b2_2), (.string b2_3), (.slice b2_4a b2_4n b2_4c)]⟩ 25)
  let H3 : Heap := H2.push (.cells ⟨[(.int .i64 0), (.int .i64 0), (.int .i64 0), (.string (⟨#[]⟩ : ByteArray)), (.slice none 0 0)]⟩ 25)
  ∃ x8_0 : Int, ∃ x8_1 : Int, ∃ x8_2 : Int, ∃ x8_3 : ByteArray, ∃ (x8_4a : Option Addr) (x8_4n x8_4c : Nat), At H3 (newA H) ([(.int .i64 x8_0), (.int .i64 x8_1), (.int .i64 x8_2), (.string x8_3), (.slice x8_4a x8_4n x8_4c)]) ∧ ∃ x9_0 : Int, ∃ x9_1 : Int, ∃ x9_2 : Int, ∃ x9_3 : ByteArray, ∃ (x9_4a : Option Addr) (x9_4n x9_4c : Nat), At H3 (newA H1) ([(.int .i64 x9_0), (.int .i64 x9_1), (.int .i64 x9_2), (.string x9_3), (.slice x9_4a x9_4n x9_4c)]) ∧ let H4 : Heap := H3.push (.cells ⟨[(.int .i64 x8_0), (.int .i64 x8_1), (.int .i64 x8_2), (.string x8_3), (.slice x8_4a x8_4n x8_4c), (.int .i64 x9_0), (.int .i64 x9_1), (.int .i64 x9_2), (.string x9_3), (.slice x9_4a x9_4n x9_4c)]⟩ 25)
  MayPut H4 (newA H2) 5 ∧ let H5 : Heap := putH H4 (newA H2) ([(.int .i64 kind0), (.int .i64 0), (.int .i64 0), (.string (⟨#[]⟩ : ByteArray)), (.slice (some (newA H3)) 2 2)])
  ∃ o6_0 : Int, ∃ o6_1 : Int, ∃ o6_2 : Int, ∃ o6_3 : ByteArray, ∃ (o6_4a : Option Addr) (o6_4n o6_4c : Nat), At H5 (newA H2) ([(.int .i64 o6_0), (.int .i64 o6_1), (.int .i64 o6_2), (.string o6_3), (.slice o6_4a o6_4n o6_4c)]) ∧ R (.returned (.agg ⟨[(.int .i64 o6_0), (.int .i64 o6_1), (.int .i64 o6_2), (.string o6_3), (.slice o6_4a o6_4n o6_4c)]⟩)) H5
def slotlaw6_two_ann : Ann := ⟨lookN (false, 0) [], lookN [] [], lookN [] []⟩
theorem slotlaw6_two_den (kind0 : Int) (a1_0 : Int) (a1_1 : Int) (a1_2 : Int) (a1_3 : ByteArray) (a1_4a : Option Addr) (a1_4n : Nat) (a1_4c : Nat) (b2_0 : Int) (b2_1 : Int) (b2_2 : Int) (b2_3 : ByteArray) (b2_4a : Option Addr) (b2_4n : Nat) (b2_4c : Nat) (H : Heap) (R : Ending → Heap → Prop) : denF Try.prog Try.f10 slotlaw6_two_ann [(.int .i64 kind0), (.agg ⟨[(.int .i64 a1_0), (.int .i64 a1_1), (.int .i64 a1_2), (.string a1_3), (.slice a1_4a a1_4n a1_4c)]⟩), (.agg ⟨[(.int .i64 b2_0), (.int .i64 b2_1), (.int .i64 b2_2), (.string b2_3), (.slice b2_4a b2_4n b2_4c)]⟩)] H R = slotlaw6_two kind0 a1_0 a1_1 a1_2 a1_3 a1_4a a1_4n a1_4c b2_0 b2_1 b2_2 b2_3 b2_4a b2_4n b2_4c H R := by kernel_rfl
theorem slotlaw6_two_calls (kind0 : Int) (a1_0 : Int) (a1_1 : Int) (a1_2 : Int) (a1_3 : ByteArray) (a1_4a : Option Addr) (a1_4n : Nat) (a1_4c : Nat) (b2_0 : Int) (b2_1 : Int) (b2_2 : Int) (b2_3 : ByteArray) (b2_4a : Option Addr) (b2_4n : Nat) (b2_4c : Nat) {H : Heap} {R : Ending → Heap → Prop} (h : slotlaw6_two kind0 a1_0 a1_1 a1_2 a1_3 a1_4a a1_4n a1_4c b2_0 b2_1 b2_2 b2_3 b2_4a b2_4n b2_4c H R) : CallsH Try.prog 10 ⟨[(.int .i64 kind0), (.agg ⟨[(.int .i64 a1_0), (.int .i64 a1_1), (.int .i64 a1_2), (.string a1_3), (.slice a1_4a a1_4n a1_4c)]⟩), (.agg ⟨[(.int .i64 b2_0), (.int .i64 b2_1), (.int .i64 b2_2), (.string b2_3), (.slice b2_4a b2_4n b2_4c)]⟩)]⟩ H R :=
  callsH_of namesOk mixedOk Try.func10 (ann := slotlaw6_two_ann) (by rw [slotlaw6_two_den]; exact h)

/-! slotrules slotlaw6.rules -/
def slotlaw6_rules (s0 : ByteArray) (H : Heap) (R : Ending → Heap → Prop) : Prop :=
  CallsH Try.prog 32 ⟨[(.string s0)]⟩ H (onCall (fun rx7 H1 => ∃ (x7_0a : Option Addr) (x7_0n x7_0c : Nat), ∃ x7_1_0 : Int, ∃ x7_1_1 : Int, rx7 = (.tuple ⟨[(.slice x7_0a x7_0n x7_0c), (.agg ⟨[(.int .i64 x7_1_0), (.int .i64 x7_1_1)]⟩)]⟩) ∧ let H2 : Heap := H1.push (.cells ⟨[(.int .i64 0), (.int .i64 0)]⟩ 39)
  MayPut H2 (newA H1) 2 ∧ let H3 : Heap := putH H2 (newA H1) ([(.int .i64 x7_1_0), (.int .i64 x7_1_1)])
  ∃ x11 : Int, cellH H3 ((newA H1).add 0) = some (.int .i64 x11) ∧ ifB (x11 != 0)
  (R (.returned (.slice none 0 0)) H3)
  (R (.returned (.slice x7_0a x7_0n x7_0c)) H3)) (fun ch H4 => R (.panicked ch) H4))
def slotlaw6_rules_ann : Ann := ⟨lookN (false, 0) [], lookN [] [], lookN [] []⟩
theorem slotlaw6_rules_den (s0 : ByteArray) (H : Heap) (R : Ending → Heap → Prop) : denF Try.prog Try.f19 slotlaw6_rules_ann [(.string s0)] H R = slotlaw6_rules s0 H R := by kernel_rfl
theorem slotlaw6_rules_calls (s0 : ByteArray) {H : Heap} {R : Ending → Heap → Prop} (h : slotlaw6_rules s0 H R) : CallsH Try.prog 19 ⟨[(.string s0)]⟩ H R :=
  callsH_of namesOk mixedOk Try.func19 (ann := slotlaw6_rules_ann) (by rw [slotlaw6_rules_den]; exact h)

end Go.Vc
set_option linter.unusedVariables false
set_option maxRecDepth 100000
namespace Go.Vc
open Go.Proofs

/-! slotrules slotref5.Same -/
def slotref5_Same (a0a : Option Addr) (a0n : Nat) (a0c : Nat) (b1a : Option Addr) (b1n : Nat) (b1c : Nat) (H : Heap) (R : Ending → Heap → Prop) : Prop :=
  ifB ((a0n : Int) != (b1n : Int))
  (R (.returned (.bool false)) H)
  (∃ (I4 : Int → Heap → Prop) (m4 : Int → Heap → Nat), I4 0 H ∧ ∀ (x13 : Int) (H1 : Heap), I4 x13 H1 → 
  ifB (decide (x13 < (a0n : Int)))
  ((0 : Int) ≤ x13 ∧ x13 < (a0n : Int) ∧ ∃ px18 : Addr, a0a = some px18 ∧ ∃ x19 : List Int, x19.length = 23 ∧ At H1 (px18.add (Int.toNat x13 * 23)) (List.map (Value.int .u64) x19) ∧ (0 : Int) ≤ x13 ∧ x13 < (b1n : Int) ∧ ∃ px22 : Addr, b1a = some px22 ∧ ∃ x23 : List Int, x23.length = 23 ∧ At H1 (px22.add (Int.toNat x13 * 23)) (List.map (Value.int .u64) x23) ∧ ∃ x24 : Bool, EqV Try.prog .neq 31 (.agg ⟨(List.map (Value.int .u64) x19)⟩) (.agg ⟨(List.map (Value.int .u64) x23)⟩) x24 ∧ ifB x24
  (R (.returned (.bool false)) H1)
  ((I4 (IntKind.i64.wrap (x13 + 1)) H1 ∧ m4 (IntKind.i64.wrap (x13 + 1)) H1 < m4 x13 H1)))
  (R (.returned (.bool true)) H1))
def slotref5_Same_ann : Ann := ⟨lookN (false, 0) [(6, false, 9)], lookN [] [], lookN [] [(4, [(13, .int .i64)])]⟩
theorem slotref5_Same_den (a0a : Option Addr) (a0n : Nat) (a0c : Nat) (b1a : Option Addr) (b1n : Nat) (b1c : Nat) (H : Heap) (R : Ending → Heap → Prop) : denF Try.prog Try.f12 slotref5_Same_ann [(.slice a0a a0n a0c), (.slice b1a b1n b1c)] H R = slotref5_Same a0a a0n a0c b1a b1n b1c H R := by kernel_rfl
theorem slotref5_Same_calls (a0a : Option Addr) (a0n : Nat) (a0c : Nat) (b1a : Option Addr) (b1n : Nat) (b1c : Nat) {H : Heap} {R : Ending → Heap → Prop} (h : slotref5_Same a0a a0n a0c b1a b1n b1c H R) : CallsH Try.prog 12 ⟨[(.slice a0a a0n a0c), (.slice b1a b1n b1c)]⟩ H R :=
  callsH_of namesOk mixedOk Try.func12 (ann := slotref5_Same_ann) (by rw [slotref5_Same_den]; exact h)

/-! slotrules slotref5.Speaks -/
def slotref5_Speaks (e0_0 : Int) (e0_1 : Int) (e0_2 : Int) (e0_3 : ByteArray) (e0_4a : Option Addr) (e0_4n : Nat) (e0_4c : Nat) (name1 : ByteArray) (H : Heap) (R : Ending → Heap → Prop) : Prop :=
  let H1 : Heap := H.push (.cells ⟨[(.int .i64 e0_0), (.int .i64 e0_1), (.int .i64 e0_2), (.string e0_3), (.slice e0_4a e0_4n e0_4c)]⟩ 25)
  ∃ x8 : Int, cellH H1 ((newA H).add 0) = some (.int .i64 x8) ∧ ifB (x8 == 10)
  (∃ x11 : ByteArray, cellH H1 ((newA H).add 3) = some (.string x11) ∧ R (.returned (.bool (x11.toList == name1.toList))) H1)
  (∃ (x15a : Option Addr) (x15n x15c : Nat), cellH H1 ((newA H).add 4) = some (.slice x15a x15n x15c) ∧ ∃ (I4 : Int → Heap → Prop) (m4 : Int → Heap → Nat), I4 0 H1 ∧ ∀ (x17 : Int) (H2 : Heap), I4 x17 H2 → 
  ifB (decide (x17 < (x15n : Int)))
  ((0 : Int) ≤ x17 ∧ x17 < (x15n : Int) ∧ ∃ px19 : Addr, x15a = some px19 ∧ ∃ x20_0 : Int, ∃ x20_1 : Int, ∃ x20_2 : Int, ∃ x20_3 : ByteArray, ∃ (x20_4a : Option Addr) (x20_4n x20_4c : Nat), At H2 (px19.add (Int.toNat x17 * 5)) ([(.int .i64 x20_0), (.int .i64 x20_1), (.int .i64 x20_2), (.string x20_3), (.slice x20_4a x20_4n x20_4c)]) ∧ let H3 : Heap := H2.push (.cells ⟨[(.int .i64 0), (.int .i64 0), (.int .i64 0), (.string (⟨#[]⟩ : ByteArray)), (.slice none 0 0)]⟩ 25)
  MayPut H3 (newA H2) 5 ∧ let H4 : Heap := putH H3 (newA H2) ([(.int .i64 x20_0), (.int .i64 x20_1), (.int .i64 x20_2), (.string x20_3), (.slice x20_4a x20_4n x20_4c)])
  ∃ x21_0 : Int, ∃ x21_1 : Int, ∃ x21_2 : Int, ∃ x21_3 : ByteArray, ∃ (x21_4a : Option Addr) (x21_4n x21_4c : Nat), At H4 (newA H2) ([(.int .i64 x21_0), (.int .i64 x21_1), (.int .i64 x21_2), (.string x21_3), (.slice x21_4a x21_4n x21_4c)]) ∧ CallsH Try.prog 16 ⟨[(.agg ⟨[(.int .i64 x21_0), (.int .i64 x21_1), (.int .i64 x21_2), (.string x21_3), (.slice x21_4a x21_4n x21_4c)]⟩), (.string name1)]⟩ H4 (onCall (fun rx23 H5 => ∃ x23 : Bool, rx23 = (.bool x23) ∧ ifB x23
  (R (.returned (.bool true)) H5)
  ((I4 (IntKind.i64.wrap (x17 + 1)) H5 ∧ m4 (IntKind.i64.wrap (x17 + 1)) H5 < m4 x17 H2))) (fun ch H6 => R (.panicked ch) H6)))
  (R (.returned (.bool false)) H2))
def slotref5_Speaks_ann : Ann := ⟨lookN (false, 0) [], lookN [] [], lookN [] [(4, [(17, .int .i64)])]⟩
theorem slotref5_Speaks_den (e0_0 : Int) (e0_1 : Int) (e0_2 : Int) (e0_3 : ByteArray) (e0_4a : Option Addr) (e0_4n : Nat) (e0_4c : Nat) (name1 : ByteArray) (H : Heap) (R : Ending → Heap → Prop) : denF Try.prog Try.f16 slotref5_Speaks_ann [(.agg ⟨[(.int .i64 e0_0), (.int .i64 e0_1), (.int .i64 e0_2), (.string e0_3), (.slice e0_4a e0_4n e0_4c)]⟩), (.string name1)] H R = slotref5_Speaks e0_0 e0_1 e0_2 e0_3 e0_4a e0_4n e0_4c name1 H R := by kernel_rfl
theorem slotref5_Speaks_calls (e0_0 : Int) (e0_1 : Int) (e0_2 : Int) (e0_3 : ByteArray) (e0_4a : Option Addr) (e0_4n : Nat) (e0_4c : Nat) (name1 : ByteArray) {H : Heap} {R : Ending → Heap → Prop} (h : slotref5_Speaks e0_0 e0_1 e0_2 e0_3 e0_4a e0_4n e0_4c name1 H R) : CallsH Try.prog 16 ⟨[(.agg ⟨[(.int .i64 e0_0), (.int .i64 e0_1), (.int .i64 e0_2), (.string e0_3), (.slice e0_4a e0_4n e0_4c)]⟩), (.string name1)]⟩ H R :=
  callsH_of namesOk mixedOk Try.func16 (ann := slotref5_Speaks_ann) (by rw [slotref5_Speaks_den]; exact h)

/-! slotrules slotref5.Ints -/
def slotref5_Ints (a0a : Option Addr) (a0n : Nat) (a0c : Nat) (b1a : Option Addr) (b1n : Nat) (b1c : Nat) (H : Heap) (R : Ending → Heap → Prop) : Prop :=
  ifB ((a0n : Int) != (b1n : Int))
  (R (.returned (.bool false)) H)
  (∃ (I4 : Int → Heap → Prop) (m4 : Int → Heap → Nat), I4 0 H ∧ ∀ (x13 : Int) (H1 : Heap), I4 x13 H1 → 
  ifB (decide (x13 < (a0n : Int)))
  ((0 : Int) ≤ x13 ∧ x13 < (a0n : Int) ∧ ∃ px18 : Addr, a0a = some px18 ∧ ∃ x19 : Int, cellH H1 (px18.add (Int.toNat x13 * 1)) = some (.int .i64 x19) ∧ (0 : Int) ≤ x13 ∧ x13 < (b1n : Int) ∧ ∃ px22 : Addr, b1a = some px22 ∧ ∃ x23 : Int, cellH H1 (px22.add (Int.toNat x13 * 1)) = some (.int .i64 x23) ∧ ifB (x19 != x23)
  (R (.returned (.bool false)) H1)
  ((I4 (IntKind.i64.wrap (x13 + 1)) H1 ∧ m4 (IntKind.i64.wrap (x13 + 1)) H1 < m4 x13 H1)))
  (R (.returned (.bool true)) H1))
def slotref5_Ints_ann : Ann := ⟨lookN (false, 0) [(6, false, 9)], lookN [] [], lookN [] [(4, [(13, .int .i64)])]⟩
theorem slotref5_Ints_den (a0a : Option Addr) (a0n : Nat) (a0c : Nat) (b1a : Option Addr) (b1n : Nat) (b1c : Nat) (H : Heap) (R : Ending → Heap → Prop) : denF Try.prog Try.f18 slotref5_Ints_ann [(.slice a0a a0n a0c), (.slice b1a b1n b1c)] H R = slotref5_Ints a0a a0n a0c b1a b1n b1c H R := by kernel_rfl
theorem slotref5_Ints_calls (a0a : Option Addr) (a0n : Nat) (a0c : Nat) (b1a : Option Addr) (b1n : Nat) (b1c : Nat) {H : Heap} {R : Ending → Heap → Prop} (h : slotref5_Ints a0a a0n a0c b1a b1n b1c H R) : CallsH Try.prog 18 ⟨[(.slice a0a a0n a0c), (.slice b1a b1n b1c)]⟩ H R :=
  callsH_of namesOk mixedOk Try.func18 (ann := slotref5_Ints_ann) (by rw [slotref5_Ints_den]; exact h)

end Go.Vc
