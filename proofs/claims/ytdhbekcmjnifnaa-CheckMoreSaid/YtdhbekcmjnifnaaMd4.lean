/- CheckMore is proved: a rule more that nobody speaks of, of a new name, and that speaks of none, leaves rules as they were; for every input, with no condition. This text is a part of the way there. -/
import Derived.Test.YtdhbekcmjnifnaaMd3
import Derived.Test.YtdhbekcmjnifnaaProg
import Derived.KernelRfl
namespace Go.Vc

/-! ## 13. A mask is a number of 1472 bits -/
def word (A k : Nat) : Nat := (A >>> (64 * k)) % 2 ^ 64
def wordsOf (A : Nat) : List Int := (List.range 23).map fun k => ((word A k : Nat) : Int)
def maskV (A : Nat) : Value := .agg ⟨(wordsOf A).map (Value.int .u64)⟩
theorem wordsOf_length (A : Nat) : (wordsOf A).length = 23 := by simp [wordsOf]
theorem wordsOf_get {A k : Nat} (h : k < 23) : (wordsOf A)[k]? = some ((word A k : Nat) : Int) := by simp [wordsOf, h]
theorem wordsOf_cell {A k : Nat} (h : k < 23) : ((wordsOf A).map (Value.int .u64))[k]? = some (.int .u64 ((word A k : Nat) : Int)) := by rw [List.getElem?_map, wordsOf_get h]; rfl
theorem wordsOf_ext {A : Nat} {xs : List Int} (hl : xs.length = 23) (h : ∀ k, k < 23 → xs[k]? = some ((word A k : Nat) : Int)) : xs = wordsOf A := by
  apply List.ext_getElem?
  intro k
  by_cases hk : k < 23
  · rw [h k hk, wordsOf_get hk]
  · rw [List.getElem?_eq_none (by omega), List.getElem?_eq_none (by rw [wordsOf_length]; omega)]
theorem word_lt (A k : Nat) : word A k < 2 ^ 64 := Nat.mod_lt _ (by decide)
theorem word_bit (A k j : Nat) : (word A k).testBit j = (decide (j < 64) && A.testBit (64 * k + j)) := by
  rw [word, Nat.testBit_mod_two_pow, Nat.testBit_shiftRight]
theorem wordsOf_zero : wordsOf 0 = List.replicate 23 0 := by decide
/-- Out of words a number. -/
theorem word_eq {A k w : Nat} (hw : w < 2 ^ 64) (h : ∀ j, j < 64 → w.testBit j = A.testBit (64 * k + j)) : word A k = w := by
  apply Nat.eq_of_testBit_eq
  intro j
  rw [word_bit]
  by_cases hj : j < 64
  · simp [hj, h j hj]
  · simp only [hj, decide_false, Bool.false_and]
    exact (Nat.testBit_lt_two_pow (Nat.lt_of_lt_of_le hw (Nat.pow_le_pow_right (by decide) (by omega)))).symm
theorem bv_nat {a : Nat} (h : a < 2 ^ 64) : (BitVec.ofInt 64 (a : Int)).toNat = a := by
  simp
  omega
theorem u64w (x : Int) : IntKind.u64.wrap x = x % 18446744073709551616 := by simp [IntKind.wrap, IntKind.bits, IntKind.signed]
theorem i64w (x : Int) : IntKind.i64.wrap x = (x + 9223372036854775808) % 18446744073709551616 - 9223372036854775808 := by
  simp only [IntKind.wrap, IntKind.bits, IntKind.signed]; simp; split <;> omega
theorem i64_id {x : Int} (h1 : -9223372036854775808 ≤ x) (h2 : x ≤ 9223372036854775807) : IntKind.i64.wrap x = x := by rw [i64w]; omega
theorem u64_wrap {a : Nat} (h : a < 2 ^ 64) : IntKind.u64.wrap (a : Int) = a := by rw [u64w]; omega
theorem bOr_nat {a b : Nat} (ha : a < 2 ^ 64) (hb : b < 2 ^ 64) : bOr .u64 (a : Int) (b : Int) = ((a ||| b : Nat) : Int) := by
  have : (BitVec.ofInt 64 (a : Int) ||| BitVec.ofInt 64 (b : Int)).toNat = a ||| b := by rw [BitVec.toNat_or, bv_nat ha, bv_nat hb]
  show IntKind.u64.wrap ((BitVec.ofInt 64 (a : Int) ||| BitVec.ofInt 64 (b : Int)).toNat : Int) = _
  rw [this, u64_wrap (Nat.or_lt_two_pow ha hb)]
theorem bAnd_nat {a b : Nat} (ha : a < 2 ^ 64) (hb : b < 2 ^ 64) : bAnd .u64 (a : Int) (b : Int) = ((a &&& b : Nat) : Int) := by
  have : (BitVec.ofInt 64 (a : Int) &&& BitVec.ofInt 64 (b : Int)).toNat = a &&& b := by rw [BitVec.toNat_and, bv_nat ha, bv_nat hb]
  show IntKind.u64.wrap ((BitVec.ofInt 64 (a : Int) &&& BitVec.ofInt 64 (b : Int)).toNat : Int) = _
  rw [this, u64_wrap (Nat.and_lt_two_pow a hb)]
/-- Bits of one without the other's. -/
def diffN (a b : Nat) : Nat := a ^^^ (a &&& b)
theorem diffN_bit (a b j : Nat) : (diffN a b).testBit j = (a.testBit j && !b.testBit j) := by
  simp only [diffN, Nat.testBit_xor, Nat.testBit_and]
  cases a.testBit j <;> cases b.testBit j <;> rfl
theorem diffN_lt {a b n : Nat} (ha : a < 2 ^ n) : diffN a b < 2 ^ n := Nat.xor_lt_two_pow ha (Nat.lt_of_le_of_lt Nat.and_le_left ha)
theorem bAndNot_nat {a b : Nat} (ha : a < 2 ^ 64) (hb : b < 2 ^ 64) : bAndNot .u64 (a : Int) (b : Int) = ((diffN a b : Nat) : Int) := by
  have : (BitVec.ofInt 64 (a : Int) &&& ~~~(BitVec.ofInt 64 (b : Int))).toNat = diffN a b := by
    apply Nat.eq_of_testBit_eq
    intro j
    rw [diffN_bit, BitVec.toNat_and, Nat.testBit_and, bv_nat ha]
    by_cases hj : j < 64
    · have : (~~~(BitVec.ofInt 64 (b : Int))).toNat.testBit j = !b.testBit j := by
        rw [BitVec.testBit_toNat, BitVec.getLsbD_not, ← BitVec.testBit_toNat, bv_nat hb]
        simp [hj]
      rw [this]
    · have : a.testBit j = false := Nat.testBit_lt_two_pow (Nat.lt_of_lt_of_le ha (Nat.pow_le_pow_right (by decide) (by omega)))
      rw [this]; rfl
  show IntKind.u64.wrap ((BitVec.ofInt 64 (a : Int) &&& ~~~(BitVec.ofInt 64 (b : Int))).toNat : Int) = _
  rw [this, u64_wrap (diffN_lt ha)]
/-- One behind the highest bit of a day. -/
def powN (k : Nat) : Nat := 2 ^ k
def dayN : Nat := powN 1440
theorem powN_bit (k A j : Nat) : (A % powN k).testBit j = (decide (j < k) && A.testBit j) := Nat.testBit_mod_two_pow A k j
theorem dayN_bit (A j : Nat) : (A % dayN).testBit j = (decide (j < 1440) && A.testBit j) := powN_bit 1440 A j
attribute [irreducible] powN dayN
theorem dayN_mod (A : Nat) : A % dayN % dayN = A % dayN := Nat.mod_mod A dayN
theorem splice_one {l : List Value} {o : Nat} {v : Value} : splice l o [v] = l.set o v := by simp only [splice]; rw [setN_set]
theorem splice_all : ∀ {m l : List Value}, l.length = m.length → splice l 0 m = m := by
  have : ∀ (m p l : List Value), l.length = p.length + m.length → l.take p.length = p → splice l p.length m = p ++ m := by
    intro m
    induction m with
    | nil => intro p l h1 h2; simp only [splice]; simp at h1 ⊢; rw [← h1] at h2; simpa using h2
    | cons v m ih =>
      intro p l h1 h2
      simp only [splice]
      have := ih (p ++ [v]) (setN l p.length v) (by rw [setN_length]; simp; simp at h1; omega) (by
        rw [setN_set]
        have hl : p.length < l.length := by simp at h1; omega
        rw [List.length_append, List.length_singleton, List.take_add_one, List.take_set, List.getElem?_set]
        rw [h2, if_pos rfl, if_pos hl, List.set_eq_of_length_le (Nat.le_refl _)]; rfl)
      rw [List.length_append, List.length_singleton] at this
      rw [this]; simp
  intro m l h
  have := this m [] l (by simpa using h) rfl
  simpa using this
end Go.Vc
namespace Go.Vc
open Go.Proofs
def lookN {α : Type} (d : α) : List (Nat × α) → Nat → α
  | [], _ => d
  | (i, x) :: r, j => match Nat.beq i j with
    | true => x
    | false => lookN d r j
def namesB (P : Program) : Bool := P.funcs.toList.all fun fn => !(fn.name == "runtime.NumGoroutine")
theorem namesOk_of {P : Program} (h : namesB P = true) : NamesOk P := fun f fn hf => by
  have := List.all_eq_true.1 h fn (by
    obtain ⟨hlt, he⟩ := Array.getElem?_eq_some_iff.1 hf
    rw [← he]; exact Array.mem_toList_iff.2 (Array.getElem_mem hlt))
  simpa using this
theorem namesOk : NamesOk Try.prog := namesOk_of (by kernel_rfl)
theorem mixedOk : Try.prog.follows .mixedOrders = true := by kernel_rfl
end Go.Vc
set_option linter.unusedVariables false
set_option maxRecDepth 100000
namespace Go.Vc
open Go.Proofs

/-! slotrules masks.Count -/
def masks_Count (m0 : List Int) (H : Heap) (R : Ending → Heap → Prop) : Prop :=
  let H1 : Heap := H.push (.cells ⟨(List.map (Value.int .u64) m0)⟩ 31)
  ∃ x6 : List Int, x6.length = 23 ∧ At H1 (newA H) (List.map (Value.int .u64) x6) ∧ CallsH Try.prog 33 ⟨[(.agg ⟨(List.map (Value.int .u64) x6)⟩)]⟩ H1 (onCall (fun rx7 H2 => ∃ x7 : List Int, x7.length = 23 ∧ rx7 = (.agg ⟨(List.map (Value.int .u64) x7)⟩) ∧ ∃ (I3 : Int → Int → Heap → Prop) (m3 : Int → Int → Heap → Nat), I3 0 0 H2 ∧ ∀ (n3 : Int) (x8 : Int) (H3 : Heap), I3 n3 x8 H3 → 
  ifB (decide (x8 < 23))
  ((0 : Int) ≤ x8 ∧ x8 < ((23 : Nat) : Int) ∧ ∃ x10 : Int, ((List.map (Value.int .u64) x7) : List Value)[Int.toNat x8 * 1]? = some (.int .u64 x10) ∧ CallsH Try.prog 34 ⟨[(.int .u64 x10)]⟩ H3 (onCall (fun rx13 H4 => ∃ x13 : Int, rx13 = (.int .i64 x13) ∧ (I3 (IntKind.i64.wrap (n3 + x13)) (IntKind.i64.wrap (x8 + 1)) H4 ∧ m3 (IntKind.i64.wrap (n3 + x13)) (IntKind.i64.wrap (x8 + 1)) H4 < m3 n3 x8 H3)) (fun ch H5 => R (.panicked ch) H5)))
  (R (.returned (.int .i64 n3)) H3)) (fun ch H6 => R (.panicked ch) H6))
def masks_Count_ann : Ann := ⟨lookN (false, 0) [], lookN [] [], lookN [] [(3, [(3, .int .i64), (8, .int .i64)])]⟩
theorem masks_Count_den (m0 : List Int) (H : Heap) (R : Ending → Heap → Prop) : denF Try.prog Try.f20 masks_Count_ann [(.agg ⟨(List.map (Value.int .u64) m0)⟩)] H R = masks_Count m0 H R := by kernel_rfl
theorem masks_Count_calls (m0 : List Int) {H : Heap} {R : Ending → Heap → Prop} (h : masks_Count m0 H R) : CallsH Try.prog 20 ⟨[(.agg ⟨(List.map (Value.int .u64) m0)⟩)]⟩ H R :=
  callsH_of namesOk mixedOk Try.func20 (ann := masks_Count_ann) (by rw [masks_Count_den]; exact h)

/-! slotrules masks.Holds -/
def masks_Holds (m0 : List Int) (s1_0 : Int) (s1_1 : Int) (H : Heap) (R : Ending → Heap → Prop) : Prop :=
  let H1 : Heap := H.push (.cells ⟨(List.map (Value.int .u64) m0)⟩ 31)
  let H2 : Heap := H1.push (.cells ⟨[(.int .i64 s1_0), (.int .i64 s1_1)]⟩ 57)
  ∃ x6 : Int, cellH H2 ((newA H1).add 0) = some (.int .i64 x6) ∧ ∃ q12 : Bool, ifB (decide (x6 < 0)) (true = q12) (∃ x10 : Int, cellH H2 ((newA H1).add 1) = some (.int .i64 x10) ∧ (decide (x10 > 1440)) = q12 ∧ H2 = H2) ∧ ∃ q19 : Bool, ifB q12 (true = q19) (∃ x15 : Int, cellH H2 ((newA H1).add 0) = some (.int .i64 x15) ∧ ∃ x17 : Int, cellH H2 ((newA H1).add 1) = some (.int .i64 x17) ∧ (decide (x15 > x17)) = q19 ∧ H2 = H2) ∧ ifB q19
  (R (.returned (.bool false)) H2)
  (∃ x20_0 : Int, ∃ x20_1 : Int, At H2 (newA H1) ([(.int .i64 x20_0), (.int .i64 x20_1)]) ∧ ∃ x23 : List Int, x23.length = 23 ∧ At H2 (newA H) (List.map (Value.int .u64) x23) ∧ ∀ H3 : Heap, Ext0 H2 H3 → ∀ b21 : Nat, Fresh [] [] H2 H3 b21 ([(.int .i64 x20_0), (.int .i64 x20_1)]) 57 → CallsH Try.prog 36 ⟨[(.slice (some (bA b21)) 1 1)]⟩ H3 (onCall (fun rx22 H4 => ∃ x22 : List Int, x22.length = 23 ∧ rx22 = (.agg ⟨(List.map (Value.int .u64) x22)⟩) ∧ (((.agg ⟨(List.map (Value.int .u64) (List.replicate 23 0))⟩) : Value) = (.agg ⟨(List.map (Value.int .u64) (List.replicate 23 0))⟩)) ∧ (∃ x23r : List Int, x23r.length = 23 ∧ At H4 (newA H) (List.map (Value.int .u64) x23r) ∧ ((.agg ⟨(List.map (Value.int .u64) x23r)⟩) : Value) = (.agg ⟨(List.map (Value.int .u64) x23)⟩)) ∧ CallsH Try.prog 35 ⟨[(.agg ⟨(List.map (Value.int .u64) x22)⟩), (.agg ⟨(List.map (Value.int .u64) x23)⟩)]⟩ H4 (onCall (fun rx24 H5 => ∃ x24 : List Int, x24.length = 23 ∧ rx24 = (.agg ⟨(List.map (Value.int .u64) x24)⟩) ∧ (((.agg ⟨(List.map (Value.int .u64) (List.replicate 23 0))⟩) : Value) = (.agg ⟨(List.map (Value.int .u64) (List.replicate 23 0))⟩)) ∧ ∃ x26 : Bool, EqV Try.prog .eql 31 (.agg ⟨(List.map (Value.int .u64) x24)⟩) (.agg ⟨(List.map (Value.int .u64) (List.replicate 23 0))⟩) x26 ∧ R (.returned (.bool x26)) H5) (fun ch H6 => R (.panicked ch) H6))) (fun ch H7 => R (.panicked ch) H7)))
def masks_Holds_ann : Ann := ⟨lookN (false, 0) [(3, false, 7)], lookN [] [(3, [.s 0, .p 1, .s 3, .s 5, .t 1, .e 2, .e 4, .s 6])], lookN [] []⟩
theorem masks_Holds_den (m0 : List Int) (s1_0 : Int) (s1_1 : Int) (H : Heap) (R : Ending → Heap → Prop) : denF Try.prog Try.f21 masks_Holds_ann [(.agg ⟨(List.map (Value.int .u64) m0)⟩), (.agg ⟨[(.int .i64 s1_0), (.int .i64 s1_1)]⟩)] H R = masks_Holds m0 s1_0 s1_1 H R := by kernel_rfl
theorem masks_Holds_calls (m0 : List Int) (s1_0 : Int) (s1_1 : Int) {H : Heap} {R : Ending → Heap → Prop} (h : masks_Holds m0 s1_0 s1_1 H R) : CallsH Try.prog 21 ⟨[(.agg ⟨(List.map (Value.int .u64) m0)⟩), (.agg ⟨[(.int .i64 s1_0), (.int .i64 s1_1)]⟩)]⟩ H R :=
  callsH_of namesOk mixedOk Try.func21 (ann := masks_Holds_ann) (by rw [masks_Holds_den]; exact h)

/-! slotrules masks.clean -/
def masks_clean (m0 : List Int) (H : Heap) (R : Ending → Heap → Prop) : Prop :=
  let H1 : Heap := H.push (.cells ⟨(List.map (Value.int .u64) m0)⟩ 31)
  let H2 : Heap := H1.push (.cells ⟨(List.map (Value.int .u64) (List.replicate 23 0))⟩ 31)
  (0 : Int) ≤ 22 ∧ 22 < ((23 : Nat) : Int) ∧ ∃ x4 : Int, cellH H2 ((newA H).add (Int.toNat 22 * 1)) = some (.int .u64 x4) ∧ (0 : Int) ≤ 22 ∧ 22 < ((23 : Nat) : Int) ∧ MayPut H2 ((newA H).add (Int.toNat 22 * 1)) 1 ∧ let H3 : Heap := putH H2 ((newA H).add (Int.toNat 22 * 1)) ([(.int .u64 (bAnd .u64 x4 4294967295))])
  ∃ x7 : List Int, x7.length = 23 ∧ At H3 (newA H) (List.map (Value.int .u64) x7) ∧ okL (MayPut H3 (newA H1) 23 ∧ let H4 : Heap := putH H3 (newA H1) (List.map (Value.int .u64) x7)
  ∃ o2 : List Int, o2.length = 23 ∧ At H4 (newA H1) (List.map (Value.int .u64) o2) ∧ R (.returned (.agg ⟨(List.map (Value.int .u64) o2)⟩)) H4) (List.map (Value.int .u64) x7) 23
def masks_clean_ann : Ann := ⟨lookN (false, 0) [], lookN [] [], lookN [] []⟩
theorem masks_clean_den (m0 : List Int) (H : Heap) (R : Ending → Heap → Prop) : denF Try.prog Try.f33 masks_clean_ann [(.agg ⟨(List.map (Value.int .u64) m0)⟩)] H R = masks_clean m0 H R := by kernel_rfl
theorem masks_clean_calls (m0 : List Int) {H : Heap} {R : Ending → Heap → Prop} (h : masks_clean m0 H R) : CallsH Try.prog 33 ⟨[(.agg ⟨(List.map (Value.int .u64) m0)⟩)]⟩ H R :=
  callsH_of namesOk mixedOk Try.func33 (ann := masks_clean_ann) (by rw [masks_clean_den]; exact h)

/-! slotrules masks.Diff -/
def masks_Diff (a0 : List Int) (b1 : List Int) (H : Heap) (R : Ending → Heap → Prop) : Prop :=
  let H1 : Heap := H.push (.cells ⟨(List.map (Value.int .u64) a0)⟩ 31)
  let H2 : Heap := H1.push (.cells ⟨(List.map (Value.int .u64) b1)⟩ 31)
  let H3 : Heap := H2.push (.cells ⟨(List.map (Value.int .u64) (List.replicate 23 0))⟩ 31)
  ∃ x5 : List Int, x5.length = 23 ∧ At H3 (newA H) (List.map (Value.int .u64) x5) ∧ ∃ x6 : List Int, x6.length = 23 ∧ At H3 (newA H1) (List.map (Value.int .u64) x6) ∧ CallsH Try.prog 62 ⟨[(.agg ⟨(List.map (Value.int .u64) x5)⟩), (.agg ⟨(List.map (Value.int .u64) x6)⟩), (.func (.func 63) #[] #[])]⟩ H3 (onCall (fun rx7 H4 => ∃ x7 : List Int, x7.length = 23 ∧ rx7 = (.agg ⟨(List.map (Value.int .u64) x7)⟩) ∧ okL (MayPut H4 (newA H2) 23 ∧ let H5 : Heap := putH H4 (newA H2) (List.map (Value.int .u64) x7)
  ∃ o4 : List Int, o4.length = 23 ∧ At H5 (newA H2) (List.map (Value.int .u64) o4) ∧ R (.returned (.agg ⟨(List.map (Value.int .u64) o4)⟩)) H5) (List.map (Value.int .u64) x7) 23) (fun ch H6 => R (.panicked ch) H6))
def masks_Diff_ann : Ann := ⟨lookN (false, 0) [], lookN [] [], lookN [] []⟩
theorem masks_Diff_den (a0 : List Int) (b1 : List Int) (H : Heap) (R : Ending → Heap → Prop) : denF Try.prog Try.f35 masks_Diff_ann [(.agg ⟨(List.map (Value.int .u64) a0)⟩), (.agg ⟨(List.map (Value.int .u64) b1)⟩)] H R = masks_Diff a0 b1 H R := by kernel_rfl
theorem masks_Diff_calls (a0 : List Int) (b1 : List Int) {H : Heap} {R : Ending → Heap → Prop} (h : masks_Diff a0 b1 H R) : CallsH Try.prog 35 ⟨[(.agg ⟨(List.map (Value.int .u64) a0)⟩), (.agg ⟨(List.map (Value.int .u64) b1)⟩)]⟩ H R :=
  callsH_of namesOk mixedOk Try.func35 (ann := masks_Diff_ann) (by rw [masks_Diff_den]; exact h)

/-! slotrules masks.Of -/
def masks_Of (l0a : Option Addr) (l0n : Nat) (l0c : Nat) (H : Heap) (R : Ending → Heap → Prop) : Prop :=
  let H1 : Heap := H.push (.cells ⟨(List.map (Value.int .u64) (List.replicate 23 0))⟩ 31)
  let H2 : Heap := H1.push (.cells ⟨(List.map (Value.int .u64) (List.replicate 23 0))⟩ 31)
  ∃ (I3 : Int → Heap → Prop) (m3 : Int → Heap → Nat), I3 0 H2 ∧ ∀ (x9 : Int) (H3 : Heap), I3 x9 H3 → 
  ifB (decide (x9 < (l0n : Int)))
  ((0 : Int) ≤ x9 ∧ x9 < (l0n : Int) ∧ ∃ px11 : Addr, l0a = some px11 ∧ ∃ x12_0 : Int, ∃ x12_1 : Int, At H3 (px11.add (Int.toNat x9 * 2)) ([(.int .i64 x12_0), (.int .i64 x12_1)]) ∧ let H4 : Heap := H3.push (.cells ⟨[(.int .i64 0), (.int .i64 0)]⟩ 57)
  MayPut H4 (newA H3) 2 ∧ let H5 : Heap := putH H4 (newA H3) ([(.int .i64 x12_0), (.int .i64 x12_1)])
  ∃ x14 : Int, cellH H5 ((newA H3).add 0) = some (.int .i64 x14) ∧ ∃ (I6 : Int → Heap → Prop) (m6 : Int → Heap → Nat), I6 (if 0 > x14 then 0 else x14) H5 ∧ ∀ (i6 : Int) (H6 : Heap), I6 i6 H6 → 
  ∃ x18 : Int, cellH H6 ((newA H3).add 1) = some (.int .i64 x18) ∧ ifB (decide (i6 < (if 1440 < x18 then 1440 else x18)))
  (∃ q31 : Bool, ifB ((Int.tmod i6 64) == 0) (∃ x28 : Int, cellH H6 ((newA H3).add 1) = some (.int .i64 x28) ∧ (decide ((IntKind.i64.wrap (i6 + 64)) ≤ (if 1440 < x28 then 1440 else x28))) = q31 ∧ H6 = H6) (false = q31) ∧ ifB q31
  ((0 : Int) ≤ (IntKind.i64.wrap (Int.tdiv i6 64)) ∧ (IntKind.i64.wrap (Int.tdiv i6 64)) < ((23 : Nat) : Int) ∧ MayPut H6 ((newA H1).add (Int.toNat (IntKind.i64.wrap (Int.tdiv i6 64)) * 1)) 1 ∧ let H7 : Heap := putH H6 ((newA H1).add (Int.toNat (IntKind.i64.wrap (Int.tdiv i6 64)) * 1)) ([(.int .u64 18446744073709551615)])
  (I6 (IntKind.i64.wrap (i6 + 64)) H7 ∧ m6 (IntKind.i64.wrap (i6 + 64)) H7 < m6 i6 H6))
  ((0 : Int) ≤ (IntKind.i64.wrap (Int.tdiv i6 64)) ∧ (IntKind.i64.wrap (Int.tdiv i6 64)) < ((23 : Nat) : Int) ∧ ∃ x40 : Int, cellH H6 ((newA H1).add (Int.toNat (IntKind.i64.wrap (Int.tdiv i6 64)) * 1)) = some (.int .u64 x40) ∧ (0 : Int) ≤ (Int.tmod i6 64) ∧ (0 : Int) ≤ (IntKind.i64.wrap (Int.tdiv i6 64)) ∧ (IntKind.i64.wrap (Int.tdiv i6 64)) < ((23 : Nat) : Int) ∧ MayPut H6 ((newA H1).add (Int.toNat (IntKind.i64.wrap (Int.tdiv i6 64)) * 1)) 1 ∧ let H8 : Heap := putH H6 ((newA H1).add (Int.toNat (IntKind.i64.wrap (Int.tdiv i6 64)) * 1)) ([(.int .u64 (bOr .u64 x40 (IntKind.u64.wrap (1 * 2 ^ (min (Int.toNat (Int.tmod i6 64)) 64)))))])
  (I6 (IntKind.i64.wrap (i6 + 1)) H8 ∧ m6 (IntKind.i64.wrap (i6 + 1)) H8 < m6 i6 H6)))
  ((I3 (IntKind.i64.wrap (x9 + 1)) H6 ∧ m3 (IntKind.i64.wrap (x9 + 1)) H6 < m3 x9 H3)))
  (∃ x49 : List Int, x49.length = 23 ∧ At H3 (newA H1) (List.map (Value.int .u64) x49) ∧ okL (MayPut H3 (newA H) 23 ∧ let H9 : Heap := putH H3 (newA H) (List.map (Value.int .u64) x49)
  ∃ o2 : List Int, o2.length = 23 ∧ At H9 (newA H) (List.map (Value.int .u64) o2) ∧ R (.returned (.agg ⟨(List.map (Value.int .u64) o2)⟩)) H9) (List.map (Value.int .u64) x49) 23)
def masks_Of_ann : Ann := ⟨lookN (false, 0) [(10, false, 8)], lookN [] [], lookN [] [(3, [(9, .int .i64)]), (6, [(6, .int .i64)])]⟩
theorem masks_Of_den (l0a : Option Addr) (l0n : Nat) (l0c : Nat) (H : Heap) (R : Ending → Heap → Prop) : denF Try.prog Try.f36 masks_Of_ann [(.slice l0a l0n l0c)] H R = masks_Of l0a l0n l0c H R := by kernel_rfl
theorem masks_Of_calls (l0a : Option Addr) (l0n : Nat) (l0c : Nat) {H : Heap} {R : Ending → Heap → Prop} (h : masks_Of l0a l0n l0c H R) : CallsH Try.prog 36 ⟨[(.slice l0a l0n l0c)]⟩ H R :=
  callsH_of namesOk mixedOk Try.func36 (ann := masks_Of_ann) (by rw [masks_Of_den]; exact h)

/-! slotrules masks.Union -/
def masks_Union (a0 : List Int) (b1 : List Int) (H : Heap) (R : Ending → Heap → Prop) : Prop :=
  let H1 : Heap := H.push (.cells ⟨(List.map (Value.int .u64) a0)⟩ 31)
  let H2 : Heap := H1.push (.cells ⟨(List.map (Value.int .u64) b1)⟩ 31)
  let H3 : Heap := H2.push (.cells ⟨(List.map (Value.int .u64) (List.replicate 23 0))⟩ 31)
  ∃ x5 : List Int, x5.length = 23 ∧ At H3 (newA H) (List.map (Value.int .u64) x5) ∧ ∃ x6 : List Int, x6.length = 23 ∧ At H3 (newA H1) (List.map (Value.int .u64) x6) ∧ CallsH Try.prog 62 ⟨[(.agg ⟨(List.map (Value.int .u64) x5)⟩), (.agg ⟨(List.map (Value.int .u64) x6)⟩), (.func (.func 65) #[] #[])]⟩ H3 (onCall (fun rx7 H4 => ∃ x7 : List Int, x7.length = 23 ∧ rx7 = (.agg ⟨(List.map (Value.int .u64) x7)⟩) ∧ okL (MayPut H4 (newA H2) 23 ∧ let H5 : Heap := putH H4 (newA H2) (List.map (Value.int .u64) x7)
  ∃ o4 : List Int, o4.length = 23 ∧ At H5 (newA H2) (List.map (Value.int .u64) o4) ∧ R (.returned (.agg ⟨(List.map (Value.int .u64) o4)⟩)) H5) (List.map (Value.int .u64) x7) 23) (fun ch H6 => R (.panicked ch) H6))
def masks_Union_ann : Ann := ⟨lookN (false, 0) [], lookN [] [], lookN [] []⟩
theorem masks_Union_den (a0 : List Int) (b1 : List Int) (H : Heap) (R : Ending → Heap → Prop) : denF Try.prog Try.f40 masks_Union_ann [(.agg ⟨(List.map (Value.int .u64) a0)⟩), (.agg ⟨(List.map (Value.int .u64) b1)⟩)] H R = masks_Union a0 b1 H R := by kernel_rfl
theorem masks_Union_calls (a0 : List Int) (b1 : List Int) {H : Heap} {R : Ending → Heap → Prop} (h : masks_Union a0 b1 H R) : CallsH Try.prog 40 ⟨[(.agg ⟨(List.map (Value.int .u64) a0)⟩), (.agg ⟨(List.map (Value.int .u64) b1)⟩)]⟩ H R :=
  callsH_of namesOk mixedOk Try.func40 (ann := masks_Union_ann) (by rw [masks_Union_den]; exact h)

/-! slotrules masks.Both -/
def masks_Both (a0 : List Int) (b1 : List Int) (H : Heap) (R : Ending → Heap → Prop) : Prop :=
  let H1 : Heap := H.push (.cells ⟨(List.map (Value.int .u64) a0)⟩ 31)
  let H2 : Heap := H1.push (.cells ⟨(List.map (Value.int .u64) b1)⟩ 31)
  let H3 : Heap := H2.push (.cells ⟨(List.map (Value.int .u64) (List.replicate 23 0))⟩ 31)
  ∃ x5 : List Int, x5.length = 23 ∧ At H3 (newA H) (List.map (Value.int .u64) x5) ∧ ∃ x6 : List Int, x6.length = 23 ∧ At H3 (newA H1) (List.map (Value.int .u64) x6) ∧ CallsH Try.prog 62 ⟨[(.agg ⟨(List.map (Value.int .u64) x5)⟩), (.agg ⟨(List.map (Value.int .u64) x6)⟩), (.func (.func 66) #[] #[])]⟩ H3 (onCall (fun rx7 H4 => ∃ x7 : List Int, x7.length = 23 ∧ rx7 = (.agg ⟨(List.map (Value.int .u64) x7)⟩) ∧ okL (MayPut H4 (newA H2) 23 ∧ let H5 : Heap := putH H4 (newA H2) (List.map (Value.int .u64) x7)
  ∃ o4 : List Int, o4.length = 23 ∧ At H5 (newA H2) (List.map (Value.int .u64) o4) ∧ R (.returned (.agg ⟨(List.map (Value.int .u64) o4)⟩)) H5) (List.map (Value.int .u64) x7) 23) (fun ch H6 => R (.panicked ch) H6))
def masks_Both_ann : Ann := ⟨lookN (false, 0) [], lookN [] [], lookN [] []⟩
theorem masks_Both_den (a0 : List Int) (b1 : List Int) (H : Heap) (R : Ending → Heap → Prop) : denF Try.prog Try.f41 masks_Both_ann [(.agg ⟨(List.map (Value.int .u64) a0)⟩), (.agg ⟨(List.map (Value.int .u64) b1)⟩)] H R = masks_Both a0 b1 H R := by kernel_rfl
theorem masks_Both_calls (a0 : List Int) (b1 : List Int) {H : Heap} {R : Ending → Heap → Prop} (h : masks_Both a0 b1 H R) : CallsH Try.prog 41 ⟨[(.agg ⟨(List.map (Value.int .u64) a0)⟩), (.agg ⟨(List.map (Value.int .u64) b1)⟩)]⟩ H R :=
  callsH_of namesOk mixedOk Try.func41 (ann := masks_Both_ann) (by rw [masks_Both_den]; exact h)

/-! slotrules masks.Shift -/
def masks_Shift_k3 (I9 : Int → Heap → Prop) (m9 : Int → Heap → Nat) (x29 : Int) (H8 : Heap) (H12 : Heap) (R : Ending → Heap → Prop) : Prop :=
  (I9 (IntKind.i64.wrap (x29 + 1)) H12 ∧ m9 (IntKind.i64.wrap (x29 + 1)) H12 < m9 x29 H8)
def masks_Shift_k2 (H : Heap) (H2 : Heap) (words6k : Int) (rest7k : Int) (I9 : Int → Heap → Prop) (m9 : Int → Heap → Nat) (x29 : Int) (H8 : Heap) (H10 : Heap) (R : Ending → Heap → Prop) : Prop :=
  ifB (((decide (rest7k > 0)) && (decide ((IntKind.i64.wrap ((IntKind.i64.wrap (x29 - words6k)) - 1)) ≥ 0))) && (decide ((IntKind.i64.wrap ((IntKind.i64.wrap (x29 - words6k)) - 1)) < 23)))
  ((0 : Int) ≤ x29 ∧ x29 < ((23 : Nat) : Int) ∧ ∃ x65 : Int, cellH H10 ((newA H2).add (Int.toNat x29 * 1)) = some (.int .u64 x65) ∧ (0 : Int) ≤ (IntKind.i64.wrap ((IntKind.i64.wrap (x29 - words6k)) - 1)) ∧ (IntKind.i64.wrap ((IntKind.i64.wrap (x29 - words6k)) - 1)) < ((23 : Nat) : Int) ∧ ∃ x69 : Int, cellH H10 ((newA H).add (Int.toNat (IntKind.i64.wrap ((IntKind.i64.wrap (x29 - words6k)) - 1)) * 1)) = some (.int .u64 x69) ∧ (0 : Int) ≤ (IntKind.i64.wrap (64 - rest7k)) ∧ (0 : Int) ≤ x29 ∧ x29 < ((23 : Nat) : Int) ∧ MayPut H10 ((newA H2).add (Int.toNat x29 * 1)) 1 ∧ let H11 : Heap := putH H10 ((newA H2).add (Int.toNat x29 * 1)) ([(.int .u64 (bOr .u64 x65 (Int.fdiv x69 (2 ^ (min (Int.toNat (IntKind.i64.wrap (64 - rest7k))) 64)))))])
  masks_Shift_k3 I9 m9 x29 H8 H11 R)
  (masks_Shift_k3 I9 m9 x29 H8 H10 R)
def masks_Shift_k1 (H : Heap) (H1 : Heap) (H2 : Heap) (words6k : Int) (rest7k : Int) (H7 : Heap) (R : Ending → Heap → Prop) : Prop :=
  ∃ (I9 : Int → Heap → Prop) (m9 : Int → Heap → Nat), I9 0 H7 ∧ ∀ (x29 : Int) (H8 : Heap), I9 x29 H8 → 
  ifB (decide (x29 < 23))
  (ifB ((decide ((IntKind.i64.wrap (x29 - words6k)) ≥ 0)) && (decide ((IntKind.i64.wrap (x29 - words6k)) < 23)))
  ((0 : Int) ≤ x29 ∧ x29 < ((23 : Nat) : Int) ∧ ∃ x43 : Int, cellH H8 ((newA H2).add (Int.toNat x29 * 1)) = some (.int .u64 x43) ∧ (0 : Int) ≤ (IntKind.i64.wrap (x29 - words6k)) ∧ (IntKind.i64.wrap (x29 - words6k)) < ((23 : Nat) : Int) ∧ ∃ x46 : Int, cellH H8 ((newA H).add (Int.toNat (IntKind.i64.wrap (x29 - words6k)) * 1)) = some (.int .u64 x46) ∧ (0 : Int) ≤ rest7k ∧ (0 : Int) ≤ x29 ∧ x29 < ((23 : Nat) : Int) ∧ MayPut H8 ((newA H2).add (Int.toNat x29 * 1)) 1 ∧ let H9 : Heap := putH H8 ((newA H2).add (Int.toNat x29 * 1)) ([(.int .u64 (bOr .u64 x43 (IntKind.u64.wrap (x46 * 2 ^ (min (Int.toNat rest7k) 64)))))])
  masks_Shift_k2 H H2 words6k rest7k I9 m9 x29 H8 H9 R)
  (masks_Shift_k2 H H2 words6k rest7k I9 m9 x29 H8 H8 R))
  (∃ x76 : List Int, x76.length = 23 ∧ At H8 (newA H2) (List.map (Value.int .u64) x76) ∧ CallsH Try.prog 33 ⟨[(.agg ⟨(List.map (Value.int .u64) x76)⟩)]⟩ H8 (onCall (fun rx77 H13 => ∃ x77 : List Int, x77.length = 23 ∧ rx77 = (.agg ⟨(List.map (Value.int .u64) x77)⟩) ∧ okL (MayPut H13 (newA H1) 23 ∧ let H14 : Heap := putH H13 (newA H1) (List.map (Value.int .u64) x77)
  ∃ o4 : List Int, o4.length = 23 ∧ At H14 (newA H1) (List.map (Value.int .u64) o4) ∧ R (.returned (.agg ⟨(List.map (Value.int .u64) o4)⟩)) H14) (List.map (Value.int .u64) x77) 23) (fun ch H15 => R (.panicked ch) H15)))
def masks_Shift (m0 : List Int) (by1 : Int) (H : Heap) (R : Ending → Heap → Prop) : Prop :=
  let H1 : Heap := H.push (.cells ⟨(List.map (Value.int .u64) m0)⟩ 31)
  let H2 : Heap := H1.push (.cells ⟨(List.map (Value.int .u64) (List.replicate 23 0))⟩ 31)
  let H3 : Heap := H2.push (.cells ⟨(List.map (Value.int .u64) (List.replicate 23 0))⟩ 31)
  ∃ x10 : List Int, x10.length = 23 ∧ At H3 (newA H) (List.map (Value.int .u64) x10) ∧ CallsH Try.prog 33 ⟨[(.agg ⟨(List.map (Value.int .u64) x10)⟩)]⟩ H3 (onCall (fun rx11 H4 => ∃ x11 : List Int, x11.length = 23 ∧ rx11 = (.agg ⟨(List.map (Value.int .u64) x11)⟩) ∧ okL (MayPut H4 (newA H) 23 ∧ let H5 : Heap := putH H4 (newA H) (List.map (Value.int .u64) x11)
  ifB ((decide (by1 ≤ (-1440))) || (decide (by1 ≥ 1440)))
  (∃ x18 : List Int, x18.length = 23 ∧ At H5 (newA H2) (List.map (Value.int .u64) x18) ∧ okL (MayPut H5 (newA H1) 23 ∧ let H6 : Heap := putH H5 (newA H1) (List.map (Value.int .u64) x18)
  ∃ o4 : List Int, o4.length = 23 ∧ At H6 (newA H1) (List.map (Value.int .u64) o4) ∧ R (.returned (.agg ⟨(List.map (Value.int .u64) o4)⟩)) H6) (List.map (Value.int .u64) x18) 23)
  (ifB (decide ((Int.tmod by1 64) < 0))
  (masks_Shift_k1 H H1 H2 (IntKind.i64.wrap ((IntKind.i64.wrap (Int.tdiv by1 64)) - 1)) (IntKind.i64.wrap ((Int.tmod by1 64) + 64)) H5 R)
  (masks_Shift_k1 H H1 H2 (IntKind.i64.wrap (Int.tdiv by1 64)) (Int.tmod by1 64) H5 R))) (List.map (Value.int .u64) x11) 23) (fun ch H16 => R (.panicked ch) H16))
def masks_Shift_ann : Ann := ⟨lookN (false, 0) [(13, false, 9), (15, false, 11)], lookN [] [], lookN [] [(9, [(29, .int .i64)])]⟩
theorem masks_Shift_den (m0 : List Int) (by1 : Int) (H : Heap) (R : Ending → Heap → Prop) : denF Try.prog Try.f42 masks_Shift_ann [(.agg ⟨(List.map (Value.int .u64) m0)⟩), (.int .i64 by1)] H R = masks_Shift m0 by1 H R := by kernel_rfl
theorem masks_Shift_calls (m0 : List Int) (by1 : Int) {H : Heap} {R : Ending → Heap → Prop} (h : masks_Shift m0 by1 H R) : CallsH Try.prog 42 ⟨[(.agg ⟨(List.map (Value.int .u64) m0)⟩), (.int .i64 by1)]⟩ H R :=
  callsH_of namesOk mixedOk Try.func42 (ann := masks_Shift_ann) (by rw [masks_Shift_den]; exact h)

/-! slotrules masks.each -/
def masks_each (a0 : List Int) (b1 : List Int) (f2 : FuncId) (f2f : Array Value) (f2c : Array Value) (H : Heap) (R : Ending → Heap → Prop) : Prop :=
  let H1 : Heap := H.push (.cells ⟨(List.map (Value.int .u64) a0)⟩ 31)
  let H2 : Heap := H1.push (.cells ⟨(List.map (Value.int .u64) b1)⟩ 31)
  let H3 : Heap := H2.push (.cells ⟨(List.map (Value.int .u64) (List.replicate 23 0))⟩ 31)
  ∃ (I2 : Int → Heap → Prop) (m2 : Int → Heap → Nat), I2 0 H3 ∧ ∀ (x8 : Int) (H4 : Heap), I2 x8 H4 → 
  ifB (decide (x8 < 23))
  ((0 : Int) ≤ x8 ∧ x8 < ((23 : Nat) : Int) ∧ ∃ x15 : Int, cellH H4 ((newA H).add (Int.toNat x8 * 1)) = some (.int .u64 x15) ∧ (0 : Int) ≤ x8 ∧ x8 < ((23 : Nat) : Int) ∧ ∃ x18 : Int, cellH H4 ((newA H1).add (Int.toNat x8 * 1)) = some (.int .u64 x18) ∧ callV Try.prog f2 ⟨f2f.toList ++ ([(.int .u64 x15), (.int .u64 x18)] ++ f2c.toList)⟩ H4 (onCall (fun rx19 H5 => ∃ x19 : Int, rx19 = (.int .u64 x19) ∧ (((.int .i64 x8) : Value) = (.int .i64 x8)) ∧ (0 : Int) ≤ x8 ∧ x8 < ((23 : Nat) : Int) ∧ MayPut H5 ((newA H).add (Int.toNat x8 * 1)) 1 ∧ let H6 : Heap := putH H5 ((newA H).add (Int.toNat x8 * 1)) ([(.int .u64 x19)])
  (I2 (IntKind.i64.wrap (x8 + 1)) H6 ∧ m2 (IntKind.i64.wrap (x8 + 1)) H6 < m2 x8 H4)) (fun ch H7 => R (.panicked ch) H7)))
  (∃ x22 : List Int, x22.length = 23 ∧ At H4 (newA H) (List.map (Value.int .u64) x22) ∧ CallsH Try.prog 33 ⟨[(.agg ⟨(List.map (Value.int .u64) x22)⟩)]⟩ H4 (onCall (fun rx23 H8 => ∃ x23 : List Int, x23.length = 23 ∧ rx23 = (.agg ⟨(List.map (Value.int .u64) x23)⟩) ∧ okL (MayPut H8 (newA H2) 23 ∧ let H9 : Heap := putH H8 (newA H2) (List.map (Value.int .u64) x23)
  ∃ o6 : List Int, o6.length = 23 ∧ At H9 (newA H2) (List.map (Value.int .u64) o6) ∧ R (.returned (.agg ⟨(List.map (Value.int .u64) o6)⟩)) H9) (List.map (Value.int .u64) x23) 23) (fun ch H10 => R (.panicked ch) H10)))
def masks_each_ann : Ann := ⟨lookN (false, 0) [(4, false, 9)], lookN [] [(4, [.s 0, .s 1, .s 2, .s 3, .s 4, .s 5, .s 6, .s 7, .e 8])], lookN [] [(2, [(8, .int .i64)])]⟩
theorem masks_each_den (a0 : List Int) (b1 : List Int) (f2 : FuncId) (f2f : Array Value) (f2c : Array Value) (H : Heap) (R : Ending → Heap → Prop) : denF Try.prog Try.f62 masks_each_ann [(.agg ⟨(List.map (Value.int .u64) a0)⟩), (.agg ⟨(List.map (Value.int .u64) b1)⟩), (.func (.func f2) f2f f2c)] H R = masks_each a0 b1 f2 f2f f2c H R := by kernel_rfl
theorem masks_each_calls (a0 : List Int) (b1 : List Int) (f2 : FuncId) (f2f : Array Value) (f2c : Array Value) {H : Heap} {R : Ending → Heap → Prop} (h : masks_each a0 b1 f2 f2f f2c H R) : CallsH Try.prog 62 ⟨[(.agg ⟨(List.map (Value.int .u64) a0)⟩), (.agg ⟨(List.map (Value.int .u64) b1)⟩), (.func (.func f2) f2f f2c)]⟩ H R :=
  callsH_of namesOk mixedOk Try.func62 (ann := masks_each_ann) (by rw [masks_each_den]; exact h)

/-! slotrules masks.Diff$1 -/
def masks_Diff_c1 (x0 : Int) (y1 : Int) (H : Heap) (R : Ending → Heap → Prop) : Prop :=
  R (.returned (.int .u64 (bAndNot .u64 x0 y1))) H
def masks_Diff_c1_ann : Ann := ⟨lookN (false, 0) [], lookN [] [], lookN [] []⟩
theorem masks_Diff_c1_den (x0 : Int) (y1 : Int) (H : Heap) (R : Ending → Heap → Prop) : denF Try.prog Try.f63 masks_Diff_c1_ann [(.int .u64 x0), (.int .u64 y1)] H R = masks_Diff_c1 x0 y1 H R := by kernel_rfl
theorem masks_Diff_c1_calls (x0 : Int) (y1 : Int) {H : Heap} {R : Ending → Heap → Prop} (h : masks_Diff_c1 x0 y1 H R) : CallsH Try.prog 63 ⟨[(.int .u64 x0), (.int .u64 y1)]⟩ H R :=
  callsH_of namesOk mixedOk Try.func63 (ann := masks_Diff_c1_ann) (by rw [masks_Diff_c1_den]; exact h)

/-! slotrules masks.Union$1 -/
def masks_Union_c1 (x0 : Int) (y1 : Int) (H : Heap) (R : Ending → Heap → Prop) : Prop :=
  R (.returned (.int .u64 (bOr .u64 x0 y1))) H
def masks_Union_c1_ann : Ann := ⟨lookN (false, 0) [], lookN [] [], lookN [] []⟩
theorem masks_Union_c1_den (x0 : Int) (y1 : Int) (H : Heap) (R : Ending → Heap → Prop) : denF Try.prog Try.f65 masks_Union_c1_ann [(.int .u64 x0), (.int .u64 y1)] H R = masks_Union_c1 x0 y1 H R := by kernel_rfl
theorem masks_Union_c1_calls (x0 : Int) (y1 : Int) {H : Heap} {R : Ending → Heap → Prop} (h : masks_Union_c1 x0 y1 H R) : CallsH Try.prog 65 ⟨[(.int .u64 x0), (.int .u64 y1)]⟩ H R :=
  callsH_of namesOk mixedOk Try.func65 (ann := masks_Union_c1_ann) (by rw [masks_Union_c1_den]; exact h)

/-! slotrules masks.Both$1 -/
def masks_Both_c1 (x0 : Int) (y1 : Int) (H : Heap) (R : Ending → Heap → Prop) : Prop :=
  R (.returned (.int .u64 (bAnd .u64 x0 y1))) H
def masks_Both_c1_ann : Ann := ⟨lookN (false, 0) [], lookN [] [], lookN [] []⟩
theorem masks_Both_c1_den (x0 : Int) (y1 : Int) (H : Heap) (R : Ending → Heap → Prop) : denF Try.prog Try.f66 masks_Both_c1_ann [(.int .u64 x0), (.int .u64 y1)] H R = masks_Both_c1 x0 y1 H R := by kernel_rfl
theorem masks_Both_c1_calls (x0 : Int) (y1 : Int) {H : Heap} {R : Ending → Heap → Prop} (h : masks_Both_c1 x0 y1 H R) : CallsH Try.prog 66 ⟨[(.int .u64 x0), (.int .u64 y1)]⟩ H R :=
  callsH_of namesOk mixedOk Try.func66 (ann := masks_Both_c1_ann) (by rw [masks_Both_c1_den]; exact h)

end Go.Vc
set_option linter.unusedVariables false
set_option linter.unusedSimpArgs false
set_option maxRecDepth 100000
namespace Go.Vc
open Go.Proofs

/-! masks: what each function makes of numbers of bits -/
theorem CallsE.all {P : Program} {f : FuncId} {args : Array Value} {v : Value} (h : ∀ H, CallsH P f args H fun e H' => e = .returned v ∧ Ext0 H H') (H : Heap) : CallsE P f args H v := fun H1 _ => h H1
theorem callV_mk {P : Program} {f : FuncId} {args : Array Value} {H : Heap} {R : Ending → Heap → Prop} {fn : Func} (hf : P.funcs[f]? = some fn) (hb : fn.body.isSome = true) (h : CallsH P f args H R) : callV P f args H R := by
  unfold callV
  obtain ⟨c, hc⟩ := Option.isSome_iff_exists.1 hb
  rw [hf, Option.bind_some, hc]
  exact h
section
variable {M : Nat → Prop} {H0 H : Heap} {L : List (Nat × Obj)} {a b : Addr} {l : List Value} {T T2 : TypeId} {k j B : Nat} {R : Ending → Heap → Prop}
theorem mask_out (hS : St M H0 H L) (hj : nthO L j = some (b.block, C l T2)) (hb : b.spot = none) (hb0 : b.off = 0) (hl : l.length = 23) (hR : ∀ H4, Ext M H0 H4 → R (.returned (maskV B)) H4) :
    okL (MayPut H b 23 ∧ let H4 : Heap := putH H b (List.map (Value.int .u64) (wordsOf B))
      ∃ o : List Int, o.length = 23 ∧ At H4 b (List.map (Value.int .u64) o) ∧ R (.returned (.agg ⟨List.map (Value.int .u64) o⟩)) H4) (List.map (Value.int .u64) (wordsOf B)) 23 := by
  refine okL_ints (wordsOf_length B) ⟨St.may hS hj hb (by omega), wordsOf B, wordsOf_length B, ?_, ?_⟩
  · show At (putH H b (List.map (Value.int .u64) (wordsOf B))) b _
    have h := St.put hS hj hb (List.map (Value.int .u64) (wordsOf B))
    have e : splice l b.off (List.map (Value.int .u64) (wordsOf B)) = List.map (Value.int .u64) (wordsOf B) := by rw [hb0]; exact splice_all (by rw [hl, List.length_map, wordsOf_length])
    rw [e] at h
    refine At_of_blk (h.at_ (b.block, C (List.map (Value.int .u64) (wordsOf B)) T2) ?_) hb fun i v hi => by rw [hb0]; simpa using hi
    rw [setN_set]
    have hlt : j < L.length := by
      rw [nthO_get] at hj
      exact (List.getElem?_eq_some_iff.1 hj).1
    exact List.mem_of_getElem? (i := j) (by rw [List.getElem?_set]; simp [hlt])
  · exact hR _ (St.put hS hj hb _).ext
end
theorem clean_bits (A : Nat) : splice ((wordsOf A).map (Value.int .u64)) 22 [Value.int .u64 (bAnd .u64 (word A 22 : Nat) 4294967295)] = (wordsOf (A % dayN)).map (Value.int .u64) := by
  rw [splice_one, show (4294967295 : Int) = ((4294967295 : Nat) : Int) from rfl, bAnd_nat (word_lt A 22) (by decide), ← List.map_set]
  congr 1
  refine wordsOf_ext (by simp [wordsOf_length]) fun k hk => ?_
  rw [List.getElem?_set]
  split
  · rename_i e
    subst e
    simp only [wordsOf_length, hk, if_true]
    congr 2
    refine (word_eq (Nat.and_lt_two_pow _ (by decide)) fun j hj => ?_).symm
    rw [Nat.testBit_and, word_bit, dayN_bit, show (4294967295 : Nat) = 2 ^ 32 - 1 from rfl, Nat.testBit_two_pow_sub_one]
    by_cases h : j < 32
    · simp [hj, h, show 64 * 22 + j < 1440 by omega]
    · simp [h, show ¬ 64 * 22 + j < 1440 by omega]
  · rename_i hne
    rw [wordsOf_get hk]
    congr 2
    refine (word_eq (word_lt A k) fun j hj => ?_).symm
    rw [word_bit, dayN_bit]
    simp [hj, show 64 * k + j < 1440 by omega]
theorem clean_is (A : Nat) (H : Heap) : CallsE Try.prog 33 ⟨[maskV A]⟩ H (maskV (A % dayN)) := by
  refine CallsE.all (fun H => ?_) H
  apply masks_clean_calls
  unfold masks_clean
  have hS := St.start none0 H
  intro H1
  replace hS : St _ _ H1 _ := St.push hS _
  clear_value H1
  intro H2
  replace hS : St _ _ H2 _ := St.push hS _
  clear_value H2
  refine ⟨by omega, by omega, _, St.cell (k := 1) hS rfl rfl (wordsOf_cell (k := 22) (by omega)), by omega, by omega, St.may (k := 1) hS rfl rfl (by simp [wordsOf_length, newA, Addr.add]), ?_⟩
  intro H3
  have hS : St _ _ H3 _ := St.put (k := 1) hS rfl rfl _
  clear_value H3
  rw [show ((newA H).add (Int.toNat 22 * 1)).off = 22 from rfl, clean_bits] at hS
  simp only [setN] at hS
  refine ⟨wordsOf (A % dayN), wordsOf_length _, St.atAll (k := 1) hS rfl rfl rfl, ?_⟩
  exact mask_out (R := fun e H' => e = .returned (maskV (A % dayN)) ∧ Ext0 H H') (B := A % dayN) (b := newA H1) (j := 0) hS rfl rfl rfl (by simp) fun H4 hx => ⟨rfl, hx⟩
/-- Words laid together up to here. -/
structure Upto (A G i : Nat) (ws : List Int) : Prop where
  len : ws.length = 23
  at_ : ∀ k, k < 23 → ws[k]? = some (((if k < i then word G k else word A k) : Nat) : Int)
theorem Upto.zero (A G : Nat) : Upto A G 0 (wordsOf A) := ⟨wordsOf_length A, fun k hk => by rw [wordsOf_get hk]; simp⟩
theorem Upto.all {A G : Nat} {ws : List Int} (h : Upto A G 23 ws) : ws = wordsOf G := wordsOf_ext h.len fun k hk => by rw [h.at_ k hk]; simp [hk]
theorem Upto.next {A G i : Nat} {ws : List Int} (h : Upto A G i ws) (hi : i < 23) : Upto A G (i + 1) (ws.set i ((word G i : Nat) : Int)) := by
  refine ⟨by simp [h.len], fun k hk => ?_⟩
  rw [List.getElem?_set]
  split
  · rename_i e; subst e; simp [h.len, hi]
  · rename_i e
    rw [h.at_ k hk]
    by_cases h1 : k < i
    · simp [h1, show k < i + 1 by omega]
    · simp [h1, show ¬ k < i + 1 by omega]
theorem word_pos {i : Nat} (h : i < 23) : (0 : Int) ≤ (i : Int) ∧ (i : Int) < ((23 : Nat) : Int) := by omega
theorem off_new {H : Heap} {i : Nat} : ((newA H).add (Int.toNat (i : Int) * 1)).off = i := by rw [add_off]; simp [newA]
theorem each_is {f : FuncId} {g G : Nat → Nat → Nat} (hg : ∀ A B k, k < 23 → g (word A k) (word B k) = word (G A B) k)
    (hcall : ∀ (x y : Nat) (H : Heap) (K : Value → Heap → Prop) (X : List PanicEntry → Heap → Prop), x < 2 ^ 64 → y < 2 ^ 64 → K (.int .u64 ((g x y : Nat) : Int)) H → callV Try.prog f ⟨(#[] : Array Value).toList ++ ([.int .u64 (x : Int), .int .u64 (y : Int)] ++ (#[] : Array Value).toList)⟩ H (onCall K X))
    (A B : Nat) (H : Heap) : CallsE Try.prog 62 ⟨[maskV A, maskV B, .func (.func f) #[] #[]]⟩ H (maskV (G A B % dayN)) := by
  refine CallsE.all (fun H => ?_) H
  apply masks_each_calls
  unfold masks_each
  have hS := St.start none0 H
  intro H1
  replace hS : St _ _ H1 _ := St.push hS _
  clear_value H1
  intro H2
  replace hS : St _ _ H2 _ := St.push hS _
  clear_value H2
  intro H3
  replace hS : St _ _ H3 _ := St.push hS _
  clear_value H3
  refine ⟨fun x H' => ∃ (i : Nat) (ws : List Int), x = i ∧ i ≤ 23 ∧ Upto A (G A B) i ws ∧ St none0 H H' [(H2.size, C (List.map (Value.int .u64) (List.replicate 23 0)) 31), (H1.size, C (List.map (Value.int .u64) (wordsOf B)) 31), (H.size, C (List.map (Value.int .u64) ws) 31)],
    fun x _ => (23 - x).toNat, ⟨0, wordsOf A, rfl, by omega, Upto.zero A _, hS⟩, ?_⟩
  rintro x H4 ⟨i, ws, rfl, hi, hw, hS⟩
  refine ifB_mk (fun hc => ?_) (fun hc => ?_)
  · have hi : i < 23 := by simp at hc; omega
    have hA : (List.map (Value.int .u64) ws)[i]? = some (.int .u64 ((word A i : Nat) : Int)) := by rw [List.getElem?_map, hw.at_ i hi]; simp
    refine ⟨by omega, by omega, _, St.cell (k := 2) (a := (newA H).add (Int.toNat (i : Int) * 1)) hS (by rw [add_block]; rfl) (add_spot _ rfl) (by rw [off_new]; exact hA), by omega, by omega, _, St.cell (k := 1) (a := (newA H1).add (Int.toNat (i : Int) * 1)) hS (by rw [add_block]; rfl) (add_spot _ rfl) (by rw [off_new]; exact wordsOf_cell hi), ?_⟩
    refine hcall (word A i) (word B i) H4 _ _ (word_lt _ _) (word_lt _ _) ?_
    refine ⟨((g (word A i) (word B i) : Nat) : Int), rfl, ?_⟩
    refine ⟨rfl, ?_⟩
    refine ⟨by omega, by omega, ?_⟩
    refine ⟨St.may (k := 2) (a := (newA H).add (Int.toNat (i : Int) * 1)) hS (by rw [add_block]; rfl) (add_spot _ rfl) (by rw [off_new]; simp [hw.len]; omega), ?_⟩
    intro H6
    have hS : St _ _ H6 _ := St.put (k := 2) hS (by rw [add_block]; rfl) (add_spot _ rfl) _
    clear_value H6
    rw [off_new, splice_one, ← List.map_set, hg A B i hi, add_block] at hS
    refine ⟨⟨i + 1, _, by rw [i64_id (by omega) (by omega)]; omega, by omega, hw.next hi, hS⟩, ?_⟩
    show Int.toNat _ < Int.toNat _
    rw [i64_id (by omega) (by omega)]
    omega
  · have hi : i = 23 := by simp at hc; omega
    subst hi
    rw [hw.all] at hS
    refine ⟨wordsOf _, wordsOf_length _, St.atAll (k := 2) hS rfl rfl rfl, ?_⟩
    refine CallsE.call (clean_is _ H4) fun H8 hx => ⟨wordsOf _, wordsOf_length _, rfl, ?_⟩
    exact mask_out (R := fun e H' => e = .returned (maskV (G A B % dayN)) ∧ Ext0 H H') (B := G A B % dayN) (b := newA H2) (j := 0) (hS.grow hx) rfl rfl rfl (by simp) fun H4 hx => ⟨rfl, hx⟩
theorem Union_is (A B : Nat) (H : Heap) : CallsE Try.prog 40 ⟨[maskV A, maskV B]⟩ H (maskV ((A ||| B) % dayN)) := by
  refine CallsE.all (fun H => ?_) H
  apply masks_Union_calls
  unfold masks_Union
  have hS := St.start none0 H
  intro H1
  replace hS : St _ _ H1 _ := St.push hS _
  clear_value H1
  intro H2
  replace hS : St _ _ H2 _ := St.push hS _
  clear_value H2
  intro H3
  replace hS : St _ _ H3 _ := St.push hS _
  clear_value H3
  refine ⟨wordsOf _, wordsOf_length _, St.atAll (k := 2) hS rfl rfl rfl, wordsOf _, wordsOf_length _, St.atAll (k := 1) hS rfl rfl rfl, ?_⟩
  refine CallsE.call (each_is (g := fun a b => a ||| b) (G := fun a b => a ||| b) (fun A B k hk => ?_) (fun x y H K X hx hy hk => ?_) A B H3) fun H8 hx => ⟨wordsOf _, wordsOf_length _, rfl, ?_⟩
  · exact (word_eq (Nat.or_lt_two_pow (word_lt _ _) (word_lt _ _)) fun j hj => by simp [word_bit, hj]).symm
  · exact callV_mk Try.func65 (by kernel_rfl) ((masks_Union_c1_calls _ _ (R := fun e H' => e = .returned (.int .u64 ((x ||| y : Nat) : Int)) ∧ H' = H) ⟨by rw [bOr_nat hx hy], rfl⟩).mono fun e H' h => by obtain ⟨rfl, rfl⟩ := h; exact hk)
  · exact mask_out (R := fun e H' => e = .returned (maskV ((A ||| B) % dayN)) ∧ Ext0 H H') (B := (A ||| B) % dayN) (b := newA H2) (j := 0) (hS.grow hx) rfl rfl rfl (by simp) fun H4 hx => ⟨rfl, hx⟩
theorem Both_is (A B : Nat) (H : Heap) : CallsE Try.prog 41 ⟨[maskV A, maskV B]⟩ H (maskV ((A &&& B) % dayN)) := by
  refine CallsE.all (fun H => ?_) H
  apply masks_Both_calls
  unfold masks_Both
  have hS := St.start none0 H
  intro H1
  replace hS : St _ _ H1 _ := St.push hS _
  clear_value H1
  intro H2
  replace hS : St _ _ H2 _ := St.push hS _
  clear_value H2
  intro H3
  replace hS : St _ _ H3 _ := St.push hS _
  clear_value H3
  refine ⟨wordsOf _, wordsOf_length _, St.atAll (k := 2) hS rfl rfl rfl, wordsOf _, wordsOf_length _, St.atAll (k := 1) hS rfl rfl rfl, ?_⟩
  refine CallsE.call (each_is (g := fun a b => (a &&& b)) (G := fun a b => (a &&& b)) (fun A B k hk => ?_) (fun x y H K X hx hy hk => ?_) A B H3) fun H8 hx => ⟨wordsOf _, wordsOf_length _, rfl, ?_⟩
  · exact (word_eq (Nat.and_lt_two_pow _ (word_lt _ _)) fun j hj => by simp [word_bit, hj]).symm
  · exact callV_mk Try.func66 (by kernel_rfl) ((masks_Both_c1_calls _ _ (R := fun e H' => e = .returned (.int .u64 (((x &&& y) : Nat) : Int)) ∧ H' = H) ⟨by rw [bAnd_nat hx hy], rfl⟩).mono fun e H' h => by obtain ⟨rfl, rfl⟩ := h; exact hk)
  · exact mask_out (R := fun e H' => e = .returned (maskV ((A &&& B) % dayN)) ∧ Ext0 H H') (B := (A &&& B) % dayN) (b := newA H2) (j := 0) (hS.grow hx) rfl rfl rfl (by simp) fun H4 hx => ⟨rfl, hx⟩
theorem Diff_is (A B : Nat) (H : Heap) : CallsE Try.prog 35 ⟨[maskV A, maskV B]⟩ H (maskV ((diffN A B) % dayN)) := by
  refine CallsE.all (fun H => ?_) H
  apply masks_Diff_calls
  unfold masks_Diff
  have hS := St.start none0 H
  intro H1
  replace hS : St _ _ H1 _ := St.push hS _
  clear_value H1
  intro H2
  replace hS : St _ _ H2 _ := St.push hS _
  clear_value H2
  intro H3
  replace hS : St _ _ H3 _ := St.push hS _
  clear_value H3
  refine ⟨wordsOf _, wordsOf_length _, St.atAll (k := 2) hS rfl rfl rfl, wordsOf _, wordsOf_length _, St.atAll (k := 1) hS rfl rfl rfl, ?_⟩
  refine CallsE.call (each_is (g := fun a b => (diffN a b)) (G := fun a b => (diffN a b)) (fun A B k hk => ?_) (fun x y H K X hx hy hk => ?_) A B H3) fun H8 hx => ⟨wordsOf _, wordsOf_length _, rfl, ?_⟩
  · exact (word_eq (diffN_lt (word_lt _ _)) fun j hj => by simp [diffN_bit, word_bit, hj]).symm
  · exact callV_mk Try.func63 (by kernel_rfl) ((masks_Diff_c1_calls _ _ (R := fun e H' => e = .returned (.int .u64 (((diffN x y) : Nat) : Int)) ∧ H' = H) ⟨by rw [bAndNot_nat hx hy], rfl⟩).mono fun e H' h => by obtain ⟨rfl, rfl⟩ := h; exact hk)
  · exact mask_out (R := fun e H' => e = .returned (maskV ((diffN A B) % dayN)) ∧ Ext0 H H') (B := (diffN A B) % dayN) (b := newA H2) (j := 0) (hS.grow hx) rfl rfl rfl (by simp) fun H4 hx => ⟨rfl, hx⟩
/-- The bit at a place that may lie outside. -/
def bitZ (A : Nat) (z : Int) : Bool := decide (0 ≤ z) && A.testBit z.toNat
/-- So many minutes later; what leaves the day is lost. -/
def shiftN (A : Nat) (n : Int) : Nat := if 0 ≤ n then ((A % dayN) <<< n.toNat) % dayN else (A % dayN) >>> (-n).toNat
theorem shiftN_bit (A : Nat) (n : Int) (j : Nat) : (shiftN A n).testBit j = (decide (j < 1440) && bitZ (A % dayN) ((j : Int) - n)) := by
  unfold shiftN bitZ
  split
  · rename_i h
    rw [dayN_bit, Nat.testBit_shiftLeft]
    congr 1
    congr 1
    · exact decide_eq_decide.2 (by omega)
    · congr 1; omega
  · rename_i h
    rw [Nat.testBit_shiftRight, show (-n).toNat + j = ((j : Int) - n).toNat by omega]
    simp only [show (0 : Int) ≤ (j : Int) - n by omega, decide_true, Bool.true_and, dayN_bit]
    by_cases hj : j < 1440
    · simp [hj]
    · simp [hj, show ¬ (((j : Int) - n).toNat < 1440) by omega]
theorem shiftN_day (A : Nat) (n : Int) : shiftN A n % dayN = shiftN A n := by
  apply Nat.eq_of_testBit_eq
  intro j
  rw [dayN_bit, shiftN_bit]
  by_cases h : j < 1440 <;> simp [h]
/-- The same ahead of the cut. -/
def shiftS (A : Nat) (n : Int) : Nat := if 0 ≤ n then A <<< n.toNat else A >>> (-n).toNat
theorem shiftS_bit (A : Nat) (n : Int) (j : Nat) : (shiftS A n).testBit j = bitZ A ((j : Int) - n) := by
  unfold shiftS bitZ
  split
  · rw [Nat.testBit_shiftLeft]
    congr 1
    · exact decide_eq_decide.2 (by omega)
    · congr 1; omega
  · rw [Nat.testBit_shiftRight, show (-n).toNat + j = ((j : Int) - n).toNat by omega]
    rw [decide_eq_true (show (0 : Int) ≤ (j : Int) - n by omega), Bool.true_and]
theorem shiftS_cut (A : Nat) (n : Int) : shiftS (A % dayN) n % dayN = shiftN A n := by
  apply Nat.eq_of_testBit_eq
  intro j
  rw [dayN_bit, shiftN_bit, shiftS_bit]
theorem shl_nat {a r : Nat} (hr : r ≤ 64) : IntKind.u64.wrap ((a : Int) * 2 ^ (min r 64)) = ((a * 2 ^ r % 2 ^ 64 : Nat) : Int) := by
  rw [u64w, Nat.min_eq_left hr]
  simp
theorem shr_nat {a r : Nat} (hr : r ≤ 64) : Int.fdiv (a : Int) (2 ^ (min r 64)) = ((a / 2 ^ r : Nat) : Int) := by
  rw [Nat.min_eq_left hr, Int.fdiv_eq_ediv_of_nonneg _ (Int.pow_nonneg (by decide))]
  simp
/-- The two parts of a word. -/
def loW (M r : Nat) (k : Int) : Nat := if 0 ≤ k ∧ k < 23 then word M k.toNat * 2 ^ r % 2 ^ 64 else 0
def hiW (M r : Nat) (k : Int) : Nat := if 0 < r ∧ 0 ≤ k - 1 ∧ k - 1 < 23 then word M (k - 1).toNat / 2 ^ (64 - r) else 0
theorem loW_lt (M r : Nat) (k : Int) : loW M r k < 2 ^ 64 := by unfold loW; split <;> first | exact Nat.mod_lt _ (by decide) | decide
theorem hiW_lt (M r : Nat) (k : Int) : hiW M r k < 2 ^ 64 := by
  unfold hiW
  split
  · exact Nat.lt_of_le_of_lt (Nat.div_le_self _ _) (word_lt _ _)
  · decide
theorem shift_word {A r i : Nat} {w n : Int} (hn : n = 64 * w + r) (hr : r < 64) : loW (A % dayN) r ((i : Int) - w) ||| hiW (A % dayN) r ((i : Int) - w) = word (shiftS (A % dayN) n) i := by
  refine (word_eq (Nat.or_lt_two_pow (loW_lt _ _ _) (hiW_lt _ _ _)) fun j hj => ?_).symm
  rw [Nat.testBit_or, shiftS_bit]
  generalize hM : A % dayN = M
  have hout : ∀ p, 1440 ≤ p → M.testBit p = false := fun p hp => by rw [← hM, dayN_bit]; simp [show ¬ p < 1440 by omega]
  generalize hz : ((64 * i + j : Nat) : Int) - n = z
  have h1 : (loW M r ((i : Int) - w)).testBit j = (decide (r ≤ j) && bitZ M z) := by
    unfold loW bitZ
    split
    · rename_i hk
      rw [Nat.testBit_mod_two_pow, ← Nat.shiftLeft_eq, Nat.testBit_shiftLeft, word_bit, decide_eq_true hj, Bool.true_and]
      by_cases hrj : r ≤ j
      · rw [decide_eq_true (show j ≥ r from hrj), decide_eq_true (show j - r < 64 by omega), decide_eq_true (show (0 : Int) ≤ z by omega), show 64 * ((i : Int) - w).toNat + (j - r) = z.toNat by omega]
      · rw [decide_eq_false (show ¬ j ≥ r from hrj)]; rfl
    · rename_i hk
      rw [Nat.zero_testBit]
      by_cases hrj : r ≤ j
      · by_cases h0 : (0 : Int) ≤ z
        · rw [hout _ (by omega)]; simp
        · rw [decide_eq_false h0]; simp
      · rw [decide_eq_false hrj]; rfl
  have h2 : (hiW M r ((i : Int) - w)).testBit j = (decide (j < r) && bitZ M z) := by
    unfold hiW bitZ
    split
    · rename_i hk
      rw [Nat.testBit_div_two_pow, word_bit]
      by_cases hrj : j < r
      · rw [decide_eq_true hrj, decide_eq_true (show j + (64 - r) < 64 by omega), decide_eq_true (show (0 : Int) ≤ z by omega), show 64 * ((i : Int) - w - 1).toNat + (j + (64 - r)) = z.toNat by omega]
        rfl
      · rw [decide_eq_false hrj, decide_eq_false (show ¬ (j + (64 - r) < 64) by omega)]; rfl
    · rename_i hk
      rw [Nat.zero_testBit]
      by_cases hrj : j < r
      · by_cases h0 : (0 : Int) ≤ z
        · rw [hout _ (by omega)]; simp
        · rw [decide_eq_false h0]; simp
      · rw [decide_eq_false hrj]; rfl
  rw [h1, h2]
  by_cases hrj : r ≤ j
  · simp [hrj, show ¬ j < r by omega]
  · simp [hrj, show j < r by omega]
theorem Upto.put {A G i : Nat} {ws : List Int} (h : Upto A G i ws) {x : Int} (hi : i < 23) (hx : x = ((word G i : Nat) : Int)) : Upto A G (i + 1) (ws.set i x) := by rw [hx]; exact h.next hi
theorem word_zero (k : Nat) : word 0 k = 0 := by simp [word]
theorem set_set {α : Type} {l : List α} {i : Nat} {x y : α} : (l.set i x).set i y = l.set i y := by
  apply List.ext_getElem?
  intro k
  simp only [List.getElem?_set, List.length_set]
  split <;> simp_all
theorem Shift_is (A : Nat) (n : Int) (H : Heap) : CallsE Try.prog 42 ⟨[maskV A, .int .i64 n]⟩ H (maskV (if n ≤ -1440 ∨ n ≥ 1440 then 0 else shiftN A n)) := by
  refine CallsE.all (fun H => ?_) H
  apply masks_Shift_calls
  unfold masks_Shift
  have hS := St.start none0 H
  intro H1
  replace hS : St _ _ H1 _ := St.push hS _
  clear_value H1
  intro H2
  replace hS : St _ _ H2 _ := St.push hS _
  clear_value H2
  intro H3
  replace hS : St _ _ H3 _ := St.push hS _
  clear_value H3
  refine ⟨wordsOf _, wordsOf_length _, St.atAll (k := 2) hS rfl rfl rfl, ?_⟩
  refine CallsE.call (clean_is A H3) fun H4 hx => ⟨wordsOf _, wordsOf_length _, rfl, okL_ints (wordsOf_length _) ?_⟩
  have hS := hS.grow hx
  clear hx
  refine ⟨St.may (k := 2) hS rfl rfl (by simp [wordsOf_length, newA]), ?_⟩
  intro H5
  have hS : St _ _ H5 _ := St.put (k := 2) hS rfl rfl _
  clear_value H5
  rw [show (newA H).off = 0 from rfl, splice_all (by simp [wordsOf_length])] at hS
  simp only [setN] at hS
  refine ifB_mk (fun hc => ?_) (fun hc => ?_)
  · rw [if_pos (by simpa using hc)]
    refine ⟨List.replicate 23 0, by simp, St.atAll (k := 0) hS rfl rfl rfl, ?_⟩
    rw [← wordsOf_zero] at hS ⊢
    exact mask_out (R := fun e H' => e = .returned (maskV 0) ∧ Ext0 H H') (B := 0) (b := newA H1) (j := 1) hS rfl rfl rfl (by simp [wordsOf_length]) fun H4 hx => ⟨rfl, hx⟩
  have hn : ¬ (n ≤ -1440 ∨ n ≥ 1440) := by simpa using hc
  rw [if_neg hn]
  have loop : ∀ (w : Int) (r : Nat), n = 64 * w + r → r < 64 → masks_Shift_k1 H H1 H2 w (r : Int) H5 (fun e H' => e = .returned (maskV (shiftN A n)) ∧ Ext0 H H') := by
    intro w r hw hr
    unfold masks_Shift_k1
    refine ⟨fun x H' => ∃ (i : Nat) (ws : List Int), x = i ∧ i ≤ 23 ∧ Upto 0 (shiftS (A % dayN) n) i ws ∧ St none0 H H' [(H2.size, C (List.map (Value.int .u64) ws) 31), (H1.size, C (List.map (Value.int .u64) (List.replicate 23 0)) 31), (H.size, C (List.map (Value.int .u64) (wordsOf (A % dayN))) 31)],
      fun x _ => (23 - x).toNat, ⟨0, wordsOf 0, rfl, by omega, Upto.zero 0 _, by rw [wordsOf_zero]; exact hS⟩, ?_⟩
    rintro x H8 ⟨i, ws, rfl, hi, hu, hS⟩
    refine ifB_mk (fun hc => ?_) (fun hc => ?_)
    · have hi : i < 23 := by simp at hc; omega
      have hlast : ∀ (v : Nat) (H12 : Heap), v = word (shiftS (A % dayN) n) i → St none0 H H12 [(H2.size, C (List.map (Value.int .u64) (ws.set i (v : Int))) 31), (H1.size, C (List.map (Value.int .u64) (List.replicate 23 0)) 31), (H.size, C (List.map (Value.int .u64) (wordsOf (A % dayN))) 31)] →
          masks_Shift_k3 (fun x H' => ∃ (i : Nat) (ws : List Int), x = i ∧ i ≤ 23 ∧ Upto 0 (shiftS (A % dayN) n) i ws ∧ St none0 H H' [(H2.size, C (List.map (Value.int .u64) ws) 31), (H1.size, C (List.map (Value.int .u64) (List.replicate 23 0)) 31), (H.size, C (List.map (Value.int .u64) (wordsOf (A % dayN))) 31)])
            (fun x _ => (23 - x).toNat) (i : Int) H8 H12 (fun e H' => e = .returned (maskV (shiftN A n)) ∧ Ext0 H H') := by
        intro v H12 hv hS
        unfold masks_Shift_k3
        refine ⟨⟨i + 1, _, by rw [i64_id (by omega) (by omega)]; omega, by omega, hu.put hi (by rw [hv]), hS⟩, ?_⟩
        show Int.toNat _ < Int.toNat _
        rw [i64_id (by omega) (by omega)]
        omega
      have hk : IntKind.i64.wrap ((i : Int) - w) = (i : Int) - w := i64_id (by omega) (by omega)
      have hk1 : IntKind.i64.wrap ((i : Int) - w - 1) = (i : Int) - w - 1 := i64_id (by omega) (by omega)
      have hr1 : IntKind.i64.wrap (64 - (r : Int)) = ((64 - r : Nat) : Int) := by rw [i64_id (by omega) (by omega)]; omega
      have second : ∀ (v : Nat) (H10 : Heap), v = loW (A % dayN) r ((i : Int) - w) → St none0 H H10 [(H2.size, C (List.map (Value.int .u64) (ws.set i (v : Int))) 31), (H1.size, C (List.map (Value.int .u64) (List.replicate 23 0)) 31), (H.size, C (List.map (Value.int .u64) (wordsOf (A % dayN))) 31)] →
          masks_Shift_k2 H H2 w (r : Int) (fun x H' => ∃ (i : Nat) (ws : List Int), x = i ∧ i ≤ 23 ∧ Upto 0 (shiftS (A % dayN) n) i ws ∧ St none0 H H' [(H2.size, C (List.map (Value.int .u64) ws) 31), (H1.size, C (List.map (Value.int .u64) (List.replicate 23 0)) 31), (H.size, C (List.map (Value.int .u64) (wordsOf (A % dayN))) 31)])
            (fun x _ => (23 - x).toNat) (i : Int) H8 H10 (fun e H' => e = .returned (maskV (shiftN A n)) ∧ Ext0 H H') := by
        intro v H10 hv hS
        have hvl : v < 2 ^ 64 := by rw [hv]; exact loW_lt _ _ _
        unfold masks_Shift_k2
        rw [hk, hk1, hr1]
        refine ifB_mk (fun hc => ?_) (fun hc => ?_)
        · have hc' : (0 < r ∧ 0 ≤ (i : Int) - w - 1) ∧ (i : Int) - w - 1 < 23 := by
            simp only [Bool.and_eq_true, decide_eq_true_eq] at hc
            omega
          have hwd : (List.map (Value.int .u64) (wordsOf (A % dayN)))[((newA H).add (Int.toNat ((i : Int) - w - 1) * 1)).off]? = some (.int .u64 ((word (A % dayN) ((i : Int) - w - 1).toNat : Nat) : Int)) := by
            rw [add_off, show (newA H).off + ((i : Int) - w - 1).toNat * 1 = ((i : Int) - w - 1).toNat by simp [newA]]
            exact wordsOf_cell (by omega)
          refine ⟨by omega, by omega, (v : Int), St.cell (k := 0) (a := (newA H2).add (Int.toNat (i : Int) * 1)) hS (by rw [add_block]; rfl) (add_spot _ rfl) (by rw [off_new, List.getElem?_map, List.getElem?_set]; simp [hu.len, hi]), by omega, by omega, _, St.cell (k := 2) (a := (newA H).add (Int.toNat ((i : Int) - w - 1) * 1)) hS (by rw [add_block]; rfl) (add_spot _ rfl) hwd, by omega, by omega, by omega, St.may (k := 0) (a := (newA H2).add (Int.toNat (i : Int) * 1)) hS (by rw [add_block]; rfl) (add_spot _ rfl) (by rw [off_new]; simp [hu.len]; omega), ?_⟩
          intro H11
          have hS : St _ _ H11 _ := St.put (k := 0) hS (by rw [add_block]; rfl) (add_spot _ rfl) _
          clear_value H11
          rw [off_new, splice_one, ← List.map_set, set_set, add_block, show Int.toNat ((64 - r : Nat) : Int) = 64 - r by simp, shr_nat (by omega), bOr_nat hvl (Nat.lt_of_le_of_lt (Nat.div_le_self _ _) (word_lt _ _))] at hS
          refine hlast _ H11 ?_ hS
          rw [← shift_word hw hr, ← hv]
          congr 1
          unfold hiW
          rw [if_pos ⟨hc'.1.1, hc'.1.2, hc'.2⟩]
        · refine hlast v H10 ?_ hS
          rw [← shift_word hw hr, ← hv]
          unfold hiW
          rw [if_neg (fun h => ?_), Nat.or_zero]
          simp only [Bool.and_eq_false_iff, decide_eq_false_iff_not] at hc
          omega
      rw [hk]
      refine ifB_mk (fun hc => ?_) (fun hc => ?_)
      · have hc' : 0 ≤ (i : Int) - w ∧ (i : Int) - w < 23 := by
          simp only [Bool.and_eq_true, decide_eq_true_eq] at hc
          omega
        have hwd : (List.map (Value.int .u64) (wordsOf (A % dayN)))[((newA H).add (Int.toNat ((i : Int) - w) * 1)).off]? = some (.int .u64 ((word (A % dayN) ((i : Int) - w).toNat : Nat) : Int)) := by
          rw [add_off, show (newA H).off + ((i : Int) - w).toNat * 1 = ((i : Int) - w).toNat by simp [newA]]
          exact wordsOf_cell (by omega)
        have h0 : ws[i]? = some ((0 : Nat) : Int) := by rw [hu.at_ i hi]; simp [word_zero]
        refine ⟨by omega, by omega, ((0 : Nat) : Int), St.cell (k := 0) (a := (newA H2).add (Int.toNat (i : Int) * 1)) hS (by rw [add_block]; rfl) (add_spot _ rfl) (by rw [off_new, List.getElem?_map, h0]; rfl), by omega, by omega, _, St.cell (k := 2) (a := (newA H).add (Int.toNat ((i : Int) - w) * 1)) hS (by rw [add_block]; rfl) (add_spot _ rfl) hwd, by omega, by omega, by omega, St.may (k := 0) (a := (newA H2).add (Int.toNat (i : Int) * 1)) hS (by rw [add_block]; rfl) (add_spot _ rfl) (by rw [off_new]; simp [hu.len]; omega), ?_⟩
        intro H9
        have hS : St _ _ H9 _ := St.put (k := 0) hS (by rw [add_block]; rfl) (add_spot _ rfl) _
        clear_value H9
        rw [off_new, splice_one, ← List.map_set, add_block, show Int.toNat (r : Int) = r by simp, shl_nat (by omega), bOr_nat (by decide) (Nat.mod_lt _ (by decide)), Nat.zero_or] at hS
        refine second _ H9 ?_ hS
        unfold loW
        rw [if_pos hc']
      · refine second 0 H8 ?_ ?_
        · unfold loW
          rw [if_neg (fun h => ?_)]
          simp only [Bool.and_eq_false_iff, decide_eq_false_iff_not] at hc
          omega
        · have h0 : ws[i]? = some ((0 : Nat) : Int) := by rw [hu.at_ i hi]; simp [word_zero]
          have : ws.set i ((0 : Nat) : Int) = ws := by
            apply List.ext_getElem?
            intro k
            rw [List.getElem?_set]
            split
            · rename_i e; subst e; rw [h0]; simp [hu.len, hi]
            · rfl
          rw [this]
          exact hS
    · have hi : i = 23 := by simp at hc; omega
      subst hi
      rw [hu.all] at hS
      refine ⟨wordsOf _, wordsOf_length _, St.atAll (k := 0) hS rfl rfl rfl, ?_⟩
      refine CallsE.call (clean_is _ H8) fun H13 hx => ⟨wordsOf _, wordsOf_length _, rfl, ?_⟩
      rw [shiftS_cut]
      exact mask_out (R := fun e H' => e = .returned (maskV (shiftN A n)) ∧ Ext0 H H') (B := shiftN A n) (b := newA H1) (j := 1) (hS.grow hx) rfl rfl rfl (by simp) fun H4 hx => ⟨rfl, hx⟩
  have hd1 := Int.tmod_add_mul_tdiv n 64
  have hd2 : -64 < Int.tmod n 64 := Int.lt_tmod_of_pos n (by decide)
  have hd3 : Int.tmod n 64 < 64 := Int.tmod_lt_of_pos n (by decide)
  have e1 : IntKind.i64.wrap (Int.tdiv n 64) = Int.tdiv n 64 := i64_id (by omega) (by omega)
  refine ifB_mk (fun hc => ?_) (fun hc => ?_)
  · have hc' : Int.tmod n 64 < 0 := by simpa using hc
    rw [e1, i64_id (by omega) (by omega), i64_id (by omega) (by omega)]
    have := loop (Int.tdiv n 64 - 1) (Int.tmod n 64 + 64).toNat (by omega) (by omega)
    rwa [show (((Int.tmod n 64 + 64).toNat : Nat) : Int) = Int.tmod n 64 + 64 by omega] at this
  · have hc' : ¬ Int.tmod n 64 < 0 := by simpa using hc
    rw [e1]
    have := loop (Int.tdiv n 64) (Int.tmod n 64).toNat (by omega) (by omega)
    rwa [show (((Int.tmod n 64).toNat : Nat) : Int) = Int.tmod n 64 by omega] at this
/-- The bits from here up to there. -/
def rngN (lo hi : Nat) : Nat := (2 ^ (hi - lo) - 1) <<< lo
theorem rngN_bit (lo hi p : Nat) : (rngN lo hi).testBit p = (decide (lo ≤ p) && decide (p < hi)) := by
  rw [rngN, Nat.testBit_shiftLeft, Nat.testBit_two_pow_sub_one]
  by_cases h : lo ≤ p
  · rw [decide_eq_true h, Bool.true_and, Bool.true_and]
    exact decide_eq_decide.2 (by omega)
  · rw [decide_eq_false h]; rfl
/-- The minutes of a span. -/
def spanN (a b : Int) : Nat := rngN (max a 0).toNat (min b 1440).toNat
def ofN : List (Int × Int) → Nat
  | [] => 0
  | (a, b) :: r => spanN a b ||| ofN r
/-- Rows of cells, one behind the other. -/
def RowAt (H : Heap) (ad : Option Addr) (sz : Nat) (l : List (List Value)) : Prop := ∀ i c, l[i]? = some c → ∃ p, ad = some p ∧ At H (p.add (i * sz)) c
theorem RowAt.grow {H H' : Heap} {ad : Option Addr} {sz : Nat} {l : List (List Value)} (h : RowAt H ad sz l) (hx : Ext0 H H') : RowAt H' ad sz l := fun i c hc => by
  obtain ⟨p, h1, h2⟩ := h i c hc
  exact ⟨p, h1, h2.ext0 hx⟩
def spanC (s : Int × Int) : List Value := [.int .i64 s.1, .int .i64 s.2]
theorem words_full {M i hi : Nat} (h0 : i % 64 = 0) (h1 : i + 64 ≤ hi) (h2 : hi ≤ 1440) : (wordsOf M).set (i / 64) 18446744073709551615 = wordsOf (M ||| rngN i (i + 64)) := by
  refine wordsOf_ext (by simp [wordsOf_length]) fun k hk => ?_
  rw [List.getElem?_set]
  split
  · rename_i e
    subst e
    rw [if_pos (by rw [wordsOf_length]; exact hk)]
    have : word (M ||| rngN i (i + 64)) (i / 64) = 2 ^ 64 - 1 := word_eq (by decide) fun j hj => by
      rw [Nat.testBit_two_pow_sub_one, Nat.testBit_or, rngN_bit]
      simp [hj, show i ≤ 64 * (i / 64) + j by omega, show 64 * (i / 64) + j < i + 64 by omega]
    rw [this]; rfl
  · rename_i e
    rw [wordsOf_get hk]
    congr 2
    refine (word_eq (word_lt M k) fun j hj => ?_).symm
    rw [word_bit, Nat.testBit_or, rngN_bit]
    have : (decide (i ≤ 64 * k + j) && decide (64 * k + j < i + 64)) = false := by
      rw [Bool.and_eq_false_iff, decide_eq_false_iff_not, decide_eq_false_iff_not]
      omega
    rw [this]; simp [hj]
theorem words_bit {M i : Nat} (h2 : i < 1440) : (wordsOf M).set (i / 64) ((word M (i / 64) ||| 2 ^ (i % 64) : Nat) : Int) = wordsOf (M ||| rngN i (i + 1)) := by
  have hlt : 2 ^ (i % 64) < 2 ^ 64 := Nat.pow_lt_pow_right (by decide) (Nat.mod_lt _ (by decide))
  refine wordsOf_ext (by simp [wordsOf_length]) fun k hk => ?_
  rw [List.getElem?_set]
  split
  · rename_i e
    subst e
    rw [if_pos (by rw [wordsOf_length]; exact hk)]
    congr 2
    refine (word_eq (Nat.or_lt_two_pow (word_lt _ _) hlt) fun j hj => ?_).symm
    rw [Nat.testBit_or, Nat.testBit_or, word_bit, Nat.testBit_two_pow, rngN_bit, decide_eq_true hj, Bool.true_and]
    congr 1
    by_cases he : i % 64 = j
    · rw [decide_eq_true he, decide_eq_true (by omega), decide_eq_true (by omega)]; rfl
    · rw [decide_eq_false he]
      symm
      rw [Bool.and_eq_false_iff, decide_eq_false_iff_not, decide_eq_false_iff_not]
      omega
  · rename_i e
    rw [wordsOf_get hk]
    congr 2
    refine (word_eq (word_lt M k) fun j hj => ?_).symm
    rw [word_bit, Nat.testBit_or, rngN_bit]
    have : (decide (i ≤ 64 * k + j) && decide (64 * k + j < i + 1)) = false := by
      rw [Bool.and_eq_false_iff, decide_eq_false_iff_not, decide_eq_false_iff_not]
      omega
    rw [this]; simp [hj]
theorem rngN_more {M lo i j : Nat} (h1 : lo ≤ i) (h2 : i ≤ j) : M ||| rngN lo i ||| rngN i j = M ||| rngN lo j := by
  apply Nat.eq_of_testBit_eq
  intro p
  simp only [Nat.testBit_or, rngN_bit, Bool.or_assoc]
  congr 1
  rw [Bool.eq_iff_iff]
  simp only [Bool.or_eq_true, Bool.and_eq_true, decide_eq_true_eq]
  omega
theorem rngN_none {lo i : Nat} (h : i ≤ lo) : rngN lo i = 0 := by
  apply Nat.eq_of_testBit_eq
  intro p
  rw [rngN_bit, Nat.zero_testBit, Bool.and_eq_false_iff, decide_eq_false_iff_not, decide_eq_false_iff_not]
  omega
theorem ofN_snoc (l : List (Int × Int)) (s : Int × Int) : ofN (l ++ [s]) = ofN l ||| spanN s.1 s.2 := by
  induction l with
  | nil => obtain ⟨a, b⟩ := s; simp [ofN]
  | cons x r ih => obtain ⟨a, b⟩ := x; simp only [List.cons_append, ofN, ih, Nat.or_assoc]
theorem Of_calls (l : List (Int × Int)) (ad : Option Addr) (c : Nat) {H : Heap} (hlen : l.length ≤ 4611686018427387904) (hl : RowAt H ad 2 (l.map spanC)) : CallsH Try.prog 36 ⟨[.slice ad l.length c]⟩ H fun e H' => e = .returned (maskV (ofN l)) ∧ Ext0 H H' := by
  apply masks_Of_calls
  unfold masks_Of
  have hS := St.start none0 H
  intro H1
  replace hS : St _ _ H1 _ := St.push hS _
  clear_value H1
  intro H2
  replace hS : St _ _ H2 _ := St.push hS _
  clear_value H2
  refine ⟨fun x H' => ∃ k, x = (k : Nat) ∧ k ≤ l.length ∧ St none0 H H' [(H1.size, C ((wordsOf (ofN (l.take k))).map (Value.int .u64)) 31), (H.size, C ((List.replicate 23 (0 : Int)).map (Value.int .u64)) 31)],
    fun x _ => ((l.length : Int) - x).toNat, ⟨0, rfl, Nat.zero_le _, by rw [List.take_zero, show ofN [] = 0 from rfl, wordsOf_zero]; exact hS⟩, ?_⟩
  clear hS
  rintro x H3 ⟨k, rfl, hk, hS⟩
  refine ifB_mk (fun hc => ?_) (fun hc => ?_)
  · have hk : k < l.length := by simp at hc; omega
    have hsp : l[k]? = some l[k] := by simp [hk]
    obtain ⟨p, hp, hat⟩ := hl k (spanC l[k]) (by rw [List.getElem?_map, hsp]; rfl)
    have hat := hat.ext0 hS.ext0
    refine ⟨by omega, by omega, p, hp, l[k].1, l[k].2, by rw [Int.toNat_natCast]; exact hat, ?_⟩
    intro H4
    replace hS : St _ _ H4 _ := St.push hS _
    clear_value H4
    refine ⟨St.may (k := 0) hS rfl rfl (by simp [newA, bA, add_off]), ?_⟩
    intro H5
    replace hS : St _ _ H5 _ := St.put (k := 0) hS rfl rfl _
    clear_value H5
    simp only [setN, splice, newA, bA, add_off, add_block, Nat.add_zero, Nat.zero_add, Nat.reduceAdd] at hS
    have hwr : ∀ z : Int, -64 ≤ z → z ≤ 3000 → IntKind.i64.wrap z = z := fun z h1 h2 => i64_id (by omega) (by omega)
    refine ⟨_, St.cell (k := 0) hS rfl rfl rfl, ?_⟩
    have elo : (if 0 > l[k].1 then 0 else l[k].1) = ((max l[k].1 0).toNat : Int) := by split <;> omega
    have ehi : (if 1440 < l[k].2 then 1440 else l[k].2) = min l[k].2 1440 := by split <;> omega
    rw [elo]
    generalize hlo : (max l[k].1 0).toNat = lo
    have hM : ofN (l.take (k + 1)) = ofN (l.take k) ||| rngN lo (min l[k].2 1440).toNat := by
      rw [List.take_add_one, hsp, Option.toList_some, ofN_snoc, spanN, hlo]
    generalize hhi : (min l[k].2 1440).toNat = hi at hM
    generalize hMk : ofN (l.take k) = M at hS hM
    refine ⟨fun x H' => ∃ i, x = (i : Nat) ∧ lo ≤ i ∧ (i ≤ lo ∨ i ≤ hi) ∧ St none0 H H' [(H3.size, C [Value.int .i64 l[k].1, Value.int .i64 l[k].2] 57), (H1.size, C ((wordsOf (M ||| rngN lo i)).map (Value.int .u64)) 31), (H.size, C ((List.replicate 23 (0 : Int)).map (Value.int .u64)) 31)],
      fun x _ => ((hi : Int) - x).toNat, ⟨lo, rfl, Nat.le_refl _, .inl (Nat.le_refl _), by rw [rngN_none (Nat.le_refl _), Nat.or_zero]; exact hS⟩, ?_⟩
    clear hS
    rintro x H6 ⟨i, rfl, hi1, hi2, hS⟩
    refine ⟨_, St.cell (k := 0) hS rfl rfl rfl, ?_⟩
    rw [ehi]
    refine ifB_mk (fun hc => ?_) (fun hc => ?_)
    · have hc : i < hi := by simp only [decide_eq_true_eq] at hc; omega
      have h1440 : hi ≤ 1440 := by omega
      have ed : IntKind.i64.wrap (Int.tdiv (i : Int) 64) = ((i / 64 : Nat) : Int) := by rw [Int.tdiv_eq_ediv_of_nonneg (by omega), hwr _ (by omega) (by omega)]; omega
      have em : Int.tmod (i : Int) 64 = ((i % 64 : Nat) : Int) := by rw [Int.tmod_eq_emod_of_nonneg (by omega)]; omega
      rw [ed, em]
      refine ⟨decide (i % 64 = 0 ∧ i + 64 ≤ hi), ifB_mk (fun hm => ?_) (fun hm => ?_), ?_⟩
      · refine ⟨_, St.cell (k := 0) hS rfl rfl rfl, ?_, rfl⟩
        rw [ehi, hwr _ (by omega) (by omega)]
        simp only [beq_iff_eq] at hm
        exact decide_eq_decide.2 (by omega)
      · have hm' : ¬ ((i % 64 : Nat) : Int) = 0 := by simpa using hm
        exact (decide_eq_false (by omega)).symm
      · have hH7 : True := trivial
        have hidx : ∀ {H : Heap}, ((newA H).add (Int.toNat ((i / 64 : Nat) : Int) * 1)).off = i / 64 := by intro H; rw [add_off, Int.toNat_natCast]; simp [newA]
        refine ifB_mk (fun hq1 => ?_) (fun hq1 => ?_)
        · obtain ⟨h0, h64⟩ := of_decide_eq_true hq1
          refine ⟨by omega, by omega, St.may (k := 1) hS (by rw [add_block]; rfl) (add_spot _ rfl) (by rw [hidx]; simp [wordsOf_length]; omega), ?_⟩
          intro H8
          have hS : St _ _ H8 _ := St.put (k := 1) hS (by rw [add_block]; rfl) (add_spot _ rfl) _
          clear_value H8
          rw [hidx, splice_one, ← List.map_set, words_full h0 h64 h1440, rngN_more hi1 (by omega), add_block] at hS
          refine ⟨⟨i + 64, by rw [hwr _ (by omega) (by omega)]; omega, by omega, .inr h64, hS⟩, ?_⟩
          show Int.toNat _ < Int.toNat _
          rw [hwr _ (by omega) (by omega)]
          omega
        · have hpow : IntKind.u64.wrap (1 * 2 ^ (min (Int.toNat ((i % 64 : Nat) : Int)) 64)) = ((2 ^ (i % 64) : Nat) : Int) := by
            have hlt : 2 ^ (i % 64) < 2 ^ 64 := Nat.pow_lt_pow_right (by decide) (Nat.mod_lt _ (by decide))
            rw [Int.toNat_natCast, Nat.min_eq_left (by omega), Int.one_mul, show (2 : Int) ^ (i % 64) = ((2 ^ (i % 64) : Nat) : Int) by simp, u64_wrap hlt]
          have hlt : 2 ^ (i % 64) < 2 ^ 64 := Nat.pow_lt_pow_right (by decide) (Nat.mod_lt _ (by decide))
          refine ⟨by omega, by omega, _, St.cell (k := 1) (a := (newA H1).add (Int.toNat ((i / 64 : Nat) : Int) * 1)) hS (by rw [add_block]; rfl) (add_spot _ rfl) (by rw [hidx]; exact wordsOf_cell (by omega)), by omega, by omega, by omega, St.may (k := 1) hS (by rw [add_block]; rfl) (add_spot _ rfl) (by rw [hidx]; simp [wordsOf_length]; omega), ?_⟩
          intro H9
          have hS : St _ _ H9 _ := St.put (k := 1) hS (by rw [add_block]; rfl) (add_spot _ rfl) _
          clear_value H9
          rw [hidx, splice_one, ← List.map_set, hpow, bOr_nat (word_lt _ _) hlt, words_bit (by omega), rngN_more hi1 (by omega), add_block] at hS
          refine ⟨⟨i + 1, by rw [hwr _ (by omega) (by omega)]; omega, by omega, .inr hc, hS⟩, ?_⟩
          show Int.toNat _ < Int.toNat _
          rw [hwr _ (by omega) (by omega)]
          omega
    · have hc : ¬ i < hi := by simp only [decide_eq_false_iff_not] at hc; omega
      have e : M ||| rngN lo i = ofN (l.take (k + 1)) := by
        rw [hM]
        rcases Nat.lt_or_ge lo hi with h | h
        · rw [show i = hi by omega]
        · rw [rngN_none (show i ≤ lo by omega), rngN_none h]
      rw [e] at hS
      refine ⟨⟨k + 1, by rw [i64_id (by omega) (by omega)]; omega, hk, hS.sub (by simp)⟩, ?_⟩
      show Int.toNat _ < Int.toNat _
      rw [i64_id (by omega) (by omega)]
      omega
  · have hk : k = l.length := by simp at hc; omega
    subst hk
    rw [List.take_length] at hS
    refine ⟨wordsOf _, wordsOf_length _, St.atAll (k := 0) hS rfl rfl rfl, ?_⟩
    exact mask_out (R := fun e H' => e = .returned (maskV (ofN l)) ∧ Ext0 H H') (B := ofN l) (b := newA H) (j := 1) hS rfl rfl rfl (by simp) fun H4 hx => ⟨rfl, hx⟩
end Go.Vc
set_option linter.unusedVariables false
set_option maxRecDepth 100000
namespace Go.Vc
open Go.Proofs

/-! slotrules civil.Week -/
def civil_Week (day0 : Int) (H : Heap) (R : Ending → Heap → Prop) : Prop :=
  R (.returned (.int .i64 (Int.tmod (IntKind.i64.wrap ((Int.tmod (IntKind.i64.wrap (day0 + 5)) 7) + 7)) 7))) H
def civil_Week_ann : Ann := ⟨lookN (false, 0) [], lookN [] [], lookN [] []⟩
theorem civil_Week_den (day0 : Int) (H : Heap) (R : Ending → Heap → Prop) : denF Try.prog Try.f39 civil_Week_ann [(.int .i64 day0)] H R = civil_Week day0 H R := by kernel_rfl
theorem civil_Week_calls (day0 : Int) {H : Heap} {R : Ending → Heap → Prop} (h : civil_Week day0 H R) : CallsH Try.prog 39 ⟨[(.int .i64 day0)]⟩ H R :=
  callsH_of namesOk mixedOk Try.func39 (ann := civil_Week_ann) (by rw [civil_Week_den]; exact h)

/-! slotrules civil.Number -/
def civil_Number (d0_0 : Int) (d0_1 : Int) (d0_2 : Int) (H : Heap) (R : Ending → Heap → Prop) : Prop :=
  let H1 : Heap := H.push (.cells ⟨[(.int .i64 d0_0), (.int .i64 d0_1), (.int .i64 d0_2)]⟩ 145)
  ∃ x7 : Int, cellH H1 ((newA H).add 2) = some (.int .i64 x7) ∧ ∃ J18 : Bool → Heap → Prop, ifB (decide (x7 < 1)) (J18 true H1) (∃ x11 : Int, cellH H1 ((newA H).add 2) = some (.int .i64 x11) ∧ ∃ x13 : Int, cellH H1 ((newA H).add 0) = some (.int .i64 x13) ∧ ∃ x15 : Int, cellH H1 ((newA H).add 1) = some (.int .i64 x15) ∧ ∃ x16 : Int, CallsQ Try.prog 97 ⟨[(.int .i64 x13), (.int .i64 x15)]⟩ H1 (.int .i64 x16) ∧ J18 (decide (x11 > x16)) H1) ∧ ∀ (q18 : Bool) (H2 : Heap), J18 q18 H2 → ifB q18
  (R (.returned (.tuple ⟨[(.int .i64 0), (.int .i64 3)]⟩)) H1)
  (∃ x20 : Int, cellH H1 ((newA H).add 0) = some (.int .i64 x20) ∧ ∃ x21 : Int, CallsQ Try.prog 98 ⟨[(.int .i64 x20)]⟩ H1 (.int .i64 x21) ∧ ∃ x23 : Int, cellH H1 ((newA H).add 2) = some (.int .i64 x23) ∧ ∃ (I5 : Int → Int → Heap → Prop) (m5 : Int → Int → Heap → Nat), I5 (IntKind.i64.wrap ((IntKind.i64.wrap (x21 + x23)) - 1)) 1 H1 ∧ ∀ (n4 : Int) (m5_5 : Int) (H3 : Heap), I5 n4 m5_5 H3 → 
  ∃ x28 : Int, cellH H3 ((newA H).add 1) = some (.int .i64 x28) ∧ ifB (decide (m5_5 < x28))
  (∃ x34 : Int, cellH H3 ((newA H).add 0) = some (.int .i64 x34) ∧ CallsH Try.prog 97 ⟨[(.int .i64 x34), (.int .i64 m5_5)]⟩ H3 (onCall (fun rx36 H4 => ∃ x36 : Int, rx36 = (.int .i64 x36) ∧ (I5 (IntKind.i64.wrap (n4 + x36)) (IntKind.i64.wrap (m5_5 + 1)) H4 ∧ m5 (IntKind.i64.wrap (n4 + x36)) (IntKind.i64.wrap (m5_5 + 1)) H4 < m5 n4 m5_5 H3)) (fun ch H5 => R (.panicked ch) H5)))
  (R (.returned (.tuple ⟨[(.int .i64 n4), (.int .i64 0)]⟩)) H3))
def civil_Number_ann : Ann := ⟨lookN (false, 0) [(1, false, 13), (3, false, 7)], lookN [] [], lookN [] [(5, [(4, .int .i64), (5, .int .i64)])]⟩
theorem civil_Number_den (d0_0 : Int) (d0_1 : Int) (d0_2 : Int) (H : Heap) (R : Ending → Heap → Prop) : denF Try.prog Try.f91 civil_Number_ann [(.agg ⟨[(.int .i64 d0_0), (.int .i64 d0_1), (.int .i64 d0_2)]⟩)] H R = civil_Number d0_0 d0_1 d0_2 H R := by kernel_rfl
theorem civil_Number_calls (d0_0 : Int) (d0_1 : Int) (d0_2 : Int) {H : Heap} {R : Ending → Heap → Prop} (h : civil_Number d0_0 d0_1 d0_2 H R) : CallsH Try.prog 91 ⟨[(.agg ⟨[(.int .i64 d0_0), (.int .i64 d0_1), (.int .i64 d0_2)]⟩)]⟩ H R :=
  callsH_of namesOk mixedOk Try.func91 (ann := civil_Number_ann) (by rw [civil_Number_den]; exact h)

/-! slotrules civil.Length -/
def civil_Length_k1 (n5k : Int) (H4 : Heap) (R : Ending → Heap → Prop) : Prop :=
  R (.returned (.int .i64 n5k)) H4
def civil_Length (year0 : Int) (month1 : Int) (H : Heap) (R : Ending → Heap → Prop) : Prop :=
  ifB ((((decide (year0 < 2000)) || (decide (year0 > 2399))) || (decide (month1 < 1))) || (decide (month1 > 12)))
  (R (.returned (.int .i64 0)) H)
  ((0 : Int) ≤ (IntKind.i64.wrap (month1 - 1)) ∧ (IntKind.i64.wrap (month1 - 1)) < ((12 : Nat) : Int) ∧ ∃ x23 : Int, ([(.int .i64 31), (.int .i64 28), (.int .i64 31), (.int .i64 30), (.int .i64 31), (.int .i64 30), (.int .i64 31), (.int .i64 31), (.int .i64 30), (.int .i64 31), (.int .i64 30), (.int .i64 31)] : List Value)[Int.toNat (IntKind.i64.wrap (month1 - 1)) * 1]? = some (.int .i64 x23) ∧ ∃ J29 : Bool → Heap → Prop, ifB (month1 == 2) (CallsH Try.prog 102 ⟨[(.int .i64 year0)]⟩ H (onCall (fun rx28 H2 => ∃ x28 : Bool, rx28 = (.bool x28) ∧ J29 x28 H2) (fun ch H3 => R (.panicked ch) H3))) (J29 false H) ∧ ∀ (q29 : Bool) (H1 : Heap), J29 q29 H1 → ifB q29
  (civil_Length_k1 (IntKind.i64.wrap (x23 + 1)) H1 R)
  (civil_Length_k1 x23 H1 R))
def civil_Length_ann : Ann := ⟨lookN (false, 0) [], lookN [] [], lookN [] []⟩
theorem civil_Length_den (year0 : Int) (month1 : Int) (H : Heap) (R : Ending → Heap → Prop) : denF Try.prog Try.f97 civil_Length_ann [(.int .i64 year0), (.int .i64 month1)] H R = civil_Length year0 month1 H R := by kernel_rfl
theorem civil_Length_calls (year0 : Int) (month1 : Int) {H : Heap} {R : Ending → Heap → Prop} (h : civil_Length year0 month1 H R) : CallsH Try.prog 97 ⟨[(.int .i64 year0), (.int .i64 month1)]⟩ H R :=
  callsH_of namesOk mixedOk Try.func97 (ann := civil_Length_ann) (by rw [civil_Length_den]; exact h)

/-! slotrules civil.years -/
def civil_years (year0 : Int) (H : Heap) (R : Ending → Heap → Prop) : Prop :=
  let x11 : Int := (IntKind.i64.wrap ((IntKind.i64.wrap (365 * (IntKind.i64.wrap (year0 - 2000)))) + (IntKind.i64.wrap (Int.tdiv (IntKind.i64.wrap ((IntKind.i64.wrap (year0 - 2000)) + 3)) 4))))
  let x19 : Int := (IntKind.i64.wrap ((IntKind.i64.wrap (x11 - (IntKind.i64.wrap (Int.tdiv (IntKind.i64.wrap ((IntKind.i64.wrap (year0 - 2000)) + 99)) 100)))) + (IntKind.i64.wrap (Int.tdiv (IntKind.i64.wrap ((IntKind.i64.wrap (year0 - 2000)) + 399)) 400))))
  R (.returned (.int .i64 x19)) H
def civil_years_ann : Ann := ⟨lookN (false, 0) [], lookN [] [], lookN [] []⟩
theorem civil_years_den (year0 : Int) (H : Heap) (R : Ending → Heap → Prop) : denF Try.prog Try.f98 civil_years_ann [(.int .i64 year0)] H R = civil_years year0 H R := by kernel_rfl
theorem civil_years_calls (year0 : Int) {H : Heap} {R : Ending → Heap → Prop} (h : civil_years year0 H R) : CallsH Try.prog 98 ⟨[(.int .i64 year0)]⟩ H R :=
  callsH_of namesOk mixedOk Try.func98 (ann := civil_years_ann) (by rw [civil_years_den]; exact h)

/-! slotrules civil.Leap -/
def civil_Leap (year0 : Int) (H : Heap) (R : Ending → Heap → Prop) : Prop :=
  R (.returned (.bool ((((Int.tmod year0 4) == 0) && ((Int.tmod year0 100) != 0)) || ((Int.tmod year0 400) == 0)))) H
def civil_Leap_ann : Ann := ⟨lookN (false, 0) [], lookN [] [], lookN [] []⟩
theorem civil_Leap_den (year0 : Int) (H : Heap) (R : Ending → Heap → Prop) : denF Try.prog Try.f102 civil_Leap_ann [(.int .i64 year0)] H R = civil_Leap year0 H R := by kernel_rfl
theorem civil_Leap_calls (year0 : Int) {H : Heap} {R : Ending → Heap → Prop} (h : civil_Leap year0 H R) : CallsH Try.prog 102 ⟨[(.int .i64 year0)]⟩ H R :=
  callsH_of namesOk mixedOk Try.func102 (ann := civil_Leap_ann) (by rw [civil_Leap_den]; exact h)

end Go.Vc
set_option linter.unusedVariables false
set_option linter.unusedSimpArgs false
set_option maxRecDepth 100000
namespace Go.Vc
open Go.Proofs

/-! civil: days -/
theorem CallsQ.e {P : Program} {f : FuncId} {args : Array Value} {v : Value} (h : ∀ H, CallsQ P f args H v) (H : Heap) : CallsE P f args H v := fun H1 _ => CallsH.mono (h H1) fun e H' ⟨h1, h2⟩ => ⟨h1, by subst h2; exact Ext0.refl _⟩
theorem CallsQ.go {P : Program} {f : FuncId} {args : Array Value} {H : Heap} {v : Value} {K : Value → Heap → Prop} {X : List PanicEntry → Heap → Prop} (h : CallsQ P f args H v) (hk : K v H) : CallsH P f args H (onCall K X) :=
  CallsH.mono h fun e H' ⟨h1, h2⟩ => by subst h1; subst h2; exact hk
def leapY (y : Int) : Bool := ((Int.tmod y 4) == 0 && (Int.tmod y 100) != 0) || (Int.tmod y 400) == 0
theorem Leap_is (y : Int) (H : Heap) : CallsQ Try.prog 102 ⟨[.int .i64 y]⟩ H (.bool (leapY y)) := civil_Leap_calls y ⟨rfl, rfl⟩
def weekF (d : Int) : Int := Int.tmod (IntKind.i64.wrap ((Int.tmod (IntKind.i64.wrap (d + 5)) 7) + 7)) 7
theorem Week_is (d : Int) (H : Heap) : CallsQ Try.prog 39 ⟨[.int .i64 d]⟩ H (.int .i64 (weekF d)) := civil_Week_calls d ⟨rfl, rfl⟩
def yearsF (y : Int) : Int := IntKind.i64.wrap ((IntKind.i64.wrap ((IntKind.i64.wrap ((IntKind.i64.wrap (365 * (IntKind.i64.wrap (y - 2000)))) + (IntKind.i64.wrap (Int.tdiv (IntKind.i64.wrap ((IntKind.i64.wrap (y - 2000)) + 3)) 4)))) - (IntKind.i64.wrap (Int.tdiv (IntKind.i64.wrap ((IntKind.i64.wrap (y - 2000)) + 99)) 100)))) + (IntKind.i64.wrap (Int.tdiv (IntKind.i64.wrap ((IntKind.i64.wrap (y - 2000)) + 399)) 400)))
theorem years_is (y : Int) (H : Heap) : CallsQ Try.prog 98 ⟨[.int .i64 y]⟩ H (.int .i64 (yearsF y)) := civil_years_calls y ⟨rfl, rfl⟩
def monthL : List Int := [31, 28, 31, 30, 31, 30, 31, 31, 30, 31, 30, 31]
def lengthF (y m : Int) : Int := if y < 2000 ∨ y > 2399 ∨ m < 1 ∨ m > 12 then 0 else
  if m = 2 ∧ leapY y = true then monthL.getD (m - 1).toNat 0 + 1 else monthL.getD (m - 1).toNat 0
theorem Length_is (y m : Int) (H : Heap) : CallsQ Try.prog 97 ⟨[.int .i64 y, .int .i64 m]⟩ H (.int .i64 (lengthF y m)) := by
  apply civil_Length_calls
  unfold civil_Length
  refine ifB_mk (fun h => ?_) (fun h => ?_)
  · refine ⟨?_, rfl⟩
    simp only [Bool.or_eq_true, decide_eq_true_eq, or_assoc] at h
    rw [lengthF, if_pos h]
  · simp only [Bool.or_eq_false_iff, decide_eq_false_iff_not] at h
    have hm : IntKind.i64.wrap (m - 1) = (((m - 1).toNat : Nat) : Int) := by rw [i64_id (by omega) (by omega)]; omega
    rw [hm]
    have hlt : (m - 1).toNat < 12 := by omega
    have hget0 : ∀ k, k < 12 → monthL[k]? = some (monthL.getD k 0) := by decide
    have hget : ∀ k, k < 12 → (monthL.map (Value.int .i64))[k]? = some (.int .i64 (monthL.getD k 0)) := fun k hk => by rw [List.getElem?_map, hget0 k hk]; rfl
    have hbnd : ∀ k, k < 12 → 28 ≤ monthL.getD k 0 ∧ monthL.getD k 0 ≤ 31 := by decide
    have hb := hbnd _ hlt
    refine ⟨by omega, by omega, monthL.getD (m - 1).toNat 0, by rw [Int.toNat_natCast, Nat.mul_one]; exact hget _ hlt, fun b H' => b = (decide (m = 2) && leapY y) ∧ H' = H, ifB_mk (fun h2 => ?_) (fun h2 => ?_), ?_⟩
    · refine (Leap_is y H).go ⟨_, rfl, ?_, rfl⟩
      simp only [beq_iff_eq] at h2
      simp [h2]
    · refine ⟨?_, rfl⟩
      simp only [beq_eq_false_iff_ne, ne_eq] at h2
      simp [h2]
    · rintro q H1 ⟨rfl, rfl⟩
      have hno : ¬ (y < 2000 ∨ y > 2399 ∨ m < 1 ∨ m > 12) := by omega
      refine ifB_mk (fun hq => ?_) (fun hq => ?_)
      · simp only [Bool.and_eq_true, decide_eq_true_eq] at hq
        refine ⟨?_, rfl⟩
        rw [lengthF, if_neg hno, if_pos hq, i64_id (by omega) (by omega)]
      · refine ⟨?_, rfl⟩
        rw [lengthF, if_neg hno, if_neg (fun hh => ?_)]
        simp [hh.1, hh.2] at hq
/-- The days of the months ahead. -/
def sumM (y : Int) (n : Int) : Nat → Int
  | 0 => n
  | k + 1 => IntKind.i64.wrap (sumM y n k + lengthF y ((k : Int) + 1))
def numberF (y m d : Int) : Int × Int := if d < 1 ∨ d > lengthF y m then (0, 3) else (sumM y (IntKind.i64.wrap (IntKind.i64.wrap (yearsF y + d) - 1)) (m - 1).toNat, 0)
theorem Number_is (y m d : Int) (H : Heap) : CallsE Try.prog 91 ⟨[.agg ⟨[.int .i64 y, .int .i64 m, .int .i64 d]⟩]⟩ H (.tuple ⟨[.int .i64 (numberF y m d).1, .int .i64 (numberF y m d).2]⟩) := by
  refine CallsE.all (fun H => ?_) H
  apply civil_Number_calls
  unfold civil_Number
  have hS := St.start none0 H
  intro H1
  replace hS : St _ _ H1 _ := St.push hS _
  clear_value H1
  refine ⟨d, St.cell (k := 0) hS rfl rfl rfl, fun b H' => b = (decide (d < 1) || decide (d > lengthF y m)) ∧ H' = H1, ifB_mk (fun h => ⟨by rw [h]; rfl, rfl⟩) (fun h => ?_), ?_⟩
  · exact ⟨d, St.cell (k := 0) hS rfl rfl rfl, y, St.cell (k := 0) hS rfl rfl rfl, m, St.cell (k := 0) hS rfl rfl rfl, _, Length_is y m H1, by rw [h]; rfl, rfl⟩
  · rintro q H2 ⟨rfl, rfl⟩
    refine ifB_mk (fun h => ?_) (fun h => ?_)
    · simp only [Bool.or_eq_true, decide_eq_true_eq] at h
      rw [numberF, if_pos h]
      exact ⟨rfl, hS.ext0⟩
    · simp only [Bool.or_eq_false_iff, decide_eq_false_iff_not] at h
      have hno : ¬ (d < 1 ∨ d > lengthF y m) := by omega
      have hm : ¬ (y < 2000 ∨ y > 2399 ∨ m < 1 ∨ m > 12) := fun hh => by
        have : lengthF y m = 0 := by rw [lengthF, if_pos hh]
        omega
      rw [numberF, if_neg hno]
      refine ⟨y, St.cell (k := 0) hS rfl rfl rfl, _, years_is y _, d, St.cell (k := 0) hS rfl rfl rfl, ?_⟩
      refine ⟨fun n x H' => H' = H2 ∧ ∃ k : Nat, x = (k : Int) + 1 ∧ (k : Int) + 1 ≤ m ∧ n = sumM y (IntKind.i64.wrap (IntKind.i64.wrap (yearsF y + d) - 1)) k, fun _ x _ => (m - x).toNat, ⟨rfl, 0, rfl, by omega, rfl⟩, ?_⟩
      rintro n x H3 ⟨rfl, k, rfl, hk, rfl⟩
      refine ⟨m, St.cell (k := 0) hS rfl rfl rfl, ifB_mk (fun hc => ?_) (fun hc => ?_)⟩
      · simp only [decide_eq_true_eq] at hc
        refine ⟨y, St.cell (k := 0) hS rfl rfl rfl, (Length_is y _ _).go ⟨_, rfl, ⟨rfl, k + 1, by rw [i64_id (by omega) (by omega)]; omega, by omega, rfl⟩, ?_⟩⟩
        show Int.toNat _ < Int.toNat _
        rw [i64_id (by omega) (by omega)]
        omega
      · simp only [decide_eq_false_iff_not] at hc
        refine ⟨?_, hS.ext0⟩
        rw [show (m - 1).toNat = k by omega]
end Go.Vc
set_option linter.unusedVariables false
set_option maxRecDepth 100000
namespace Go.Vc
open Go.Proofs

/-! slices.Contains[[]int,int] -/
def slices_Contains_int_int (s0a : Option Addr) (s0n : Nat) (s0c : Nat) (v1 : Int) (H : Heap) (R : Ending → Heap → Prop) : Prop :=
  CallsH Try.prog 46 ⟨[(.slice s0a s0n s0c), (.int .i64 v1)]⟩ H (onCall (fun rx7 H1 => ∃ x7 : Int, rx7 = (.int .i64 x7) ∧ R (.returned (.bool (decide (x7 ≥ 0)))) H1) (fun ch H2 => R (.panicked ch) H2))
def slices_Contains_int_int_ann : Ann := ⟨lookN (false, 0) [], lookN [] [], lookN [] []⟩
theorem slices_Contains_int_int_den (s0a : Option Addr) (s0n : Nat) (s0c : Nat) (v1 : Int) (H : Heap) (R : Ending → Heap → Prop) : denF Try.prog Try.f27 slices_Contains_int_int_ann [(.slice s0a s0n s0c), (.int .i64 v1)] H R = slices_Contains_int_int s0a s0n s0c v1 H R := by kernel_rfl
theorem slices_Contains_int_int_calls (s0a : Option Addr) (s0n : Nat) (s0c : Nat) (v1 : Int) {H : Heap} {R : Ending → Heap → Prop} (h : slices_Contains_int_int s0a s0n s0c v1 H R) : CallsH Try.prog 27 ⟨[(.slice s0a s0n s0c), (.int .i64 v1)]⟩ H R :=
  callsH_of namesOk mixedOk Try.func27 (ann := slices_Contains_int_int_ann) (by rw [slices_Contains_int_int_den]; exact h)

/-! math bits.OnesCount64 -/
def bits_OnesCount64 (x0 : Int) (H : Heap) (R : Ending → Heap → Prop) : Prop :=
  (0 : Int) ≤ 1 ∧ (0 : Int) ≤ 2 ∧ let x10 : Int := (Int.fdiv (IntKind.u64.wrap ((bAnd .u64 (Int.fdiv x0 (2 ^ (min (Int.toNat 1) 64))) 6148914691236517205) + (bAnd .u64 x0 6148914691236517205))) (2 ^ (min (Int.toNat 2) 64)))
  let x13 : Int := (bAnd .u64 (IntKind.u64.wrap ((bAnd .u64 (Int.fdiv x0 (2 ^ (min (Int.toNat 1) 64))) 6148914691236517205) + (bAnd .u64 x0 6148914691236517205))) 3689348814741910323)
  (0 : Int) ≤ 4 ∧ let x18 : Int := (IntKind.u64.wrap ((Int.fdiv (IntKind.u64.wrap ((bAnd .u64 x10 3689348814741910323) + x13)) (2 ^ (min (Int.toNat 4) 64))) + (IntKind.u64.wrap ((bAnd .u64 x10 3689348814741910323) + x13))))
  (0 : Int) ≤ 8 ∧ (0 : Int) ≤ 16 ∧ let x26 : Int := (Int.fdiv (IntKind.u64.wrap ((bAnd .u64 x18 1085102592571150095) + (Int.fdiv (bAnd .u64 x18 1085102592571150095) (2 ^ (min (Int.toNat 8) 64))))) (2 ^ (min (Int.toNat 16) 64)))
  let x27 : Int := (IntKind.u64.wrap ((IntKind.u64.wrap ((bAnd .u64 x18 1085102592571150095) + (Int.fdiv (bAnd .u64 x18 1085102592571150095) (2 ^ (min (Int.toNat 8) 64))))) + x26))
  (0 : Int) ≤ 32 ∧ R (.returned (.int .i64 (bAnd .i64 (IntKind.i64.wrap (IntKind.u64.wrap (x27 + (Int.fdiv x27 (2 ^ (min (Int.toNat 32) 64)))))) 127))) H
def bits_OnesCount64_ann : Ann := ⟨lookN (false, 0) [], lookN [] [], lookN [] []⟩
theorem bits_OnesCount64_den (x0 : Int) (H : Heap) (R : Ending → Heap → Prop) : denF Try.prog Try.f34 bits_OnesCount64_ann [(.int .u64 x0)] H R = bits_OnesCount64 x0 H R := by kernel_rfl
theorem bits_OnesCount64_calls (x0 : Int) {H : Heap} {R : Ending → Heap → Prop} (h : bits_OnesCount64 x0 H R) : CallsH Try.prog 34 ⟨[(.int .u64 x0)]⟩ H R :=
  callsH_of namesOk mixedOk Try.func34 (ann := bits_OnesCount64_ann) (by rw [bits_OnesCount64_den]; exact h)

/-! slices.ContainsFunc[[]int,int] -/
def slices_ContainsFunc_int_int (s0a : Option Addr) (s0n : Nat) (s0c : Nat) (f1 : FuncId) (f1f : Array Value) (f1c : Array Value) (H : Heap) (R : Ending → Heap → Prop) : Prop :=
  CallsH Try.prog 64 ⟨[(.slice s0a s0n s0c), (.func (.func f1) f1f f1c)]⟩ H (onCall (fun rx7 H1 => ∃ x7 : Int, rx7 = (.int .i64 x7) ∧ R (.returned (.bool (decide (x7 ≥ 0)))) H1) (fun ch H2 => R (.panicked ch) H2))
def slices_ContainsFunc_int_int_ann : Ann := ⟨lookN (false, 0) [], lookN [] [], lookN [] []⟩
theorem slices_ContainsFunc_int_int_den (s0a : Option Addr) (s0n : Nat) (s0c : Nat) (f1 : FuncId) (f1f : Array Value) (f1c : Array Value) (H : Heap) (R : Ending → Heap → Prop) : denF Try.prog Try.f37 slices_ContainsFunc_int_int_ann [(.slice s0a s0n s0c), (.func (.func f1) f1f f1c)] H R = slices_ContainsFunc_int_int s0a s0n s0c f1 f1f f1c H R := by kernel_rfl
theorem slices_ContainsFunc_int_int_calls (s0a : Option Addr) (s0n : Nat) (s0c : Nat) (f1 : FuncId) (f1f : Array Value) (f1c : Array Value) {H : Heap} {R : Ending → Heap → Prop} (h : slices_ContainsFunc_int_int s0a s0n s0c f1 f1f f1c H R) : CallsH Try.prog 37 ⟨[(.slice s0a s0n s0c), (.func (.func f1) f1f f1c)]⟩ H R :=
  callsH_of namesOk mixedOk Try.func37 (ann := slices_ContainsFunc_int_int_ann) (by rw [slices_ContainsFunc_int_int_den]; exact h)

/-! slices.IndexFunc[[]slotrules api.Rule,slotrules api.Rule] -/
def slices_IndexFunc_Rule_Rule (s0a : Option Addr) (s0n : Nat) (s0c : Nat) (f1 : FuncId) (f1f : Array Value) (f1c : Array Value) (H : Heap) (R : Ending → Heap → Prop) : Prop :=
  ∃ (I2 : Int → Heap → Prop) (m2 : Int → Heap → Nat), I2 0 H ∧ ∀ (x8 : Int) (H1 : Heap), I2 x8 H1 → 
  ifB (decide (x8 < (s0n : Int)))
  ((0 : Int) ≤ x8 ∧ x8 < (s0n : Int) ∧ ∃ px14 : Addr, s0a = some px14 ∧ ∃ x15_0 : ByteArray, ∃ x15_1 : Int, ∃ x15_2 : Int, ∃ x15_3 : Int, ∃ x15_4 : ByteArray, ∃ (x15_5a : Option Addr) (x15_5n x15_5c : Nat), At H1 (px14.add (Int.toNat x8 * 6)) ([(.string x15_0), (.int .i64 x15_1), (.int .i64 x15_2), (.int .i64 x15_3), (.string x15_4), (.slice x15_5a x15_5n x15_5c)]) ∧ callV Try.prog f1 ⟨f1f.toList ++ ([(.agg ⟨[(.string x15_0), (.int .i64 x15_1), (.int .i64 x15_2), (.int .i64 x15_3), (.string x15_4), (.slice x15_5a x15_5n x15_5c)]⟩)] ++ f1c.toList)⟩ H1 (onCall (fun rx16 H2 => ∃ x16 : Bool, rx16 = (.bool x16) ∧ ifB x16
  (R (.returned (.int .i64 x8)) H2)
  ((I2 (IntKind.i64.wrap (x8 + 1)) H2 ∧ m2 (IntKind.i64.wrap (x8 + 1)) H2 < m2 x8 H1))) (fun ch H3 => R (.panicked ch) H3)))
  (R (.returned (.int .i64 (-1))) H1)
def slices_IndexFunc_Rule_Rule_ann : Ann := ⟨lookN (false, 0) [], lookN [] [], lookN [] [(2, [(8, .int .i64)])]⟩
theorem slices_IndexFunc_Rule_Rule_den (s0a : Option Addr) (s0n : Nat) (s0c : Nat) (f1 : FuncId) (f1f : Array Value) (f1c : Array Value) (H : Heap) (R : Ending → Heap → Prop) : denF Try.prog Try.f43 slices_IndexFunc_Rule_Rule_ann [(.slice s0a s0n s0c), (.func (.func f1) f1f f1c)] H R = slices_IndexFunc_Rule_Rule s0a s0n s0c f1 f1f f1c H R := by kernel_rfl
theorem slices_IndexFunc_Rule_Rule_calls (s0a : Option Addr) (s0n : Nat) (s0c : Nat) (f1 : FuncId) (f1f : Array Value) (f1c : Array Value) {H : Heap} {R : Ending → Heap → Prop} (h : slices_IndexFunc_Rule_Rule s0a s0n s0c f1 f1f f1c H R) : CallsH Try.prog 43 ⟨[(.slice s0a s0n s0c), (.func (.func f1) f1f f1c)]⟩ H R :=
  callsH_of namesOk mixedOk Try.func43 (ann := slices_IndexFunc_Rule_Rule_ann) (by rw [slices_IndexFunc_Rule_Rule_den]; exact h)

/-! slices.Index[[]int,int] -/
def slices_Index_int_int (s0a : Option Addr) (s0n : Nat) (s0c : Nat) (v1 : Int) (H : Heap) (R : Ending → Heap → Prop) : Prop :=
  ∃ (I2 : Int → Heap → Prop) (m2 : Int → Heap → Nat), I2 0 H ∧ ∀ (x8 : Int) (H1 : Heap), I2 x8 H1 → 
  ifB (decide (x8 < (s0n : Int)))
  ((0 : Int) ≤ x8 ∧ x8 < (s0n : Int) ∧ ∃ px14 : Addr, s0a = some px14 ∧ ∃ x15 : Int, cellH H1 (px14.add (Int.toNat x8 * 1)) = some (.int .i64 x15) ∧ ifB (v1 == x15)
  (R (.returned (.int .i64 x8)) H1)
  ((I2 (IntKind.i64.wrap (x8 + 1)) H1 ∧ m2 (IntKind.i64.wrap (x8 + 1)) H1 < m2 x8 H1)))
  (R (.returned (.int .i64 (-1))) H1)
def slices_Index_int_int_ann : Ann := ⟨lookN (false, 0) [], lookN [] [], lookN [] [(2, [(8, .int .i64)])]⟩
theorem slices_Index_int_int_den (s0a : Option Addr) (s0n : Nat) (s0c : Nat) (v1 : Int) (H : Heap) (R : Ending → Heap → Prop) : denF Try.prog Try.f46 slices_Index_int_int_ann [(.slice s0a s0n s0c), (.int .i64 v1)] H R = slices_Index_int_int s0a s0n s0c v1 H R := by kernel_rfl
theorem slices_Index_int_int_calls (s0a : Option Addr) (s0n : Nat) (s0c : Nat) (v1 : Int) {H : Heap} {R : Ending → Heap → Prop} (h : slices_Index_int_int s0a s0n s0c v1 H R) : CallsH Try.prog 46 ⟨[(.slice s0a s0n s0c), (.int .i64 v1)]⟩ H R :=
  callsH_of namesOk mixedOk Try.func46 (ann := slices_Index_int_int_ann) (by rw [slices_Index_int_int_den]; exact h)

/-! slices.Clone[[]int,int] -/
def slices_Clone_int_int (s0a : Option Addr) (s0n : Nat) (s0c : Nat) (H : Heap) (R : Ending → Heap → Prop) : Prop :=
  ∃ x4 : Bool, EqV Try.prog .eql 28 (.slice s0a s0n s0c) (.slice none 0 0) x4 ∧ ifB x4
  (R (.returned (.slice none 0 0)) H)
  (let H1 : Heap := H.push (.cells ⟨[]⟩ 3)
  RunD Try.prog (Builtin.append_ #[28, 28] 28 ⟨[(.slice (some (newA H)) 0 0), (.slice s0a s0n s0c)]⟩) H1 (fun rx7 H2 => ∃ (x7a : Option Addr) (x7n x7c : Nat), rx7 = (.slice x7a x7n x7c) ∧ R (.returned (.slice x7a x7n x7c)) H2))
def slices_Clone_int_int_ann : Ann := ⟨lookN (false, 0) [], lookN [] [], lookN [] []⟩
theorem slices_Clone_int_int_den (s0a : Option Addr) (s0n : Nat) (s0c : Nat) (H : Heap) (R : Ending → Heap → Prop) : denF Try.prog Try.f47 slices_Clone_int_int_ann [(.slice s0a s0n s0c)] H R = slices_Clone_int_int s0a s0n s0c H R := by kernel_rfl
theorem slices_Clone_int_int_calls (s0a : Option Addr) (s0n : Nat) (s0c : Nat) {H : Heap} {R : Ending → Heap → Prop} (h : slices_Clone_int_int s0a s0n s0c H R) : CallsH Try.prog 47 ⟨[(.slice s0a s0n s0c)]⟩ H R :=
  callsH_of namesOk mixedOk Try.func47 (ann := slices_Clone_int_int_ann) (by rw [slices_Clone_int_int_den]; exact h)

/-! math bits.Len -/
def bits_Len (x0 : Int) (H : Heap) (R : Ending → Heap → Prop) : Prop :=
  CallsH Try.prog 77 ⟨[(.int .u64 x0)]⟩ H (onCall (fun rx7 H1 => ∃ x7 : Int, rx7 = (.int .i64 x7) ∧ R (.returned (.int .i64 x7)) H1) (fun ch H2 => R (.panicked ch) H2))
def bits_Len_ann : Ann := ⟨lookN (false, 0) [], lookN [] [], lookN [] []⟩
theorem bits_Len_den (x0 : Int) (H : Heap) (R : Ending → Heap → Prop) : denF Try.prog Try.f49 bits_Len_ann [(.int .u64 x0)] H R = bits_Len x0 H R := by kernel_rfl
theorem bits_Len_calls (x0 : Int) {H : Heap} {R : Ending → Heap → Prop} (h : bits_Len x0 H R) : CallsH Try.prog 49 ⟨[(.int .u64 x0)]⟩ H R :=
  callsH_of namesOk mixedOk Try.func49 (ann := bits_Len_ann) (by rw [bits_Len_den]; exact h)

/-! slices.Contains[[]string,string] -/
def slices_Contains_string_string (s0a : Option Addr) (s0n : Nat) (s0c : Nat) (v1 : ByteArray) (H : Heap) (R : Ending → Heap → Prop) : Prop :=
  CallsH Try.prog 78 ⟨[(.slice s0a s0n s0c), (.string v1)]⟩ H (onCall (fun rx7 H1 => ∃ x7 : Int, rx7 = (.int .i64 x7) ∧ R (.returned (.bool (decide (x7 ≥ 0)))) H1) (fun ch H2 => R (.panicked ch) H2))
def slices_Contains_string_string_ann : Ann := ⟨lookN (false, 0) [], lookN [] [], lookN [] []⟩
theorem slices_Contains_string_string_den (s0a : Option Addr) (s0n : Nat) (s0c : Nat) (v1 : ByteArray) (H : Heap) (R : Ending → Heap → Prop) : denF Try.prog Try.f51 slices_Contains_string_string_ann [(.slice s0a s0n s0c), (.string v1)] H R = slices_Contains_string_string s0a s0n s0c v1 H R := by kernel_rfl
theorem slices_Contains_string_string_calls (s0a : Option Addr) (s0n : Nat) (s0c : Nat) (v1 : ByteArray) {H : Heap} {R : Ending → Heap → Prop} (h : slices_Contains_string_string s0a s0n s0c v1 H R) : CallsH Try.prog 51 ⟨[(.slice s0a s0n s0c), (.string v1)]⟩ H R :=
  callsH_of namesOk mixedOk Try.func51 (ann := slices_Contains_string_string_ann) (by rw [slices_Contains_string_string_den]; exact h)

/-! slices.IndexFunc[[]int,int] -/
def slices_IndexFunc_int_int (s0a : Option Addr) (s0n : Nat) (s0c : Nat) (f1 : FuncId) (f1f : Array Value) (f1c : Array Value) (H : Heap) (R : Ending → Heap → Prop) : Prop :=
  ∃ (I2 : Int → Heap → Prop) (m2 : Int → Heap → Nat), I2 0 H ∧ ∀ (x8 : Int) (H1 : Heap), I2 x8 H1 → 
  ifB (decide (x8 < (s0n : Int)))
  ((0 : Int) ≤ x8 ∧ x8 < (s0n : Int) ∧ ∃ px14 : Addr, s0a = some px14 ∧ ∃ x15 : Int, cellH H1 (px14.add (Int.toNat x8 * 1)) = some (.int .i64 x15) ∧ callV Try.prog f1 ⟨f1f.toList ++ ([(.int .i64 x15)] ++ f1c.toList)⟩ H1 (onCall (fun rx16 H2 => ∃ x16 : Bool, rx16 = (.bool x16) ∧ ifB x16
  (R (.returned (.int .i64 x8)) H2)
  ((I2 (IntKind.i64.wrap (x8 + 1)) H2 ∧ m2 (IntKind.i64.wrap (x8 + 1)) H2 < m2 x8 H1))) (fun ch H3 => R (.panicked ch) H3)))
  (R (.returned (.int .i64 (-1))) H1)
def slices_IndexFunc_int_int_ann : Ann := ⟨lookN (false, 0) [], lookN [] [], lookN [] [(2, [(8, .int .i64)])]⟩
theorem slices_IndexFunc_int_int_den (s0a : Option Addr) (s0n : Nat) (s0c : Nat) (f1 : FuncId) (f1f : Array Value) (f1c : Array Value) (H : Heap) (R : Ending → Heap → Prop) : denF Try.prog Try.f64 slices_IndexFunc_int_int_ann [(.slice s0a s0n s0c), (.func (.func f1) f1f f1c)] H R = slices_IndexFunc_int_int s0a s0n s0c f1 f1f f1c H R := by kernel_rfl
theorem slices_IndexFunc_int_int_calls (s0a : Option Addr) (s0n : Nat) (s0c : Nat) (f1 : FuncId) (f1f : Array Value) (f1c : Array Value) {H : Heap} {R : Ending → Heap → Prop} (h : slices_IndexFunc_int_int s0a s0n s0c f1 f1f f1c H R) : CallsH Try.prog 64 ⟨[(.slice s0a s0n s0c), (.func (.func f1) f1f f1c)]⟩ H R :=
  callsH_of namesOk mixedOk Try.func64 (ann := slices_IndexFunc_int_int_ann) (by rw [slices_IndexFunc_int_int_den]; exact h)

/-! slices.Index[[]string,string] -/
def slices_Index_string_string (s0a : Option Addr) (s0n : Nat) (s0c : Nat) (v1 : ByteArray) (H : Heap) (R : Ending → Heap → Prop) : Prop :=
  ∃ (I2 : Int → Heap → Prop) (m2 : Int → Heap → Nat), I2 0 H ∧ ∀ (x8 : Int) (H1 : Heap), I2 x8 H1 → 
  ifB (decide (x8 < (s0n : Int)))
  ((0 : Int) ≤ x8 ∧ x8 < (s0n : Int) ∧ ∃ px14 : Addr, s0a = some px14 ∧ ∃ x15 : ByteArray, cellH H1 (px14.add (Int.toNat x8 * 1)) = some (.string x15) ∧ ifB (v1.toList == x15.toList)
  (R (.returned (.int .i64 x8)) H1)
  ((I2 (IntKind.i64.wrap (x8 + 1)) H1 ∧ m2 (IntKind.i64.wrap (x8 + 1)) H1 < m2 x8 H1)))
  (R (.returned (.int .i64 (-1))) H1)
def slices_Index_string_string_ann : Ann := ⟨lookN (false, 0) [], lookN [] [], lookN [] [(2, [(8, .int .i64)])]⟩
theorem slices_Index_string_string_den (s0a : Option Addr) (s0n : Nat) (s0c : Nat) (v1 : ByteArray) (H : Heap) (R : Ending → Heap → Prop) : denF Try.prog Try.f78 slices_Index_string_string_ann [(.slice s0a s0n s0c), (.string v1)] H R = slices_Index_string_string s0a s0n s0c v1 H R := by kernel_rfl
theorem slices_Index_string_string_calls (s0a : Option Addr) (s0n : Nat) (s0c : Nat) (v1 : ByteArray) {H : Heap} {R : Ending → Heap → Prop} (h : slices_Index_string_string s0a s0n s0c v1 H R) : CallsH Try.prog 78 ⟨[(.slice s0a s0n s0c), (.string v1)]⟩ H R :=
  callsH_of namesOk mixedOk Try.func78 (ann := slices_Index_string_string_ann) (by rw [slices_Index_string_string_den]; exact h)

/-! strings.HasPrefix -/
def strings_HasPrefix (s0 : ByteArray) (prefix1 : ByteArray) (H : Heap) (R : Ending → Heap → Prop) : Prop :=
  CallsH Try.prog 99 ⟨[(.string s0), (.string prefix1)]⟩ H (onCall (fun rx7 H1 => ∃ x7 : Bool, rx7 = (.bool x7) ∧ R (.returned (.bool x7)) H1) (fun ch H2 => R (.panicked ch) H2))
def strings_HasPrefix_ann : Ann := ⟨lookN (false, 0) [], lookN [] [], lookN [] []⟩
theorem strings_HasPrefix_den (s0 : ByteArray) (prefix1 : ByteArray) (H : Heap) (R : Ending → Heap → Prop) : denF Try.prog Try.f93 strings_HasPrefix_ann [(.string s0), (.string prefix1)] H R = strings_HasPrefix s0 prefix1 H R := by kernel_rfl
theorem strings_HasPrefix_calls (s0 : ByteArray) (prefix1 : ByteArray) {H : Heap} {R : Ending → Heap → Prop} (h : strings_HasPrefix s0 prefix1 H R) : CallsH Try.prog 93 ⟨[(.string s0), (.string prefix1)]⟩ H R :=
  callsH_of namesOk mixedOk Try.func93 (ann := strings_HasPrefix_ann) (by rw [strings_HasPrefix_den]; exact h)

/-! strings.IndexByte -/
def strings_IndexByte (s0 : ByteArray) (c1 : Int) (H : Heap) (R : Ending → Heap → Prop) : Prop :=
  CallsH Try.prog 100 ⟨[(.string s0), (.int .u8 c1)]⟩ H (onCall (fun rx7 H1 => ∃ x7 : Int, rx7 = (.int .i64 x7) ∧ R (.returned (.int .i64 x7)) H1) (fun ch H2 => R (.panicked ch) H2))
def strings_IndexByte_ann : Ann := ⟨lookN (false, 0) [], lookN [] [], lookN [] []⟩
theorem strings_IndexByte_den (s0 : ByteArray) (c1 : Int) (H : Heap) (R : Ending → Heap → Prop) : denF Try.prog Try.f94 strings_IndexByte_ann [(.string s0), (.int .u8 c1)] H R = strings_IndexByte s0 c1 H R := by kernel_rfl
theorem strings_IndexByte_calls (s0 : ByteArray) (c1 : Int) {H : Heap} {R : Ending → Heap → Prop} (h : strings_IndexByte s0 c1 H R) : CallsH Try.prog 94 ⟨[(.string s0), (.int .u8 c1)]⟩ H R :=
  callsH_of namesOk mixedOk Try.func94 (ann := strings_IndexByte_ann) (by rw [strings_IndexByte_den]; exact h)

/-! internal stringslite.HasPrefix -/
def stringslite_HasPrefix (s0 : ByteArray) (prefix1 : ByteArray) (H : Heap) (R : Ending → Heap → Prop) : Prop :=
  ∃ q17 : Bool, ifB (decide ((s0.size : Int) ≥ (prefix1.size : Int))) ((0 : Int) ≤ 0 ∧ (0 : Int) ≤ (prefix1.size : Int) ∧ ((prefix1.size : Int) : Int) ≤ (s0.size : Int) ∧ ((s0.extract (Int.toNat 0) (Int.toNat (prefix1.size : Int))).toList == prefix1.toList) = q17 ∧ H = H) (false = q17) ∧ R (.returned (.bool q17)) H
def stringslite_HasPrefix_ann : Ann := ⟨lookN (false, 0) [], lookN [] [], lookN [] []⟩
theorem stringslite_HasPrefix_den (s0 : ByteArray) (prefix1 : ByteArray) (H : Heap) (R : Ending → Heap → Prop) : denF Try.prog Try.f99 stringslite_HasPrefix_ann [(.string s0), (.string prefix1)] H R = stringslite_HasPrefix s0 prefix1 H R := by kernel_rfl
theorem stringslite_HasPrefix_calls (s0 : ByteArray) (prefix1 : ByteArray) {H : Heap} {R : Ending → Heap → Prop} (h : stringslite_HasPrefix s0 prefix1 H R) : CallsH Try.prog 99 ⟨[(.string s0), (.string prefix1)]⟩ H R :=
  callsH_of namesOk mixedOk Try.func99 (ann := stringslite_HasPrefix_ann) (by rw [stringslite_HasPrefix_den]; exact h)

end Go.Vc
set_option linter.unusedVariables false
set_option linter.unusedSimpArgs false
set_option maxRecDepth 100000
namespace Go.Vc
open Go.Proofs

/-- Bits that are set, as math/bits reckons them. -/
def ones (x0 : Int) : Int :=
  let a : Int := IntKind.u64.wrap (bAnd .u64 (Int.fdiv x0 (2 ^ (min (Int.toNat 1) 64))) 6148914691236517205 + bAnd .u64 x0 6148914691236517205)
  let x10 : Int := Int.fdiv a (2 ^ (min (Int.toNat 2) 64))
  let x13 : Int := bAnd .u64 a 3689348814741910323
  let b : Int := IntKind.u64.wrap (bAnd .u64 x10 3689348814741910323 + x13)
  let x18 : Int := IntKind.u64.wrap (Int.fdiv b (2 ^ (min (Int.toNat 4) 64)) + b)
  let c : Int := bAnd .u64 x18 1085102592571150095
  let d : Int := IntKind.u64.wrap (c + Int.fdiv c (2 ^ (min (Int.toNat 8) 64)))
  let x26 : Int := Int.fdiv d (2 ^ (min (Int.toNat 16) 64))
  let x27 : Int := IntKind.u64.wrap (d + x26)
  bAnd .i64 (IntKind.i64.wrap (IntKind.u64.wrap (x27 + Int.fdiv x27 (2 ^ (min (Int.toNat 32) 64))))) 127
theorem ones_is (x : Int) (H : Heap) : CallsQ Try.prog 34 ⟨[.int .u64 x]⟩ H (.int .i64 (ones x)) := by
  apply bits_OnesCount64_calls
  exact ⟨by omega, by omega, by omega, by omega, by omega, by omega, rfl, rfl⟩
def countN (A : Nat) : Nat → Int
  | 0 => 0
  | k + 1 => IntKind.i64.wrap (countN A k + ones (word A k : Nat))
theorem CallsQ.call {P : Program} {f : FuncId} {args : Array Value} {H : Heap} {v : Value} {K : Value → Heap → Prop} {X : List PanicEntry → Heap → Prop} (h : CallsQ P f args H v) (hk : K v H) : CallsH P f args H (onCall K X) :=
  CallsH.mono h fun e H' ⟨h1, h2⟩ => by subst h1; subst h2; exact hk
theorem Count_is (A : Nat) (H : Heap) : CallsE Try.prog 20 ⟨[maskV A]⟩ H (.int .i64 (countN (A % dayN) 23)) := by
  refine CallsE.all (fun H => ?_) H
  apply masks_Count_calls
  unfold masks_Count
  have hS := St.start none0 H
  intro H1
  replace hS : St _ _ H1 _ := St.push hS _
  clear_value H1
  refine ⟨wordsOf _, wordsOf_length _, St.atAll (k := 0) hS rfl rfl rfl, ?_⟩
  refine CallsE.call (clean_is A H1) fun H2 hx => ⟨wordsOf _, wordsOf_length _, rfl, ?_⟩
  have hS := hS.grow hx
  clear hx
  refine ⟨fun n x H' => ∃ i : Nat, x = i ∧ i ≤ 23 ∧ n = countN (A % dayN) i ∧ Ext0 H H', fun _ x _ => (23 - x).toNat, ⟨0, rfl, by omega, rfl, hS.ext0⟩, ?_⟩
  rintro n x H3 ⟨i, rfl, hi, rfl, hx⟩
  refine ifB_mk (fun hc => ?_) (fun hc => ?_)
  · have hi : i < 23 := by simp at hc; omega
    refine ⟨by omega, by omega, _, by rw [Int.toNat_natCast, Nat.mul_one]; exact wordsOf_cell hi, ?_⟩
    refine CallsQ.call (ones_is _ _) ⟨_, rfl, ⟨i + 1, by rw [i64_id (by omega) (by omega)]; omega, hi, rfl, hx⟩, ?_⟩
    show Int.toNat _ < Int.toNat _
    rw [i64_id (by omega) (by omega)]
    omega
  · have hi : i = 23 := by simp at hc; omega
    subst hi
    exact ⟨rfl, hx⟩
/-- '==' of two rows of numbers. -/
theorem eq_masks {A B : Nat} (hA : A % dayN = A) (hB : B % dayN = B) : (wordsOf A = wordsOf B) ↔ A = B := by
  constructor
  · intro h
    apply Nat.eq_of_testBit_eq
    intro j
    by_cases hj : j < 1440
    · have h1 := wordsOf_get (A := A) (k := j / 64) (by omega)
      have h2 := wordsOf_get (A := B) (k := j / 64) (by omega)
      rw [h, h2] at h1
      simp only [Option.some.injEq, Int.natCast_inj] at h1
      have h3 := word_bit A (j / 64) (j % 64)
      have h4 := word_bit B (j / 64) (j % 64)
      rw [h1] at h4
      rw [h3] at h4
      rw [decide_eq_true (Nat.mod_lt _ (by decide)), Bool.true_and, Bool.true_and, show 64 * (j / 64) + j % 64 = j by omega] at h4
      exact h4
    · rw [← hA, ← hB, dayN_bit, dayN_bit, decide_eq_false hj]; rfl
  · rintro rfl; rfl
end Go.Vc
