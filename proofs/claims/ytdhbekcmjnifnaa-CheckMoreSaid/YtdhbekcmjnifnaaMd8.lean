/- CheckMore is proved: a rule more that nobody speaks of, of a new name, and that speaks of none, leaves rules as they were; for every input, with no condition. This text is a part of the way there. -/
import Derived.Test.YtdhbekcmjnifnaaMd7
import Derived.KernelRfl
import Derived.MapKept
import Derived.Laws.MakeOwn
set_option linter.unusedVariables false
set_option maxRecDepth 100000
namespace Go.Vc
open Go.Proofs

/-! slotrules slotlaw5.CheckUses -/
def slotlaw5_CheckUses_k1 (I18 : Int → Heap → Prop) (m18 : Int → Heap → Nat) (x55 : Int) (H11 : Heap) (H17 : Heap) (R : Ending → Heap → Prop) : Prop :=
  (I18 (IntKind.i64.wrap (x55 + 1)) H17 ∧ m18 (IntKind.i64.wrap (x55 + 1)) H17 < m18 x55 H11)
def slotlaw5_CheckUses (l0a : Option Addr) (l0n : Nat) (l0c : Nat) (H : Heap) (R : Ending → Heap → Prop) : Prop :=
  CallsH Try.prog 13 ⟨[]⟩ H (onCall (fun rx12 H1 => ∃ x12 : Bool, rx12 = (.bool x12) ∧ ifB (!x12)
  (R (.returned (.bool false)) H1)
  (CallsH Try.prog 14 ⟨[(.slice l0a l0n l0c)]⟩ H1 (onCall (fun rx15 H2 => ∃ x15_0 : Int, ∃ x15_1 : Int, rx15 = (.agg ⟨[(.int .i64 x15_0), (.int .i64 x15_1)]⟩) ∧ ifB (x15_0 != 0)
  (CallsH Try.prog 15 ⟨[(.slice l0a l0n l0c), (.int .i64 0)]⟩ H2 (onCall (fun rx19 H3 => ∃ (x19a : Option Addr) (x19n x19c : Nat), rx19 = (.slice x19a x19n x19c) ∧ R (.returned (.bool ((x19n : Int) == 0))) H3) (fun ch H4 => R (.panicked ch) H4)))
  (∃ (I6 : Int → Heap → Prop) (m6 : Int → Heap → Nat), I6 0 H2 ∧ ∀ (x24 : Int) (H5 : Heap), I6 x24 H5 → 
  ifB (decide (x24 < (l0n : Int)))
  (let H6 : Heap := H5.push (.map #[] 0)
  CallsH Try.prog 15 ⟨[(.slice l0a l0n l0c), (.int .i64 x24)]⟩ H6 (onCall (fun rx30 H7 => ∃ (x30a : Option Addr) (x30n x30c : Nat), rx30 = (.slice x30a x30n x30c) ∧ ∃ (I10 : Int → Heap → Prop) (m10 : Int → Heap → Nat), I10 0 H7 ∧ ∀ (x32 : Int) (H8 : Heap), I10 x32 H8 → 
  ifB (decide (x32 < (x30n : Int)))
  ((0 : Int) ≤ x32 ∧ x32 < (x30n : Int) ∧ ∃ px34 : Addr, x30a = some px34 ∧ ∃ x35 : Int, cellH H8 (px34.add (Int.toNat x32 * 1)) = some (.int .i64 x35) ∧ ifB (((x35 == x24) || (decide (x35 < 0))) || (decide (x35 ≥ (l0n : Int))))
  (R (.returned (.bool false)) H8)
  (RunU Try.prog (Instr.mapUpdate 48 (.map (some H5.size)) (.int .i64 x35) (.bool true)) H8 (fun H9 => (I10 (IntKind.i64.wrap (x32 + 1)) H9 ∧ m10 (IntKind.i64.wrap (x32 + 1)) H9 < m10 x32 H8))))
  (let H10 : Heap := H8.push (.map #[] 0)
  ∃ (I18 : Int → Heap → Prop) (m18 : Int → Heap → Nat), I18 0 H10 ∧ ∀ (x55 : Int) (H11 : Heap), I18 x55 H11 → 
  ifB (decide (x55 < (l0n : Int)))
  ((0 : Int) ≤ x24 ∧ x24 < (l0n : Int) ∧ ∃ px60 : Addr, l0a = some px60 ∧ ∃ x62_0 : Int, ∃ x62_1 : Int, ∃ x62_2 : Int, ∃ x62_3 : ByteArray, ∃ (x62_4a : Option Addr) (x62_4n x62_4c : Nat), At H11 ((px60.add (Int.toNat x24 * 6)).add 1) ([(.int .i64 x62_0), (.int .i64 x62_1), (.int .i64 x62_2), (.string x62_3), (.slice x62_4a x62_4n x62_4c)]) ∧ (0 : Int) ≤ x55 ∧ x55 < (l0n : Int) ∧ ∃ px65 : Addr, l0a = some px65 ∧ ∃ x67 : ByteArray, cellH H11 ((px65.add (Int.toNat x55 * 6)).add 0) = some (.string x67) ∧ ∃ x68 : Bool, CallsE Try.prog 16 ⟨[(.agg ⟨[(.int .i64 x62_0), (.int .i64 x62_1), (.int .i64 x62_2), (.string x62_3), (.slice x62_4a x62_4n x62_4c)]⟩), (.string x67)]⟩ H11 (.bool x68) ∧ ∀ H12 : Heap, Ext0 H11 H12 → ifB x68
  (RunU Try.prog (Instr.mapUpdate 48 (.map (some H8.size)) (.int .i64 x55) (.bool true)) H12 (fun H13 => CallsH Try.prog 15 ⟨[(.slice l0a l0n l0c), (.int .i64 x55)]⟩ H13 (onCall (fun rx73 H14 => ∃ (x73a : Option Addr) (x73n x73c : Nat), rx73 = (.slice x73a x73n x73c) ∧ ∃ (I23 : Int → Heap → Prop) (m23 : Int → Heap → Nat), I23 0 H14 ∧ ∀ (x75 : Int) (H15 : Heap), I23 x75 H15 → 
  ifB (decide (x75 < (x73n : Int)))
  ((0 : Int) ≤ x75 ∧ x75 < (x73n : Int) ∧ ∃ px77 : Addr, x73a = some px77 ∧ ∃ x78 : Int, cellH H15 (px77.add (Int.toNat x75 * 1)) = some (.int .i64 x78) ∧ RunU Try.prog (Instr.mapUpdate 48 (.map (some H8.size)) (.int .i64 x78) (.bool true)) H15 (fun H16 => (I23 (IntKind.i64.wrap (x75 + 1)) H16 ∧ m23 (IntKind.i64.wrap (x75 + 1)) H16 < m23 x75 H15)))
  (slotlaw5_CheckUses_k1 I18 m18 x55 H11 H15 R)) (fun ch H18 => R (.panicked ch) H18))))
  (slotlaw5_CheckUses_k1 I18 m18 x55 H11 H12 R))
  (∃ (I29 : Int → Heap → Prop) (m29 : Int → Heap → Nat), I29 0 H11 ∧ ∀ (x85 : Int) (H19 : Heap), I29 x85 H19 → 
  ifB (decide (x85 < (l0n : Int)))
  (∃ x90 : Bool, RunV Try.prog (Instr.lookup 48 (.map (some H5.size)) (.int .i64 x85) false) H19 (.bool x90) ∧ ∃ x93 : Bool, RunV Try.prog (Instr.lookup 48 (.map (some H8.size)) (.int .i64 x85) false) H19 (.bool x93) ∧ ifB (!(x90 == x93))
  (R (.returned (.bool false)) H19)
  ((I29 (IntKind.i64.wrap (x85 + 1)) H19 ∧ m29 (IntKind.i64.wrap (x85 + 1)) H19 < m29 x85 H19)))
  ((I6 (IntKind.i64.wrap (x24 + 1)) H19 ∧ m6 (IntKind.i64.wrap (x24 + 1)) H19 < m6 x24 H5))))) (fun ch H20 => R (.panicked ch) H20)))
  (R (.returned (.bool true)) H5))) (fun ch H21 => R (.panicked ch) H21)))) (fun ch H22 => R (.panicked ch) H22))
def slotlaw5_CheckUses_ann : Ann := ⟨lookN (false, 0) [(20, true, 11)], lookN [] [], lookN [] [(6, [(24, .int .i64)]), (10, [(32, .int .i64)]), (18, [(55, .int .i64)]), (23, [(75, .int .i64)]), (29, [(85, .int .i64)])]⟩
theorem slotlaw5_CheckUses_den (l0a : Option Addr) (l0n : Nat) (l0c : Nat) (H : Heap) (R : Ending → Heap → Prop) : denF Try.prog Try.f5 slotlaw5_CheckUses_ann [(.slice l0a l0n l0c)] H R = slotlaw5_CheckUses l0a l0n l0c H R := by kernel_rfl
theorem slotlaw5_CheckUses_calls (l0a : Option Addr) (l0n : Nat) (l0c : Nat) {H : Heap} {R : Ending → Heap → Prop} (h : slotlaw5_CheckUses l0a l0n l0c H R) : CallsH Try.prog 5 ⟨[(.slice l0a l0n l0c)]⟩ H R :=
  callsH_of namesOk mixedOk Try.func5 (ann := slotlaw5_CheckUses_ann) (by rw [slotlaw5_CheckUses_den]; exact h)

/-! slotrules slotlaw5.CheckMore -/
def slotlaw5_CheckMore (l0a : Option Addr) (l0n : Nat) (l0c : Nat) (name1 : ByteArray) (H : Heap) (R : Ending → Heap → Prop) : Prop :=
  CallsH Try.prog 13 ⟨[]⟩ H (onCall (fun rx9 H1 => ∃ x9 : Bool, rx9 = (.bool x9) ∧ ifB (!x9)
  (R (.returned (.bool false)) H1)
  (let H2 : Heap := H1.push (.cells ⟨[]⟩ 43)
  RunD Try.prog (Builtin.append_ #[22, 22] 22 ⟨[(.slice (some (newA H1)) 0 0), (.slice l0a l0n l0c)]⟩) H2 (fun rx13 H3 => ∃ (x13a : Option Addr) (x13n x13c : Nat), rx13 = (.slice x13a x13n x13c) ∧ let H4 : Heap := H3.push (.cells ⟨[(.string name1), (.int .i64 1), (.int .i64 0), (.int .i64 0), (.string (⟨#[]⟩ : ByteArray)), (.slice none 0 0)]⟩ 43)
  RunD Try.prog (Builtin.append_ #[22, 22] 22 ⟨[(.slice x13a x13n x13c), (.slice (some (newA H3)) 1 1)]⟩) H4 (fun rx18 H5 => ∃ (x18a : Option Addr) (x18n x18c : Nat), rx18 = (.slice x18a x18n x18c) ∧ ∃ J27 : Bool → Heap → Prop, ifB (decide ((l0n : Int) ≥ 40)) (J27 true H5) (CallsH Try.prog 17 ⟨[(.slice x18a x18n x18c)]⟩ H5 (onCall (fun rx24 H7 => ∃ x24_0 : Int, ∃ x24_1 : Int, rx24 = (.agg ⟨[(.int .i64 x24_0), (.int .i64 x24_1)]⟩) ∧ J27 (x24_0 != 0) H7) (fun ch H8 => R (.panicked ch) H8))) ∧ ∀ (q27 : Bool) (H6 : Heap), J27 q27 H6 → ifB q27
  (R (.returned (.bool true)) H6)
  (∃ (I7 : Int → Heap → Prop) (m7 : Int → Heap → Nat), I7 0 H6 ∧ ∀ (x30 : Int) (H9 : Heap), I7 x30 H9 → 
  ifB (decide (x30 < (l0n : Int)))
  ((0 : Int) ≤ x30 ∧ x30 < (l0n : Int) ∧ ∃ px32 : Addr, l0a = some px32 ∧ ∃ x33_0 : ByteArray, ∃ x33_1 : Int, ∃ x33_2 : Int, ∃ x33_3 : Int, ∃ x33_4 : ByteArray, ∃ (x33_5a : Option Addr) (x33_5n x33_5c : Nat), At H9 (px32.add (Int.toNat x30 * 6)) ([(.string x33_0), (.int .i64 x33_1), (.int .i64 x33_2), (.int .i64 x33_3), (.string x33_4), (.slice x33_5a x33_5n x33_5c)]) ∧ let H10 : Heap := H9.push (.cells ⟨[(.string (⟨#[]⟩ : ByteArray)), (.int .i64 0), (.int .i64 0), (.int .i64 0), (.string (⟨#[]⟩ : ByteArray)), (.slice none 0 0)]⟩ 43)
  MayPut H10 (newA H9) 6 ∧ let H11 : Heap := putH H10 (newA H9) ([(.string x33_0), (.int .i64 x33_1), (.int .i64 x33_2), (.int .i64 x33_3), (.string x33_4), (.slice x33_5a x33_5n x33_5c)])
  ∃ x35 : ByteArray, cellH H11 ((newA H9).add 0) = some (.string x35) ∧ ∃ J43 : Bool → Heap → Prop, ifB (x35.toList == name1.toList) (J43 true H11) (∃ x40_0 : Int, ∃ x40_1 : Int, ∃ x40_2 : Int, ∃ x40_3 : ByteArray, ∃ (x40_4a : Option Addr) (x40_4n x40_4c : Nat), At H11 ((newA H9).add 1) ([(.int .i64 x40_0), (.int .i64 x40_1), (.int .i64 x40_2), (.string x40_3), (.slice x40_4a x40_4n x40_4c)]) ∧ CallsH Try.prog 16 ⟨[(.agg ⟨[(.int .i64 x40_0), (.int .i64 x40_1), (.int .i64 x40_2), (.string x40_3), (.slice x40_4a x40_4n x40_4c)]⟩), (.string name1)]⟩ H11 (onCall (fun rx42 H13 => ∃ x42 : Bool, rx42 = (.bool x42) ∧ J43 x42 H13) (fun ch H14 => R (.panicked ch) H14))) ∧ ∀ (q43 : Bool) (H12 : Heap), J43 q43 H12 → ifB q43
  (R (.returned (.bool true)) H12)
  ((I7 (IntKind.i64.wrap (x30 + 1)) H12 ∧ m7 (IntKind.i64.wrap (x30 + 1)) H12 < m7 x30 H9)))
  (CallsH Try.prog 14 ⟨[(.slice l0a l0n l0c)]⟩ H9 (onCall (fun rx46 H15 => ∃ x46_0 : Int, ∃ x46_1 : Int, rx46 = (.agg ⟨[(.int .i64 x46_0), (.int .i64 x46_1)]⟩) ∧ CallsH Try.prog 14 ⟨[(.slice x18a x18n x18c)]⟩ H15 (onCall (fun rx48 H16 => ∃ x48_0 : Int, ∃ x48_1 : Int, rx48 = (.agg ⟨[(.int .i64 x48_0), (.int .i64 x48_1)]⟩) ∧ ∃ x49 : Bool, EqV Try.prog .neq 39 (.agg ⟨[(.int .i64 x46_0), (.int .i64 x46_1)]⟩) (.agg ⟨[(.int .i64 x48_0), (.int .i64 x48_1)]⟩) x49 ∧ ifB x49
  (R (.returned (.bool false)) H16)
  (∃ (I15 : Int → Heap → Prop) (m15 : Int → Heap → Nat), I15 0 H16 ∧ ∀ (x52 : Int) (H17 : Heap), I15 x52 H17 → 
  ifB (decide (x52 < (l0n : Int)))
  (CallsH Try.prog 15 ⟨[(.slice l0a l0n l0c), (.int .i64 x52)]⟩ H17 (onCall (fun rx57 H18 => ∃ (x57a : Option Addr) (x57n x57c : Nat), rx57 = (.slice x57a x57n x57c) ∧ CallsH Try.prog 15 ⟨[(.slice x18a x18n x18c), (.int .i64 x52)]⟩ H18 (onCall (fun rx60 H19 => ∃ (x60a : Option Addr) (x60n x60c : Nat), rx60 = (.slice x60a x60n x60c) ∧ CallsH Try.prog 18 ⟨[(.slice x57a x57n x57c), (.slice x60a x60n x60c)]⟩ H19 (onCall (fun rx61 H20 => ∃ x61 : Bool, rx61 = (.bool x61) ∧ ifB (!x61)
  (R (.returned (.bool false)) H20)
  ((I15 (IntKind.i64.wrap (x52 + 1)) H20 ∧ m15 (IntKind.i64.wrap (x52 + 1)) H20 < m15 x52 H17))) (fun ch H21 => R (.panicked ch) H21))) (fun ch H22 => R (.panicked ch) H22))) (fun ch H23 => R (.panicked ch) H23)))
  (CallsH Try.prog 15 ⟨[(.slice x18a x18n x18c), (.int .i64 (l0n : Int))]⟩ H17 (onCall (fun rx67 H24 => ∃ (x67a : Option Addr) (x67n x67c : Nat), rx67 = (.slice x67a x67n x67c) ∧ R (.returned (.bool ((x67n : Int) == 0))) H24) (fun ch H25 => R (.panicked ch) H25))))) (fun ch H26 => R (.panicked ch) H26))) (fun ch H27 => R (.panicked ch) H27)))))))) (fun ch H28 => R (.panicked ch) H28))
def slotlaw5_CheckMore_ann : Ann := ⟨lookN (false, 0) [], lookN [] [], lookN [] [(7, [(30, .int .i64)]), (15, [(52, .int .i64)])]⟩
theorem slotlaw5_CheckMore_den (l0a : Option Addr) (l0n : Nat) (l0c : Nat) (name1 : ByteArray) (H : Heap) (R : Ending → Heap → Prop) : denF Try.prog Try.f6 slotlaw5_CheckMore_ann [(.slice l0a l0n l0c), (.string name1)] H R = slotlaw5_CheckMore l0a l0n l0c name1 H R := by kernel_rfl
theorem slotlaw5_CheckMore_calls (l0a : Option Addr) (l0n : Nat) (l0c : Nat) (name1 : ByteArray) {H : Heap} {R : Ending → Heap → Prop} (h : slotlaw5_CheckMore l0a l0n l0c name1 H R) : CallsH Try.prog 6 ⟨[(.slice l0a l0n l0c), (.string name1)]⟩ H R :=
  callsH_of namesOk mixedOk Try.func6 (ann := slotlaw5_CheckMore_ann) (by rw [slotlaw5_CheckMore_den]; exact h)

/-! slotrules slotlaw5.alive -/
def slotlaw5_alive (H : Heap) (R : Ending → Heap → Prop) : Prop :=
  CallsH Try.prog 24 ⟨[(.string (⟨#[114, 117, 108, 101, 32, 97, 32, 61, 32, 98, 32, 43, 32, 99, 59, 32, 114, 117, 108, 101, 32, 98, 32, 61, 32, 99, 59, 32, 114, 117, 108, 101, 32, 99, 32, 61, 32, 97, 108, 119, 97, 121, 115, 59]⟩ : ByteArray))]⟩ H (onCall (fun rx2 H1 => ∃ (x2a : Option Addr) (x2n x2c : Nat), rx2 = (.slice x2a x2n x2c) ∧ CallsH Try.prog 14 ⟨[(.slice x2a x2n x2c)]⟩ H1 (onCall (fun rx4 H2 => ∃ x4_0 : Int, ∃ x4_1 : Int, rx4 = (.agg ⟨[(.int .i64 x4_0), (.int .i64 x4_1)]⟩) ∧ ∃ J12 : Bool → Heap → Prop, ifB (x4_0 == 0) (CallsH Try.prog 15 ⟨[(.slice x2a x2n x2c), (.int .i64 0)]⟩ H2 (onCall (fun rx9 H4 => ∃ (x9a : Option Addr) (x9n x9c : Nat), rx9 = (.slice x9a x9n x9c) ∧ let H5 : Heap := H4.push (.cells ⟨[(.int .i64 1), (.int .i64 2)]⟩ 3)
  CallsH Try.prog 18 ⟨[(.slice x9a x9n x9c), (.slice (some (newA H4)) 2 2)]⟩ H5 (onCall (fun rx11 H6 => ∃ x11 : Bool, rx11 = (.bool x11) ∧ J12 x11 H6) (fun ch H7 => R (.panicked ch) H7))) (fun ch H8 => R (.panicked ch) H8))) (J12 false H2) ∧ ∀ (q12 : Bool) (H3 : Heap), J12 q12 H3 → ∃ J18 : Bool → Heap → Prop, ifB q12 (CallsH Try.prog 24 ⟨[(.string (⟨#[114, 117, 108, 101, 32, 97, 32, 61, 32, 97, 59]⟩ : ByteArray))]⟩ H3 (onCall (fun rx14 H10 => ∃ (x14a : Option Addr) (x14n x14c : Nat), rx14 = (.slice x14a x14n x14c) ∧ CallsH Try.prog 14 ⟨[(.slice x14a x14n x14c)]⟩ H10 (onCall (fun rx15 H11 => ∃ x15_0 : Int, ∃ x15_1 : Int, rx15 = (.agg ⟨[(.int .i64 x15_0), (.int .i64 x15_1)]⟩) ∧ J18 (x15_0 == 9) H11) (fun ch H12 => R (.panicked ch) H12))) (fun ch H13 => R (.panicked ch) H13))) (J18 false H3) ∧ ∀ (q18 : Bool) (H9 : Heap), J18 q18 H9 → R (.returned (.bool q18)) H9) (fun ch H14 => R (.panicked ch) H14))) (fun ch H15 => R (.panicked ch) H15))
def slotlaw5_alive_ann : Ann := ⟨lookN (false, 0) [], lookN [] [], lookN [] []⟩
theorem slotlaw5_alive_den (H : Heap) (R : Ending → Heap → Prop) : denF Try.prog Try.f13 slotlaw5_alive_ann [] H R = slotlaw5_alive  H R := by kernel_rfl
theorem slotlaw5_alive_calls {H : Heap} {R : Ending → Heap → Prop} (h : slotlaw5_alive  H R) : CallsH Try.prog 13 ⟨[]⟩ H R :=
  callsH_of namesOk mixedOk Try.func13 (ann := slotlaw5_alive_ann) (by rw [slotlaw5_alive_den]; exact h)

/-! slotrules slotlaw5.rules -/
def slotlaw5_rules (s0 : ByteArray) (H : Heap) (R : Ending → Heap → Prop) : Prop :=
  CallsH Try.prog 32 ⟨[(.string s0)]⟩ H (onCall (fun rx7 H1 => ∃ (x7_0a : Option Addr) (x7_0n x7_0c : Nat), ∃ x7_1_0 : Int, ∃ x7_1_1 : Int, rx7 = (.tuple ⟨[(.slice x7_0a x7_0n x7_0c), (.agg ⟨[(.int .i64 x7_1_0), (.int .i64 x7_1_1)]⟩)]⟩) ∧ let H2 : Heap := H1.push (.cells ⟨[(.int .i64 0), (.int .i64 0)]⟩ 39)
  MayPut H2 (newA H1) 2 ∧ let H3 : Heap := putH H2 (newA H1) ([(.int .i64 x7_1_0), (.int .i64 x7_1_1)])
  ∃ x11 : Int, cellH H3 ((newA H1).add 0) = some (.int .i64 x11) ∧ ifB (x11 != 0)
  (R (.returned (.slice none 0 0)) H3)
  (R (.returned (.slice x7_0a x7_0n x7_0c)) H3)) (fun ch H4 => R (.panicked ch) H4))
def slotlaw5_rules_ann : Ann := ⟨lookN (false, 0) [], lookN [] [], lookN [] []⟩
theorem slotlaw5_rules_den (s0 : ByteArray) (H : Heap) (R : Ending → Heap → Prop) : denF Try.prog Try.f24 slotlaw5_rules_ann [(.string s0)] H R = slotlaw5_rules s0 H R := by kernel_rfl
theorem slotlaw5_rules_calls (s0 : ByteArray) {H : Heap} {R : Ending → Heap → Prop} (h : slotlaw5_rules s0 H R) : CallsH Try.prog 24 ⟨[(.string s0)]⟩ H R :=
  callsH_of namesOk mixedOk Try.func24 (ann := slotlaw5_rules_ann) (by rw [slotlaw5_rules_den]; exact h)

end Go.Vc
namespace Go.Vc

/-! ## 16. append in general: a row of one's own, from a place in its block on; a row of anybody's behind it -/
def RowP (E : List (Nat × Obj)) (a : Option Addr) (n c sz : Nat) (olds : List Value) (e : TypeId) : Prop :=
  (E = [] ∧ a = none ∧ n = 0 ∧ c = 0 ∧ olds = []) ∨ ∃ b pre rest tail, E = [(b, C (pre ++ olds ++ rest ++ tail) e)] ∧ a = some ⟨b, pre.length, none⟩ ∧ olds.length = n * sz ∧ rest.length = (c - n) * sz ∧ n ≤ c
theorem RowP.len {E : List (Nat × Obj)} {a : Option Addr} {n c sz : Nat} {olds : List Value} {e : TypeId} (h : RowP E a n c sz olds e) : olds.length = n * sz := by
  rcases h with ⟨_, _, rfl, _, rfl⟩ | ⟨b, pre, rest, tail, _, _, h, _⟩
  · simp
  · exact h
theorem RowE.p {E : List (Nat × Obj)} {a : Option Addr} {n c sz : Nat} {olds : List Value} {e : TypeId} (h : RowE E a n c sz olds e) : RowP E a n c sz olds e := by
  rcases h with h | ⟨b, rest, rfl, rfl, h1, h2, h3⟩
  · exact .inl h
  · exact .inr ⟨b, [], rest, [], by simp, rfl, h1, h2, h3⟩
theorem RowP.cap {E : List (Nat × Obj)} {a : Option Addr} {n c sz : Nat} {olds : List Value} {e : TypeId} (h : RowP E a n c sz olds e) : n ≤ c := by
  rcases h with ⟨_, _, rfl, rfl, rfl⟩ | ⟨b, pre, rest, tail, _, _, _, _, h⟩
  · exact Nat.le_refl _
  · exact h
/-- The first one struck off. -/
theorem RowP.tail1 {E : List (Nat × Obj)} {a : Option Addr} {n c : Nat} {x : Value} {r : List Value} {e : TypeId} (h : RowP E a n c 1 (x :: r) e) : RowP E (if c = 1 then a else a.map fun y => y.add (1 * 1)) (n - 1) (c - 1) 1 r e := by
  rcases h with ⟨_, _, _, _, h⟩ | ⟨b, pre, rest, tail, rfl, rfl, h1, h2, h3⟩
  · cases h
  · simp only [List.length_cons, Nat.mul_one] at h1 h2
    by_cases hc : c = 1
    · rw [if_pos hc]
      have hr : r = [] := List.length_eq_zero_iff.1 (by omega)
      subst hr
      have hrest : rest = [] := List.length_eq_zero_iff.1 (by simp only [List.length_nil] at h1; omega)
      subst hrest
      exact .inr ⟨b, pre, [], x :: tail, by simp, rfl, by simp; omega, by simp; omega, by omega⟩
    · rw [if_neg hc]
      refine .inr ⟨b, pre ++ [x], rest, tail, by simp, ?_, by omega, by omega, by omega⟩
      simp [Addr.add]
theorem RowP.at_ {M : Nat → Prop} {H0 H : Heap} {L E : List (Nat × Obj)} {a : Option Addr} {n c sz : Nat} {olds : List Value} {e : TypeId} (hS : St M H0 H (L ++ E)) (h : RowP E a n c sz olds e) : (olds = []) ∨ ∃ p, a = some p ∧ At H p olds := by
  rcases h with ⟨_, _, _, _, h⟩ | ⟨b, pre, rest, tail, rfl, rfl, h1, h2, h3⟩
  · exact .inl h
  · refine .inr ⟨_, rfl, At_of_blk (l := pre ++ olds ++ rest ++ tail) (T := e) (hS.at_ (b, _) (by simp)) rfl fun j v hj => ?_⟩
    have hlt := (List.getElem?_eq_some_iff.1 hj).1
    show (pre ++ olds ++ rest ++ tail)[pre.length + j]? = _
    rw [List.append_assoc, List.append_assoc, List.getElem?_append_right (by omega), show pre.length + j - pre.length = j by omega, List.getElem?_append_left hlt]
    exact hj
/-- What is appended: a row that anybody's memory holds, or nothing. -/
def SrcH (H : Heap) (sa : Option Addr) (k sz : Nat) (news : List Value) : Prop := (sa = none ∧ k = 0 ∧ news = []) ∨ (∃ xa, sa = some xa ∧ At H xa news ∧ news.length = k * sz ∧ plainL news)
theorem SrcH.len {H : Heap} {sa : Option Addr} {k sz : Nat} {news : List Value} (h : SrcH H sa k sz news) : news.length = k * sz := by
  rcases h with ⟨_, rfl, rfl⟩ | ⟨_, _, _, h, _⟩
  · simp
  · exact h
theorem SrcH.plain {H : Heap} {sa : Option Addr} {k sz : Nat} {news : List Value} (h : SrcH H sa k sz news) : plainL news := by
  rcases h with ⟨_, rfl, rfl⟩ | ⟨_, _, _, _, h⟩
  · simp [plainL]
  · exact h
theorem splice_in : ∀ {m p q t : List Value}, m.length ≤ q.length → splice (p ++ q ++ t) p.length m = p ++ m ++ q.drop m.length ++ t := fun {m p q t} h => by
  have := splice_mid (m := m) (p := p) (q := q ++ t) (by simp; omega)
  rw [List.append_assoc, this, List.drop_append_of_le_length h]
  simp
section
variable {P : Program} {M : Nat → Prop} {H0 H : Heap} {L E : List (Nat × Obj)} {K : Value → Heap → Prop}
theorem append_gen {t e sz by_ : Nat} {a : Option Addr} {n c : Nat} {olds news : List Value} {sa : Option Addr} {k kc : Nat} (hI : appB P t e sz by_ = true)
    (hS : St M H0 H (L ++ E)) (hr : RowP E a n c sz olds e) (hx : SrcH H sa k sz news) (hpo : plainL olds)
    (hfit : 2 * (n + k) * by_ ≤ 281474976710656) (h63 : ((n + k : Nat) : Int) ≤ 9223372036854775807)
    (hK : ∀ a' c' H' E', St M H0 H' (L ++ E') → RowP E' a' (n + k) c' sz (olds ++ news) e → K (.slice a' (n + k) c') H') :
    RunD P (Builtin.append_ #[t, t] t ⟨[.slice a n c, .slice sa k kc]⟩) H K := by
  unfold appB at hI
  split at hI
  rotate_left
  · cases hI
  rename_i e' i ht hi
  split at hI
  rotate_left
  · cases hI
  rename_i z hz
  simp only [Bool.and_eq_true] at hI
  obtain ⟨⟨⟨b1, b2⟩, b3⟩, b4⟩ := hI
  have b1 := Nat.eq_of_beq_eq_true b1; have hzs := Nat.eq_of_beq_eq_true b2; have b3 := Nat.eq_of_beq_eq_true b3; have b4 := Nat.eq_of_beq_eq_true b4
  subst b1 b3 b4
  intro w d
  have hn := hx.len
  have hp := hx.plain
  have hs : Src P i.size t (.slice sa k kc) k news (wk w H d) := by
    rcases hx with ⟨rfl, rfl, rfl⟩ | ⟨xa, rfl, hat, _, _⟩
    · exact Src.ofNil _ ht kc
    · exact Src.ofSlice _ ht xa k kc news hn (fun j u hj => hat.get hj) hp
  by_cases hroom : n + k ≤ c
  · rcases hr with ⟨rfl, rfl, rfl, rfl, rfl⟩ | ⟨b, pre, rest, tail, rfl, rfl, hol, hrl, hnc⟩
    · have hk0 : k = 0 := by omega
      subst hk0
      have hnews : news = [] := List.length_eq_zero_iff.1 (by simpa using hn)
      subst hnews
      have hrun : (Builtin.append_ #[t, t] t ⟨[.slice none 0 0, .slice sa 0 kc]⟩).run P (wk w H d) = .ok (.slice none 0 0) (wk w H d) := by
        rcases hs.kind with ⟨e'', hk⟩ | hk
        · simp [Builtin.append_, run_underlying ht, sizeOf, typeInfo, hi, hs.len, hs.cells]
        · rw [hk] at ht; cases ht
      exact ⟨_, H, d, hrun, hK none 0 H [] hS (.inl ⟨rfl, rfl, rfl, rfl, rfl⟩)⟩
    · have hb : H[b]? = some (C (pre ++ olds ++ rest ++ tail) e') := hS.at_ (b, C (pre ++ olds ++ rest ++ tail) e') (by simp)
      have hrk : k * i.size ≤ rest.length := by rw [hrl]; exact Nat.mul_le_mul_right _ (by omega)
      have hpol : (pre ++ olds).length = pre.length + n * i.size := by rw [List.length_append, hol]
      have hcell : ∀ j, j < news.length → cellH H ⟨b, pre.length + n * i.size + j, none⟩ = (pre ++ olds ++ rest ++ tail)[pre.length + n * i.size + j]? := fun j hj => by
        rw [cellH_blk (l := pre ++ olds ++ rest ++ tail) hb rfl]
      have hrun := run_append_room_src (wk w H d) t t t _ i ht hi b pre.length n c (.slice sa k kc) k news hs hroom
        (fun j hj => by rw [cell_wk, hcell j hj, List.getElem?_eq_getElem (by simp only [List.length_append]; omega)]; rfl)
        (fun j hj => by rw [frozen_wk]; simp [frozenH, hb])
      rw [← Nat.add_zero (pre.length + n * i.size), setCells_wk w b (pre.length + n * i.size) news 0 H d] at hrun
      have hput := St.put (a := ⟨b, pre.length + n * i.size, none⟩) hS nthO_end rfl news
      rw [setN_end] at hput
      have hsp : splice (pre ++ olds ++ rest ++ tail) (pre.length + n * i.size) news = pre ++ (olds ++ news) ++ rest.drop (k * i.size) ++ tail := by
        have := splice_in (m := news) (p := pre ++ olds) (q := rest) (t := tail) (by omega)
        rw [hpol, hn] at this
        rw [this]
        simp
      refine ⟨_, _, d, hrun, hK (some ⟨b, pre.length, none⟩) c _ _ hput (.inr ⟨b, pre, rest.drop (k * i.size), tail, by simp only [hsp], rfl, ?_, ?_, hroom⟩)⟩
      · rw [List.length_append, hol, hn, Nat.add_mul]
      · rw [List.length_drop, hrl, ← Nat.sub_mul]; congr 1; omega
  · have hold : (Builtin.firstCells i.size n (.slice a n c)).run P (wk w H d).drew = .ok olds.toArray (wk w H d).drew := by
      have hol := hr.len
      rcases RowP.at_ hS hr with h0 | ⟨p, rfl, hat⟩
      · subst h0
        cases a with
        | none => exact run_firstCells_none _ _ _ _ _
        | some p => exact run_firstCells_some _ _ _ _ _ _ [] hol fun j v hj => by simp at hj
      · exact run_firstCells_some _ _ _ _ _ _ olds hol fun j v hj => hat.get hj
    have hrun := run_append_grow_src (wk w H d) t t t _ i z ht hi hz a n c olds hold (.slice sa k kc) k news hs (by omega) h63 (Nat.le_trans (Nat.mul_le_mul_right _ (nextslicecap_le (by omega))) hfit)
    rw [wk_alloc] at hrun
    have hge := grownCap_ge (wk w H d) (n + k) c e'
    generalize grownCap (wk w H d) (n + k) c e' = g at hrun hge
    have hpush := hS.push (.cells ((olds ++ news).toArray ++ Builtin.zeroCells z.cells (g - (n + k))) e')
    have hol := hr.len
    refine ⟨_, _, d + 1, hrun, hK (some ⟨H.size, 0, none⟩) g _ [(H.size, C ((olds ++ news) ++ (Builtin.zeroCells z.cells (g - (n + k))).toList) e')] ?_ (.inr ⟨H.size, [], _, [], by simp; rfl, rfl, ?_, ?_, hge⟩)⟩
    · have e1 : Obj.cells ((olds ++ news).toArray ++ Builtin.zeroCells z.cells (g - (n + k))) e' = C ((olds ++ news) ++ (Builtin.zeroCells z.cells (g - (n + k))).toList) e' := by
        congr 1
        apply Array.ext'
        simp
      have h2 : St M H0 (H.push (.cells ((olds ++ news).toArray ++ Builtin.zeroCells z.cells (g - (n + k))) e')) ((H.size, C ((olds ++ news) ++ (Builtin.zeroCells z.cells (g - (n + k))).toList) e') :: L) := by
        rw [← e1]
        exact hpush.sub ((List.sublist_append_left L E).cons_cons _)
      exact h2.perm (List.perm_append_comm (l₁ := [(H.size, C ((olds ++ news) ++ (Builtin.zeroCells z.cells (g - (n + k))).toList) e')]) (l₂ := L))
    · rw [List.length_append, hol, hn, Nat.add_mul]
    · rw [Array.length_toList, size_zeroCells, hzs]
/-- A call turned a row of one's own. -/
theorem St.swap {H' : Heap} {E' : List (Nat × Obj)} (h : St M H0 H (L ++ E)) (hc : St (· ∈ E.map (·.1)) H H' E') : St M H0 H' (L ++ E') := by
  have hnd := h.nd
  rw [List.map_append, List.nodup_append] at hnd
  have hLE : ∀ x ∈ L, x.1 ∉ E.map (·.1) := fun x hx hm => hnd.2.2 x.1 (List.mem_map_of_mem (f := fun x : Nat × Obj => x.1) hx) x.1 hm rfl
  have hEown : ∀ b, b ∈ E.map (·.1) → H0.size ≤ b ∨ M b := fun b hb => by
    obtain ⟨x, hx, rfl⟩ := List.mem_map.1 hb
    exact h.own x (by simp [hx])
  refine ⟨⟨Nat.le_trans h.ext.size hc.ext.size, fun b hb hM => ?_⟩, fun x hx => ?_, fun x hx => ?_, ?_⟩
  · rw [hc.ext.block b (Nat.lt_of_lt_of_le hb h.ext.size) fun hm => by rcases hEown b hm with h1 | h1; omega; exact hM h1]
    exact h.ext.block b hb hM
  · rcases List.mem_append.1 hx with hx | hx
    · exact h.own x (by simp [hx])
    · rcases hc.own x hx with h1 | h1
      · exact .inl (Nat.le_trans h.ext.size h1)
      · exact hEown _ h1
  · rcases List.mem_append.1 hx with hx | hx
    · have := h.at_ x (by simp [hx])
      rw [hc.ext.block _ (lt_of_get this) (hLE x hx)]
      exact this
    · exact hc.at_ x hx
  · rw [List.map_append, List.nodup_append]
    refine ⟨hnd.1, hc.nd, fun x hx y hy hxy => ?_⟩
    obtain ⟨x, hx2, rfl⟩ := List.mem_map.1 hx
    obtain ⟨y, hy2, rfl⟩ := List.mem_map.1 hy
    rcases hc.own y hy2 with h1 | h1
    · have := lt_of_get (h.at_ x (by simp [hx2]))
      omega
    · rw [← hxy] at h1
      exact hLE x hx2 h1
end
end Go.Vc
set_option linter.unusedVariables false
set_option maxRecDepth 100000
namespace Go.Vc
open Go.Proofs

/-! slotrules check.Wrong -/
def check_Wrong (l0a : Option Addr) (l0n : Nat) (l0c : Nat) (H : Heap) (R : Ending → Heap → Prop) : Prop :=
  let H1 : Heap := H.push (.cells ⟨[(.int .i64 0), (.int .i64 0)]⟩ 39)
  CallsH Try.prog 17 ⟨[(.slice l0a l0n l0c)]⟩ H1 (onCall (fun rx12 H2 => ∃ x12_0 : Int, ∃ x12_1 : Int, rx12 = (.agg ⟨[(.int .i64 x12_0), (.int .i64 x12_1)]⟩) ∧ let H3 : Heap := H2.push (.cells ⟨[(.int .i64 0), (.int .i64 0)]⟩ 39)
  MayPut H3 (newA H2) 2 ∧ let H4 : Heap := putH H3 (newA H2) ([(.int .i64 x12_0), (.int .i64 x12_1)])
  ∃ x14 : Int, cellH H4 ((newA H2).add 0) = some (.int .i64 x14) ∧ ifB (x14 != 0)
  (∃ x16_0 : Int, ∃ x16_1 : Int, At H4 (newA H2) ([(.int .i64 x16_0), (.int .i64 x16_1)]) ∧ MayPut H4 (newA H) 2 ∧ let H5 : Heap := putH H4 (newA H) ([(.int .i64 x16_0), (.int .i64 x16_1)])
  ∃ o2_0 : Int, ∃ o2_1 : Int, At H5 (newA H) ([(.int .i64 o2_0), (.int .i64 o2_1)]) ∧ R (.returned (.agg ⟨[(.int .i64 o2_0), (.int .i64 o2_1)]⟩)) H5)
  (∃ (I5 : Int → Heap → Prop) (m5 : Int → Heap → Nat), I5 0 H4 ∧ ∀ (x19 : Int) (H6 : Heap), I5 x19 H6 → 
  ifB (decide (x19 < (l0n : Int)))
  ((0 : Int) ≤ x19 ∧ x19 < (l0n : Int) ∧ ∃ px22 : Addr, l0a = some px22 ∧ ∃ x23_0 : ByteArray, ∃ x23_1 : Int, ∃ x23_2 : Int, ∃ x23_3 : Int, ∃ x23_4 : ByteArray, ∃ (x23_5a : Option Addr) (x23_5n x23_5c : Nat), At H6 (px22.add (Int.toNat x19 * 6)) ([(.string x23_0), (.int .i64 x23_1), (.int .i64 x23_2), (.int .i64 x23_3), (.string x23_4), (.slice x23_5a x23_5n x23_5c)]) ∧ let H7 : Heap := H6.push (.cells ⟨[(.string (⟨#[]⟩ : ByteArray)), (.int .i64 0), (.int .i64 0), (.int .i64 0), (.string (⟨#[]⟩ : ByteArray)), (.slice none 0 0)]⟩ 43)
  MayPut H7 (newA H6) 6 ∧ let H8 : Heap := putH H7 (newA H6) ([(.string x23_0), (.int .i64 x23_1), (.int .i64 x23_2), (.int .i64 x23_3), (.string x23_4), (.slice x23_5a x23_5n x23_5c)])
  ∃ x26 : ByteArray, cellH H8 ((newA H6).add 0) = some (.string x26) ∧ CallsH Try.prog 25 ⟨[(.slice l0a l0n l0c), (.string x26)]⟩ H8 (onCall (fun rx27 H9 => ∃ x27 : Int, rx27 = (.int .i64 x27) ∧ ifB (decide (x27 < x19))
  (MayPut H9 (newA H) 2 ∧ let H10 : Heap := putH H9 (newA H) ([(.int .i64 7), (.int .i64 x19)])
  ∃ o2_0 : Int, ∃ o2_1 : Int, At H10 (newA H) ([(.int .i64 o2_0), (.int .i64 o2_1)]) ∧ R (.returned (.agg ⟨[(.int .i64 o2_0), (.int .i64 o2_1)]⟩)) H10)
  ((I5 (IntKind.i64.wrap (x19 + 1)) H9 ∧ m5 (IntKind.i64.wrap (x19 + 1)) H9 < m5 x19 H6))) (fun ch H11 => R (.panicked ch) H11)))
  (CallsH Try.prog 26 ⟨[(.slice l0a l0n l0c)]⟩ H6 (onCall (fun rx34 H12 => ∃ (x34a : Option Addr) (x34n x34c : Nat), rx34 = (.slice x34a x34n x34c) ∧ ∃ (I12 : Int → Heap → Prop) (m12 : Int → Heap → Nat), I12 0 H12 ∧ ∀ (x37 : Int) (H13 : Heap), I12 x37 H13 → 
  ifB (decide (x37 < (x34n : Int)))
  ((0 : Int) ≤ x37 ∧ x37 < (x34n : Int) ∧ ∃ px40 : Addr, x34a = some px40 ∧ ∃ (x41a : Option Addr) (x41n x41c : Nat), cellH H13 (px40.add (Int.toNat x37 * 1)) = some (.slice x41a x41n x41c) ∧ CallsH Try.prog 27 ⟨[(.slice x41a x41n x41c), (.int .i64 (-1))]⟩ H13 (onCall (fun rx43 H14 => ∃ x43 : Bool, rx43 = (.bool x43) ∧ ifB x43
  (MayPut H14 (newA H) 2 ∧ let H15 : Heap := putH H14 (newA H) ([(.int .i64 6), (.int .i64 x37)])
  ∃ o2_0 : Int, ∃ o2_1 : Int, At H15 (newA H) ([(.int .i64 o2_0), (.int .i64 o2_1)]) ∧ R (.returned (.agg ⟨[(.int .i64 o2_0), (.int .i64 o2_1)]⟩)) H15)
  ((I12 (IntKind.i64.wrap (x37 + 1)) H14 ∧ m12 (IntKind.i64.wrap (x37 + 1)) H14 < m12 x37 H13))) (fun ch H16 => R (.panicked ch) H16)))
  (CallsH Try.prog 28 ⟨[(.slice x34a x34n x34c)]⟩ H13 (onCall (fun rx48 H17 => ∃ (x48a : Option Addr) (x48n x48c : Nat), rx48 = (.slice x48a x48n x48c) ∧ ∃ (I18 : Int → Heap → Prop) (m18 : Int → Heap → Nat), I18 0 H17 ∧ ∀ (x50 : Int) (H18 : Heap), I18 x50 H18 → 
  ifB (decide (x50 < (x48n : Int)))
  ((0 : Int) ≤ x50 ∧ x50 < (x48n : Int) ∧ ∃ px53 : Addr, x48a = some px53 ∧ ∃ x54 : Option Nat, cellH H18 (px53.add (Int.toNat x50 * 1)) = some (.map x54) ∧ ∃ x57 : Bool, RunV Try.prog (Instr.lookup 48 (.map x54) (.int .i64 x50) false) H18 (.bool x57) ∧ ifB x57
  (MayPut H18 (newA H) 2 ∧ let H19 : Heap := putH H18 (newA H) ([(.int .i64 9), (.int .i64 x50)])
  ∃ o2_0 : Int, ∃ o2_1 : Int, At H19 (newA H) ([(.int .i64 o2_0), (.int .i64 o2_1)]) ∧ R (.returned (.agg ⟨[(.int .i64 o2_0), (.int .i64 o2_1)]⟩)) H19)
  ((I18 (IntKind.i64.wrap (x50 + 1)) H18 ∧ m18 (IntKind.i64.wrap (x50 + 1)) H18 < m18 x50 H18)))
  (MayPut H18 (newA H) 2 ∧ let H20 : Heap := putH H18 (newA H) ([(.int .i64 0), (.int .i64 0)])
  ∃ o2_0 : Int, ∃ o2_1 : Int, At H20 (newA H) ([(.int .i64 o2_0), (.int .i64 o2_1)]) ∧ R (.returned (.agg ⟨[(.int .i64 o2_0), (.int .i64 o2_1)]⟩)) H20)) (fun ch H21 => R (.panicked ch) H21)))) (fun ch H22 => R (.panicked ch) H22))))) (fun ch H23 => R (.panicked ch) H23))
def check_Wrong_ann : Ann := ⟨lookN (false, 0) [], lookN [] [], lookN [] [(5, [(19, .int .i64)]), (12, [(37, .int .i64)]), (18, [(50, .int .i64)])]⟩
theorem check_Wrong_den (l0a : Option Addr) (l0n : Nat) (l0c : Nat) (H : Heap) (R : Ending → Heap → Prop) : denF Try.prog Try.f14 check_Wrong_ann [(.slice l0a l0n l0c)] H R = check_Wrong l0a l0n l0c H R := by kernel_rfl
theorem check_Wrong_calls (l0a : Option Addr) (l0n : Nat) (l0c : Nat) {H : Heap} {R : Ending → Heap → Prop} (h : check_Wrong l0a l0n l0c H R) : CallsH Try.prog 14 ⟨[(.slice l0a l0n l0c)]⟩ H R :=
  callsH_of namesOk mixedOk Try.func14 (ann := check_Wrong_ann) (by rw [check_Wrong_den]; exact h)

/-! slotrules check.Uses -/
def check_Uses (l0a : Option Addr) (l0n : Nat) (l0c : Nat) (rule1 : Int) (H : Heap) (R : Ending → Heap → Prop) : Prop :=
  ∃ J20 : Bool → Heap → Prop, ifB ((decide (rule1 < 0)) || (decide (rule1 ≥ (l0n : Int)))) (J20 true H) (CallsH Try.prog 14 ⟨[(.slice l0a l0n l0c)]⟩ H (onCall (fun rx17 H2 => ∃ x17_0 : Int, ∃ x17_1 : Int, rx17 = (.agg ⟨[(.int .i64 x17_0), (.int .i64 x17_1)]⟩) ∧ J20 (x17_0 != 0) H2) (fun ch H3 => R (.panicked ch) H3))) ∧ ∀ (q20 : Bool) (H1 : Heap), J20 q20 H1 → ifB q20
  (R (.returned (.slice none 0 0)) H1)
  (CallsH Try.prog 26 ⟨[(.slice l0a l0n l0c)]⟩ H1 (onCall (fun rx22 H4 => ∃ (x22a : Option Addr) (x22n x22c : Nat), rx22 = (.slice x22a x22n x22c) ∧ CallsH Try.prog 28 ⟨[(.slice x22a x22n x22c)]⟩ H4 (onCall (fun rx23 H5 => ∃ (x23a : Option Addr) (x23n x23c : Nat), rx23 = (.slice x23a x23n x23c) ∧ (0 : Int) ≤ rule1 ∧ rule1 < (x23n : Int) ∧ ∃ px25 : Addr, x23a = some px25 ∧ ∃ x26 : Option Nat, cellH H5 (px25.add (Int.toNat rule1 * 1)) = some (.map x26) ∧ RunD Try.prog (Instr.range 48 (.map x26)) H5 (fun rx27 H6 => ∃ (I5 : Option Addr → Nat → Nat → Heap → Prop) (m5 : Option Addr → Nat → Nat → Heap → Nat), I5 none 0 0 H6 ∧ ∀ (out5a : Option Addr) (out5n : Nat) (out5c : Nat) (H7 : Heap), I5 out5a out5n out5c H7 → 
  RunD Try.prog (Instr.next rx27 false 0) H7 (fun rx28 H8 => ∃ (x28b : Bool) (lx28 : List Value), rx28 = .tuple ⟨(.bool x28b) :: lx28⟩ ∧ ifB x28b
  (RunD Try.prog (Instr.entry rx27) H8 (fun rx30 H9 => ∃ (x30k : Int) (lx30 : List Value), rx30 = .tuple ⟨(.int .i64 x30k) :: lx30⟩ ∧ let H10 : Heap := H9.push (.cells ⟨[(.int .i64 x30k)]⟩ 3)
  RunD Try.prog (Builtin.append_ #[28, 28] 28 ⟨[(.slice out5a out5n out5c), (.slice (some (newA H9)) 1 1)]⟩) H10 (fun rx35 H11 => ∃ (x35a : Option Addr) (x35n x35c : Nat), rx35 = (.slice x35a x35n x35c) ∧ (I5 x35a x35n x35c H11 ∧ m5 x35a x35n x35c H11 < m5 out5a out5n out5c H7))))
  (CallsH Try.prog 29 ⟨[(.slice out5a out5n out5c)]⟩ H8 (onCall (fun rx37 H12 => R (.returned (.slice out5a out5n out5c)) H12) (fun ch H13 => R (.panicked ch) H13)))))) (fun ch H14 => R (.panicked ch) H14))) (fun ch H15 => R (.panicked ch) H15)))
def check_Uses_ann : Ann := ⟨lookN (false, 0) [], lookN [] [], lookN [] [(5, [(5, .slc)])]⟩
theorem check_Uses_den (l0a : Option Addr) (l0n : Nat) (l0c : Nat) (rule1 : Int) (H : Heap) (R : Ending → Heap → Prop) : denF Try.prog Try.f15 check_Uses_ann [(.slice l0a l0n l0c), (.int .i64 rule1)] H R = check_Uses l0a l0n l0c rule1 H R := by kernel_rfl
theorem check_Uses_calls (l0a : Option Addr) (l0n : Nat) (l0c : Nat) (rule1 : Int) {H : Heap} {R : Ending → Heap → Prop} (h : check_Uses l0a l0n l0c rule1 H R) : CallsH Try.prog 15 ⟨[(.slice l0a l0n l0c), (.int .i64 rule1)]⟩ H R :=
  callsH_of namesOk mixedOk Try.func15 (ann := check_Uses_ann) (by rw [check_Uses_den]; exact h)

/-! slotrules check.Order -/
def check_Order_k1 (I5 : Int → Heap → Prop) (m5 : Int → Heap → Nat) (x15 : Int) (H4 : Heap) (H12 : Heap) (R : Ending → Heap → Prop) : Prop :=
  (I5 (IntKind.i64.wrap (x15 + 1)) H12 ∧ m5 (IntKind.i64.wrap (x15 + 1)) H12 < m5 x15 H4)
def check_Order (l0a : Option Addr) (l0n : Nat) (l0c : Nat) (H : Heap) (R : Ending → Heap → Prop) : Prop :=
  CallsH Try.prog 26 ⟨[(.slice l0a l0n l0c)]⟩ H (onCall (fun rx7 H1 => ∃ (x7a : Option Addr) (x7n x7c : Nat), rx7 = (.slice x7a x7n x7c) ∧ let H2 : Heap := H1.push (.cells ⟨[(.slice none 0 0)]⟩ 28)
  ∃ (I3 : Heap → Prop) (m3 : Heap → Nat), I3  H2 ∧ ∀ (H3 : Heap), I3  H3 → 
  ∃ (x8a : Option Addr) (x8n x8c : Nat), cellH H3 (newA H1) = some (.slice x8a x8n x8c) ∧ ifB (decide ((x8n : Int) < (l0n : Int)))
  (∃ (I5 : Int → Heap → Prop) (m5 : Int → Heap → Nat), I5 0 H3 ∧ ∀ (x15 : Int) (H4 : Heap), I5 x15 H4 → 
  ifB (decide (x15 < (l0n : Int)))
  (∃ (x18a : Option Addr) (x18n x18c : Nat), cellH H4 (newA H1) = some (.slice x18a x18n x18c) ∧ CallsH Try.prog 27 ⟨[(.slice x18a x18n x18c), (.int .i64 x15)]⟩ H4 (onCall (fun rx20 H5 => ∃ x20 : Bool, rx20 = (.bool x20) ∧ ∃ J30 : Bool → Heap → Prop, ifB (!x20) ((0 : Int) ≤ x15 ∧ x15 < (x7n : Int) ∧ ∃ px25 : Addr, x7a = some px25 ∧ ∃ (x26a : Option Addr) (x26n x26c : Nat), cellH H5 (px25.add (Int.toNat x15 * 1)) = some (.slice x26a x26n x26c) ∧ CallsH Try.prog 37 ⟨[(.slice x26a x26n x26c), (.func (.func 38) ⟨[]⟩ ⟨[(.pointer (some (newA H1)))]⟩)]⟩ H5 (onCall (fun rx28 H7 => ∃ x28 : Bool, rx28 = (.bool x28) ∧ J30 (!x28) H7) (fun ch H8 => R (.panicked ch) H8))) (J30 false H5) ∧ ∀ (q30 : Bool) (H6 : Heap), J30 q30 H6 → ifB q30
  (∃ (x31a : Option Addr) (x31n x31c : Nat), cellH H6 (newA H1) = some (.slice x31a x31n x31c) ∧ let H9 : Heap := H6.push (.cells ⟨[(.int .i64 x15)]⟩ 3)
  RunD Try.prog (Builtin.append_ #[28, 28] 28 ⟨[(.slice x31a x31n x31c), (.slice (some (newA H6)) 1 1)]⟩) H9 (fun rx34 H10 => ∃ (x34a : Option Addr) (x34n x34c : Nat), rx34 = (.slice x34a x34n x34c) ∧ MayPut H10 (newA H1) 1 ∧ let H11 : Heap := putH H10 (newA H1) ([(.slice x34a x34n x34c)])
  check_Order_k1 I5 m5 x15 H4 H11 R))
  (check_Order_k1 I5 m5 x15 H4 H6 R)) (fun ch H13 => R (.panicked ch) H13)))
  ((I3  H4 ∧ m3  H4 < m3  H3)))
  (∃ (x36a : Option Addr) (x36n x36c : Nat), cellH H3 (newA H1) = some (.slice x36a x36n x36c) ∧ R (.returned (.slice x36a x36n x36c)) H3)) (fun ch H14 => R (.panicked ch) H14))
def check_Order_ann : Ann := ⟨lookN (false, 0) [], lookN [] [], lookN [] [(3, []), (5, [(15, .int .i64)])]⟩
theorem check_Order_den (l0a : Option Addr) (l0n : Nat) (l0c : Nat) (H : Heap) (R : Ending → Heap → Prop) : denF Try.prog Try.f22 check_Order_ann [(.slice l0a l0n l0c)] H R = check_Order l0a l0n l0c H R := by kernel_rfl
theorem check_Order_calls (l0a : Option Addr) (l0n : Nat) (l0c : Nat) {H : Heap} {R : Ending → Heap → Prop} (h : check_Order l0a l0n l0c H R) : CallsH Try.prog 22 ⟨[(.slice l0a l0n l0c)]⟩ H R :=
  callsH_of namesOk mixedOk Try.func22 (ann := check_Order_ann) (by rw [check_Order_den]; exact h)

/-! slotrules check.Find -/
def check_Find (l0a : Option Addr) (l0n : Nat) (l0c : Nat) (name1 : ByteArray) (H : Heap) (R : Ending → Heap → Prop) : Prop :=
  let H1 : Heap := H.push (.cells ⟨[(.string name1)]⟩ 9)
  CallsH Try.prog 43 ⟨[(.slice l0a l0n l0c), (.func (.func 44) ⟨[]⟩ ⟨[(.pointer (some (newA H)))]⟩)]⟩ H1 (onCall (fun rx7 H2 => ∃ x7 : Int, rx7 = (.int .i64 x7) ∧ R (.returned (.int .i64 x7)) H2) (fun ch H3 => R (.panicked ch) H3))
def check_Find_ann : Ann := ⟨lookN (false, 0) [], lookN [] [], lookN [] []⟩
theorem check_Find_den (l0a : Option Addr) (l0n : Nat) (l0c : Nat) (name1 : ByteArray) (H : Heap) (R : Ending → Heap → Prop) : denF Try.prog Try.f25 check_Find_ann [(.slice l0a l0n l0c), (.string name1)] H R = check_Find l0a l0n l0c name1 H R := by kernel_rfl
theorem check_Find_calls (l0a : Option Addr) (l0n : Nat) (l0c : Nat) (name1 : ByteArray) {H : Heap} {R : Ending → Heap → Prop} (h : check_Find l0a l0n l0c name1 H R) : CallsH Try.prog 25 ⟨[(.slice l0a l0n l0c), (.string name1)]⟩ H R :=
  callsH_of namesOk mixedOk Try.func25 (ann := check_Find_ann) (by rw [check_Find_den]; exact h)

/-! slotrules check.direct -/
def check_direct (l0a : Option Addr) (l0n : Nat) (l0c : Nat) (H : Heap) (R : Ending → Heap → Prop) : Prop :=
  ∃ (I3 : Option Addr → Nat → Nat → Int → Heap → Prop) (m3 : Option Addr → Nat → Nat → Int → Heap → Nat), I3 none 0 0 0 H ∧ ∀ (out3a : Option Addr) (out3n : Nat) (out3c : Nat) (x10 : Int) (H1 : Heap), I3 out3a out3n out3c x10 H1 → 
  ifB (decide (x10 < (l0n : Int)))
  ((0 : Int) ≤ x10 ∧ x10 < (l0n : Int) ∧ ∃ px15 : Addr, l0a = some px15 ∧ CallsH Try.prog 45 ⟨[(.pointer (some ((px15.add (Int.toNat x10 * 6)).add 1))), (.slice none 0 0)]⟩ H1 (onCall (fun rx17 H2 => ∃ (x17a : Option Addr) (x17n x17c : Nat), rx17 = (.slice x17a x17n x17c) ∧ ∃ (I7 : Option Addr → Nat → Nat → Int → Heap → Prop) (m7 : Option Addr → Nat → Nat → Int → Heap → Nat), I7 none 0 0 0 H2 ∧ ∀ (k5a : Option Addr) (k5n : Nat) (k5c : Nat) (x19 : Int) (H3 : Heap), I7 k5a k5n k5c x19 H3 → 
  ifB (decide (x19 < (x17n : Int)))
  ((0 : Int) ≤ x19 ∧ x19 < (x17n : Int) ∧ ∃ px21 : Addr, x17a = some px21 ∧ ∃ x22 : ByteArray, cellH H3 (px21.add (Int.toNat x19 * 1)) = some (.string x22) ∧ CallsH Try.prog 25 ⟨[(.slice l0a l0n l0c), (.string x22)]⟩ H3 (onCall (fun rx26 H4 => ∃ x26 : Int, rx26 = (.int .i64 x26) ∧ let H5 : Heap := H4.push (.cells ⟨[(.int .i64 x26)]⟩ 3)
  RunD Try.prog (Builtin.append_ #[28, 28] 28 ⟨[(.slice k5a k5n k5c), (.slice (some (newA H4)) 1 1)]⟩) H5 (fun rx28 H6 => ∃ (x28a : Option Addr) (x28n x28c : Nat), rx28 = (.slice x28a x28n x28c) ∧ (I7 x28a x28n x28c (IntKind.i64.wrap (x19 + 1)) H6 ∧ m7 x28a x28n x28c (IntKind.i64.wrap (x19 + 1)) H6 < m7 k5a k5n k5c x19 H3))) (fun ch H7 => R (.panicked ch) H7)))
  (let H8 : Heap := H3.push (.cells ⟨[(.slice k5a k5n k5c)]⟩ 28)
  RunD Try.prog (Builtin.append_ #[66, 66] 66 ⟨[(.slice out3a out3n out3c), (.slice (some (newA H3)) 1 1)]⟩) H8 (fun rx33 H9 => ∃ (x33a : Option Addr) (x33n x33c : Nat), rx33 = (.slice x33a x33n x33c) ∧ (I3 x33a x33n x33c (IntKind.i64.wrap (x10 + 1)) H9 ∧ m3 x33a x33n x33c (IntKind.i64.wrap (x10 + 1)) H9 < m3 out3a out3n out3c x10 H1)))) (fun ch H10 => R (.panicked ch) H10)))
  (R (.returned (.slice out3a out3n out3c)) H1)
def check_direct_ann : Ann := ⟨lookN (false, 0) [], lookN [] [], lookN [] [(3, [(3, .slc), (10, .int .i64)]), (7, [(5, .slc), (19, .int .i64)])]⟩
theorem check_direct_den (l0a : Option Addr) (l0n : Nat) (l0c : Nat) (H : Heap) (R : Ending → Heap → Prop) : denF Try.prog Try.f26 check_direct_ann [(.slice l0a l0n l0c)] H R = check_direct l0a l0n l0c H R := by kernel_rfl
theorem check_direct_calls (l0a : Option Addr) (l0n : Nat) (l0c : Nat) {H : Heap} {R : Ending → Heap → Prop} (h : check_direct l0a l0n l0c H R) : CallsH Try.prog 26 ⟨[(.slice l0a l0n l0c)]⟩ H R :=
  callsH_of namesOk mixedOk Try.func26 (ann := check_direct_ann) (by rw [check_direct_den]; exact h)

/-! slotrules check.closed -/
def check_closed (d0a : Option Addr) (d0n : Nat) (d0c : Nat) (H : Heap) (R : Ending → Heap → Prop) : Prop :=
  RunD Try.prog (Instr.makeSlice 69 (.int .i64 (d0n : Int)) (.int .i64 (d0n : Int))) H (fun rx9 H1 => ∃ (x9a : Option Addr) (x9n x9c : Nat), rx9 = (.slice x9a x9n x9c) ∧ ∃ (I3 : Int → Heap → Prop) (m3 : Int → Heap → Nat), I3 0 H1 ∧ ∀ (x12 : Int) (H2 : Heap), I3 x12 H2 → 
  ifB (decide (x12 < (d0n : Int)))
  (let H3 : Heap := H2.push (.map #[] 0)
  (0 : Int) ≤ x12 ∧ x12 < (x9n : Int) ∧ ∃ px18 : Addr, x9a = some px18 ∧ MayPut H3 (px18.add (Int.toNat x12 * 1)) 1 ∧ let H4 : Heap := putH H3 (px18.add (Int.toNat x12 * 1)) ([(.map (some H2.size))])
  (0 : Int) ≤ x12 ∧ x12 < (d0n : Int) ∧ ∃ px21 : Addr, d0a = some px21 ∧ ∃ (x22a : Option Addr) (x22n x22c : Nat), cellH H4 (px21.add (Int.toNat x12 * 1)) = some (.slice x22a x22n x22c) ∧ CallsH Try.prog 47 ⟨[(.slice x22a x22n x22c)]⟩ H4 (onCall (fun rx23 H5 => ∃ (x23a : Option Addr) (x23n x23c : Nat), rx23 = (.slice x23a x23n x23c) ∧ ∃ (I7 : Option Addr → Nat → Nat → Heap → Prop) (m7 : Option Addr → Nat → Nat → Heap → Nat), I7 x23a x23n x23c H5 ∧ ∀ (todo5a : Option Addr) (todo5n : Nat) (todo5c : Nat) (H6 : Heap), I7 todo5a todo5n todo5c H6 → 
  ifB (decide ((todo5n : Int) > 0))
  ((0 : Int) ≤ 0 ∧ 0 < (todo5n : Int) ∧ ∃ px28 : Addr, todo5a = some px28 ∧ ∃ x29 : Int, cellH H6 (px28.add (Int.toNat 0 * 1)) = some (.int .i64 x29) ∧ (0 : Int) ≤ 1 ∧ (1 : Int) ≤ (todo5n : Int) ∧ ((todo5n : Int) : Int) ≤ (todo5c : Int) ∧ (0 : Int) ≤ x12 ∧ x12 < (x9n : Int) ∧ ∃ px34 : Addr, x9a = some px34 ∧ ∃ x35 : Option Nat, cellH H6 (px34.add (Int.toNat x12 * 1)) = some (.map x35) ∧ ∃ x37 : Bool, RunV Try.prog (Instr.lookup 48 (.map x35) (.int .i64 x29) false) H6 (.bool x37) ∧ ifB (!x37)
  ((0 : Int) ≤ x12 ∧ x12 < (x9n : Int) ∧ ∃ px41 : Addr, x9a = some px41 ∧ ∃ x42 : Option Nat, cellH H6 (px41.add (Int.toNat x12 * 1)) = some (.map x42) ∧ RunU Try.prog (Instr.mapUpdate 48 (.map x42) (.int .i64 x29) (.bool true)) H6 (fun H7 => (0 : Int) ≤ x29 ∧ x29 < (d0n : Int) ∧ ∃ px47 : Addr, d0a = some px47 ∧ ∃ (x48a : Option Addr) (x48n x48c : Nat), cellH H7 (px47.add (Int.toNat x29 * 1)) = some (.slice x48a x48n x48c) ∧ RunD Try.prog (Builtin.append_ #[28, 28] 28 ⟨[(.slice (if todo5c = Int.toNat 1 then todo5a else Option.map (fun x => x.add (Int.toNat 1 * 1)) todo5a) (Int.toNat (todo5n : Int) - Int.toNat 1) (todo5c - Int.toNat 1)), (.slice x48a x48n x48c)]⟩) H7 (fun rx49 H8 => ∃ (x49a : Option Addr) (x49n x49c : Nat), rx49 = (.slice x49a x49n x49c) ∧ (I7 x49a x49n x49c H8 ∧ m7 x49a x49n x49c H8 < m7 todo5a todo5n todo5c H6))))
  ((I7 (if todo5c = Int.toNat 1 then todo5a else Option.map (fun x => x.add (Int.toNat 1 * 1)) todo5a) (Int.toNat (todo5n : Int) - Int.toNat 1) (todo5c - Int.toNat 1) H6 ∧ m7 (if todo5c = Int.toNat 1 then todo5a else Option.map (fun x => x.add (Int.toNat 1 * 1)) todo5a) (Int.toNat (todo5n : Int) - Int.toNat 1) (todo5c - Int.toNat 1) H6 < m7 todo5a todo5n todo5c H6)))
  ((I3 (IntKind.i64.wrap (x12 + 1)) H6 ∧ m3 (IntKind.i64.wrap (x12 + 1)) H6 < m3 x12 H2))) (fun ch H9 => R (.panicked ch) H9)))
  (R (.returned (.slice x9a x9n x9c)) H2))
def check_closed_ann : Ann := ⟨lookN (false, 0) [], lookN [] [], lookN [] [(3, [(12, .int .i64)]), (7, [(5, .slc)])]⟩
theorem check_closed_den (d0a : Option Addr) (d0n : Nat) (d0c : Nat) (H : Heap) (R : Ending → Heap → Prop) : denF Try.prog Try.f28 check_closed_ann [(.slice d0a d0n d0c)] H R = check_closed d0a d0n d0c H R := by kernel_rfl
theorem check_closed_calls (d0a : Option Addr) (d0n : Nat) (d0c : Nat) {H : Heap} {R : Ending → Heap → Prop} (h : check_closed d0a d0n d0c H R) : CallsH Try.prog 28 ⟨[(.slice d0a d0n d0c)]⟩ H R :=
  callsH_of namesOk mixedOk Try.func28 (ann := check_closed_ann) (by rw [check_closed_den]; exact h)

/-! slotrules check.Order$1 -/
def check_Order_c1 (k0 : Int) (c0 : Addr) (H : Heap) (R : Ending → Heap → Prop) : Prop :=
  ∃ (x4a : Option Addr) (x4n x4c : Nat), cellH H c0 = some (.slice x4a x4n x4c) ∧ CallsH Try.prog 27 ⟨[(.slice x4a x4n x4c), (.int .i64 k0)]⟩ H (onCall (fun rx6 H1 => ∃ x6 : Bool, rx6 = (.bool x6) ∧ R (.returned (.bool (!x6))) H1) (fun ch H2 => R (.panicked ch) H2))
def check_Order_c1_ann : Ann := ⟨lookN (false, 0) [], lookN [] [], lookN [] []⟩
theorem check_Order_c1_den (k0 : Int) (c0 : Addr) (H : Heap) (R : Ending → Heap → Prop) : denF Try.prog Try.f38 check_Order_c1_ann [(.int .i64 k0), (.pointer (some c0))] H R = check_Order_c1 k0 c0 H R := by kernel_rfl
theorem check_Order_c1_calls (k0 : Int) (c0 : Addr) {H : Heap} {R : Ending → Heap → Prop} (h : check_Order_c1 k0 c0 H R) : CallsH Try.prog 38 ⟨[(.int .i64 k0), (.pointer (some c0))]⟩ H R :=
  callsH_of namesOk mixedOk Try.func38 (ann := check_Order_c1_ann) (by rw [check_Order_c1_den]; exact h)

/-! slotrules check.Find$1 -/
def check_Find_c1 (r0_0 : ByteArray) (r0_1 : Int) (r0_2 : Int) (r0_3 : Int) (r0_4 : ByteArray) (r0_5a : Option Addr) (r0_5n : Nat) (r0_5c : Nat) (c0 : Addr) (H : Heap) (R : Ending → Heap → Prop) : Prop :=
  let H1 : Heap := H.push (.cells ⟨[(.string r0_0), (.int .i64 r0_1), (.int .i64 r0_2), (.int .i64 r0_3), (.string r0_4), (.slice r0_5a r0_5n r0_5c)]⟩ 43)
  ∃ x5 : ByteArray, cellH H1 ((newA H).add 0) = some (.string x5) ∧ ∃ x6 : ByteArray, cellH H1 c0 = some (.string x6) ∧ R (.returned (.bool (x5.toList == x6.toList))) H1
def check_Find_c1_ann : Ann := ⟨lookN (false, 0) [], lookN [] [], lookN [] []⟩
theorem check_Find_c1_den (r0_0 : ByteArray) (r0_1 : Int) (r0_2 : Int) (r0_3 : Int) (r0_4 : ByteArray) (r0_5a : Option Addr) (r0_5n : Nat) (r0_5c : Nat) (c0 : Addr) (H : Heap) (R : Ending → Heap → Prop) : denF Try.prog Try.f44 check_Find_c1_ann [(.agg ⟨[(.string r0_0), (.int .i64 r0_1), (.int .i64 r0_2), (.int .i64 r0_3), (.string r0_4), (.slice r0_5a r0_5n r0_5c)]⟩), (.pointer (some c0))] H R = check_Find_c1 r0_0 r0_1 r0_2 r0_3 r0_4 r0_5a r0_5n r0_5c c0 H R := by kernel_rfl
theorem check_Find_c1_calls (r0_0 : ByteArray) (r0_1 : Int) (r0_2 : Int) (r0_3 : Int) (r0_4 : ByteArray) (r0_5a : Option Addr) (r0_5n : Nat) (r0_5c : Nat) (c0 : Addr) {H : Heap} {R : Ending → Heap → Prop} (h : check_Find_c1 r0_0 r0_1 r0_2 r0_3 r0_4 r0_5a r0_5n r0_5c c0 H R) : CallsH Try.prog 44 ⟨[(.agg ⟨[(.string r0_0), (.int .i64 r0_1), (.int .i64 r0_2), (.int .i64 r0_3), (.string r0_4), (.slice r0_5a r0_5n r0_5c)]⟩), (.pointer (some c0))]⟩ H R :=
  callsH_of namesOk mixedOk Try.func44 (ann := check_Find_c1_ann) (by rw [check_Find_c1_den]; exact h)

/-! slotrules check.names -/
def check_names (e0 : Addr) (out1a : Option Addr) (out1n : Nat) (out1c : Nat) (H : Heap) (R : Ending → Heap → Prop) : Prop :=
  ∃ x9 : Int, cellH H (e0.add 0) = some (.int .i64 x9) ∧ ifB (x9 == 10)
  (∃ x15 : ByteArray, cellH H (e0.add 3) = some (.string x15) ∧ let H1 : Heap := H.push (.cells ⟨[(.string x15)]⟩ 9)
  RunD Try.prog (Builtin.append_ #[90, 90] 90 ⟨[(.slice out1a out1n out1c), (.slice (some (newA H)) 1 1)]⟩) H1 (fun rx17 H2 => ∃ (x17a : Option Addr) (x17n x17c : Nat), rx17 = (.slice x17a x17n x17c) ∧ R (.returned (.slice x17a x17n x17c)) H2))
  (∃ (x21a : Option Addr) (x21n x21c : Nat), cellH H (e0.add 4) = some (.slice x21a x21n x21c) ∧ ∃ (I4 : Option Addr → Nat → Nat → Int → Heap → Prop) (m4 : Option Addr → Nat → Nat → Int → Heap → Nat), I4 out1a out1n out1c 0 H ∧ ∀ (out1_4a : Option Addr) (out1_4n : Nat) (out1_4c : Nat) (x23 : Int) (H3 : Heap), I4 out1_4a out1_4n out1_4c x23 H3 → 
  ifB (decide (x23 < (x21n : Int)))
  (∃ (x29a : Option Addr) (x29n x29c : Nat), cellH H3 (e0.add 4) = some (.slice x29a x29n x29c) ∧ (0 : Int) ≤ x23 ∧ x23 < (x29n : Int) ∧ ∃ px31 : Addr, x29a = some px31 ∧ CallsH Try.prog 45 ⟨[(.pointer (some (px31.add (Int.toNat x23 * 5)))), (.slice out1_4a out1_4n out1_4c)]⟩ H3 (onCall (fun rx33 H4 => ∃ (x33a : Option Addr) (x33n x33c : Nat), rx33 = (.slice x33a x33n x33c) ∧ (I4 x33a x33n x33c (IntKind.i64.wrap (x23 + 1)) H4 ∧ m4 x33a x33n x33c (IntKind.i64.wrap (x23 + 1)) H4 < m4 out1_4a out1_4n out1_4c x23 H3)) (fun ch H5 => R (.panicked ch) H5)))
  (R (.returned (.slice out1_4a out1_4n out1_4c)) H3))
def check_names_ann : Ann := ⟨lookN (false, 0) [], lookN [] [], lookN [] [(4, [(1, .slc), (23, .int .i64)])]⟩
theorem check_names_den (e0 : Addr) (out1a : Option Addr) (out1n : Nat) (out1c : Nat) (H : Heap) (R : Ending → Heap → Prop) : denF Try.prog Try.f45 check_names_ann [(.pointer (some e0)), (.slice out1a out1n out1c)] H R = check_names e0 out1a out1n out1c H R := by kernel_rfl
theorem check_names_calls (e0 : Addr) (out1a : Option Addr) (out1n : Nat) (out1c : Nat) {H : Heap} {R : Ending → Heap → Prop} (h : check_names e0 out1a out1n out1c H R) : CallsH Try.prog 45 ⟨[(.pointer (some e0)), (.slice out1a out1n out1c)]⟩ H R :=
  callsH_of namesOk mixedOk Try.func45 (ann := check_names_ann) (by rw [check_names_den]; exact h)

end Go.Vc
set_option linter.unusedVariables false
set_option linter.unusedSimpArgs false
set_option maxRecDepth 100000
namespace Go.Vc
open Go.Proofs

/-! parse.Wrong; check.Find, names, direct -/
def errR (r : Ru) : Int := if namedF r.name = true then (shEx r.e 1 0).1 else 7
def wrongL : List Ru → Nat → Int × Int
  | [], _ => (0, 0)
  | r :: rs, i => if errR r ≠ 0 then (errR r, i) else wrongL rs (i + 1)
def wrongP (l : List Ru) : Int × Int := if l.length > 40 then (5, 0) else wrongL l 0
abbrev faultV (p : Int × Int) : Value := .agg ⟨[.int .i64 p.1, .int .i64 p.2]⟩
theorem At.tail {H : Heap} {a : Addr} {v : Value} {c : List Value} (h : At H a (v :: c)) : At H (a.add 1) c := At.mk fun j u hj => by
  rw [Addr.add_add, Nat.add_comm]
  exact h.get (j := j + 1) (by simpa using hj)
theorem pWrong_is {l : List Ru} {ad : Option Addr} {c : Nat} {H : Heap} (hl : RulesAt H ad l) : CallsE Try.prog 17 ⟨[.slice ad l.length c]⟩ H (faultV (wrongP l)) := by
  intro H0 hx0
  replace hl := hl.grow hx0
  apply parse_Wrong_calls
  unfold parse_Wrong
  have hS := St.start none0 H0
  intro H1
  replace hS : St _ _ H1 _ := St.push hS _
  clear_value H1
  refine ifB_mk (fun h => ?_) (fun h => ?_)
  · have h : l.length > 40 := by simp at h; omega
    refine ⟨St.may (k := 0) hS rfl rfl (by simp [newA, bA, add_off]), ?_⟩
    intro H2
    replace hS : St _ _ H2 _ := St.put (k := 0) hS rfl rfl _
    clear_value H2
    simp only [setN, splice, newA, bA, add_off, add_block, Nat.add_zero, Nat.zero_add, Nat.reduceAdd] at hS
    refine ⟨_, _, St.atp (k := 0) hS rfl rfl rfl, ?_⟩
    exact ⟨by rw [wrongP, if_pos h], hS.ext0⟩
  have h : ¬ l.length > 40 := by simp at h; omega
  have hw : wrongP l = wrongL l 0 := by rw [wrongP, if_neg h]
  rw [hw]
  refine ⟨fun x H' => St none0 H0 H' [(H0.size, C [.int .i64 0, .int .i64 0] 39)] ∧ ∃ k : Nat, x = k ∧ k ≤ l.length ∧ wrongL l 0 = wrongL (l.drop k) k, fun x _ => ((l.length : Int) - x).toNat, ⟨hS, 0, rfl, Nat.zero_le _, rfl⟩, ?_⟩
  rintro x H3 ⟨hS, k, rfl, hk, hr⟩
  refine ifB_mk (fun hc => ?_) (fun hc => ?_)
  · have hc : k < l.length := by simp at hc; omega
    have hkk : l[k]? = some l[k] := by simp [hc]
    generalize hrk : l[k] = r at hkk
    have hd : l.drop k = r :: l.drop (k + 1) := by rw [List.drop_eq_getElem_cons hc, hrk]
    rw [hd, wrongL] at hr
    obtain ⟨p, cs, rfl, hat, hex⟩ := hl k r hkk
    have hat3 := hat.ext0 hS.ext0
    refine ⟨by omega, by omega, p, rfl, r.name, by rw [Int.toNat_natCast]; exact hat3.get (j := 0) rfl, (Named_is r.name H3).call fun H4 hx4 => ⟨_, rfl, ?_⟩⟩
    replace hS := hS.grow hx4
    have key : ∀ (er : Int) (H7 : Heap), er = errR r → St none0 H0 H7 [(H0.size, C [.int .i64 0, .int .i64 0] 39)] → parse_Wrong_k1 H0 (fun x H' => St none0 H0 H' [(H0.size, C [.int .i64 0, .int .i64 0] 39)] ∧ ∃ k : Nat, x = k ∧ k ≤ l.length ∧ wrongL l 0 = wrongL (l.drop k) k) (fun x _ => ((l.length : Int) - x).toNat) k H3 er H7 (fun e H' => e = .returned (faultV (wrongL l 0)) ∧ Ext0 H0 H') := by
      intro er H7 he hS
      unfold parse_Wrong_k1
      refine ifB_mk (fun h1 => ?_) (fun h1 => ?_)
      · have h1 : errR r ≠ 0 := by rw [← he]; simpa using h1
        rw [if_pos h1] at hr
        refine ⟨St.may (k := 0) hS rfl rfl (by simp [newA, bA, add_off]), ?_⟩
        intro H8
        replace hS : St _ _ H8 _ := St.put (k := 0) hS rfl rfl _
        clear_value H8
        simp only [setN, splice, newA, bA, add_off, add_block, Nat.add_zero, Nat.zero_add, Nat.reduceAdd] at hS
        refine ⟨_, _, St.atp (k := 0) hS rfl rfl rfl, ?_⟩
        exact ⟨by rw [hr, he], hS.ext0⟩
      · have h1 : errR r = 0 := by rw [← he]; simpa using h1
        rw [if_neg (by simp [h1])] at hr
        refine ⟨⟨hS, k + 1, by rw [i64_id (by omega) (by omega)]; omega, hc, hr⟩, ?_⟩
        show Int.toNat _ < Int.toNat _
        rw [i64_id (by omega) (by omega)]
        omega
    refine ifB_mk (fun h1 => ?_) (fun h1 => ?_)
    · intro H5
      have hx5 : Ext0 H4 H5 := ext0_push _ _
      have hb5 : H5[H4.size]? = some (shO 0) := by simp [H5]
      clear_value H5
      refine ⟨by omega, by omega, p, rfl, ?_⟩
      rw [Int.toNat_natCast]
      refine (sh_ex r.e H0 H5 H4.size _ cs 1 0 (hS.ext0.trans hx5) hS.ext.size hb5 hat.tail hex (by omega) (by omega) (by omega) (by omega)).call (fun v H6 hr5 => ?_) (fun ch H6 hr5 => by obtain ⟨hr5, _⟩ := hr5; cases hr5) (fun H6 hr5 => by obtain ⟨hr5, _⟩ := hr5; cases hr5)
      obtain ⟨hv, hT, _⟩ := hr5
      simp only [Ending.returned.injEq] at hv
      subst hv
      have hx6 : Ext0 H4 H6 := hx5.over hT.ext (Nat.le_refl _)
      exact ⟨_, rfl, key _ _ (by rw [errR, if_pos h1]) (hS.grow hx6)⟩
    · exact key _ _ (by rw [errR, if_neg (by rw [h1]; simp)]) hS
  · have hk : k = l.length := by simp at hc; omega
    subst hk
    rw [List.drop_length, wrongL] at hr
    refine ⟨St.may (k := 0) hS rfl rfl (by simp [newA, bA, add_off]), ?_⟩
    intro H11
    replace hS : St _ _ H11 _ := St.put (k := 0) hS rfl rfl _
    clear_value H11
    refine ⟨_, _, St.atp (k := 0) hS rfl rfl rfl, ?_⟩
    exact ⟨by rw [hr], hS.ext0⟩
def findF (n : ByteArray) : List Ru → Nat → Int
  | [], _ => -1
  | r :: rs, i => if r.name = n then i else findF n rs (i + 1)
theorem ruC_of {H : Heap} {e : Ex} {c : List Value} (h : ExAt H e c) : ∃ k a b n ad len cap, c = exC k a b n ad len cap := by
  obtain ⟨k, a, b, n, kids⟩ := e
  simp only [ExAt] at h
  obtain ⟨ad, cap, rfl, _⟩ := h
  exact ⟨k, a, b, n, ad, kids.length, cap, rfl⟩
theorem Find_is {l : List Ru} {ad : Option Addr} {c : Nat} {H : Heap} (hlen : l.length ≤ 4611686018427387904) (hl : RulesAt H ad l) (n : ByteArray) : CallsE Try.prog 25 ⟨[.slice ad l.length c, .string n]⟩ H (.int .i64 (findF n l 0)) := by
  intro H0 hx0
  replace hl := hl.grow hx0
  apply check_Find_calls
  unfold check_Find
  have hS := St.start none0 H0
  intro H1
  replace hS : St _ _ H1 _ := St.push hS _
  clear_value H1
  have hn : cellH H1 (newA H0) = some (.string n) := St.cell (k := 0) hS rfl rfl rfl
  have hx1 := hS.ext0
  have main : CallsH Try.prog 43 ⟨[.slice ad l.length c, .func (.func 44) ⟨[]⟩ ⟨[.pointer (some (newA H0))]⟩]⟩ H1 fun e H' => e = .returned (.int .i64 (findF n l 0)) ∧ Ext0 H1 H' := by
    apply slices_IndexFunc_Rule_Rule_calls
    unfold slices_IndexFunc_Rule_Rule
    refine ⟨fun x H' => Ext0 H1 H' ∧ ∃ k : Nat, x = k ∧ k ≤ l.length ∧ findF n l 0 = findF n (l.drop k) k, fun x _ => ((l.length : Int) - x).toNat, ⟨Ext0.refl _, 0, rfl, Nat.zero_le _, rfl⟩, ?_⟩
    rintro x H2 ⟨hx2, k, rfl, hk, hr⟩
    refine ifB_mk (fun hc => ?_) (fun hc => ?_)
    · have hc : k < l.length := by simp at hc; omega
      have hkk : l[k]? = some l[k] := by simp [hc]
      generalize hrk : l[k] = r at hkk
      have hd : l.drop k = r :: l.drop (k + 1) := by rw [List.drop_eq_getElem_cons hc, hrk]
      rw [hd, findF] at hr
      obtain ⟨p, cs, rfl, hat, hex⟩ := hl k r hkk
      obtain ⟨ek, ea, eb, en, ead, elen, ecap, rfl⟩ := ruC_of hex
      refine ⟨by omega, by omega, p, rfl, _, _, _, _, _, _, _, _, by rw [Int.toNat_natCast]; exact hat.ext0 (hx1.trans hx2), ?_⟩
      refine callV_mk Try.func44 (by kernel_rfl) ((check_Find_c1_calls _ _ _ _ _ _ _ _ _ (R := fun e H' => e = .returned (.bool (r.name.toList == n.toList)) ∧ Ext0 H2 H') ?_).mono fun e H' h => ?_)
      · unfold check_Find_c1
        have hS := St.start none0 H2
        intro H3
        replace hS : St _ _ H3 _ := St.push hS _
        clear_value H3
        refine ⟨_, St.cell (k := 0) hS rfl rfl rfl, ?_⟩
        exact ⟨_, hS.ext0.cell (hx2.cell hn), rfl, hS.ext0⟩
      · obtain ⟨rfl, hx3⟩ := h
        refine ⟨_, rfl, ?_⟩
        rw [bytes_eq]
        refine ifB_mk (fun h1 => ?_) (fun h1 => ?_)
        · have h1 := of_decide_eq_true h1
          rw [if_pos h1] at hr
          exact ⟨by rw [hr], hx2.trans hx3⟩
        · have h1 := of_decide_eq_false h1
          rw [if_neg h1] at hr
          refine ⟨⟨hx2.trans hx3, k + 1, by rw [i64_id (by omega) (by omega)]; omega, hc, hr⟩, ?_⟩
          show Int.toNat _ < Int.toNat _
          rw [i64_id (by omega) (by omega)]
          omega
    · have hk : k = l.length := by simp at hc; omega
      subst hk
      rw [List.drop_length, findF] at hr
      exact ⟨by rw [hr], hx2⟩
  refine main.call (fun v H2 hr => ?_) (fun ch H6 hr5 => by obtain ⟨hr5, _⟩ := hr5; cases hr5) (fun H6 hr5 => by obtain ⟨hr5, _⟩ := hr5; cases hr5)
  obtain ⟨hv, hx2⟩ := hr
  simp only [Ending.returned.injEq] at hv
  subst hv
  exact ⟨_, rfl, rfl, hx1.trans hx2⟩
mutual
def okEx : Ex → Prop
  | .mk k a b n kids => 1 ≤ k ∧ k ≤ 10 ∧ (kids.length : Int) = kidsF k ∧ rangeF k a b n = 0 ∧ okKids kids
def okKids : List Ex → Prop
  | [] => True
  | e :: r => okEx e ∧ okKids r
end
mutual
def nodesE : Ex → Nat
  | .mk k a b n kids => 1 + nodesK kids
def nodesK : List Ex → Nat
  | [] => 0
  | e :: r => nodesE e + nodesK r
end
mutual
theorem sh_ok : ∀ (e : Ex) (d nd : Int), (shEx e d nd).1 = 0 → okEx e ∧ (shEx e d nd).2 = nd + nodesE e ∧ nd + nodesE e ≤ 600
  | .mk k a b n kids, d, nd, h => by
    simp only [shEx, okEx, nodesE] at h ⊢
    split at h
    · simp at h
    rename_i h1
    rw [if_neg h1]
    split at h
    · simp at h
    rename_i h2
    rw [if_neg h2]
    split at h
    · simp at h
    rename_i h3
    rw [if_neg h3]
    split at h
    · rename_i h4; exact absurd h h4
    rename_i h4
    rw [if_neg h4]
    obtain ⟨g1, g2, g3⟩ := sh_okK kids (d + 1) (nd + 1) (by omega) h
    exact ⟨⟨by omega, by omega, by omega, by omega, g1⟩, by rw [g2]; omega, by omega⟩
theorem sh_okK : ∀ (l : List Ex) (d nd : Int), nd ≤ 600 → (shKids l d nd).1 = 0 → okKids l ∧ (shKids l d nd).2 = nd + nodesK l ∧ nd + nodesK l ≤ 600
  | [], d, nd, hn, h => by simp only [shKids, okKids, nodesK]; exact ⟨trivial, by omega, by omega⟩
  | e :: r, d, nd, hn, h => by
    simp only [shKids, okKids, nodesK] at h ⊢
    split at h
    · rename_i h1; exact absurd h h1
    rename_i h1
    rw [if_neg h1]
    obtain ⟨g1, g2, g3⟩ := sh_ok e d nd (by omega)
    obtain ⟨k1, k2, k3⟩ := sh_okK r d _ (by rw [g2]; omega) h
    rw [g2] at k3
    exact ⟨⟨g1, k1⟩, by rw [k2, g2]; omega, by omega⟩
end
theorem okKids_mem : ∀ {l : List Ex} {e : Ex}, okKids l → e ∈ l → okEx e
  | x :: r, e, h, he => by
    simp only [okKids] at h
    rcases List.mem_cons.1 he with rfl | he
    · exact h.1
    · exact okKids_mem h.2 he
theorem kidsF_le (k : Int) : 0 ≤ kidsF k ∧ kidsF k ≤ 2 := by unfold kidsF; repeat' split <;> omega
mutual
def nmEx : Ex → List ByteArray
  | .mk k a b n kids => if k = 10 then [n] else nmKids kids
def nmKids : List Ex → List ByteArray
  | [] => []
  | e :: r => nmEx e ++ nmKids r
end
def NmC (e : Ex) : Prop := okEx e → ∀ (H0 H : Heap) (a : Addr) (c : List Value) (E : List (Nat × Obj)) (oa : Option Addr) (on oc : Nat) (olds : List ByteArray), Ext0 H0 H → At H0 a c → ExAt H0 e c → Held E H → (E.map (·.1)).Nodup → (∀ x ∈ E, H0.size ≤ x.1) →
  RowE E oa on oc 1 (olds.map Value.string) 9 → on + (nmEx e).length ≤ 4398046511104 →
  CallsH Try.prog 45 ⟨[.pointer (some a), .slice oa on oc]⟩ H fun e' H' => ∃ E' oa' oc', e' = .returned (.slice oa' (on + (nmEx e).length) oc') ∧ St (· ∈ E.map (·.1)) H H' E' ∧ RowE E' oa' (on + (nmEx e).length) oc' 1 ((olds ++ nmEx e).map Value.string) 9
theorem St.startL {H : Heap} {E : List (Nat × Obj)} (hE : Held E H) (hnd : (E.map (·.1)).Nodup) : St (· ∈ E.map (·.1)) H H E := ⟨Ext.refl _ H, fun x hx => .inr (List.mem_map_of_mem (f := fun x : Nat × Obj => x.1) hx), hE, hnd⟩
theorem Ext0.overL {H0 H H' : Heap} {M : Nat → Prop} (h : Ext0 H0 H) (hx : Ext M H H') (hM : ∀ b, M b → H0.size ≤ b) : Ext0 H0 H' :=
  ⟨Nat.le_trans h.size hx.size, fun b' hb' _ => by rw [hx.block b' (Nat.lt_of_lt_of_le hb' h.size) (fun hm => by have := hM _ hm; omega)]; exact h.block b' hb' fun h => h⟩
theorem plain_str (l : List ByteArray) : plainL (l.map Value.string) := fun v hv => by
  obtain ⟨x, _, rfl⟩ := List.mem_map.1 hv
  rfl
theorem nm_step {k a b : Int} {n : ByteArray} {kids : List Ex} (ih : ∀ e ∈ kids, NmC e) : NmC (.mk k a b n kids) := by
  intro hok H0 H ad c E oa on oc olds hx0 hat hex hE hnd hE0 hr hb
  simp only [ExAt] at hex
  simp only [okEx] at hok
  have hk2 := kidsF_le k
  obtain ⟨ka, cap, rfl, hkids⟩ := hex
  apply check_names_calls
  unfold check_names
  have hS := St.startL hE hnd
  have hEM : ∀ b, b ∈ E.map (·.1) → H0.size ≤ b := fun b hb => by
    obtain ⟨x, hx, rfl⟩ := List.mem_map.1 hb
    exact hE0 x hx
  have hatH := hat.ext0 hx0
  refine ⟨_, hatH.get (j := 0) rfl, ifB_mk (fun h1 => ?_) (fun h1 => ?_)⟩
  · have h1 : k = 10 := by simpa using h1
    have hn : nmEx (.mk k a b n kids) = [n] := by simp only [nmEx]; rw [if_pos h1]
    rw [hn] at hb ⊢
    refine ⟨_, hatH.get (j := 3) rfl, ?_⟩
    intro H1
    replace hS : St _ _ H1 _ := St.push hS _
    clear_value H1
    refine append_row (L := [_]) (by kernel_rfl : appB Try.prog 90 9 1 16 = true) hS hr (St.atAll (k := 0) hS rfl rfl rfl) rfl (by simp [plainL, Value.oneCell']) (plain_str _) (by omega) (by simp at hb; omega) (by simp at hb; omega) ?_
    intro a' c' H' E' hS hr _
    refine ⟨_, _, _, rfl, E', a', c', rfl, hS.sub (List.Sublist.cons _ (List.Sublist.refl _)), ?_⟩
    simpa using hr
  · have h1 : ¬ k = 10 := by simpa using h1
    have hn : nmEx (.mk k a b n kids) = nmKids kids := by simp only [nmEx]; rw [if_neg h1]
    rw [hn] at hb ⊢
    refine ⟨_, _, _, hatH.get (j := 4) rfl, fun oa' on' oc' x H' => ∃ (j : Nat) (E' : List (Nat × Obj)) (ns : List ByteArray), x = j ∧ j ≤ kids.length ∧ on' = on + ns.length ∧ St (· ∈ E.map (·.1)) H H' E' ∧ RowE E' oa' on' oc' 1 ((olds ++ ns).map Value.string) 9 ∧ nmKids kids = ns ++ nmKids (kids.drop j), fun _ _ _ x _ => (kids.length - x : Int).toNat, ⟨0, E, [], rfl, Nat.zero_le _, rfl, hS, by simpa using hr, rfl⟩, ?_⟩
    rintro oa' on' oc' x H3 ⟨j, E', ns, rfl, hj, rfl, hS3, hr3, hns⟩
    have hx3 : Ext0 H0 H3 := hx0.overL hS3.ext hEM
    have hEM3 : ∀ x ∈ E', H0.size ≤ x.1 := fun x hx => by
      rcases hS3.own x hx with h | h
      · exact Nat.le_trans hx0.size h
      · exact hEM _ h
    refine ifB_mk (fun hc => ?_) (fun hc => ?_)
    · have hc : j < kids.length := by simp at hc; omega
      have hk : kids[j]? = some kids[j] := by simp [hc]
      obtain ⟨p, c, hp, hpa, hpe⟩ := hkids.get hk
      subst hp
      rw [Nat.zero_add] at hpa
      rw [List.drop_eq_getElem_cons hc, nmKids, ← List.append_assoc] at hns
      have hln : (nmKids kids).length = ns.length + (nmEx kids[j]).length + (nmKids (kids.drop (j + 1))).length := by rw [hns]; simp; omega
      refine ⟨_, _, _, (hat.ext0 hx3).get (j := 4) rfl, by omega, by omega, p, rfl, ?_⟩
      rw [Int.toNat_natCast]
      refine (ih kids[j] (List.getElem_mem hc) (okKids_mem hok.2.2.2.2 (List.getElem_mem hc)) H0 H3 _ c E' oa' _ oc' (olds ++ ns) hx3 hpa hpe hS3.at_ hS3.nd hEM3 hr3 (by omega)).call (fun v H4 hr4 => ?_) (fun ch H6 hr5 => by obtain ⟨_, _, _, hr5, _⟩ := hr5; cases hr5) (fun H6 hr5 => by obtain ⟨_, _, _, hr5, _⟩ := hr5; cases hr5)
      obtain ⟨E4, a4, c4, hv, hT, hr4⟩ := hr4
      simp only [Ending.returned.injEq] at hv
      subst hv
      refine ⟨_, _, _, rfl, ⟨j + 1, E4, ns ++ nmEx kids[j], by rw [i64_id (by omega) (by omega)]; omega, hc, by rw [List.length_append]; omega, St.swap (L := []) hS3 hT, by simpa [List.append_assoc] using hr4, hns⟩, ?_⟩
      show Int.toNat _ < Int.toNat _
      rw [i64_id (by omega) (by omega)]
      omega
    · have hc : ¬ j < kids.length := by simp at hc; omega
      rw [List.drop_eq_nil_of_le (by omega), nmKids, List.append_nil] at hns
      exact ⟨E', oa', oc', by rw [hns], hS3, by rw [hns]; exact hr3⟩
mutual
theorem nm_len : ∀ e : Ex, (nmEx e).length ≤ nodesE e
  | .mk k a b n kids => by
    simp only [nmEx, nodesE]
    split
    · simp
    · have := nm_lenK kids; omega
theorem nm_lenK : ∀ l : List Ex, (nmKids l).length ≤ nodesK l
  | [] => by simp [nmKids, nodesK]
  | e :: r => by
    simp only [nmKids, nodesK, List.length_append]
    have := nm_len e
    have := nm_lenK r
    omega
end
mutual
theorem nm_ex : ∀ e : Ex, NmC e
  | .mk k a b n kids => nm_step (nm_kids kids)
theorem nm_kids : ∀ l : List Ex, ∀ e ∈ l, NmC e
  | [], e, h => by cases h
  | x :: r, e, h => by
    rcases List.mem_cons.1 h with h | h
    · rw [h]; exact nm_ex x
    · exact nm_kids r e h
end
end Go.Vc
set_option linter.unusedVariables false
set_option linter.unusedSimpArgs false
set_option maxRecDepth 100000
namespace Go.Vc
open Go.Proofs

/-! check.direct -/
def directF (l : List Ru) : List (List Int) := l.map fun r => (nmEx r.e).map fun n => findF n l 0
def IntsAt (H : Heap) (ka : Option Addr) (r : List Int) : Prop := r = [] ∨ ∃ p, ka = some p ∧ At H p (r.map (Value.int .i64))
def DirAt (H : Heap) (ad : Option Addr) (d : List (List Int)) : Prop := ∀ i r, d[i]? = some r → ∃ p ka kc, ad = some p ∧ cellH H (p.add (i * 1)) = some (.slice ka r.length kc) ∧ IntsAt H ka r
theorem IntsAt.grow {H H' : Heap} {ka : Option Addr} {r : List Int} (h : IntsAt H ka r) (hx : Ext0 H H') : IntsAt H' ka r := by
  rcases h with h | ⟨p, h1, h2⟩
  · exact .inl h
  · exact .inr ⟨p, h1, h2.ext0 hx⟩
theorem DirAt.grow {H H' : Heap} {ad : Option Addr} {d : List (List Int)} (h : DirAt H ad d) (hx : Ext0 H H') : DirAt H' ad d := fun i r hr => by
  obtain ⟨p, ka, kc, h1, h2, h3⟩ := h i r hr
  exact ⟨p, ka, kc, h1, hx.cell h2, h3.grow hx⟩
theorem RowE.at_ {E : List (Nat × Obj)} {a : Option Addr} {n c sz : Nat} {olds : List Value} {e : TypeId} {H : Heap} (h : RowE E a n c sz olds e) (hE : Held E H) : olds = [] ∨ ∃ p, a = some p ∧ At H p olds := by
  rcases h with ⟨_, _, _, _, h⟩ | ⟨b, rest, rfl, rfl, h1, h2, h3⟩
  · exact .inl h
  · refine .inr ⟨_, rfl, At_of_blk (l := olds ++ rest) (T := e) (hE (b, _) (by simp)) rfl fun j v hj => ?_⟩
    show (olds ++ rest)[0 + j]? = _
    rw [Nat.zero_add, List.getElem?_append_left (List.getElem?_eq_some_iff.1 hj).1]
    exact hj
theorem RowE.ints {E : List (Nat × Obj)} {a : Option Addr} {n c : Nat} {r : List Int} {e : TypeId} {H : Heap} (h : RowE E a n c 1 (r.map (Value.int .i64)) e) (hE : Held E H) : IntsAt H a r := by
  rcases h.at_ hE with h1 | h1
  · exact .inl (by simpa using h1)
  · exact .inr h1
theorem IntsAt.cell {H : Heap} {ka : Option Addr} {r : List Int} (h : IntsAt H ka r) {j : Nat} {x : Int} (hj : r[j]? = some x) : ∃ p, ka = some p ∧ cellH H (p.add (j * 1)) = some (.int .i64 x) := by
  rcases h with rfl | ⟨p, rfl, hat⟩
  · simp at hj
  · exact ⟨p, rfl, by rw [Nat.mul_one]; exact hat.get (by rw [List.getElem?_map, hj]; rfl)⟩
theorem IntsAt.src {H : Heap} {ka : Option Addr} {r : List Int} (h : IntsAt H ka r) : SrcH H ka r.length 1 (r.map (Value.int .i64)) := by
  cases ka with
  | none =>
    rcases h with rfl | ⟨p, h1, _⟩
    · exact .inl ⟨rfl, rfl, rfl⟩
    · cases h1
  | some p =>
    refine .inr ⟨p, rfl, ?_, by simp, plain_ints _ _⟩
    rcases h with rfl | ⟨p', h1, h2⟩
    · trivial
    · cases h1; exact h2
theorem strs_flat (ws : List ByteArray) : (ws.map strC).flatten = ws.map Value.string := by
  induction ws with
  | nil => rfl
  | cons w r ih => simp [strC, ih]
abbrev slV (x : Option Addr × Nat × Nat) : Value := .slice x.1 x.2.1 x.2.2
theorem direct_is {l : List Ru} {ad : Option Addr} {c : Nat} {H : Heap} (hlen : l.length ≤ 40) (hok : ∀ r ∈ l, okEx r.e ∧ nodesE r.e ≤ 600) (hl : RulesAt H ad l) : CallsH Try.prog 26 ⟨[.slice ad l.length c]⟩ H fun e H' => ∃ a c', e = .returned (.slice a l.length c') ∧ Ext0 H H' ∧ DirAt H' a (directF l) := by
  apply check_direct_calls
  unfold check_direct
  refine ⟨fun oa on oc x H' => ∃ (i : Nat) (F E : List (Nat × Obj)) (sl : List (Option Addr × Nat × Nat)), x = i ∧ i ≤ l.length ∧ on = i ∧ sl.length = i ∧ St none0 H H' (F ++ E) ∧ RowE E oa on oc 1 (sl.map slV) 28 ∧
      (∀ (j : Nat) s, sl[j]? = some s → ∃ r, (directF l)[j]? = some r ∧ s.2.1 = r.length ∧ ∀ H'', Held F H'' → IntsAt H'' s.1 r), fun _ _ _ x _ => (l.length - x : Int).toNat,
    ⟨0, [], [], [], rfl, Nat.zero_le _, rfl, rfl, St.start none0 H, RowE.nil, by simp⟩, ?_⟩
  rintro oa on oc x H1 ⟨i, F, E, sl, rfl, hi, rfl, hsl, hS, hr, hsls⟩
  refine ifB_mk (fun hc => ?_) (fun hc => ?_)
  rotate_left
  · have hi : on = l.length := by simp at hc; omega
    subst hi
    refine ⟨oa, oc, rfl, hS.ext0, fun j r hj => ?_⟩
    have hjl : j < sl.length := by rw [hsl]; have := (List.getElem?_eq_some_iff.1 hj).1; simpa [directF] using this
    have hsj : sl[j]? = some sl[j] := by simp [hjl]
    obtain ⟨r', h1, h2, h3⟩ := hsls j _ hsj
    rw [hj] at h1
    cases h1
    rcases hr.at_ (hS.held fun y hy => List.mem_append_right _ hy) with h4 | ⟨p, h4, h5⟩
    · simp at h4; rw [h4] at hjl; simp at hjl
    · refine ⟨p, sl[j].1, sl[j].2.2, h4, ?_, h3 H1 (hS.held fun y hy => List.mem_append_left _ hy)⟩
      rw [Nat.mul_one, ← h2]
      exact h5.get (by rw [List.getElem?_map, hsj]; rfl)
  have hc : on < l.length := by simp at hc; omega
  have hkk : l[on]? = some l[on] := by simp [hc]
  obtain ⟨hok1, hok2⟩ := hok l[on] (List.getElem_mem hc)
  generalize hrk : l[on] = r at hkk hok1 hok2
  obtain ⟨p, cs, rfl, hat, hex⟩ := hl on r hkk
  refine ⟨by omega, by omega, p, rfl, ?_⟩
  rw [Int.toNat_natCast]
  have hnl := nm_len r.e
  refine (nm_ex r.e hok1 H H1 _ cs [] none 0 0 [] hS.ext0 hat.tail hex (by intro x hx; cases hx) (by simp) (by simp) RowE.nil (by omega)).call (fun v H2 hr2 => ?_) (fun ch H6 hr5 => by obtain ⟨_, _, _, hr5, _⟩ := hr5; cases hr5) (fun H6 hr5 => by obtain ⟨_, _, _, hr5, _⟩ := hr5; cases hr5)
  obtain ⟨En, na, nc, hv, hT, hrn⟩ := hr2
  simp only [Ending.returned.injEq] at hv
  subst hv
  have hS2 : St none0 H H2 ((F ++ E) ++ En) := St.swap (E := []) (by rw [List.append_nil]; exact hS) hT
  clear hS hT
  rw [List.nil_append] at hrn
  have hnl2 : (0 + (nmEx r.e).length) = (nmEx r.e).length := Nat.zero_add _
  rw [hnl2] at hrn
  refine ⟨_, _, _, rfl, ?_⟩
  refine ⟨fun ka kn kc x H' => ∃ (j : Nat) (Ek : List (Nat × Obj)), x = j ∧ j ≤ (nmEx r.e).length ∧ kn = j ∧ St none0 H H' (((F ++ E) ++ En) ++ Ek) ∧ RowE Ek ka kn kc 1 ((((nmEx r.e).take j).map fun n => findF n l 0).map (Value.int .i64)) 3, fun _ _ _ x _ => ((nmEx r.e).length - x : Int).toNat,
    ⟨0, [], rfl, Nat.zero_le _, rfl, by rw [List.append_nil]; exact hS2, RowE.nil⟩, ?_⟩
  clear hS2
  rintro ka kn kc x H3 ⟨j, Ek, rfl, hj, rfl, hS, hrk⟩
  have hnames : RowAt H3 na 1 ((nmEx r.e).map strC) := by
    rw [← strs_flat] at hrn
    refine RowE.row (L := (F ++ E)) (E := En) (M := none0) (H0 := H) ?_ hrn (by simp [strC]) (by decide)
    exact hS.sub (List.sublist_append_left _ _)
  refine ifB_mk (fun hc2 => ?_) (fun hc2 => ?_)
  · have hc2 : kn < (nmEx r.e).length := by simp at hc2; omega
    have hnk : (nmEx r.e)[kn]? = some (nmEx r.e)[kn] := by simp [hc2]
    generalize hnm : (nmEx r.e)[kn] = nm at hnk
    obtain ⟨q, rfl, hatq⟩ := hnames kn (strC nm) (by rw [List.getElem?_map, hnk]; rfl)
    refine ⟨by omega, by omega, q, rfl, nm, by rw [Int.toNat_natCast]; exact hatq.get (j := 0) rfl, (Find_is (by omega) (hl.grow hS.ext0) nm).call fun H4 hx4 => ⟨_, rfl, ?_⟩⟩
    replace hS := hS.grow hx4
    intro H5
    replace hS : St _ _ H5 _ := St.push hS _
    clear_value H5
    refine append_row (L := _ :: ((F ++ E) ++ En)) (by kernel_rfl : appB Try.prog 28 3 1 8 = true) hS hrk (St.atAll (k := 0) hS rfl rfl rfl) rfl (by simp [plainL, Value.oneCell']) (plain_ints _ _) (by omega) (by omega) (by omega) ?_
    intro a' c' H6 E' hS hrk _
    refine ⟨_, _, _, rfl, ⟨kn + 1, E', by rw [i64_id (by omega) (by omega)]; omega, hc2, rfl, hS.sub (List.Sublist.cons _ (List.Sublist.refl _)), ?_⟩, ?_⟩
    · rw [List.take_succ_eq_append_getElem hc2, hnm]
      simpa using hrk
    · show Int.toNat _ < Int.toNat _
      rw [i64_id (by omega) (by omega)]
      omega
  · have hj2 : kn = (nmEx r.e).length := by simp at hc2; omega
    rw [hj2, List.take_length] at hrk
    rw [hj2]
    have hS' : St none0 H H3 ((F ++ Ek) ++ E) := by
      refine (hS.sub (List.Sublist.append (List.sublist_append_left (F ++ E) En) (List.Sublist.refl Ek))).perm ?_
      rw [List.append_assoc, List.append_assoc]
      exact List.Perm.append_left F List.perm_append_comm
    replace hS := hS'
    clear hS'
    intro H8
    replace hS : St _ _ H8 _ := St.push hS _
    clear_value H8
    refine append_row (L := _ :: (F ++ Ek)) (by kernel_rfl : appB Try.prog 66 28 1 24 = true) hS hr (St.atAll (k := 0) hS rfl rfl rfl) rfl (by simp [plainL, Value.oneCell']) ?_ (by omega) (by omega) (by omega) ?_
    · intro v hv
      obtain ⟨y, _, rfl⟩ := List.mem_map.1 hv
      rfl
    intro a' c' H9 E' hS hr _
    refine ⟨_, _, _, rfl, ⟨on + 1, F ++ Ek, E', sl ++ [(ka, (nmEx r.e).length, kc)], by rw [i64_id (by omega) (by omega)]; omega, hc, rfl, by simp [hsl], hS.sub (List.Sublist.cons _ (List.Sublist.refl _)), by simpa using hr, fun j s hs => ?_⟩, ?_⟩
    · rcases Nat.lt_trichotomy j sl.length with h | h | h
      · rw [List.getElem?_append_left h] at hs
        obtain ⟨r', g1, g2, g3⟩ := hsls j s hs
        exact ⟨r', g1, g2, fun H'' hh => g3 H'' fun y hy => hh y (by simp [hy])⟩
      · subst h
        rw [List.getElem?_append_right (Nat.le_refl _), Nat.sub_self] at hs
        simp only [List.getElem?_cons_zero, Option.some.injEq] at hs
        subst hs
        refine ⟨(nmEx r.e).map fun n => findF n l 0, ?_, by simp, fun H'' hh => hrk.ints fun y hy => hh y (by simp [hy])⟩
        rw [directF, List.getElem?_map, hsl, hkk]; rfl
      · rw [List.getElem?_eq_none (by simp; omega)] at hs
        cases hs
    · show Int.toNat _ < Int.toNat _
      rw [i64_id (by omega) (by omega)]
      omega
end Go.Vc
namespace Go.Vc
open Go.MapKept

/-! ## 17. Maps of one's own -/
/-- What a map holds, in the order in which it came. -/
def entG (l : List (Value × Value)) (i : Nat) : List MapEntry := match l with
  | [] => []
  | x :: r => { key := x.1, val := x.2, born := i } :: entG r (i + 1)
abbrev mapO (l : List (Value × Value)) : Obj := .map ⟨entG l 0⟩ l.length
theorem entG_append : ∀ (l m : List (Value × Value)) (i : Nat), entG (l ++ m) i = entG l i ++ entG m (i + l.length)
  | [], m, i => by simp [entG]
  | x :: r, m, i => by
    simp only [List.cons_append, entG, List.length_cons]
    rw [entG_append r m (i + 1), show i + 1 + r.length = i + (r.length + 1) by omega]
def findV (d : TypeDesc) (k : Value) : List (Value × Value) → Option (Option Value)
  | [] => some none
  | x :: r => match Instr.sameNow d k x.1 with
    | some true => some (some x.2)
    | some false => findV d k r
    | none => none
theorem findNow_entG (d : TypeDesc) (k : Value) : ∀ (l : List (Value × Value)) (i j : Nat), match findV d k l with
    | some none => Instr.findNow d k (entG l i) j = some none
    | some (some v) => ∃ p, Instr.findNow d k (entG l i) j = some (some (p, v))
    | none => True
  | [], i, j => rfl
  | x :: r, i, j => by
    simp only [findV, entG, Instr.findNow]
    have ih := findNow_entG d k r (i + 1) (j + 1)
    cases hs : Instr.sameNow d k x.1 with
    | none => trivial
    | some b =>
      cases b with
      | true => exact ⟨j, rfl⟩
      | false => exact ih
section
variable {P : Program} {M : Nat → Prop} {H0 H : Heap} {L E : List (Nat × Obj)}
theorem look_found {mt kt vt : TypeId} {d : TypeDesc} {key v : Value} {l : List (Value × Value)} {r : Nat} (hm : P.underlying mt = some (.map kt vt)) (hk : P.underlying kt = some d) (hkey : IsKey d key) (hb : H[r]? = some (mapO l)) (hf : findV d key l = some (some v)) :
    RunV P (Instr.lookup mt (.map (some r)) key false) H v := by
  intro H' hx w dr
  have hb' : (wk w H' dr).heap[r]? = some (mapO l) := by
    show H'[r]? = _
    rw [hx.block r (lt_of_get hb) fun h => h]; exact hb
  have h1 := findNow_entG d key l 0 0
  rw [hf] at h1
  obtain ⟨p, h1⟩ := h1
  simp [Instr.lookup, run_underlying hm, MapKept.run_getObj_map hb', run_checkKey hk hkey, run_findKey hk h1]
theorem look_none {mt kt vt : TypeId} {d : TypeDesc} {key z : Value} {l : List (Value × Value)} {r : Nat} (hm : P.underlying mt = some (.map kt vt)) (hk : P.underlying kt = some d) (hkey : IsKey d key) (hb : H[r]? = some (mapO l)) (hf : findV d key l = some none) (hz : ∀ w, (zeroValue vt).run P w = .ok z w) :
    RunV P (Instr.lookup mt (.map (some r)) key false) H z := by
  intro H' hx w dr
  have hb' : (wk w H' dr).heap[r]? = some (mapO l) := by
    show H'[r]? = _
    rw [hx.block r (lt_of_get hb) fun h => h]; exact hb
  have h1 := findNow_entG d key l 0 0
  rw [hf] at h1
  simp [Instr.lookup, run_underlying hm, MapKept.run_getObj_map hb', run_checkKey hk hkey, run_findKey hk h1, hz]
theorem update_new {mt kt vt : TypeId} {d : TypeDesc} {key v : Value} {l : List (Value × Value)} {r : Nat} {K : Heap → Prop} (hm : P.underlying mt = some (.map kt vt)) (hk : P.underlying kt = some d) (hkey : IsKey d key) (hb : H[r]? = some (mapO l)) (hf : findV d key l = some none)
    (hK : K (H.setIfInBounds r (mapO (l ++ [(key, v)])))) : RunU P (Instr.mapUpdate mt (.map (some r)) key v) H K := by
  intro w dr
  have hb' : (wk w H dr).heap[r]? = some (mapO l) := hb
  have h1 := findNow_entG d key l 0 0
  rw [hf] at h1
  have e : mapO (l ++ [(key, v)]) = .map (entG l 0 ++ [({ key := key, val := v, born := l.length } : MapEntry)]).toArray (l.length + 1) := by
    simp only [mapO, entG_append, entG, List.length_append, List.length_singleton, Nat.zero_add]
  rw [e] at hK
  refine ⟨_, dr, ?_, hK⟩
  simp [Instr.mapUpdate, run_underlying hm, MapKept.run_getObj_map hb', run_checkKey hk hkey, run_findKey hk h1, MapKept.run_setObj_map _ hb']
  rfl
/-- make: a row of nothings, of one cell each. -/
def makeB (P : Program) (t e by_ : Nat) : Bool := match P.underlying t, P.info? e with
  | some (.slice e'), some i => (match i.zero with
    | some z => Nat.beq e' e && Nat.beq z.cells.size i.size && Nat.beq i.size 1 && Nat.beq i.bytes by_
    | none => false)
  | _, _ => false
theorem make_row {t e by_ n : Nat} {v : Value} {K : Value → Heap → Prop} (hI : makeB P t e by_ = true) (hz : ∀ i z, P.info? e = some i → i.zero = some z → z.cells = #[v]) (hfit : by_ * n ≤ 281474976710656) (h63 : (n : Int) ≤ 9223372036854775807) (hn : n ≤ 16777216)
    (hK : K (.slice (some (newA H)) n n) (H.push (C (List.replicate n v) e))) : RunD P (Instr.makeSlice t (.int .i64 (n : Int)) (.int .i64 (n : Int))) H K := by
  unfold makeB at hI
  split at hI
  rotate_left
  · cases hI
  rename_i e' i ht hi
  split at hI
  rotate_left
  · cases hI
  rename_i z hz'
  simp only [Bool.and_eq_true] at hI
  obtain ⟨⟨⟨b1, b2⟩, b3⟩, b4⟩ := hI
  have b1 := Nat.eq_of_beq_eq_true b1; have b3 := Nat.eq_of_beq_eq_true b3; have b4 := Nat.eq_of_beq_eq_true b4
  subst b1 b4
  intro w d
  have hb' : (i.bytes : Int) * (n : Int) ≤ 281474976710656 := by
    have h : ((i.bytes * n : Nat) : Int) ≤ 281474976710656 := by omega
    rwa [Int.natCast_mul] at h
  have hmk := run_makeSlice (P := P) (w := wk w H d) t e' i z ht hi hz' .i64 .i64 (n : Int) (n : Int) (by omega) (Int.le_refl _) (by rw [b3, Int.toNat_natCast]; omega) hb' h63
  rw [b3, hz i z hi hz', Int.toNat_natCast, Nat.mul_one] at hmk
  refine ⟨_, _, d, ?_, hK⟩
  rw [hmk]
  have e1 : madeCells #[v] n = (List.replicate n v).toArray := by
    apply Array.ext
    · simp [madeCells]
    · intro j h1 h2
      simp [madeCells, Nat.mod_one]
  rw [e1]
  rfl
theorem St.setO {k b : Nat} {o o' : Obj} (h : St M H0 H L) (hk : nthO L k = some (b, o)) : St M H0 (H.setIfInBounds b o') (setN L k (b, o')) := by
  have hb := h.obj hk
  have hlt := lt_of_get hb
  refine h.turn hk ⟨by simp, fun b' hb' hne => ?_⟩ ?_
  · rw [Array.getElem?_setIfInBounds]
    rw [if_neg (fun e => hne e.symm)]
  · rw [Array.getElem?_setIfInBounds, if_pos rfl, if_pos hlt]
end
end Go.Vc
set_option linter.unusedVariables false
set_option linter.unusedSimpArgs false
set_option maxRecDepth 100000
namespace Go.Vc
open Go.Proofs

/-! check.closed -/
theorem Clone_is {H : Heap} {ka : Option Addr} {r : List Int} (hr : IntsAt H ka r) (hl : r.length ≤ 1099511627776) (c : Nat) : CallsH Try.prog 47 ⟨[.slice ka r.length c]⟩ H fun e H' => ∃ E a c', e = .returned (.slice a r.length c') ∧ St none0 H H' E ∧ RowP E a r.length c' 1 (r.map (Value.int .i64)) 3 := by
  apply slices_Clone_int_int_calls
  unfold slices_Clone_int_int
  cases ka with
  | none =>
    have h0 : r = [] := by
      rcases hr with h | ⟨p, h1, _⟩
      · exact h
      · cases h1
    subst h0
    refine ⟨true, fun x y w => rfl, ?_⟩
    exact ⟨[], none, 0, rfl, St.start none0 H, .inl ⟨rfl, rfl, rfl, rfl, rfl⟩⟩
  | some p =>
    refine ⟨false, fun x y w => rfl, ifB_mk (fun h => by cases h) (fun _ => ?_)⟩
    have hS := St.start none0 H
    intro H1
    have hx1 : Ext0 H H1 := ext0_push _ _
    replace hS : St _ _ H1 _ := St.push hS _
    clear_value H1
    refine append_gen (L := []) (E := [(H.size, C [] 3)]) (by kernel_rfl : appB Try.prog 28 3 1 8 = true) hS (olds := []) (n := 0) (c := 0) (.inr ⟨H.size, [], [], [], rfl, rfl, rfl, rfl, Nat.le_refl _⟩) (hr.grow hx1).src (by simp [plainL]) (by omega) (by omega) ?_
    intro a' c' H' E' hS hr'
    refine ⟨_, _, _, rfl, E', a', c', ?_, hS, ?_⟩
    · rw [Nat.zero_add]
    · rw [Nat.zero_add, List.nil_append] at hr'; exact hr'
abbrev kvB (k : Int) : Value × Value := (.int .i64 k, .bool true)
theorem findV_set (k : Int) : ∀ (s : List Int), findV (.int .i64) (.int .i64 k) (s.map kvB) = some (if k ∈ s then some (.bool true) else none)
  | [] => by simp [findV]
  | x :: r => by
    simp only [List.map_cons, findV, Instr.sameNow, if_true, List.mem_cons]
    by_cases h : k = x
    · subst h; simp
    · have h1 : (k == x) = false := by simpa using h
      rw [h1]
      simp only [findV_set k r, h, false_or]
theorem set_look {H : Heap} {r : Nat} {s : List Int} (h : H[r]? = some (mapO (s.map kvB))) (k : Int) : RunV Try.prog (Instr.lookup 48 (.map (some r)) (.int .i64 k) false) H (.bool (decide (k ∈ s))) := by
  have hfv := findV_set k s
  by_cases hks : k ∈ s
  · rw [if_pos hks] at hfv
    rw [decide_eq_true hks]
    exact look_found (P := Try.prog) (mt := 48) (by kernel_rfl : Try.prog.underlying 48 = some (.map 3 4)) (by kernel_rfl : Try.prog.underlying 3 = some (.int .i64)) (key := .int .i64 k) rfl h hfv
  · rw [if_neg hks] at hfv
    rw [decide_eq_false hks]
    exact look_none (P := Try.prog) (mt := 48) (by kernel_rfl : Try.prog.underlying 48 = some (.map 3 4)) (by kernel_rfl : Try.prog.underlying 3 = some (.int .i64)) (key := .int .i64 k) (z := .bool false) rfl h hfv (fun w => by kernel_rfl)
def closeG (d : List (List Int)) : Nat → List Int → List Int → List Int
  | 0, _, seen => seen
  | _ + 1, [], seen => seen
  | m + 1, k :: todo, seen => if k ∈ seen then closeG d m todo seen else closeG d m (todo ++ d.getD k.toNat []) (seen ++ [k])
def closeF (d : List (List Int)) (i : Nat) : List Int := closeG d (d.length * 601 + (d.getD i []).length) (d.getD i []) []
def mapLen (b : Nat) (H : Heap) : Nat := match H[b]? with
  | some (.map es _) => es.size
  | _ => 0
theorem entG_len : ∀ (l : List (Value × Value)) (i : Nat), (entG l i).length = l.length
  | [], i => rfl
  | x :: r, i => by simp only [entG, List.length_cons, entG_len r]
theorem mapLen_of {H : Heap} {b : Nat} {l : List (Value × Value)} (h : H[b]? = some (mapO l)) : mapLen b H = l.length := by
  unfold mapLen
  rw [h]
  show (entG l 0).length = _
  rw [entG_len]
theorem nodup_len {l m : List Int} (hn : l.Nodup) (hs : ∀ x ∈ l, x ∈ m) : l.length ≤ m.length := by
  induction l generalizing m with
  | nil => simp
  | cons a r ih =>
    rw [List.nodup_cons] at hn
    have ha := hs a (by simp)
    have h1 : ∀ x ∈ r, x ∈ m.erase a := fun x hx => by
      rw [List.mem_erase_of_ne (fun e => hn.1 (by rw [← e]; exact hx))]
      exact hs x (by simp [hx])
    have := ih hn.2 h1
    rw [List.length_erase_of_mem ha] at this
    have : 0 < m.length := List.length_pos_of_mem ha
    simp only [List.length_cons]
    omega
/-- Of numbers below n none twice: so many at the most. -/
theorem nodup_lt {l : List Int} {n : Nat} (hn : l.Nodup) (hs : ∀ x ∈ l, 0 ≤ x ∧ x < n) : l.length ≤ n := by
  have := nodup_len (m := (List.range n).map Int.ofNat) hn fun x hx => by
    have := hs x hx
    rw [List.mem_map]
    exact ⟨x.toNat, by rw [List.mem_range]; omega, by show (x.toNat : Int) = x; omega⟩
  simpa using this
structure DirOk (d : List (List Int)) : Prop where
  len : d.length ≤ 40
  row : ∀ r ∈ d, r.length ≤ 600
  in_ : ∀ r ∈ d, ∀ k ∈ r, 0 ≤ k ∧ k < d.length
theorem DirOk.at_ {d : List (List Int)} (h : DirOk d) (i : Nat) : (d.getD i []).length ≤ 600 ∧ ∀ k ∈ d.getD i [], 0 ≤ k ∧ k < d.length := by
  rw [List.getD_eq_getElem?_getD]
  cases hi : d[i]? with
  | none => simp
  | some r => exact ⟨h.row r (List.mem_of_getElem? hi), h.in_ r (List.mem_of_getElem? hi)⟩
theorem St.join {M : Nat → Prop} {H0 H H' : Heap} {L E : List (Nat × Obj)} (hS : St M H0 H L) (hT : St none0 H H' E) : St M H0 H' (L ++ E) :=
  St.swap (E := []) (by rw [List.append_nil]; exact hS) ⟨⟨hT.ext.size, fun b hb _ => hT.ext.block b hb fun h => h⟩, fun e he => (hT.own e he).elim .inl fun h => h.elim, hT.at_, hT.nd⟩
theorem closeG_nil (d : List (List Int)) (m : Nat) (seen : List Int) : closeG d m [] seen = seen := by cases m <;> rfl
theorem closed_is {d : List (List Int)} {ad : Option Addr} {c : Nat} {H : Heap} (hd : DirOk d) (hdir : DirAt H ad d) : CallsH Try.prog 28 ⟨[.slice ad d.length c]⟩ H fun e H' => ∃ a, e = .returned (.slice (some a) d.length d.length) ∧ Ext0 H H' ∧
    ∀ i, i < d.length → ∃ b, cellH H' (a.add (i * 1)) = some (.map (some b)) ∧ H'[b]? = some (mapO ((closeF d i).map kvB)) := by
  have hlen := hd.len
  apply check_closed_calls
  unfold check_closed
  refine make_row (v := .map none) (by kernel_rfl : makeB Try.prog 69 48 8 = true) (fun i z hi hz => by
    have h : ((Try.prog.info? 48).bind (·.zero)).map (·.cells.toList) = some [.map none] := by kernel_rfl
    rw [hi] at h
    simp only [Option.bind_some, hz, Option.map_some, Option.some.injEq] at h
    rw [← h]) (by omega) (by omega) (by omega) ?_
  refine ⟨_, _, _, rfl, ?_⟩
  have hS := St.push (St.start none0 H) (C (List.replicate d.length (.map none)) 48)
  generalize H.push (C (List.replicate d.length (.map none)) 48) = H1 at hS
  refine ⟨fun x H' => ∃ (i : Nat) (ms : List Nat) (F : List (Nat × Obj)), x = i ∧ i ≤ d.length ∧ ms.length = i ∧ St none0 H H' ((H.size, C (ms.map (fun b => Value.map (some b)) ++ List.replicate (d.length - i) (Value.map none)) 48) :: F) ∧ (∀ j b, ms[j]? = some b → (b, mapO ((closeF d j).map kvB)) ∈ F), fun x _ => (d.length - x : Int).toNat,
    ⟨0, [], [], rfl, Nat.zero_le _, rfl, by simpa using hS, by simp⟩, ?_⟩
  clear hS
  rintro x H2 ⟨i, ms, F, rfl, hi, hms, hS, hF⟩
  refine ifB_mk (fun hc => ?_) (fun hc => ?_)
  rotate_left
  · have hi : i = d.length := by simp at hc; omega
    refine ⟨newA H, rfl, hS.ext0, fun j hj => ?_⟩
    have hmj : ms[j]? = some ms[j] := by simp [show j < ms.length by omega]
    refine ⟨ms[j], ?_, hS.at_ _ (List.mem_cons_of_mem _ (hF j _ hmj))⟩
    refine St.cell (k := 0) (l := ms.map (fun b => Value.map (some b)) ++ List.replicate (d.length - i) (Value.map none)) (T := 48) hS (by rw [add_block]; rfl) (add_spot _ rfl) ?_
    simp [newA, add_off, List.getElem?_append, hms, hj, hi]
  have hc : i < d.length := by simp at hc; omega
  intro H3
  have hmb : (H2.push (.map #[] 0))[H2.size]? = some (mapO []) := by simp [entG]
  replace hS : St _ _ H3 _ := St.push hS _
  clear_value H3
  refine ⟨by omega, by omega, newA H, rfl, ?_⟩
  rw [Int.toNat_natCast, Nat.mul_one]
  have hlenO : (ms.map (fun b => Value.map (some b)) ++ List.replicate (d.length - i) (Value.map none)).length = d.length := by simp; omega
  refine ⟨St.may (k := 1) (l := ms.map (fun b => Value.map (some b)) ++ List.replicate (d.length - i) (Value.map none)) (T := 48) hS (by rw [add_block]; rfl) (add_spot _ rfl) (by rw [add_off, hlenO]; show 0 + i + 1 ≤ _; omega), ?_⟩
  intro H4
  replace hS : St _ _ H4 _ := St.put (k := 1) (l := ms.map (fun b => Value.map (some b)) ++ List.replicate (d.length - i) (Value.map none)) (T := 48) hS (by rw [add_block]; rfl) (add_spot _ rfl) _
  clear_value H4
  have hspl : splice (ms.map (fun b => Value.map (some b)) ++ List.replicate (d.length - i) (Value.map none)) ((newA H).add i).off [.map (some H2.size)] = (ms ++ [H2.size]).map (fun b => Value.map (some b)) ++ List.replicate (d.length - (i + 1)) (Value.map none) := by
    simp only [splice, setN_set, add_off, newA, Nat.zero_add]
    rw [show d.length - i = (d.length - (i + 1)) + 1 by omega, List.replicate_succ, List.set_append_right _ _ (by simp [hms])]
    simp [hms]
  rw [hspl] at hS
  simp only [setN, add_block] at hS
  have hrow : d[i]? = some d[i] := by simp [hc]
  have hdi := hd.at_ i
  have hgd : d.getD i [] = d[i] := by simp [List.getD_eq_getElem?_getD, hrow]
  obtain ⟨p, ka, kc, rfl, hcell, hints⟩ := hdir i d[i] hrow
  refine ⟨by omega, by omega, p, rfl, _, _, _, hS.ext0.cell (by rw [Nat.mul_one] at hcell; exact hcell), ?_⟩
  rw [hgd] at hdi
  refine (Clone_is (hints.grow hS.ext0) (by omega) kc).call (fun v H5 hr => ?_) (fun ch H6 hr5 => by obtain ⟨_, _, _, hr5, _⟩ := hr5; cases hr5) (fun H6 hr5 => by obtain ⟨_, _, _, hr5, _⟩ := hr5; cases hr5)
  obtain ⟨E, ca, cc, hv, hT, hr⟩ := hr
  simp only [Ending.returned.injEq] at hv
  subst hv
  replace hS := hS.join hT
  simp only [List.cons_append] at hS
  clear hT
  refine ⟨_, _, _, rfl, ?_⟩
  refine ⟨fun ta tn tc H' => ∃ (todo seen : List Int) (E : List (Nat × Obj)) (m : Nat), St none0 H H' ((H2.size, mapO (seen.map kvB)) :: (H.size, C ((ms ++ [H2.size]).map (fun b => Value.map (some b)) ++ List.replicate (d.length - (i + 1)) (Value.map none)) 48) :: (F ++ E)) ∧ RowP E ta tn tc 1 (todo.map (Value.int .i64)) 3 ∧ tn = todo.length ∧
      (∀ k ∈ todo, 0 ≤ k ∧ k < d.length) ∧ seen.Nodup ∧ (∀ k ∈ seen, 0 ≤ k ∧ k < d.length) ∧ todo.length ≤ 600 * (seen.length + 1) ∧ (d.length - seen.length) * 601 + todo.length ≤ m ∧ closeG d m todo seen = closeF d i,
    fun ta tn tc H' => (d.length - mapLen H2.size H') * 601 + tn, ⟨d[i], [], E, d.length * 601 + d[i].length, hS, hr, rfl, hdi.2, by simp, by simp, by simp; omega, by simp, by rw [closeF, hgd]⟩, ?_⟩
  clear hS hr
  rintro ta tn tc H6 ⟨todo, seen, E, m, hS, hr, rfl, htin, hsn, hsin, htl, hm, hg⟩
  have hml : mapLen H2.size H6 = seen.length := by rw [mapLen_of (hS.obj (k := 0) rfl), List.length_map]
  have hsl := nodup_lt hsn hsin
  refine ifB_mk (fun hc2 => ?_) (fun hc2 => ?_)
  rotate_left
  · have h0 : todo = [] := by simpa using hc2
    subst h0
    rw [closeG_nil] at hg
    refine ⟨⟨i + 1, ms ++ [H2.size], (H2.size, mapO (seen.map kvB)) :: (F ++ E), by rw [i64_id (by omega) (by omega)]; omega, hc, by simp [hms], hS.perm (List.Perm.swap _ _ _), fun j b hj => ?_⟩, ?_⟩
    · rcases Nat.lt_trichotomy j ms.length with h | h | h
      · rw [List.getElem?_append_left h] at hj
        have := hF j b hj
        simp [this]
      · subst h
        rw [List.getElem?_append_right (Nat.le_refl _), Nat.sub_self] at hj
        simp only [List.getElem?_cons_zero, Option.some.injEq] at hj
        subst hj
        rw [hms, ← hg]
        simp
      · rw [List.getElem?_eq_none (by simp; omega)] at hj
        cases hj
    · show Int.toNat _ < Int.toNat _
      rw [i64_id (by omega) (by omega)]
      omega
  obtain ⟨k, r, rfl⟩ : ∃ k r, todo = k :: r := by
    cases todo with
    | nil => simp at hc2
    | cons k r => exact ⟨k, r, rfl⟩
  have hk := htin k (by simp)
  have hcap := hr.cap
  obtain ⟨pa, rfl, hpat⟩ : ∃ p, ta = some p ∧ At H6 p ((k :: r).map (Value.int .i64)) := by
    rcases RowP.at_ (L := (H2.size, mapO (seen.map kvB)) :: (H.size, C ((ms ++ [H2.size]).map (fun b => Value.map (some b)) ++ List.replicate (d.length - (i + 1)) (Value.map none)) 48) :: F) hS hr with h | h
    · cases h
    · exact h
  have hout : cellH H6 ((newA H).add i) = some (.map (some H2.size)) := by
    refine St.cell (k := 1) (l := (ms ++ [H2.size]).map (fun b => Value.map (some b)) ++ List.replicate (d.length - (i + 1)) (Value.map none)) (T := 48) hS (by rw [add_block]; rfl) (add_spot _ rfl) ?_
    simp [newA, add_off, List.getElem?_append, hms]
  simp only [List.length_cons] at hcap htl hm
  refine ⟨by omega, by simp only [List.length_cons]; omega, pa, rfl, k, ?_, by omega, by simp only [List.length_cons]; omega, by simp only [List.length_cons]; omega, by omega, by omega, newA H, rfl, some H2.size, hout, ?_⟩
  · exact hpat.get (j := 0) rfl
  have hfv := findV_set k seen
  have hlk := set_look (hS.obj (k := 0) rfl) k
  obtain ⟨m, rfl⟩ : ∃ m', m = m' + 1 := ⟨m - 1, by omega⟩
  simp only [closeG] at hg
  by_cases hks : k ∈ seen
  · rw [if_pos hks] at hg
    rw [decide_eq_true hks] at hlk
    refine ⟨true, hlk, ifB_mk (fun h => by cases h) (fun _ => ?_)⟩
    have hr' := hr.tail1
    refine ⟨⟨r, seen, E, m, hS, ?_, by simp, fun x hx => htin x (by simp [hx]), hsn, hsin, by omega, by omega, hg⟩, ?_⟩
    · simpa using hr'
    · show (d.length - mapLen H2.size H6) * 601 + _ < (d.length - mapLen H2.size H6) * 601 + _
      simp
  · rw [if_neg hks] at hfv hg
    rw [decide_eq_false hks] at hlk
    refine ⟨false, hlk, ifB_mk (fun _ => ?_) (fun h => by cases h)⟩
    refine ⟨by omega, by omega, newA H, rfl, some H2.size, hout, ?_⟩
    have hslt : seen.length < d.length := by
      have := nodup_lt (l := k :: seen) (n := d.length) (by rw [List.nodup_cons]; exact ⟨hks, hsn⟩) (fun x hx => by rcases List.mem_cons.1 hx with rfl | hx; exact hk; exact hsin x hx)
      simp only [List.length_cons] at this
      omega
    refine update_new (by kernel_rfl : Try.prog.underlying 48 = some (.map 3 4)) (by kernel_rfl : Try.prog.underlying 3 = some (.int .i64)) rfl (hS.obj (k := 0) rfl) hfv ?_
    replace hS := St.setO (k := 0) (o' := mapO (seen.map kvB ++ [(.int .i64 k, .bool true)])) hS rfl
    generalize H6.setIfInBounds H2.size (mapO (seen.map kvB ++ [(.int .i64 k, .bool true)])) = H7 at hS
    simp only [setN] at hS
    obtain ⟨j, rfl⟩ : ∃ j : Nat, k = j := ⟨k.toNat, by omega⟩
    have hjd : j < d.length := by omega
    have hrowj : d[j]? = some d[j] := by simp [hjd]
    have hgj : d.getD j [] = d[j] := by simp [List.getD_eq_getElem?_getD, hrowj]
    obtain ⟨p', ja, jc, hp', hcellj, hintsj⟩ := hdir j d[j] hrowj
    cases hp'
    have hdj := hd.at_ j
    rw [hgj] at hdj
    rw [Int.toNat_natCast] at hg ⊢
    rw [hgj] at hg
    refine ⟨by omega, by omega, p, rfl, _, _, _, hS.ext0.cell hcellj, ?_⟩
    have hr' := hr.tail1
    refine append_gen (L := (H2.size, mapO (seen.map kvB ++ [(.int .i64 (j : Int), .bool true)])) :: (H.size, C ((ms ++ [H2.size]).map (fun b => Value.map (some b)) ++ List.replicate (d.length - (i + 1)) (Value.map none)) 48) :: F) (E := E) (by kernel_rfl : appB Try.prog 28 3 1 8 = true) hS hr' (hintsj.grow hS.ext0).src (plain_ints _ _) ?_ ?_ ?_
    · simp only [List.length_cons]
      have : seen.length ≤ 40 := by omega
      have : r.length ≤ 600 * 41 := by omega
      omega
    · simp only [List.length_cons]
      have : seen.length ≤ 40 := by omega
      have : r.length ≤ 600 * 41 := by omega
      omega
    intro a' c' H8 E' hS hr
    simp only [List.length_cons] at hr ⊢
    refine ⟨_, _, _, rfl, ⟨r ++ d[j], seen ++ [(j : Int)], E', m, ?_, ?_, ?_, ?_, ?_, ?_, ?_, ?_, hg⟩, ?_⟩
    · simpa using hS
    · simpa using hr
    · simp
    · intro x hx
      rcases List.mem_append.1 hx with hx | hx
      · exact htin x (by simp [hx])
      · exact hdj.2 x hx
    · rw [List.nodup_append]
      exact ⟨hsn, by simp, fun x hx y hy hxy => by simp at hy; subst hy; subst hxy; exact hks hx⟩
    · intro x hx
      rcases List.mem_append.1 hx with hx | hx
      · exact hsin x hx
      · simp at hx; subst hx; exact hk
    · simp only [List.length_append, List.length_singleton]; omega
    · simp only [List.length_append, List.length_singleton]
      omega
    · show (d.length - mapLen H2.size H8) * 601 + _ < (d.length - mapLen H2.size H6) * 601 + _
      rw [hml, mapLen_of (l := seen.map kvB ++ [(.int .i64 (j : Int), .bool true)]) (hS.obj (k := 0) rfl), List.length_append, List.length_map]
      simp only [List.length_singleton, Int.toNat_natCast]
      simp
      omega
end Go.Vc
set_option linter.unusedVariables false
set_option linter.unusedSimpArgs false
set_option maxRecDepth 100000
namespace Go.Vc
open Go.Proofs

/-! check.Wrong -/
def idxI (v : Int) : List Int → Nat → Int
  | [], _ => -1
  | w :: r, k => if v = w then k else idxI v r (k + 1)
theorem idxI_nonneg (v : Int) : ∀ (ws : List Int) (k : Nat), decide (idxI v ws k ≥ 0) = decide (v ∈ ws)
  | [], k => by simp [idxI]
  | w :: r, k => by
    simp only [idxI]
    split
    · rename_i h; subst h; simp
    · rename_i h
      rw [idxI_nonneg v r (k + 1)]
      simp [h]
theorem Index_int {ws : List Int} {ad : Option Addr} {H : Heap} (hlen : ws.length ≤ 4611686018427387904) (hr : IntsAt H ad ws) (c : Nat) (v : Int) : CallsQ Try.prog 46 ⟨[.slice ad ws.length c, .int .i64 v]⟩ H (.int .i64 (idxI v ws 0)) := by
  apply slices_Index_int_int_calls
  unfold slices_Index_int_int
  refine ⟨fun x H' => H' = H ∧ ∃ k : Nat, x = k ∧ k ≤ ws.length ∧ idxI v ws 0 = idxI v (ws.drop k) k, fun x _ => ((ws.length : Int) - x).toNat, ⟨rfl, 0, rfl, Nat.zero_le _, rfl⟩, ?_⟩
  rintro x H1 ⟨rfl, k, rfl, hk, hi⟩
  refine ifB_mk (fun hc => ?_) (fun hc => ?_)
  · have hc : k < ws.length := by simp at hc; omega
    have hw : ws[k]? = some ws[k] := by simp [hc]
    obtain ⟨p, hp, hcell⟩ := hr.cell hw
    have hd : ws.drop k = ws[k] :: ws.drop (k + 1) := by rw [List.drop_eq_getElem_cons hc]
    refine ⟨by omega, by omega, p, hp, ws[k], by rw [Int.toNat_natCast]; exact hcell, ?_⟩
    refine ifB_mk (fun h => ?_) (fun h => ?_)
    · have h : v = ws[k] := by simpa using h
      refine ⟨?_, rfl⟩
      rw [hi, hd, idxI, if_pos h]
    · have h : ¬ v = ws[k] := by simpa using h
      refine ⟨⟨rfl, k + 1, by rw [i64_id (by omega) (by omega)]; omega, hc, by rw [hi, hd, idxI, if_neg h]⟩, ?_⟩
      show Int.toNat _ < Int.toNat _
      rw [i64_id (by omega) (by omega)]
      omega
  · have hk : k = ws.length := by simp at hc; omega
    subst hk
    rw [hi, List.drop_length]
    exact ⟨rfl, rfl⟩
theorem Contains_int {ws : List Int} {ad : Option Addr} {H : Heap} (hlen : ws.length ≤ 4611686018427387904) (hr : IntsAt H ad ws) (c : Nat) (v : Int) : CallsQ Try.prog 27 ⟨[.slice ad ws.length c, .int .i64 v]⟩ H (.bool (decide (v ∈ ws))) := by
  apply slices_Contains_int_int_calls
  unfold slices_Contains_int_int
  exact (Index_int hlen hr c v).go ⟨_, rfl, by rw [idxI_nonneg], rfl⟩
def firstG (p : Nat → Bool) : Nat → Nat → Option Nat
  | 0, _ => none
  | m + 1, i => if p i = true then some i else firstG p m (i + 1)
theorem firstG_none {p : Nat → Bool} : ∀ {m i : Nat}, firstG p m i = none → ∀ j, i ≤ j → j < i + m → p j = false
  | 0, i, h, j, h1, h2 => by omega
  | m + 1, i, h, j, h1, h2 => by
    simp only [firstG] at h
    split at h
    · cases h
    · rename_i hp
      by_cases e : j = i
      · subst e; simpa using hp
      · exact firstG_none h j (by omega) (by omega)
def dupB (l : List Ru) (i : Nat) : Bool := match l[i]? with
  | some r => decide (findF r.name l 0 < i)
  | none => false
def noneB (l : List Ru) (i : Nat) : Bool := decide ((-1 : Int) ∈ (directF l).getD i [])
def cycB (l : List Ru) (i : Nat) : Bool := decide ((i : Int) ∈ closeF (directF l) i)
def wrongC (l : List Ru) : Int × Int :=
  if (wrongP l).1 ≠ 0 then wrongP l
  else match firstG (dupB l) l.length 0 with
    | some i => (7, i)
    | none => match firstG (noneB l) l.length 0 with
      | some i => (6, i)
      | none => match firstG (cycB l) l.length 0 with
        | some i => (9, i)
        | none => (0, 0)
theorem wrongL_ok : ∀ {l : List Ru} {i : Nat}, (wrongL l i).1 = 0 → ∀ r ∈ l, errR r = 0
  | r :: rs, i, h, x, hx => by
    simp only [wrongL] at h
    split at h
    · rename_i h1; exact absurd h h1
    · rename_i h1
      rcases List.mem_cons.1 hx with rfl | hx
      · simpa using h1
      · exact wrongL_ok h x hx
theorem errR_ok {r : Ru} (h : errR r = 0) : namedF r.name = true ∧ okEx r.e ∧ nodesE r.e ≤ 600 := by
  unfold errR at h
  split at h
  · rename_i h1
    have := sh_ok r.e 1 0 h
    exact ⟨h1, this.1, by omega⟩
  · cases h
theorem wrongP_ok {l : List Ru} (h : (wrongP l).1 = 0) : l.length ≤ 40 ∧ ∀ r ∈ l, namedF r.name = true ∧ okEx r.e ∧ nodesE r.e ≤ 600 := by
  unfold wrongP at h
  split at h
  · cases h
  · exact ⟨by omega, fun r hr => errR_ok (wrongL_ok h r hr)⟩
theorem findF_range (n : ByteArray) : ∀ (l : List Ru) (i : Nat), findF n l i = -1 ∨ ((i : Int) ≤ findF n l i ∧ findF n l i < i + l.length)
  | [], i => by simp [findF]
  | r :: rs, i => by
    simp only [findF, List.length_cons]
    split
    · omega
    · have := findF_range n rs (i + 1); omega
theorem direct_ok {l : List Ru} (hl : l.length ≤ 40) (hok : ∀ r ∈ l, nodesE r.e ≤ 600) (hn : firstG (noneB l) l.length 0 = none) : DirOk (directF l) := by
  have hlen : (directF l).length = l.length := by simp [directF]
  refine ⟨by omega, fun r hr => ?_, fun r hr k hk => ?_⟩
  · simp only [directF, List.mem_map] at hr
    obtain ⟨x, hx, rfl⟩ := hr
    have := nm_len x.e
    have := hok x hx
    simp only [List.length_map]
    omega
  · obtain ⟨i, hi⟩ := List.getElem?_of_mem hr
    have hlt := (List.getElem?_eq_some_iff.1 hi).1
    have h1 := firstG_none hn i (Nat.zero_le _) (by omega)
    simp only [noneB, List.getD_eq_getElem?_getD, hi, Option.getD_some, decide_eq_false_iff_not] at h1
    simp only [directF, List.mem_map] at hr
    obtain ⟨x, hx, rfl⟩ := hr
    obtain ⟨n, hn, rfl⟩ := List.mem_map.1 hk
    have h2 := findF_range n l 0
    rcases h2 with h2 | h2
    · exact absurd (List.mem_map.2 ⟨n, hn, h2⟩) h1
    · omega
set_option maxHeartbeats 1000000 in
theorem Wrong_is {l : List Ru} {ad : Option Addr} {c : Nat} {H : Heap} (hl : RulesAt H ad l) : CallsE Try.prog 14 ⟨[.slice ad l.length c]⟩ H (faultV (wrongC l)) := by
  intro H0 hx0
  replace hl := hl.grow hx0
  generalize hW : wrongC l = W
  unfold wrongC at hW
  apply check_Wrong_calls
  unfold check_Wrong
  have hS := St.start none0 H0
  intro H1
  replace hS : St _ _ H1 _ := St.push hS _
  clear_value H1
  refine (pWrong_is (hl.grow hS.ext0)).call fun H2 hx2 => ⟨_, _, rfl, ?_⟩
  replace hS := hS.grow hx2
  intro H3
  replace hS : St _ _ H3 _ := St.push hS _
  clear_value H3
  refine ⟨St.may (k := 0) hS rfl rfl (by simp [newA, bA, add_off]), ?_⟩
  intro H4
  replace hS : St _ _ H4 _ := St.put (k := 0) hS rfl rfl _
  clear_value H4
  simp only [setN, splice, newA, bA, add_off, add_block, Nat.add_zero, Nat.zero_add, Nat.reduceAdd] at hS
  refine ⟨_, St.cell (k := 0) hS rfl rfl rfl, ?_⟩
  refine ifB_mk (fun h => ?_) (fun h => ?_)
  · have h : (wrongP l).1 ≠ 0 := by simpa using h
    rw [if_pos h] at hW
    refine ⟨_, _, St.atp (k := 0) hS rfl rfl rfl, ?_⟩
    refine ⟨St.may (k := 1) hS rfl rfl (by simp [newA, bA, add_off]), ?_⟩
    intro H5
    replace hS : St _ _ H5 _ := St.put (k := 1) hS rfl rfl _
    clear_value H5
    simp only [setN, splice, newA, bA, add_off, add_block, Nat.add_zero, Nat.zero_add, Nat.reduceAdd] at hS
    refine ⟨_, _, St.atp (k := 1) hS rfl rfl rfl, ?_⟩
    exact ⟨by rw [← hW], hS.ext0⟩
  have h : (wrongP l).1 = 0 := by simpa using h
  rw [if_neg (by simp [h])] at hW
  obtain ⟨hlen, hok⟩ := wrongP_ok h
  replace hS : St none0 H0 H4 [(H0.size, C [.int .i64 0, .int .i64 0] 39)] := hS.sub (List.Sublist.cons _ (List.Sublist.refl _))
  -- names
  generalize hN : firstG (dupB l) l.length 0 = N at hW
  refine ⟨fun x H' => ∃ k m : Nat, x = k ∧ k + m = l.length ∧ St none0 H0 H' [(H0.size, C [.int .i64 0, .int .i64 0] 39)] ∧ firstG (dupB l) m k = N, fun x _ => (l.length - x : Int).toNat, ⟨0, l.length, rfl, by omega, hS, hN⟩, ?_⟩
  clear hN hS
  rintro x H6 ⟨k, m, rfl, hk, hS, hN⟩
  refine ifB_mk (fun hc => ?_) (fun hc => ?_)
  · have hc : k < l.length := by simp at hc; omega
    obtain ⟨m, rfl⟩ : ∃ m', m = m' + 1 := ⟨m - 1, by omega⟩
    have hkk : l[k]? = some l[k] := by simp [hc]
    generalize hrk : l[k] = r at hkk
    obtain ⟨p, cs, rfl, hat, hex⟩ := hl k r hkk
    obtain ⟨ek, ea, eb, en, ead, elen, ecap, rfl⟩ := ruC_of hex
    simp only [firstG, dupB, hkk] at hN
    refine ⟨by omega, by omega, p, rfl, _, _, _, _, _, _, _, _, by rw [Int.toNat_natCast]; exact hat.ext0 hS.ext0, ?_⟩
    intro H7
    replace hS : St _ _ H7 _ := St.push hS _
    clear_value H7
    refine ⟨St.may (k := 0) hS rfl rfl (by simp [newA, bA, add_off]), ?_⟩
    intro H8
    replace hS : St _ _ H8 _ := St.put (k := 0) hS rfl rfl _
    clear_value H8
    simp only [setN, splice, newA, bA, add_off, add_block, Nat.add_zero, Nat.zero_add, Nat.reduceAdd] at hS
    refine ⟨_, St.cell (k := 0) hS rfl rfl rfl, ?_⟩
    refine (Find_is (by omega) (hl.grow hS.ext0) r.name).call fun H9 hx9 => ⟨_, rfl, ?_⟩
    replace hS := hS.grow hx9
    refine ifB_mk (fun h1 => ?_) (fun h1 => ?_)
    · rw [if_pos h1] at hN
      subst hN
      refine ⟨St.may (k := 1) hS rfl rfl (by simp [newA, bA, add_off]), ?_⟩
      intro H10
      replace hS : St _ _ H10 _ := St.put (k := 1) hS rfl rfl _
      clear_value H10
      simp only [setN, splice, newA, bA, add_off, add_block, Nat.add_zero, Nat.zero_add, Nat.reduceAdd] at hS
      refine ⟨_, _, St.atp (k := 1) hS rfl rfl rfl, ?_⟩
      exact ⟨by rw [← hW], hS.ext0⟩
    · rw [if_neg (by rw [h1]; simp)] at hN
      refine ⟨⟨k + 1, m, by rw [i64_id (by omega) (by omega)]; omega, by omega, hS.sub (List.Sublist.cons _ (List.Sublist.refl _)), hN⟩, ?_⟩
      show Int.toNat _ < Int.toNat _
      rw [i64_id (by omega) (by omega)]
      omega
  have hk0 : m = 0 := by simp at hc; omega
  subst hk0
  simp only [firstG] at hN
  subst hN
  simp only at hW
  clear hc hk
  -- unknown ones
  refine (direct_is hlen (fun r hr => (hok r hr).2) (hl.grow hS.ext0)).call (fun v H12 hr => ?_) (fun ch H6 hr5 => by obtain ⟨_, _, hr5, _⟩ := hr5; cases hr5) (fun H6 hr5 => by obtain ⟨_, _, hr5, _⟩ := hr5; cases hr5)
  obtain ⟨da, dc, hv, hx12, hdir⟩ := hr
  simp only [Ending.returned.injEq] at hv
  subst hv
  replace hS := hS.grow hx12
  have hdl : (directF l).length = l.length := by simp [directF]
  refine ⟨_, _, _, rfl, ?_⟩
  generalize hN : firstG (noneB l) l.length 0 = N at hW
  refine ⟨fun x H' => ∃ k m : Nat, x = k ∧ k + m = l.length ∧ H' = H12 ∧ firstG (noneB l) m k = N, fun x _ => (l.length - x : Int).toNat, ⟨0, l.length, rfl, by omega, rfl, hN⟩, ?_⟩
  have hN0 := hN
  clear hN
  rintro x H13 ⟨k, m, rfl, hk, rfl, hN⟩
  refine ifB_mk (fun hc => ?_) (fun hc => ?_)
  · have hc : k < l.length := by simp at hc; omega
    obtain ⟨m, rfl⟩ : ∃ m', m = m' + 1 := ⟨m - 1, by omega⟩
    have hdk : (directF l)[k]? = some (directF l)[k] := by simp [hdl, hc]
    obtain ⟨p, ka, kc, rfl, hcell, hints⟩ := hdir k _ hdk
    have hrl : ((directF l)[k]).length ≤ 600 := by
      have : (directF l)[k] ∈ directF l := List.getElem_mem _
      generalize (directF l)[k] = row at this
      simp only [directF, List.mem_map] at this
      obtain ⟨y, hy, rfl⟩ := this
      have := nm_len y.e
      have := (hok y hy).2.2
      simp only [List.length_map]; omega
    simp only [firstG, noneB, List.getD_eq_getElem?_getD, hdk, Option.getD_some] at hN
    refine ⟨by omega, by omega, p, rfl, _, _, _, by rw [Int.toNat_natCast]; exact hcell, (Contains_int (by omega) hints kc (-1)).go ⟨_, rfl, ?_⟩⟩
    refine ifB_mk (fun h1 => ?_) (fun h1 => ?_)
    · rw [if_pos h1] at hN
      subst hN
      refine ⟨St.may (k := 0) hS rfl rfl (by simp [newA, bA, add_off]), ?_⟩
      intro H15
      replace hS : St _ _ H15 _ := St.put (k := 0) hS rfl rfl _
      clear_value H15
      simp only [setN, splice, newA, bA, add_off, add_block, Nat.add_zero, Nat.zero_add, Nat.reduceAdd] at hS
      refine ⟨_, _, St.atp (k := 0) hS rfl rfl rfl, ?_⟩
      exact ⟨by rw [← hW], hS.ext0⟩
    · rw [if_neg (by rw [h1]; simp)] at hN
      refine ⟨⟨k + 1, m, by rw [i64_id (by omega) (by omega)]; omega, by omega, rfl, hN⟩, ?_⟩
      show Int.toNat _ < Int.toNat _
      rw [i64_id (by omega) (by omega)]
      omega
  have hk0 : m = 0 := by simp at hc; omega
  subst hk0
  simp only [firstG] at hN
  subst hN
  simp only at hW
  clear hc hk
  have hdok := direct_ok hlen (fun r hr => (hok r hr).2.2) hN0
  -- cycles
  rw [← hdl]
  refine (closed_is hdok hdir).call (fun v H17 hr => ?_) (fun ch H6 hr5 => by obtain ⟨_, hr5, _⟩ := hr5; cases hr5) (fun H6 hr5 => by obtain ⟨_, hr5, _⟩ := hr5; cases hr5)
  obtain ⟨ca, hv, hx17, hmaps⟩ := hr
  simp only [Ending.returned.injEq] at hv
  subst hv
  replace hS := hS.grow hx17
  refine ⟨_, _, _, rfl, ?_⟩
  generalize hN : firstG (cycB l) l.length 0 = N at hW
  refine ⟨fun x H' => ∃ k m : Nat, x = k ∧ k + m = l.length ∧ H' = H17 ∧ firstG (cycB l) m k = N, fun x _ => (l.length - x : Int).toNat, ⟨0, l.length, rfl, by omega, rfl, hN⟩, ?_⟩
  clear hN
  rintro x H18 ⟨k, m, rfl, hk, rfl, hN⟩
  refine ifB_mk (fun hc => ?_) (fun hc => ?_)
  · have hc : k < l.length := by simp at hc; omega
    obtain ⟨m, rfl⟩ : ∃ m', m = m' + 1 := ⟨m - 1, by omega⟩
    obtain ⟨b, hcell, hmap⟩ := hmaps k (by omega)
    simp only [firstG] at hN
    refine ⟨by omega, by omega, ca, rfl, some b, by rw [Int.toNat_natCast]; exact hcell, _, set_look hmap k, ?_⟩
    refine ifB_mk (fun h1 => ?_) (fun h1 => ?_)
    · have h1 : cycB l k = true := h1
      rw [if_pos h1] at hN
      subst hN
      refine ⟨St.may (k := 0) hS rfl rfl (by simp [newA, bA, add_off]), ?_⟩
      intro H19
      replace hS : St _ _ H19 _ := St.put (k := 0) hS rfl rfl _
      clear_value H19
      simp only [setN, splice, newA, bA, add_off, add_block, Nat.add_zero, Nat.zero_add, Nat.reduceAdd] at hS
      refine ⟨_, _, St.atp (k := 0) hS rfl rfl rfl, ?_⟩
      exact ⟨by rw [← hW], hS.ext0⟩
    · have h1 : cycB l k = false := h1
      rw [if_neg (by rw [h1]; simp)] at hN
      refine ⟨⟨k + 1, m, by rw [i64_id (by omega) (by omega)]; omega, by omega, rfl, hN⟩, ?_⟩
      show Int.toNat _ < Int.toNat _
      rw [i64_id (by omega) (by omega)]
      omega
  have hk0 : m = 0 := by simp at hc; omega
  subst hk0
  simp only [firstG] at hN
  subst hN
  refine ⟨St.may (k := 0) hS rfl rfl (by simp [newA, bA, add_off]), ?_⟩
  intro H20
  replace hS : St _ _ H20 _ := St.put (k := 0) hS rfl rfl _
  clear_value H20
  simp only [setN, splice, newA, bA, add_off, add_block, Nat.add_zero, Nat.zero_add, Nat.reduceAdd] at hS
  refine ⟨_, _, St.atp (k := 0) hS rfl rfl rfl, ?_⟩
  exact ⟨by rw [← hW], hS.ext0⟩
end Go.Vc
