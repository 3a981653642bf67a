/- CheckMore is proved: a rule more that nobody speaks of, of a new name, and that speaks of none, leaves rules as they were; for every input, with no condition. This text is a part of the way there. -/
import Derived.Test.YtdhbekcmjnifnaaMd4
import Derived.KernelRfl
import Derived.Laws.Strings
import Derived.Lib.Strings
import Derived.Lib.Slices
import Derived.Lib.Walk
import Derived.Lib.Bytealg
import Derived.DeepKeys
import Derived.Deep.AppendSrc
import Derived.Laws.AppendOwn
set_option linter.unusedVariables false
set_option maxRecDepth 100000
namespace Go.Vc
open Go.Proofs

/-! slotrules lex.Named -/
def lex_Named (s0 : ByteArray) (H : Heap) (R : Ending → Heap → Prop) : Prop :=
  ∃ J17 : Bool → Heap → Prop, ifB ((decide ((s0.size : Int) < 1)) || (decide ((s0.size : Int) > 20))) (J17 true H) ((0 : Int) ≤ 0 ∧ 0 < (s0.size : Int) ∧ CallsH Try.prog 50 ⟨[(.int .u8 (byteAt s0 0))]⟩ H (onCall (fun rx15 H2 => ∃ x15 : Bool, rx15 = (.bool x15) ∧ J17 (!x15) H2) (fun ch H3 => R (.panicked ch) H3))) ∧ ∀ (q17 : Bool) (H1 : Heap), J17 q17 H1 → ∃ J22 : Bool → Heap → Prop, ifB q17 (J22 true H1) (CallsH Try.prog 52 ⟨[]⟩ H1 (onCall (fun rx19 H5 => ∃ (x19a : Option Addr) (x19n x19c : Nat), rx19 = (.slice x19a x19n x19c) ∧ CallsH Try.prog 51 ⟨[(.slice x19a x19n x19c), (.string s0)]⟩ H5 (onCall (fun rx21 H6 => ∃ x21 : Bool, rx21 = (.bool x21) ∧ J22 x21 H6) (fun ch H7 => R (.panicked ch) H7))) (fun ch H8 => R (.panicked ch) H8))) ∧ ∀ (q22 : Bool) (H4 : Heap), J22 q22 H4 → ifB q22
  (R (.returned (.bool false)) H4)
  (∃ (I4 : Int → Heap → Prop) (m4 : Int → Heap → Nat), I4 0 H4 ∧ ∀ (x25 : Int) (H9 : Heap), I4 x25 H9 → 
  ifB (decide (x25 < (s0.size : Int)))
  ((0 : Int) ≤ x25 ∧ x25 < (s0.size : Int) ∧ CallsH Try.prog 50 ⟨[(.int .u8 (byteAt s0 x25))]⟩ H9 (onCall (fun rx31 H10 => ∃ x31 : Bool, rx31 = (.bool x31) ∧ ∃ J39 : Bool → Heap → Prop, ifB (!x31) ((0 : Int) ≤ x25 ∧ x25 < (s0.size : Int) ∧ CallsH Try.prog 53 ⟨[(.int .u8 (byteAt s0 x25))]⟩ H10 (onCall (fun rx37 H12 => ∃ x37 : Bool, rx37 = (.bool x37) ∧ J39 (!x37) H12) (fun ch H13 => R (.panicked ch) H13))) (J39 false H10) ∧ ∀ (q39 : Bool) (H11 : Heap), J39 q39 H11 → ∃ q45 : Bool, ifB q39 ((0 : Int) ≤ x25 ∧ x25 < (s0.size : Int) ∧ ((byteAt s0 x25) != 95) = q45 ∧ H11 = H11) (false = q45) ∧ ifB q45
  (R (.returned (.bool false)) H11)
  ((I4 (IntKind.i64.wrap (x25 + 1)) H11 ∧ m4 (IntKind.i64.wrap (x25 + 1)) H11 < m4 x25 H9))) (fun ch H14 => R (.panicked ch) H14)))
  (R (.returned (.bool true)) H9))
def lex_Named_ann : Ann := ⟨lookN (false, 0) [], lookN [] [], lookN [] [(4, [(25, .int .i64)])]⟩
theorem lex_Named_den (s0 : ByteArray) (H : Heap) (R : Ending → Heap → Prop) : denF Try.prog Try.f30 lex_Named_ann [(.string s0)] H R = lex_Named s0 H R := by kernel_rfl
theorem lex_Named_calls (s0 : ByteArray) {H : Heap} {R : Ending → Heap → Prop} (h : lex_Named s0 H R) : CallsH Try.prog 30 ⟨[(.string s0)]⟩ H R :=
  callsH_of namesOk mixedOk Try.func30 (ann := lex_Named_ann) (by rw [lex_Named_den]; exact h)

/-! slotrules lex.small -/
def lex_small (c0 : Int) (H : Heap) (R : Ending → Heap → Prop) : Prop :=
  R (.returned (.bool ((decide (c0 ≥ 97)) && (decide (c0 ≤ 122))))) H
def lex_small_ann : Ann := ⟨lookN (false, 0) [], lookN [] [], lookN [] []⟩
theorem lex_small_den (c0 : Int) (H : Heap) (R : Ending → Heap → Prop) : denF Try.prog Try.f50 lex_small_ann [(.int .u8 c0)] H R = lex_small c0 H R := by kernel_rfl
theorem lex_small_calls (c0 : Int) {H : Heap} {R : Ending → Heap → Prop} (h : lex_small c0 H R) : CallsH Try.prog 50 ⟨[(.int .u8 c0)]⟩ H R :=
  callsH_of namesOk mixedOk Try.func50 (ann := lex_small_ann) (by rw [lex_small_den]; exact h)

/-! slotrules lex.Words -/
def lex_Words (H : Heap) (R : Ending → Heap → Prop) : Prop :=
  let H1 : Heap := H.push (.cells ⟨[(.string (⟨#[97, 108, 119, 97, 121, 115]⟩ : ByteArray)), (.string (⟨#[100, 97, 116, 101, 115]⟩ : ByteArray)), (.string (⟨#[102, 114, 105]⟩ : ByteArray)), (.string (⟨#[109, 111, 110]⟩ : ByteArray)), (.string (⟨#[110, 101, 118, 101, 114]⟩ : ByteArray)), (.string (⟨#[114, 117, 108, 101]⟩ : ByteArray)), (.string (⟨#[115, 97, 116]⟩ : ByteArray)), (.string (⟨#[115, 104, 105, 102, 116]⟩ : ByteArray)), (.string (⟨#[115, 117, 110]⟩ : ByteArray)), (.string (⟨#[116, 104, 117]⟩ : ByteArray)), (.string (⟨#[116, 117, 101]⟩ : ByteArray)), (.string (⟨#[119, 101, 100]⟩ : ByteArray)), (.string (⟨#[119, 101, 101, 107, 108, 121]⟩ : ByteArray))]⟩ 9)
  R (.returned (.slice (some (newA H)) 13 13)) H1
def lex_Words_ann : Ann := ⟨lookN (false, 0) [], lookN [] [], lookN [] []⟩
theorem lex_Words_den (H : Heap) (R : Ending → Heap → Prop) : denF Try.prog Try.f52 lex_Words_ann [] H R = lex_Words  H R := by kernel_rfl
theorem lex_Words_calls {H : Heap} {R : Ending → Heap → Prop} (h : lex_Words  H R) : CallsH Try.prog 52 ⟨[]⟩ H R :=
  callsH_of namesOk mixedOk Try.func52 (ann := lex_Words_ann) (by rw [lex_Words_den]; exact h)

/-! slotrules lex.digit -/
def lex_digit (c0 : Int) (H : Heap) (R : Ending → Heap → Prop) : Prop :=
  R (.returned (.bool ((decide (c0 ≥ 48)) && (decide (c0 ≤ 57))))) H
def lex_digit_ann : Ann := ⟨lookN (false, 0) [], lookN [] [], lookN [] []⟩
theorem lex_digit_den (c0 : Int) (H : Heap) (R : Ending → Heap → Prop) : denF Try.prog Try.f53 lex_digit_ann [(.int .u8 c0)] H R = lex_digit c0 H R := by kernel_rfl
theorem lex_digit_calls (c0 : Int) {H : Heap} {R : Ending → Heap → Prop} (h : lex_digit c0 H R) : CallsH Try.prog 53 ⟨[(.int .u8 c0)]⟩ H R :=
  callsH_of namesOk mixedOk Try.func53 (ann := lex_digit_ann) (by rw [lex_digit_den]; exact h)

/-! slotrules lex.Lex -/
def lex_Lex (s0 : ByteArray) (H : Heap) (R : Ending → Heap → Prop) : Prop :=
  let H1 : Heap := H.push (.cells ⟨[(.int .i64 0), (.int .i64 0)]⟩ 39)
  ifB (decide ((s0.size : Int) > 6000))
  (MayPut H1 (newA H) 2 ∧ let H2 : Heap := putH H1 (newA H) ([(.int .i64 4), (.int .i64 0)])
  ∃ o3_0 : Int, ∃ o3_1 : Int, At H2 (newA H) ([(.int .i64 o3_0), (.int .i64 o3_1)]) ∧ R (.returned (.tuple ⟨[(.slice none 0 0), (.agg ⟨[(.int .i64 o3_0), (.int .i64 o3_1)]⟩)]⟩)) H2)
  (∃ (I5 : Option Addr → Nat → Nat → Int → Heap → Prop) (m5 : Option Addr → Nat → Nat → Int → Heap → Nat), I5 none 0 0 0 H1 ∧ ∀ (out4a : Option Addr) (out4n : Nat) (out4c : Nat) (at5 : Int) (H3 : Heap), I5 out4a out4n out4c at5 H3 → 
  ifB (decide (at5 < (s0.size : Int)))
  ((0 : Int) ≤ at5 ∧ at5 < (s0.size : Int) ∧ ∃ q27 : Bool, ifB ((byteAt s0 at5) == 32) (true = q27) ((0 : Int) ≤ at5 ∧ at5 < (s0.size : Int) ∧ ((byteAt s0 at5) == 10) = q27 ∧ H3 = H3) ∧ ∃ q33 : Bool, ifB q27 (true = q33) ((0 : Int) ≤ at5 ∧ at5 < (s0.size : Int) ∧ ((byteAt s0 at5) == 9) = q33 ∧ H3 = H3) ∧ ifB q33
  ((I5 out4a out4n out4c (IntKind.i64.wrap (at5 + 1)) H3 ∧ m5 out4a out4n out4c (IntKind.i64.wrap (at5 + 1)) H3 < m5 out4a out4n out4c at5 H3))
  ((0 : Int) ≤ at5 ∧ at5 < (s0.size : Int) ∧ ifB ((byteAt s0 at5) == 35)
  (∃ (I9 : Int → Heap → Prop) (m9 : Int → Heap → Nat), I9 at5 H3 ∧ ∀ (at5_9 : Int) (H4 : Heap), I9 at5_9 H4 → 
  ∃ q50 : Bool, ifB (decide (at5_9 < (s0.size : Int))) ((0 : Int) ≤ at5_9 ∧ at5_9 < (s0.size : Int) ∧ ((byteAt s0 at5_9) != 10) = q50 ∧ H4 = H4) (false = q50) ∧ ifB q50
  ((I9 (IntKind.i64.wrap (at5_9 + 1)) H4 ∧ m9 (IntKind.i64.wrap (at5_9 + 1)) H4 < m9 at5_9 H4))
  ((I5 out4a out4n out4c at5_9 H4 ∧ m5 out4a out4n out4c at5_9 H4 < m5 out4a out4n out4c at5 H3)))
  ((0 : Int) ≤ at5 ∧ (at5 : Int) ≤ (s0.size : Int) ∧ ((s0.size : Int) : Int) ≤ (s0.size : Int) ∧ CallsH Try.prog 79 ⟨[(.string (s0.extract (Int.toNat at5) (Int.toNat (s0.size : Int))))]⟩ H3 (onCall (fun rx57 H5 => ∃ x57_0_0 : Int, ∃ x57_0_1 : Int, ∃ x57_0_2 : Int, ∃ x57_0_3 : ByteArray, ∃ x57_1 : Int, ∃ x57_2 : Int, rx57 = (.tuple ⟨[(.agg ⟨[(.int .i64 x57_0_0), (.int .i64 x57_0_1), (.int .i64 x57_0_2), (.string x57_0_3)]⟩), (.int .i64 x57_1), (.int .i64 x57_2)]⟩) ∧ let H6 : Heap := H5.push (.cells ⟨[(.int .i64 0), (.int .i64 0), (.int .i64 0), (.string (⟨#[]⟩ : ByteArray))]⟩ 111)
  MayPut H6 (newA H5) 4 ∧ let H7 : Heap := putH H6 (newA H5) ([(.int .i64 x57_0_0), (.int .i64 x57_0_1), (.int .i64 x57_0_2), (.string x57_0_3)])
  ifB (x57_2 != 0)
  (MayPut H7 (newA H) 2 ∧ let H8 : Heap := putH H7 (newA H) ([(.int .i64 x57_2), (.int .i64 at5)])
  ∃ o3_0 : Int, ∃ o3_1 : Int, At H8 (newA H) ([(.int .i64 o3_0), (.int .i64 o3_1)]) ∧ R (.returned (.tuple ⟨[(.slice none 0 0), (.agg ⟨[(.int .i64 o3_0), (.int .i64 o3_1)]⟩)]⟩)) H8)
  (MayPut H7 ((newA H5).add 2) 1 ∧ let H9 : Heap := putH H7 ((newA H5).add 2) ([(.int .i64 at5)])
  ∃ x69_0 : Int, ∃ x69_1 : Int, ∃ x69_2 : Int, ∃ x69_3 : ByteArray, At H9 (newA H5) ([(.int .i64 x69_0), (.int .i64 x69_1), (.int .i64 x69_2), (.string x69_3)]) ∧ let H10 : Heap := H9.push (.cells ⟨[(.int .i64 x69_0), (.int .i64 x69_1), (.int .i64 x69_2), (.string x69_3)]⟩ 111)
  RunD Try.prog (Builtin.append_ #[100, 100] 100 ⟨[(.slice out4a out4n out4c), (.slice (some (newA H9)) 1 1)]⟩) H10 (fun rx71 H11 => ∃ (x71a : Option Addr) (x71n x71c : Nat), rx71 = (.slice x71a x71n x71c) ∧ (I5 x71a x71n x71c (IntKind.i64.wrap (at5 + x57_1)) H11 ∧ m5 x71a x71n x71c (IntKind.i64.wrap (at5 + x57_1)) H11 < m5 out4a out4n out4c at5 H3)))) (fun ch H12 => R (.panicked ch) H12)))))
  (MayPut H3 (newA H) 2 ∧ let H13 : Heap := putH H3 (newA H) ([(.int .i64 0), (.int .i64 0)])
  ∃ o3_0 : Int, ∃ o3_1 : Int, At H13 (newA H) ([(.int .i64 o3_0), (.int .i64 o3_1)]) ∧ R (.returned (.tuple ⟨[(.slice out4a out4n out4c), (.agg ⟨[(.int .i64 o3_0), (.int .i64 o3_1)]⟩)]⟩)) H13))
def lex_Lex_ann : Ann := ⟨lookN (false, 0) [], lookN [] [], lookN [] [(5, [(4, .slc), (5, .int .i64)]), (9, [(5, .int .i64)])]⟩
theorem lex_Lex_den (s0 : ByteArray) (H : Heap) (R : Ending → Heap → Prop) : denF Try.prog Try.f55 lex_Lex_ann [(.string s0)] H R = lex_Lex s0 H R := by kernel_rfl
theorem lex_Lex_calls (s0 : ByteArray) {H : Heap} {R : Ending → Heap → Prop} (h : lex_Lex s0 H R) : CallsH Try.prog 55 ⟨[(.string s0)]⟩ H R :=
  callsH_of namesOk mixedOk Try.func55 (ann := lex_Lex_ann) (by rw [lex_Lex_den]; exact h)

/-! slotrules lex.one -/
def lex_one_k1 (H : Heap) (k9 : Int) (H21 : Heap) (H33 : Heap) (R : Ending → Heap → Prop) : Prop :=
  ∃ x121_0 : Int, ∃ x121_1 : Int, ∃ x121_2 : Int, ∃ x121_3 : ByteArray, At H33 (newA H21) ([(.int .i64 x121_0), (.int .i64 x121_1), (.int .i64 x121_2), (.string x121_3)]) ∧ MayPut H33 (newA H) 4 ∧ let H34 : Heap := putH H33 (newA H) ([(.int .i64 x121_0), (.int .i64 x121_1), (.int .i64 x121_2), (.string x121_3)])
  ∃ o2_0 : Int, ∃ o2_1 : Int, ∃ o2_2 : Int, ∃ o2_3 : ByteArray, At H34 (newA H) ([(.int .i64 o2_0), (.int .i64 o2_1), (.int .i64 o2_2), (.string o2_3)]) ∧ R (.returned (.tuple ⟨[(.agg ⟨[(.int .i64 o2_0), (.int .i64 o2_1), (.int .i64 o2_2), (.string o2_3)]⟩), (.int .i64 k9), (.int .i64 0)]⟩)) H34
def lex_one (s0 : ByteArray) (H : Heap) (R : Ending → Heap → Prop) : Prop :=
  let H1 : Heap := H.push (.cells ⟨[(.int .i64 0), (.int .i64 0), (.int .i64 0), (.string (⟨#[]⟩ : ByteArray))]⟩ 111)
  CallsH Try.prog 90 ⟨[(.string s0), (.string (⟨#[100, 100, 100, 100, 45, 100, 100, 45, 100, 100]⟩ : ByteArray))]⟩ H1 (onCall (fun rx13 H2 => ∃ x13 : Bool, rx13 = (.bool x13) ∧ ifB x13
  ((0 : Int) ≤ 0 ∧ (0 : Int) ≤ 4 ∧ (4 : Int) ≤ (s0.size : Int) ∧ ∃ x17 : Int, CallsE Try.prog 92 ⟨[(.string (s0.extract (Int.toNat 0) (Int.toNat 4)))]⟩ H2 (.int .i64 x17) ∧ (0 : Int) ≤ 5 ∧ (5 : Int) ≤ 7 ∧ (7 : Int) ≤ (s0.size : Int) ∧ ∃ x20 : Int, CallsE Try.prog 92 ⟨[(.string (s0.extract (Int.toNat 5) (Int.toNat 7)))]⟩ H2 (.int .i64 x20) ∧ (0 : Int) ≤ 8 ∧ (8 : Int) ≤ 10 ∧ (10 : Int) ≤ (s0.size : Int) ∧ ∃ x23 : Int, CallsE Try.prog 92 ⟨[(.string (s0.extract (Int.toNat 8) (Int.toNat 10)))]⟩ H2 (.int .i64 x23) ∧ ∃ x25_0 : Int, ∃ x25_1 : Int, CallsE Try.prog 91 ⟨[(.agg ⟨[(.int .i64 x17), (.int .i64 x20), (.int .i64 x23)]⟩)]⟩ H2 (.tuple ⟨[(.int .i64 x25_0), (.int .i64 x25_1)]⟩) ∧ ∀ H3 : Heap, Ext0 H2 H3 → MayPut H3 (newA H) 4 ∧ let H4 : Heap := putH H3 (newA H) ([(.int .i64 5), (.int .i64 x25_0), (.int .i64 0), (.string (⟨#[]⟩ : ByteArray))])
  ∃ o2_0 : Int, ∃ o2_1 : Int, ∃ o2_2 : Int, ∃ o2_3 : ByteArray, At H4 (newA H) ([(.int .i64 o2_0), (.int .i64 o2_1), (.int .i64 o2_2), (.string o2_3)]) ∧ R (.returned (.tuple ⟨[(.agg ⟨[(.int .i64 o2_0), (.int .i64 o2_1), (.int .i64 o2_2), (.string o2_3)]⟩), (.int .i64 10), (.int .i64 x25_1)]⟩)) H4)
  (CallsH Try.prog 90 ⟨[(.string s0), (.string (⟨#[100, 100, 58, 100, 100]⟩ : ByteArray))]⟩ H2 (onCall (fun rx33 H5 => ∃ x33 : Bool, rx33 = (.bool x33) ∧ ifB x33
  ((0 : Int) ≤ 0 ∧ (0 : Int) ≤ 2 ∧ (2 : Int) ≤ (s0.size : Int) ∧ ∃ x36 : Int, CallsQ Try.prog 92 ⟨[(.string (s0.extract (Int.toNat 0) (Int.toNat 2)))]⟩ H5 (.int .i64 x36) ∧ (0 : Int) ≤ 3 ∧ (3 : Int) ≤ 5 ∧ (5 : Int) ≤ (s0.size : Int) ∧ ∃ x40 : Int, CallsQ Try.prog 92 ⟨[(.string (s0.extract (Int.toNat 3) (Int.toNat 5)))]⟩ H5 (.int .i64 x40) ∧ (0 : Int) ≤ 3 ∧ (3 : Int) ≤ 5 ∧ (5 : Int) ≤ (s0.size : Int) ∧ CallsH Try.prog 92 ⟨[(.string (s0.extract (Int.toNat 3) (Int.toNat 5)))]⟩ H5 (onCall (fun rx44 H6 => ∃ x44 : Int, rx44 = (.int .i64 x44) ∧ ifB ((decide (x44 > 59)) || (decide ((IntKind.i64.wrap ((IntKind.i64.wrap (60 * x36)) + x40)) > 1440)))
  (MayPut H6 (newA H) 4 ∧ let H7 : Heap := putH H6 (newA H) ([(.int .i64 0), (.int .i64 0), (.int .i64 0), (.string (⟨#[]⟩ : ByteArray))])
  ∃ o2_0 : Int, ∃ o2_1 : Int, ∃ o2_2 : Int, ∃ o2_3 : ByteArray, At H7 (newA H) ([(.int .i64 o2_0), (.int .i64 o2_1), (.int .i64 o2_2), (.string o2_3)]) ∧ R (.returned (.tuple ⟨[(.agg ⟨[(.int .i64 o2_0), (.int .i64 o2_1), (.int .i64 o2_2), (.string o2_3)]⟩), (.int .i64 5), (.int .i64 3)]⟩)) H7)
  (MayPut H6 (newA H) 4 ∧ let H8 : Heap := putH H6 (newA H) ([(.int .i64 4), (.int .i64 (IntKind.i64.wrap ((IntKind.i64.wrap (60 * x36)) + x40))), (.int .i64 0), (.string (⟨#[]⟩ : ByteArray))])
  ∃ o2_0 : Int, ∃ o2_1 : Int, ∃ o2_2 : Int, ∃ o2_3 : ByteArray, At H8 (newA H) ([(.int .i64 o2_0), (.int .i64 o2_1), (.int .i64 o2_2), (.string o2_3)]) ∧ R (.returned (.tuple ⟨[(.agg ⟨[(.int .i64 o2_0), (.int .i64 o2_1), (.int .i64 o2_2), (.string o2_3)]⟩), (.int .i64 5), (.int .i64 0)]⟩)) H8)) (fun ch H9 => R (.panicked ch) H9)))
  ((0 : Int) ≤ 0 ∧ 0 < (s0.size : Int) ∧ CallsH Try.prog 53 ⟨[(.int .u8 (byteAt s0 0))]⟩ H5 (onCall (fun rx56 H10 => ∃ x56 : Bool, rx56 = (.bool x56) ∧ ifB x56
  (∃ (I11 : Int → Heap → Prop) (m11 : Int → Heap → Nat), I11 0 H10 ∧ ∀ (k8 : Int) (H11 : Heap), I11 k8 H11 → 
  ∃ J66 : Bool → Heap → Prop, ifB (decide (k8 < (s0.size : Int))) ((0 : Int) ≤ k8 ∧ k8 < (s0.size : Int) ∧ CallsH Try.prog 53 ⟨[(.int .u8 (byteAt s0 k8))]⟩ H11 (onCall (fun rx65 H13 => ∃ x65 : Bool, rx65 = (.bool x65) ∧ J66 x65 H13) (fun ch H14 => R (.panicked ch) H14))) (J66 false H11) ∧ ∀ (q66 : Bool) (H12 : Heap), J66 q66 H12 → ifB q66
  ((I11 (IntKind.i64.wrap (k8 + 1)) H12 ∧ m11 (IntKind.i64.wrap (k8 + 1)) H12 < m11 k8 H11))
  (ifB (decide (k8 > 6))
  (MayPut H12 (newA H) 4 ∧ let H15 : Heap := putH H12 (newA H) ([(.int .i64 0), (.int .i64 0), (.int .i64 0), (.string (⟨#[]⟩ : ByteArray))])
  ∃ o2_0 : Int, ∃ o2_1 : Int, ∃ o2_2 : Int, ∃ o2_3 : ByteArray, At H15 (newA H) ([(.int .i64 o2_0), (.int .i64 o2_1), (.int .i64 o2_2), (.string o2_3)]) ∧ R (.returned (.tuple ⟨[(.agg ⟨[(.int .i64 o2_0), (.int .i64 o2_1), (.int .i64 o2_2), (.string o2_3)]⟩), (.int .i64 k8), (.int .i64 3)]⟩)) H15)
  ((0 : Int) ≤ 0 ∧ (0 : Int) ≤ k8 ∧ (k8 : Int) ≤ (s0.size : Int) ∧ CallsH Try.prog 92 ⟨[(.string (s0.extract (Int.toNat 0) (Int.toNat k8)))]⟩ H12 (onCall (fun rx76 H16 => ∃ x76 : Int, rx76 = (.int .i64 x76) ∧ MayPut H16 (newA H) 4 ∧ let H17 : Heap := putH H16 (newA H) ([(.int .i64 6), (.int .i64 x76), (.int .i64 0), (.string (⟨#[]⟩ : ByteArray))])
  ∃ o2_0 : Int, ∃ o2_1 : Int, ∃ o2_2 : Int, ∃ o2_3 : ByteArray, At H17 (newA H) ([(.int .i64 o2_0), (.int .i64 o2_1), (.int .i64 o2_2), (.string o2_3)]) ∧ R (.returned (.tuple ⟨[(.agg ⟨[(.int .i64 o2_0), (.int .i64 o2_1), (.int .i64 o2_2), (.string o2_3)]⟩), (.int .i64 k8), (.int .i64 0)]⟩)) H17) (fun ch H18 => R (.panicked ch) H18)))))
  ((0 : Int) ≤ 0 ∧ 0 < (s0.size : Int) ∧ CallsH Try.prog 50 ⟨[(.int .u8 (byteAt s0 0))]⟩ H10 (onCall (fun rx82 H19 => ∃ x82 : Bool, rx82 = (.bool x82) ∧ ifB x82
  (∃ (I18 : Int → Heap → Prop) (m18 : Int → Heap → Nat), I18 0 H19 ∧ ∀ (k9 : Int) (H20 : Heap), I18 k9 H20 → 
  ∃ J104 : Bool → Heap → Prop, ifB (decide (k9 < (s0.size : Int))) ((0 : Int) ≤ k9 ∧ k9 < (s0.size : Int) ∧ CallsH Try.prog 50 ⟨[(.int .u8 (byteAt s0 k9))]⟩ H20 (onCall (fun rx91 H22 => ∃ x91 : Bool, rx91 = (.bool x91) ∧ ∃ J97 : Bool → Heap → Prop, ifB x91 (J97 true H22) ((0 : Int) ≤ k9 ∧ k9 < (s0.size : Int) ∧ CallsH Try.prog 53 ⟨[(.int .u8 (byteAt s0 k9))]⟩ H22 (onCall (fun rx96 H24 => ∃ x96 : Bool, rx96 = (.bool x96) ∧ J97 x96 H24) (fun ch H25 => R (.panicked ch) H25))) ∧ ∀ (q97 : Bool) (H23 : Heap), J97 q97 H23 → ∃ q103 : Bool, ifB q97 (true = q103) ((0 : Int) ≤ k9 ∧ k9 < (s0.size : Int) ∧ ((byteAt s0 k9) == 95) = q103 ∧ H23 = H23) ∧ J104 q103 H23) (fun ch H26 => R (.panicked ch) H26))) (J104 false H20) ∧ ∀ (q104 : Bool) (H21 : Heap), J104 q104 H21 → ifB q104
  ((I18 (IntKind.i64.wrap (k9 + 1)) H21 ∧ m18 (IntKind.i64.wrap (k9 + 1)) H21 < m18 k9 H20))
  (ifB (decide (k9 > 20))
  (MayPut H21 (newA H) 4 ∧ let H27 : Heap := putH H21 (newA H) ([(.int .i64 0), (.int .i64 0), (.int .i64 0), (.string (⟨#[]⟩ : ByteArray))])
  ∃ o2_0 : Int, ∃ o2_1 : Int, ∃ o2_2 : Int, ∃ o2_3 : ByteArray, At H27 (newA H) ([(.int .i64 o2_0), (.int .i64 o2_1), (.int .i64 o2_2), (.string o2_3)]) ∧ R (.returned (.tuple ⟨[(.agg ⟨[(.int .i64 o2_0), (.int .i64 o2_1), (.int .i64 o2_2), (.string o2_3)]⟩), (.int .i64 k9), (.int .i64 7)]⟩)) H27)
  ((0 : Int) ≤ 0 ∧ (0 : Int) ≤ k9 ∧ (k9 : Int) ≤ (s0.size : Int) ∧ let H28 : Heap := H21.push (.cells ⟨[(.int .i64 0), (.int .i64 0), (.int .i64 0), (.string (⟨#[]⟩ : ByteArray))]⟩ 111)
  MayPut H28 (newA H21) 4 ∧ let H29 : Heap := putH H28 (newA H21) ([(.int .i64 1), (.int .i64 0), (.int .i64 0), (.string (s0.extract (Int.toNat 0) (Int.toNat k9)))])
  (0 : Int) ≤ 0 ∧ (0 : Int) ≤ k9 ∧ (k9 : Int) ≤ (s0.size : Int) ∧ CallsH Try.prog 52 ⟨[]⟩ H29 (onCall (fun rx115 H30 => ∃ (x115a : Option Addr) (x115n x115c : Nat), rx115 = (.slice x115a x115n x115c) ∧ ((0 : Int) ≤ 0 ∧ (0 : Int) ≤ k9 ∧ (k9 : Int) ≤ (s0.size : Int) ∧ ((.string (s0.extract (Int.toNat 0) (Int.toNat k9))) : Value) = (.string (s0.extract (Int.toNat 0) (Int.toNat k9)))) ∧ (((.int .i64 k9) : Value) = (.int .i64 k9)) ∧ (((.string s0) : Value) = (.string s0)) ∧ CallsH Try.prog 51 ⟨[(.slice x115a x115n x115c), (.string (s0.extract (Int.toNat 0) (Int.toNat k9)))]⟩ H30 (onCall (fun rx119 H31 => ∃ x119 : Bool, rx119 = (.bool x119) ∧ ifB x119
  (MayPut H31 ((newA H21).add 0) 1 ∧ let H32 : Heap := putH H31 ((newA H21).add 0) ([(.int .i64 2)])
  lex_one_k1 H k9 H21 H32 R)
  (lex_one_k1 H k9 H21 H31 R)) (fun ch H35 => R (.panicked ch) H35))) (fun ch H36 => R (.panicked ch) H36)))))
  (CallsH Try.prog 93 ⟨[(.string s0), (.string (⟨#[46, 46]⟩ : ByteArray))]⟩ H19 (onCall (fun rx125 H37 => ∃ x125 : Bool, rx125 = (.bool x125) ∧ ifB x125
  (MayPut H37 (newA H) 4 ∧ let H38 : Heap := putH H37 (newA H) ([(.int .i64 3), (.int .i64 0), (.int .i64 0), (.string (⟨#[46, 46]⟩ : ByteArray))])
  ∃ o2_0 : Int, ∃ o2_1 : Int, ∃ o2_2 : Int, ∃ o2_3 : ByteArray, At H38 (newA H) ([(.int .i64 o2_0), (.int .i64 o2_1), (.int .i64 o2_2), (.string o2_3)]) ∧ R (.returned (.tuple ⟨[(.agg ⟨[(.int .i64 o2_0), (.int .i64 o2_1), (.int .i64 o2_2), (.string o2_3)]⟩), (.int .i64 2), (.int .i64 0)]⟩)) H38)
  ((0 : Int) ≤ 0 ∧ 0 < (s0.size : Int) ∧ CallsH Try.prog 94 ⟨[(.string (⟨#[61, 59, 58, 43, 45, 38, 40, 41, 44]⟩ : ByteArray)), (.int .u8 (byteAt s0 0))]⟩ H37 (onCall (fun rx130 H39 => ∃ x130 : Int, rx130 = (.int .i64 x130) ∧ ifB (decide (x130 ≥ 0))
  ((0 : Int) ≤ 0 ∧ (0 : Int) ≤ 1 ∧ (1 : Int) ≤ (s0.size : Int) ∧ MayPut H39 (newA H) 4 ∧ let H40 : Heap := putH H39 (newA H) ([(.int .i64 3), (.int .i64 0), (.int .i64 0), (.string (s0.extract (Int.toNat 0) (Int.toNat 1)))])
  ∃ o2_0 : Int, ∃ o2_1 : Int, ∃ o2_2 : Int, ∃ o2_3 : ByteArray, At H40 (newA H) ([(.int .i64 o2_0), (.int .i64 o2_1), (.int .i64 o2_2), (.string o2_3)]) ∧ R (.returned (.tuple ⟨[(.agg ⟨[(.int .i64 o2_0), (.int .i64 o2_1), (.int .i64 o2_2), (.string o2_3)]⟩), (.int .i64 1), (.int .i64 0)]⟩)) H40)
  (MayPut H39 (newA H) 4 ∧ let H41 : Heap := putH H39 (newA H) ([(.int .i64 0), (.int .i64 0), (.int .i64 0), (.string (⟨#[]⟩ : ByteArray))])
  ∃ o2_0 : Int, ∃ o2_1 : Int, ∃ o2_2 : Int, ∃ o2_3 : ByteArray, At H41 (newA H) ([(.int .i64 o2_0), (.int .i64 o2_1), (.int .i64 o2_2), (.string o2_3)]) ∧ R (.returned (.tuple ⟨[(.agg ⟨[(.int .i64 o2_0), (.int .i64 o2_1), (.int .i64 o2_2), (.string o2_3)]⟩), (.int .i64 0), (.int .i64 2)]⟩)) H41)) (fun ch H42 => R (.panicked ch) H42)))) (fun ch H43 => R (.panicked ch) H43)))) (fun ch H44 => R (.panicked ch) H44)))) (fun ch H45 => R (.panicked ch) H45)))) (fun ch H46 => R (.panicked ch) H46)))) (fun ch H47 => R (.panicked ch) H47))
def lex_one_ann : Ann := ⟨lookN (false, 0) [(2, true, 15), (5, false, 8), (23, false, 5)], lookN [] [(23, [.s 1, .s 2, .s 3, .e 0, .e 4])], lookN [] [(11, [(8, .int .i64)]), (18, [(9, .int .i64)])]⟩
theorem lex_one_den (s0 : ByteArray) (H : Heap) (R : Ending → Heap → Prop) : denF Try.prog Try.f79 lex_one_ann [(.string s0)] H R = lex_one s0 H R := by kernel_rfl
theorem lex_one_calls (s0 : ByteArray) {H : Heap} {R : Ending → Heap → Prop} (h : lex_one s0 H R) : CallsH Try.prog 79 ⟨[(.string s0)]⟩ H R :=
  callsH_of namesOk mixedOk Try.func79 (ann := lex_one_ann) (by rw [lex_one_den]; exact h)

/-! slotrules lex.shape -/
def lex_shape (s0 : ByteArray) (shape1 : ByteArray) (H : Heap) (R : Ending → Heap → Prop) : Prop :=
  ifB (decide ((s0.size : Int) < (shape1.size : Int)))
  (R (.returned (.bool false)) H)
  (∃ (I4 : Int → Heap → Prop) (m4 : Int → Heap → Nat), I4 0 H ∧ ∀ (x13 : Int) (H1 : Heap), I4 x13 H1 → 
  ifB (decide (x13 < (shape1.size : Int)))
  ((0 : Int) ≤ x13 ∧ x13 < (shape1.size : Int) ∧ ∃ J26 : Bool → Heap → Prop, ifB ((byteAt shape1 x13) == 100) ((0 : Int) ≤ x13 ∧ x13 < (s0.size : Int) ∧ ∃ x24 : Bool, CallsQ Try.prog 53 ⟨[(.int .u8 (byteAt s0 x13))]⟩ H1 (.bool x24) ∧ J26 (!x24) H1) (J26 false H1) ∧ ∀ (q26 : Bool) (H2 : Heap), J26 q26 H2 → ∃ q41 : Bool, ifB q26 (true = q41) ((0 : Int) ≤ x13 ∧ x13 < (shape1.size : Int) ∧ ∃ q40 : Bool, ifB ((byteAt shape1 x13) != 100) ((0 : Int) ≤ x13 ∧ x13 < (s0.size : Int) ∧ (0 : Int) ≤ x13 ∧ x13 < (shape1.size : Int) ∧ ((byteAt s0 x13) != (byteAt shape1 x13)) = q40 ∧ H2 = H2) (false = q40) ∧ q40 = q41 ∧ H2 = H2) ∧ ifB q41
  (R (.returned (.bool false)) H1)
  ((I4 (IntKind.i64.wrap (x13 + 1)) H1 ∧ m4 (IntKind.i64.wrap (x13 + 1)) H1 < m4 x13 H1)))
  (R (.returned (.bool true)) H1))
def lex_shape_ann : Ann := ⟨lookN (false, 0) [(6, false, 26)], lookN [] [], lookN [] [(4, [(13, .int .i64)])]⟩
theorem lex_shape_den (s0 : ByteArray) (shape1 : ByteArray) (H : Heap) (R : Ending → Heap → Prop) : denF Try.prog Try.f90 lex_shape_ann [(.string s0), (.string shape1)] H R = lex_shape s0 shape1 H R := by kernel_rfl
theorem lex_shape_calls (s0 : ByteArray) (shape1 : ByteArray) {H : Heap} {R : Ending → Heap → Prop} (h : lex_shape s0 shape1 H R) : CallsH Try.prog 90 ⟨[(.string s0), (.string shape1)]⟩ H R :=
  callsH_of namesOk mixedOk Try.func90 (ann := lex_shape_ann) (by rw [lex_shape_den]; exact h)

/-! slotrules lex.num -/
def lex_num (s0 : ByteArray) (H : Heap) (R : Ending → Heap → Prop) : Prop :=
  ∃ (I3 : Int → Int → Heap → Prop) (m3 : Int → Int → Heap → Nat), I3 0 0 H ∧ ∀ (n3 : Int) (x7 : Int) (H1 : Heap), I3 n3 x7 H1 → 
  ifB (decide (x7 < (s0.size : Int)))
  ((0 : Int) ≤ x7 ∧ x7 < (s0.size : Int) ∧ (I3 (IntKind.i64.wrap ((IntKind.i64.wrap (10 * n3)) + (IntKind.i64.wrap (IntKind.u8.wrap ((byteAt s0 x7) - 48))))) (IntKind.i64.wrap (x7 + 1)) H1 ∧ m3 (IntKind.i64.wrap ((IntKind.i64.wrap (10 * n3)) + (IntKind.i64.wrap (IntKind.u8.wrap ((byteAt s0 x7) - 48))))) (IntKind.i64.wrap (x7 + 1)) H1 < m3 n3 x7 H1))
  (R (.returned (.int .i64 n3)) H1)
def lex_num_ann : Ann := ⟨lookN (false, 0) [], lookN [] [], lookN [] [(3, [(3, .int .i64), (7, .int .i64)])]⟩
theorem lex_num_den (s0 : ByteArray) (H : Heap) (R : Ending → Heap → Prop) : denF Try.prog Try.f92 lex_num_ann [(.string s0)] H R = lex_num s0 H R := by kernel_rfl
theorem lex_num_calls (s0 : ByteArray) {H : Heap} {R : Ending → Heap → Prop} (h : lex_num s0 H R) : CallsH Try.prog 92 ⟨[(.string s0)]⟩ H R :=
  callsH_of namesOk mixedOk Try.func92 (ann := lex_num_ann) (by rw [lex_num_den]; exact h)

end Go.Vc
set_option linter.unusedVariables false
set_option linter.unusedSimpArgs false
set_option maxRecDepth 100000
namespace Go.Vc
open Go.Proofs

/-! lex: letters, digits, names -/
/-- The byte at a place, as a number. -/
def byteN (s : ByteArray) (i : Nat) : Nat := (s.data.toList.getD i 0).toNat
theorem byteAt_nat (s : ByteArray) (i : Nat) : byteAt s (i : Int) = ((byteN s i : Nat) : Int) := by simp [byteAt, byteN]
theorem byteN_lt (s : ByteArray) (i : Nat) : byteN s i < 256 := UInt8.toNat_lt _
def smallB (c : Nat) : Bool := decide (97 ≤ c) && decide (c ≤ 122)
def digitB (c : Nat) : Bool := decide (48 ≤ c) && decide (c ≤ 57)
theorem small_is (c : Nat) (H : Heap) : CallsQ Try.prog 50 ⟨[.int .u8 (c : Int)]⟩ H (.bool (smallB c)) := by
  refine lex_small_calls _ ⟨?_, rfl⟩
  congr 2
  simp only [smallB]
  congr 1 <;> exact decide_eq_decide.2 (by omega)
theorem digit_is (c : Nat) (H : Heap) : CallsQ Try.prog 53 ⟨[.int .u8 (c : Int)]⟩ H (.bool (digitB c)) := by
  refine lex_digit_calls _ ⟨?_, rfl⟩
  congr 2
  simp only [digitB]
  congr 1 <;> exact decide_eq_decide.2 (by omega)
/-- Digits as a number, as far as ints go. -/
def numF (s : ByteArray) : Nat → Int
  | 0 => 0
  | k + 1 => IntKind.i64.wrap (IntKind.i64.wrap (10 * numF s k) + IntKind.i64.wrap (IntKind.u8.wrap (((byteN s k : Nat) : Int) - 48)))
theorem num_is (s : ByteArray) (hs : s.size ≤ 4611686018427387904) (H : Heap) : CallsQ Try.prog 92 ⟨[.string s]⟩ H (.int .i64 (numF s s.size)) := by
  apply lex_num_calls
  unfold lex_num
  refine ⟨fun n x H' => H' = H ∧ ∃ k : Nat, x = k ∧ k ≤ s.size ∧ n = numF s k, fun _ x _ => ((s.size : Int) - x).toNat, ⟨rfl, 0, rfl, Nat.zero_le _, rfl⟩, ?_⟩
  rintro n x H1 ⟨rfl, k, rfl, hk, rfl⟩
  refine ifB_mk (fun hc => ?_) (fun hc => ?_)
  · have hc : k < s.size := by simp at hc; omega
    rw [byteAt_nat]
    refine ⟨by omega, by omega, ⟨rfl, k + 1, by rw [i64_id (by omega) (by omega)]; omega, hc, rfl⟩, ?_⟩
    show Int.toNat _ < Int.toNat _
    rw [i64_id (by omega) (by omega)]
    omega
  · have hk : k = s.size := by simp at hc; omega
    subst hk
    exact ⟨rfl, rfl⟩
/-- Does a text begin as a shape does? -/
def shapeB (s p : ByteArray) : Nat → Bool
  | 0 => true
  | k + 1 => shapeB s p k && (if byteN p k = 100 then digitB (byteN s k) else decide (byteN s k = byteN p k))
def shapeF (s p : ByteArray) : Bool := !decide (s.size < p.size) && shapeB s p p.size
theorem shapeB_le {s p : ByteArray} {k n : Nat} (h : k ≤ n) (hf : shapeB s p k = false) : shapeB s p n = false := by
  induction n with
  | zero => rw [show k = 0 by omega] at hf; exact hf
  | succ n ih =>
    by_cases e : k = n + 1
    · rw [← e]; exact hf
    · simp [shapeB, ih (by omega)]
theorem shape_is (s p : ByteArray) (hs : p.size ≤ 4611686018427387904) (H : Heap) : CallsQ Try.prog 90 ⟨[.string s, .string p]⟩ H (.bool (shapeF s p)) := by
  apply lex_shape_calls
  unfold lex_shape
  refine ifB_mk (fun h => ?_) (fun h => ?_)
  · have : s.size < p.size := by simp at h; omega
    exact ⟨by simp [shapeF, this], rfl⟩
  have hle : ¬ s.size < p.size := by simp at h; omega
  refine ⟨fun x H' => H' = H ∧ ∃ k : Nat, x = k ∧ k ≤ p.size ∧ shapeB s p k = true, fun x _ => ((p.size : Int) - x).toNat, ⟨rfl, 0, rfl, Nat.zero_le _, rfl⟩, ?_⟩
  rintro x H1 ⟨rfl, k, rfl, hk, hb⟩
  refine ifB_mk (fun hc => ?_) (fun hc => ?_)
  · have hc : k < p.size := by simp at hc; omega
    rw [byteAt_nat s, byteAt_nat p]
    refine ⟨by omega, by omega, fun b H' => H' = H1 ∧ b = (decide (byteN p k = 100) && !digitB (byteN s k)), ifB_mk (fun h => ?_) (fun h => ?_), ?_⟩
    · have h : byteN p k = 100 := by simp only [beq_iff_eq] at h; omega
      exact ⟨by omega, by omega, _, digit_is _ _, rfl, by simp [h]⟩
    · have h : ¬ byteN p k = 100 := by simp only [beq_eq_false_iff_ne, ne_eq] at h; omega
      exact ⟨rfl, by simp [h]⟩
    · rintro q H2 ⟨rfl, rfl⟩
      refine ⟨!(if byteN p k = 100 then digitB (byteN s k) else decide (byteN s k = byteN p k)), ifB_mk (fun h => ?_) (fun h => ?_), ifB_mk (fun h => ?_) (fun h => ?_)⟩
      · simp only [Bool.and_eq_true, decide_eq_true_eq] at h
        simp [h.1, h.2]
      · refine ⟨by omega, by omega, _, ifB_mk (fun h2 => ?_) (fun h2 => ?_), rfl, rfl⟩
        · have h2 : ¬ byteN p k = 100 := by simp only [bne_iff_ne, ne_eq] at h2; omega
          refine ⟨by omega, by omega, by omega, by omega, ?_, rfl⟩
          rw [if_neg h2]
          by_cases he : byteN s k = byteN p k
          · simp [he]
          · have he2 : ¬ ((byteN s k : Nat) : Int) = ((byteN p k : Nat) : Int) := by omega
            simp [he, he2]
        · have h2 : byteN p k = 100 := by simp only [bne_eq_false_iff_eq] at h2; omega
          simp [h2] at h ⊢
          exact h
      · refine ⟨?_, rfl⟩
        have : shapeB s p (k + 1) = false := by
          simp only [shapeB, Bool.and_eq_false_iff]
          right; simpa using h
        simp [shapeF, shapeB_le (show k + 1 ≤ p.size by omega) this]
      · have : shapeB s p (k + 1) = true := by
          simp only [shapeB, Bool.and_eq_true]
          exact ⟨hb, by simpa using h⟩
        refine ⟨⟨rfl, k + 1, by rw [i64_id (by omega) (by omega)]; omega, hc, this⟩, ?_⟩
        show Int.toNat _ < Int.toNat _
        rw [i64_id (by omega) (by omega)]
        omega
  · have hk : k = p.size := by simp at hc; omega
    subst hk
    exact ⟨by simp [shapeF, hle, hb], rfl⟩
theorem bytes_eq (a b : ByteArray) : (a.toList == b.toList) = decide (a = b) := by
  rw [ByteArray.toList_eq, ByteArray.toList_eq, Bool.eq_iff_iff, beq_iff_eq, decide_eq_true_iff]
  constructor
  · intro h
    obtain ⟨⟨a⟩⟩ := a
    obtain ⟨⟨b⟩⟩ := b
    simp only at h
    rw [h]
  · rintro rfl; rfl
def strC (w : ByteArray) : List Value := [.string w]
/-- The first place of a text in a row, from here on; -1: there is none. -/
def idxG (v : ByteArray) : List ByteArray → Nat → Int
  | [], _ => -1
  | w :: r, k => if v = w then k else idxG v r (k + 1)
def memB (v : ByteArray) : List ByteArray → Bool
  | [] => false
  | w :: r => decide (v = w) || memB v r
theorem idxG_nonneg (v : ByteArray) : ∀ (ws : List ByteArray) (k : Nat), decide (idxG v ws k ≥ 0) = memB v ws
  | [], k => by simp [idxG, memB]
  | w :: r, k => by
    simp only [idxG, memB]
    split
    · rename_i h; simp [h]
    · rename_i h; rw [idxG_nonneg v r (k + 1), decide_eq_false h, Bool.false_or]
theorem Index_str {ws : List ByteArray} {ad : Option Addr} {H : Heap} (hlen : ws.length ≤ 4611686018427387904) (hr : RowAt H ad 1 (ws.map strC)) (c : Nat) (v : ByteArray) : CallsQ Try.prog 78 ⟨[.slice ad ws.length c, .string v]⟩ H (.int .i64 (idxG v ws 0)) := by
  apply slices_Index_string_string_calls
  unfold slices_Index_string_string
  refine ⟨fun x H' => H' = H ∧ ∃ k : Nat, x = k ∧ k ≤ ws.length ∧ idxG v ws 0 = idxG v (ws.drop k) k, fun x _ => ((ws.length : Int) - x).toNat, ⟨rfl, 0, rfl, Nat.zero_le _, rfl⟩, ?_⟩
  rintro x H1 ⟨rfl, k, rfl, hk, hi⟩
  refine ifB_mk (fun hc => ?_) (fun hc => ?_)
  · have hc : k < ws.length := by simp at hc; omega
    have hw : ws[k]? = some ws[k] := by simp [hc]
    obtain ⟨p, hp, hat⟩ := hr k (strC ws[k]) (by rw [List.getElem?_map, hw]; rfl)
    have hd : ws.drop k = ws[k] :: ws.drop (k + 1) := by rw [List.drop_eq_getElem_cons hc]
    refine ⟨by omega, by omega, p, hp, ws[k], ?_, ?_⟩
    · have := hat.get (j := 0) (v := .string ws[k]) rfl
      rw [Int.toNat_natCast]
      simpa [Addr.add] using this
    rw [bytes_eq]
    refine ifB_mk (fun h => ?_) (fun h => ?_)
    · have h := of_decide_eq_true h
      refine ⟨?_, rfl⟩
      rw [hi, hd, idxG, if_pos h]
    · have h := of_decide_eq_false h
      refine ⟨⟨rfl, k + 1, by rw [i64_id (by omega) (by omega)]; omega, hc, by rw [hi, hd, idxG, if_neg h]⟩, ?_⟩
      show Int.toNat _ < Int.toNat _
      rw [i64_id (by omega) (by omega)]
      omega
  · have hk : k = ws.length := by simp at hc; omega
    subst hk
    rw [hi, List.drop_length]
    exact ⟨rfl, rfl⟩
theorem Contains_str {ws : List ByteArray} {ad : Option Addr} {H : Heap} (hlen : ws.length ≤ 4611686018427387904) (hr : RowAt H ad 1 (ws.map strC)) (c : Nat) (v : ByteArray) : CallsQ Try.prog 51 ⟨[.slice ad ws.length c, .string v]⟩ H (.bool (memB v ws)) := by
  apply slices_Contains_string_string_calls
  unfold slices_Contains_string_string
  exact (Index_str hlen hr c v).go ⟨_, rfl, by rw [idxG_nonneg], rfl⟩
def wordsL : List ByteArray := [⟨#[97, 108, 119, 97, 121, 115]⟩, ⟨#[100, 97, 116, 101, 115]⟩, ⟨#[102, 114, 105]⟩, ⟨#[109, 111, 110]⟩, ⟨#[110, 101, 118, 101, 114]⟩, ⟨#[114, 117, 108, 101]⟩, ⟨#[115, 97, 116]⟩, ⟨#[115, 104, 105, 102, 116]⟩, ⟨#[115, 117, 110]⟩, ⟨#[116, 104, 117]⟩, ⟨#[116, 117, 101]⟩, ⟨#[119, 101, 100]⟩, ⟨#[119, 101, 101, 107, 108, 121]⟩]
/-- A block of one-cell things is a row. -/
theorem row1 {H : Heap} {a : Addr} {ws : List ByteArray} {T : TypeId} (hb : H[a.block]? = some (C (ws.map Value.string) T)) (hs : a.spot = none) (ho : a.off = 0) : RowAt H (some a) 1 (ws.map strC) := by
  intro i c hc
  rw [List.getElem?_map] at hc
  obtain ⟨w, hw, rfl⟩ := Option.map_eq_some_iff.1 hc
  refine ⟨a, rfl, At_of_blk (l := ws.map Value.string) (T := T) (by rw [add_block]; exact hb) (add_spot _ hs) fun j v hv => ?_⟩
  rw [add_off, ho]
  cases j with
  | zero =>
    simp only [strC, List.getElem?_cons_zero, Option.some.injEq] at hv
    subst hv
    simp [hw]
  | succ j => simp [strC] at hv
theorem Words_is (H : Heap) : CallsH Try.prog 52 ⟨[]⟩ H fun e H' => ∃ a : Addr, e = .returned (.slice (some a) 13 13) ∧ Ext0 H H' ∧ RowAt H' (some a) 1 (wordsL.map strC) := by
  apply lex_Words_calls
  unfold lex_Words
  have hS := St.start none0 H
  intro H1
  replace hS : St _ _ H1 _ := St.push hS _
  clear_value H1
  exact ⟨newA H, rfl, hS.ext0, row1 (T := 9) (hS.obj (k := 0) rfl) rfl rfl⟩
def nameB (c : Nat) : Bool := smallB c || digitB c || decide (c = 95)
/-- Are these bytes a name's, so many of them? -/
def allB (s : ByteArray) (f : Nat → Bool) : Nat → Bool
  | 0 => true
  | k + 1 => allB s f k && f (byteN s k)
theorem allB_le {s : ByteArray} {f : Nat → Bool} {k n : Nat} (h : k ≤ n) (hf : allB s f k = false) : allB s f n = false := by
  induction n with
  | zero => rw [show k = 0 by omega] at hf; exact hf
  | succ n ih =>
    by_cases e : k = n + 1
    · rw [← e]; exact hf
    · simp [allB, ih (by omega)]
def badName (s : ByteArray) : Bool := ((decide (s.size < 1) || decide (s.size > 20)) || !smallB (byteN s 0)) || memB s wordsL
def namedF (s : ByteArray) : Bool := !badName s && allB s nameB s.size
theorem Named_is (s : ByteArray) (H : Heap) : CallsE Try.prog 30 ⟨[.string s]⟩ H (.bool (namedF s)) := by
  refine CallsE.all (fun H => ?_) H
  apply lex_Named_calls
  unfold lex_Named
  have e0 : byteAt s 0 = ((byteN s 0 : Nat) : Int) := byteAt_nat s 0
  have hs : (decide ((s.size : Int) < 1) || decide ((s.size : Int) > 20)) = (decide (s.size < 1) || decide (s.size > 20)) := by
    congr 1 <;> exact decide_eq_decide.2 (by omega)
  rw [hs]
  refine ⟨fun b H' => H' = H ∧ b = ((decide (s.size < 1) || decide (s.size > 20)) || !smallB (byteN s 0)), ifB_mk (fun h => ⟨rfl, by rw [h]; rfl⟩) (fun h => ?_), ?_⟩
  · rw [e0]
    have h0 : ¬ (s.size < 1) := by simp only [Bool.or_eq_false_iff, decide_eq_false_iff_not] at h; exact h.1
    refine ⟨by omega, by omega, (small_is _ H).go ⟨_, rfl, rfl, by rw [h]; rfl⟩⟩
  rintro q H1 ⟨rfl, rfl⟩
  refine ⟨fun b H' => Ext0 H1 H' ∧ b = badName s, ifB_mk (fun h => ⟨Ext0.refl _, by rw [badName, h]; rfl⟩) (fun h => ?_), ?_⟩
  · refine (Words_is H1).call (fun v H5 hr => ?_) (fun c H5 hr => by obtain ⟨a, hr, _⟩ := hr; cases hr) (fun H5 hr => by obtain ⟨a, hr, _⟩ := hr; cases hr)
    obtain ⟨a, hv, hx, hrow⟩ := hr
    simp only [Ending.returned.injEq] at hv
    subst hv
    refine ⟨_, _, _, rfl, (Contains_str (ws := wordsL) (by decide) hrow 13 s).go ⟨_, rfl, hx, by rw [badName, h]; rfl⟩⟩
  rintro q H4 ⟨hx, rfl⟩
  refine ifB_mk (fun h => ⟨by rw [namedF, h]; rfl, hx⟩) (fun h => ?_)
  have hsz : s.size ≤ 20 := by
    simp only [badName, Bool.or_eq_false_iff, decide_eq_false_iff_not] at h
    omega
  refine ⟨fun x H' => H' = H4 ∧ ∃ k : Nat, x = k ∧ k ≤ s.size ∧ allB s nameB k = true, fun x _ => ((s.size : Int) - x).toNat, ⟨rfl, 0, rfl, Nat.zero_le _, rfl⟩, ?_⟩
  rintro x H9 ⟨rfl, k, rfl, hk, hb⟩
  refine ifB_mk (fun hc => ?_) (fun hc => ?_)
  · have hc : k < s.size := by simp at hc; omega
    rw [byteAt_nat]
    refine ⟨by omega, by omega, (small_is _ _).go ⟨_, rfl, fun b H' => H' = H9 ∧ b = (!smallB (byteN s k) && !digitB (byteN s k)), ifB_mk (fun h2 => ?_) (fun h2 => ⟨rfl, by rw [h2]; rfl⟩), ?_⟩⟩
    · exact ⟨by omega, by omega, (digit_is _ _).go ⟨_, rfl, rfl, by rw [h2]; rfl⟩⟩
    · rintro q H11 ⟨rfl, rfl⟩
      have h95 : (((byteN s k : Nat) : Int) != 95) = !decide (byteN s k = 95) := by
        by_cases h9 : byteN s k = 95
        · simp [h9]
        · have : ¬ ((byteN s k : Nat) : Int) = 95 := by omega
          simp [h9, this]
      rw [h95]
      refine ⟨!nameB (byteN s k), ifB_mk (fun h2 => ⟨by omega, by omega, ?_, rfl⟩) (fun h2 => ?_), ifB_mk (fun h2 => ?_) (fun h2 => ?_)⟩
      · simp only [Bool.and_eq_true, Bool.not_eq_true'] at h2
        simp [nameB, h2.1, h2.2]
      · rw [nameB]
        cases h3 : smallB (byteN s k) <;> cases h4 : digitB (byteN s k) <;> simp_all
      · refine ⟨?_, hx⟩
        have : allB s nameB (k + 1) = false := by
          simp only [allB, Bool.and_eq_false_iff]
          right; simpa using h2
        rw [namedF, allB_le (show k + 1 ≤ s.size by omega) this]; simp
      · have : allB s nameB (k + 1) = true := by
          simp only [allB, Bool.and_eq_true]
          exact ⟨hb, by simpa using h2⟩
        refine ⟨⟨rfl, k + 1, by rw [i64_id (by omega) (by omega)]; omega, hc, this⟩, ?_⟩
        show Int.toNat _ < Int.toNat _
        rw [i64_id (by omega) (by omega)]
        omega
  · have hk : k = s.size := by simp at hc; omega
    subst hk
    refine ⟨?_, hx⟩
    rw [namedF, h, hb]; rfl
end Go.Vc
set_option linter.unusedVariables false
set_option linter.unusedSimpArgs false
set_option maxRecDepth 100000
namespace Go.Vc
open Go.Proofs

/-! strings.IndexByte, by the shelf's two texts -/
set_option maxHeartbeats 1000000 in
theorem stringslite_IndexByte_run (s : ByteArray) (c : Int) (w : World) :
    Calls Try.prog 100 #[.string s, .int .u8 c] w fun e w' => e = .returned (.int .i64 (Lib.indexByte s.data.toList c.toNat.toUInt8)) ∧ w' = w := by
  go_enter Try.func100, Try.ntmps100
  go_wp2
  rw [run_callFunc_extern Try.func103 (by kernel_rfl) (by kernel_rfl) (by kernel_rfl) (e := Extern.BytealgIndexByte.indexByte) (by kernel_rfl), Lib.run_indexByteString]
  simp only [Result.andThen]
  rw [Oper.upon_value]
  go_wp2
  go_ret
  exact ⟨rfl, rfl⟩
theorem IndexByte_lite (s : ByteArray) (c : Int) (H : Heap) : CallsQ Try.prog 100 ⟨[.string s, .int .u8 c]⟩ H (.int .i64 (Lib.indexByte s.data.toList c.toNat.toUInt8)) :=
  fun w d => (stringslite_IndexByte_run s c (wk w H d)).mono fun e w' ⟨h1, h2⟩ => ⟨H, d, h2, h1, rfl⟩
theorem IndexByte_is (s : ByteArray) (c : Int) (H : Heap) : CallsQ Try.prog 94 ⟨[.string s, .int .u8 c]⟩ H (.int .i64 (Lib.indexByte s.data.toList c.toNat.toUInt8)) := by
  apply strings_IndexByte_calls
  unfold strings_IndexByte
  exact (IndexByte_lite s c H).go ⟨_, rfl, rfl, rfl⟩
def prefixF (s p : ByteArray) : Bool := decide (p.size ≤ s.size) && decide (s.extract 0 p.size = p)
theorem HasPrefix_lite (s p : ByteArray) (H : Heap) : CallsQ Try.prog 99 ⟨[.string s, .string p]⟩ H (.bool (prefixF s p)) := by
  apply stringslite_HasPrefix_calls
  unfold stringslite_HasPrefix
  refine ⟨prefixF s p, ifB_mk (fun h => ?_) (fun h => ?_), rfl, rfl⟩
  · have h : p.size ≤ s.size := by simp at h; omega
    refine ⟨by omega, by omega, by omega, ?_, rfl⟩
    rw [bytes_eq, prefixF, decide_eq_true h, Bool.true_and]
    rfl
  · have h : ¬ p.size ≤ s.size := by simp at h; omega
    rw [prefixF, decide_eq_false h]; rfl
theorem HasPrefix_is (s p : ByteArray) (H : Heap) : CallsQ Try.prog 93 ⟨[.string s, .string p]⟩ H (.bool (prefixF s p)) := by
  apply strings_HasPrefix_calls
  unfold strings_HasPrefix
  exact (HasPrefix_lite s p H).go ⟨_, rfl, rfl, rfl⟩
end Go.Vc
set_option linter.unusedVariables false
set_option linter.unusedSimpArgs false
set_option maxRecDepth 100000
namespace Go.Vc
open Go.Proofs

/-! lex.one: the token that a text begins with -/
def leadG (s : ByteArray) (f : Nat → Bool) : Nat → Nat → Nat
  | 0, k => k
  | m + 1, k => if k < s.size ∧ f (byteN s k) = true then leadG s f m (k + 1) else k
/-- So many bytes of this make stand ahead. -/
def leadN (s : ByteArray) (f : Nat → Bool) : Nat := leadG s f s.size 0
theorem leadG_spec (s : ByteArray) (f : Nat → Bool) : ∀ (m k j : Nat), k ≤ j → j ≤ k + m → (∀ i, k ≤ i → i < j → i < s.size ∧ f (byteN s i) = true) → (j = k + m ∨ ¬ (j < s.size ∧ f (byteN s j) = true)) → leadG s f m k = j
  | 0, k, j, h1, h2, _, _ => by simp only [leadG]; omega
  | m + 1, k, j, h1, h2, h3, h4 => by
    simp only [leadG]
    by_cases e : k = j
    · subst e
      rw [if_neg]
      rcases h4 with h4 | h4
      · omega
      · exact h4
    · rw [if_pos (h3 k (Nat.le_refl _) (by omega))]
      exact leadG_spec s f m (k + 1) j (by omega) (by omega) (fun i hi hj => h3 i (by omega) hj) (h4.imp (fun h => by omega) id)
theorem leadN_spec {s : ByteArray} {f : Nat → Bool} {j : Nat} (hj : j ≤ s.size) (ha : ∀ i, i < j → f (byteN s i) = true) (he : j = s.size ∨ f (byteN s j) = false) : leadN s f = j := by
  refine leadG_spec s f s.size 0 j (Nat.zero_le _) (by omega) (fun i _ hi => ⟨by omega, ha i hi⟩) ?_
  rcases he with he | he
  · exact .inl (by omega)
  · exact .inr (fun h => by rw [he] at h; simp at h)
def numT (t : ByteArray) : Int := numF t t.size
def pDate : ByteArray := ⟨#[100, 100, 100, 100, 45, 100, 100, 45, 100, 100]⟩
def pTime : ByteArray := ⟨#[100, 100, 58, 100, 100]⟩
def signsB : ByteArray := ⟨#[61, 59, 58, 43, 45, 38, 40, 41, 44]⟩
def dotsB : ByteArray := ⟨#[46, 46]⟩
def noT : ByteArray := ⟨#[]⟩
/-- Kind, number and text; how long it is; and what is wrong with it. -/
def oneF (s : ByteArray) : (Int × Int × ByteArray) × Int × Int :=
  if shapeF s pDate = true then ((5, (numberF (numT (s.extract 0 4)) (numT (s.extract 5 7)) (numT (s.extract 8 10))).1, noT), 10, (numberF (numT (s.extract 0 4)) (numT (s.extract 5 7)) (numT (s.extract 8 10))).2)
  else if shapeF s pTime = true then
    if numT (s.extract 3 5) > 59 ∨ IntKind.i64.wrap (IntKind.i64.wrap (60 * numT (s.extract 0 2)) + numT (s.extract 3 5)) > 1440 then ((0, 0, noT), 5, 3)
    else ((4, IntKind.i64.wrap (IntKind.i64.wrap (60 * numT (s.extract 0 2)) + numT (s.extract 3 5)), noT), 5, 0)
  else if digitB (byteN s 0) = true then
    if leadN s digitB > 6 then ((0, 0, noT), leadN s digitB, 3) else ((6, numT (s.extract 0 (leadN s digitB)), noT), leadN s digitB, 0)
  else if smallB (byteN s 0) = true then
    if leadN s nameB > 20 then ((0, 0, noT), leadN s nameB, 7) else ((if memB (s.extract 0 (leadN s nameB)) wordsL = true then 2 else 1, 0, s.extract 0 (leadN s nameB)), leadN s nameB, 0)
  else if prefixF s dotsB = true then ((3, 0, dotsB), 2, 0)
  else if Lib.indexByte signsB.data.toList (s.data.toList.getD 0 0) ≥ 0 then ((3, 0, s.extract 0 1), 1, 0)
  else ((0, 0, noT), 0, 2)
def tokC (k n a : Int) (t : ByteArray) : List Value := [.int .i64 k, .int .i64 n, .int .i64 a, .string t]
theorem extract_size_le (s : ByteArray) (i j : Nat) (h : j ≤ s.size) : (s.extract i j).size ≤ s.size := by
  rw [ByteArray.size_extract]; omega
theorem shape_len {s p : ByteArray} (h : shapeF s p = true) : p.size ≤ s.size := by
  simp only [shapeF, Bool.and_eq_true, Bool.not_eq_true', decide_eq_false_iff_not] at h
  omega
theorem prefix_len {s p : ByteArray} (h : prefixF s p = true) : p.size ≤ s.size := by
  simp only [prefixF, Bool.and_eq_true, decide_eq_true_eq] at h
  exact h.1
theorem allB_get {s : ByteArray} {f : Nat → Bool} : ∀ {k i : Nat}, allB s f k = true → i < k → f (byteN s i) = true
  | k + 1, i, h, hi => by
    simp only [allB, Bool.and_eq_true] at h
    by_cases e : i = k
    · rw [e]; exact h.2
    · exact allB_get h.1 (by omega)
theorem one_is (s : ByteArray) (h0 : 0 < s.size) (hs : s.size ≤ 4611686018427387904) (H : Heap) :
    CallsE Try.prog 79 ⟨[.string s]⟩ H (.tuple ⟨[.agg ⟨tokC (oneF s).1.1 (oneF s).1.2.1 0 (oneF s).1.2.2⟩, .int .i64 (oneF s).2.1, .int .i64 (oneF s).2.2]⟩) := by
  refine CallsE.all (fun H => ?_) H
  apply lex_one_calls
  unfold lex_one
  have hS := St.start none0 H
  intro H1
  replace hS : St _ _ H1 _ := St.push hS _
  clear_value H1
  have e0 : byteAt s 0 = ((byteN s 0 : Nat) : Int) := byteAt_nat s 0
  have hb0 : s.data.toList.getD 0 0 = (((byteN s 0 : Nat) : Int)).toNat.toUInt8 := by
    rw [Int.toNat_natCast]; simp [byteN]
  have hex : ∀ i j : Nat, j ≤ s.size → (s.extract i j).size ≤ 4611686018427387904 := fun i j h => Nat.le_trans (extract_size_le s i j h) hs
  refine (shape_is s pDate (by decide) H1).go ⟨_, rfl, ifB_mk (fun h => ?_) (fun h => ?_)⟩
  · have hl : 10 ≤ s.size := shape_len h
    refine ⟨by omega, by omega, by omega, _, CallsQ.e (fun H => num_is _ (hex 0 4 (by omega)) H) _, by omega, by omega, by omega, _, CallsQ.e (fun H => num_is _ (hex 5 7 (by omega)) H) _, by omega, by omega, by omega, _, CallsQ.e (fun H => num_is _ (hex 8 10 (by omega)) H) _, _, _, Number_is _ _ _ _, ?_⟩
    intro H3 hx
    have hS := hS.grow hx
    refine ⟨St.may (k := 0) hS rfl rfl (by simp [newA, bA, add_off]), ?_⟩
    intro H4
    replace hS : St _ _ H4 _ := St.put (k := 0) hS rfl rfl _
    clear_value H4
    simp only [setN, splice, newA, bA, add_off, add_block, Nat.add_zero, Nat.zero_add, Nat.reduceAdd] at hS
    refine ⟨_, _, _, _, St.atp (k := 0) hS rfl rfl rfl, ?_⟩
    exact ⟨by rw [oneF, if_pos h]; rfl, hS.ext0⟩
  refine (shape_is s pTime (by decide) H1).go ⟨_, rfl, ifB_mk (fun h2 => ?_) (fun h2 => ?_)⟩
  · have hl : 5 ≤ s.size := shape_len h2
    refine ⟨by omega, by omega, by omega, _, num_is _ (hex 0 2 (by omega)) H1, by omega, by omega, by omega, _, num_is _ (hex 3 5 (by omega)) H1, by omega, by omega, by omega, (num_is _ (hex 3 5 (by omega)) H1).go ⟨_, rfl, ifB_mk (fun h3 => ?_) (fun h3 => ?_)⟩⟩
    · refine ⟨St.may (k := 0) hS rfl rfl (by simp [newA, bA, add_off]), ?_⟩
      intro H4
      replace hS : St _ _ H4 _ := St.put (k := 0) hS rfl rfl _
      clear_value H4
      simp only [setN, splice, newA, bA, add_off, add_block, Nat.add_zero, Nat.zero_add, Nat.reduceAdd] at hS
      refine ⟨_, _, _, _, St.atp (k := 0) hS rfl rfl rfl, ?_⟩
      refine ⟨?_, hS.ext0⟩
      simp only [Bool.or_eq_true, decide_eq_true_eq] at h3
      have h3 : numT (s.extract 3 5) > 59 ∨ IntKind.i64.wrap (IntKind.i64.wrap (60 * numT (s.extract 0 2)) + numT (s.extract 3 5)) > 1440 := h3
      rw [oneF, if_neg (by rw [h]; simp), if_pos h2, if_pos h3]; rfl
    · refine ⟨St.may (k := 0) hS rfl rfl (by simp [newA, bA, add_off]), ?_⟩
      intro H4
      replace hS : St _ _ H4 _ := St.put (k := 0) hS rfl rfl _
      clear_value H4
      simp only [setN, splice, newA, bA, add_off, add_block, Nat.add_zero, Nat.zero_add, Nat.reduceAdd] at hS
      refine ⟨_, _, _, _, St.atp (k := 0) hS rfl rfl rfl, ?_⟩
      refine ⟨?_, hS.ext0⟩
      have h3 := h3
      rw [oneF, if_neg (by rw [h]; simp), if_pos h2, if_neg (fun hc => ?_)]
      · rfl
      · have : (decide (numT (s.extract 3 5) > 59) || decide (IntKind.i64.wrap (IntKind.i64.wrap (60 * numT (s.extract 0 2)) + numT (s.extract 3 5)) > 1440)) = true := by
          simpa only [Bool.or_eq_true, decide_eq_true_eq] using hc
        exact absurd (this.symm.trans h3) (by simp)
  refine ⟨by omega, by omega, ?_⟩
  rw [e0]
  refine (digit_is _ H1).go ⟨_, rfl, ifB_mk (fun h3 => ?_) (fun h3 => ?_)⟩
  · refine ⟨fun x H' => H' = H1 ∧ ∃ k : Nat, x = k ∧ k ≤ s.size ∧ allB s digitB k = true, fun x _ => ((s.size : Int) - x).toNat, ⟨rfl, 0, rfl, Nat.zero_le _, rfl⟩, ?_⟩
    rintro x H11 ⟨rfl, k, rfl, hk, hb⟩
    rw [byteAt_nat]
    refine ⟨fun b H' => H' = H11 ∧ b = (decide (k < s.size) && digitB (byteN s k)), ifB_mk (fun hc => ?_) (fun hc => ?_), ?_⟩
    · have hc : k < s.size := by simp at hc; omega
      exact ⟨by omega, by omega, (digit_is _ _).go ⟨_, rfl, rfl, by simp [hc]⟩⟩
    · have hc : ¬ k < s.size := by simp at hc; omega
      exact ⟨rfl, by simp [hc]⟩
    rintro q H12 ⟨rfl, rfl⟩
    refine ifB_mk (fun hc => ?_) (fun hc => ?_)
    · simp only [Bool.and_eq_true, decide_eq_true_eq] at hc
      refine ⟨⟨rfl, k + 1, by rw [i64_id (by omega) (by omega)]; omega, hc.1, by simp [allB, hb, hc.2]⟩, ?_⟩
      show Int.toNat _ < Int.toNat _
      rw [i64_id (by omega) (by omega)]
      omega
    · have hlead : leadN s digitB = k := by
        refine leadN_spec hk (fun i hi => allB_get hb hi) ?_
        by_cases e : k = s.size
        · exact .inl e
        · right
          simpa [show k < s.size by omega] using hc
      refine ifB_mk (fun h6 => ?_) (fun h6 => ?_)
      · have h6 : k > 6 := by simp at h6; omega
        refine ⟨St.may (k := 0) hS rfl rfl (by simp [newA, bA, add_off]), ?_⟩
        intro H4
        replace hS : St _ _ H4 _ := St.put (k := 0) hS rfl rfl _
        clear_value H4
        simp only [setN, splice, newA, bA, add_off, add_block, Nat.add_zero, Nat.zero_add, Nat.reduceAdd] at hS
        refine ⟨_, _, _, _, St.atp (k := 0) hS rfl rfl rfl, ?_⟩
        refine ⟨?_, hS.ext0⟩
        rw [oneF, if_neg (by rw [h]; simp), if_neg (by rw [h2]; simp), if_pos h3, hlead, if_pos h6]; rfl
      · have h6 : ¬ k > 6 := by simp at h6; omega
        refine ⟨by omega, by omega, by omega, (num_is _ (hex 0 k hk) H12).go ⟨_, rfl, ?_⟩⟩
        refine ⟨St.may (k := 0) hS rfl rfl (by simp [newA, bA, add_off]), ?_⟩
        intro H4
        replace hS : St _ _ H4 _ := St.put (k := 0) hS rfl rfl _
        clear_value H4
        simp only [setN, splice, newA, bA, add_off, add_block, Nat.add_zero, Nat.zero_add, Nat.reduceAdd] at hS
        refine ⟨_, _, _, _, St.atp (k := 0) hS rfl rfl rfl, ?_⟩
        refine ⟨?_, hS.ext0⟩
        rw [oneF, if_neg (by rw [h]; simp), if_neg (by rw [h2]; simp), if_pos h3, hlead, if_neg h6]; rfl
  refine ⟨by omega, by omega, ?_⟩
  refine (small_is _ H1).go ⟨_, rfl, ifB_mk (fun h4 => ?_) (fun h4 => ?_)⟩
  · refine ⟨fun x H' => H' = H1 ∧ ∃ k : Nat, x = k ∧ k ≤ s.size ∧ allB s nameB k = true, fun x _ => ((s.size : Int) - x).toNat, ⟨rfl, 0, rfl, Nat.zero_le _, rfl⟩, ?_⟩
    rintro x H20 ⟨rfl, k, rfl, hk, hb⟩
    rw [byteAt_nat]
    refine ⟨fun b H' => H' = H20 ∧ b = (decide (k < s.size) && nameB (byteN s k)), ifB_mk (fun hc => ?_) (fun hc => ?_), ?_⟩
    · have hc : k < s.size := by simp at hc; omega
      refine ⟨by omega, by omega, (small_is _ _).go ⟨_, rfl, fun b H' => H' = H20 ∧ b = (smallB (byteN s k) || digitB (byteN s k)), ifB_mk (fun h5 => ⟨rfl, by rw [h5]; rfl⟩) (fun h5 => ?_), ?_⟩⟩
      · exact ⟨by omega, by omega, (digit_is _ _).go ⟨_, rfl, rfl, by rw [h5]; rfl⟩⟩
      rintro q H23 ⟨rfl, rfl⟩
      have h95 : (((byteN s k : Nat) : Int) == 95) = decide (byteN s k = 95) := by
        by_cases h9 : byteN s k = 95
        · simp [h9]
        · have : ¬ ((byteN s k : Nat) : Int) = 95 := by omega
          simp [h9, this]
      refine ⟨nameB (byteN s k), ifB_mk (fun h5 => ?_) (fun h5 => ⟨by omega, by omega, ?_, rfl⟩), rfl, by simp [hc]⟩
      · simp [nameB, h5]
      · rw [h95, nameB, h5, Bool.false_or]
    · have hc : ¬ k < s.size := by simp at hc; omega
      exact ⟨rfl, by simp [hc]⟩
    rintro q H21 ⟨rfl, rfl⟩
    refine ifB_mk (fun hc => ?_) (fun hc => ?_)
    · simp only [Bool.and_eq_true, decide_eq_true_eq] at hc
      refine ⟨⟨rfl, k + 1, by rw [i64_id (by omega) (by omega)]; omega, hc.1, by simp [allB, hb, hc.2]⟩, ?_⟩
      show Int.toNat _ < Int.toNat _
      rw [i64_id (by omega) (by omega)]
      omega
    · have hlead : leadN s nameB = k := by
        refine leadN_spec hk (fun i hi => allB_get hb hi) ?_
        by_cases e : k = s.size
        · exact .inl e
        · right
          simpa [show k < s.size by omega] using hc
      refine ifB_mk (fun h6 => ?_) (fun h6 => ?_)
      · have h6 : k > 20 := by simp at h6; omega
        refine ⟨St.may (k := 0) hS rfl rfl (by simp [newA, bA, add_off]), ?_⟩
        intro H4
        replace hS : St _ _ H4 _ := St.put (k := 0) hS rfl rfl _
        clear_value H4
        simp only [setN, splice, newA, bA, add_off, add_block, Nat.add_zero, Nat.zero_add, Nat.reduceAdd] at hS
        refine ⟨_, _, _, _, St.atp (k := 0) hS rfl rfl rfl, ?_⟩
        refine ⟨?_, hS.ext0⟩
        rw [oneF, if_neg (by rw [h]; simp), if_neg (by rw [h2]; simp), if_neg (by rw [h3]; simp), if_pos h4, hlead, if_pos h6]; rfl
      · have h6 : ¬ k > 20 := by simp at h6; omega
        refine ⟨by omega, by omega, by omega, ?_⟩
        intro H28
        replace hS : St _ _ H28 _ := St.push hS _
        clear_value H28
        refine ⟨St.may (k := 0) hS rfl rfl (by simp [newA, bA, add_off]), ?_⟩
        intro H29
        replace hS : St _ _ H29 _ := St.put (k := 0) hS rfl rfl _
        clear_value H29
        simp only [setN, splice, newA, bA, add_off, add_block, Nat.add_zero, Nat.zero_add, Nat.reduceAdd] at hS
        refine ⟨by omega, by omega, by omega, (Words_is H29).call (fun v H30 hr => ?_) (fun c H5 hr => by obtain ⟨a, hr, _⟩ := hr; cases hr) (fun H5 hr => by obtain ⟨a, hr, _⟩ := hr; cases hr)⟩
        obtain ⟨a, hv, hx, hrow⟩ := hr
        simp only [Ending.returned.injEq] at hv
        subst hv
        have hS := hS.grow hx
        refine ⟨_, _, _, rfl, ⟨by omega, by omega, by omega, rfl⟩, rfl, rfl, (Contains_str (ws := wordsL) (by decide) hrow 13 _).go ⟨_, rfl, ifB_mk (fun hm => ?_) (fun hm => ?_)⟩⟩
        · refine ⟨St.may (k := 0) hS rfl rfl (by simp [newA, bA, add_off]), ?_⟩
          intro H32
          replace hS : St _ _ H32 _ := St.put (k := 0) hS rfl rfl _
          clear_value H32
          simp only [setN, splice, newA, bA, add_off, add_block, Nat.add_zero, Nat.zero_add, Nat.reduceAdd] at hS
          refine ⟨_, _, _, _, St.atp (k := 0) hS rfl rfl rfl, ?_⟩
          refine ⟨St.may (k := 1) hS rfl rfl (by simp [newA, bA, add_off]), ?_⟩
          intro H4
          replace hS : St _ _ H4 _ := St.put (k := 1) hS rfl rfl _
          clear_value H4
          simp only [setN, splice, newA, bA, add_off, add_block, Nat.add_zero, Nat.zero_add, Nat.reduceAdd] at hS
          refine ⟨_, _, _, _, St.atp (k := 1) hS rfl rfl rfl, ?_⟩
          refine ⟨?_, hS.ext0⟩
          rw [oneF, if_neg (by rw [h]; simp), if_neg (by rw [h2]; simp), if_neg (by rw [h3]; simp), if_pos h4, hlead, if_neg h6, if_pos (show memB (s.extract 0 k) wordsL = true from hm)]; rfl
        · refine ⟨_, _, _, _, St.atp (k := 0) hS rfl rfl rfl, ?_⟩
          refine ⟨St.may (k := 1) hS rfl rfl (by simp [newA, bA, add_off]), ?_⟩
          intro H4
          replace hS : St _ _ H4 _ := St.put (k := 1) hS rfl rfl _
          clear_value H4
          simp only [setN, splice, newA, bA, add_off, add_block, Nat.add_zero, Nat.zero_add, Nat.reduceAdd] at hS
          refine ⟨_, _, _, _, St.atp (k := 1) hS rfl rfl rfl, ?_⟩
          refine ⟨?_, hS.ext0⟩
          have hm : ¬ memB (s.extract 0 k) wordsL = true := by
            intro hc
            exact absurd (hc.symm.trans hm) (by simp)
          rw [oneF, if_neg (by rw [h]; simp), if_neg (by rw [h2]; simp), if_neg (by rw [h3]; simp), if_pos h4, hlead, if_neg h6, if_neg hm]; rfl
  refine (HasPrefix_is s dotsB H1).go ⟨_, rfl, ifB_mk (fun h5 => ?_) (fun h5 => ?_)⟩
  · refine ⟨St.may (k := 0) hS rfl rfl (by simp [newA, bA, add_off]), ?_⟩
    intro H4
    replace hS : St _ _ H4 _ := St.put (k := 0) hS rfl rfl _
    clear_value H4
    simp only [setN, splice, newA, bA, add_off, add_block, Nat.add_zero, Nat.zero_add, Nat.reduceAdd] at hS
    refine ⟨_, _, _, _, St.atp (k := 0) hS rfl rfl rfl, ?_⟩
    refine ⟨?_, hS.ext0⟩
    rw [oneF, if_neg (by rw [h]; simp), if_neg (by rw [h2]; simp), if_neg (by rw [h3]; simp), if_neg (by rw [h4]; simp), if_pos h5]; rfl
  refine ⟨by omega, by omega, ?_⟩
  refine (IndexByte_is signsB _ H1).go ⟨_, rfl, ifB_mk (fun h6 => ?_) (fun h6 => ?_)⟩
  · refine ⟨by omega, by omega, by omega, ?_⟩
    refine ⟨St.may (k := 0) hS rfl rfl (by simp [newA, bA, add_off]), ?_⟩
    intro H4
    replace hS : St _ _ H4 _ := St.put (k := 0) hS rfl rfl _
    clear_value H4
    simp only [setN, splice, newA, bA, add_off, add_block, Nat.add_zero, Nat.zero_add, Nat.reduceAdd] at hS
    refine ⟨_, _, _, _, St.atp (k := 0) hS rfl rfl rfl, ?_⟩
    refine ⟨?_, hS.ext0⟩
    simp only [decide_eq_true_eq] at h6
    rw [oneF, if_neg (by rw [h]; simp), if_neg (by rw [h2]; simp), if_neg (by rw [h3]; simp), if_neg (by rw [h4]; simp), if_neg (by rw [h5]; simp), if_pos (by rw [hb0]; exact h6)]; rfl
  · refine ⟨St.may (k := 0) hS rfl rfl (by simp [newA, bA, add_off]), ?_⟩
    intro H4
    replace hS : St _ _ H4 _ := St.put (k := 0) hS rfl rfl _
    clear_value H4
    simp only [setN, splice, newA, bA, add_off, add_block, Nat.add_zero, Nat.zero_add, Nat.reduceAdd] at hS
    refine ⟨_, _, _, _, St.atp (k := 0) hS rfl rfl rfl, ?_⟩
    refine ⟨?_, hS.ext0⟩
    simp only [decide_eq_false_iff_not] at h6
    rw [oneF, if_neg (by rw [h]; simp), if_neg (by rw [h2]; simp), if_neg (by rw [h3]; simp), if_neg (by rw [h4]; simp), if_neg (by rw [h5]; simp), if_neg (by rw [hb0]; exact h6)]; rfl
end Go.Vc
set_option linter.unusedVariables false
set_option linter.unusedSimpArgs false
set_option maxRecDepth 100000
namespace Go.Vc
open Go.Proofs

/-! '==' of rows and records -/
theorem eqV_agg {P : Program} {T : TypeId} {m : Nat} {xs ys : List Value} {lx ly : List Lit} {D D' : Nat} (hk : P.keyTypeAt m T = true) (hm : m ≤ 10000) (hg : P.eqGuardType P.depth T = false)
    (hx : (Value.agg ⟨xs⟩).formed P T = true) (hy : (Value.agg ⟨ys⟩).formed P T = true) (h1 : P.keyLits D T xs = some lx) (h2 : P.keyLits D' T ys = some ly) {b : Bool} (hb : b = true ↔ lx = ly) : EqV P .eql T (.agg ⟨xs⟩) (.agg ⟨ys⟩) b := by
  intro x y w
  have he := run_equalIn_deep (P := P) (10000 - m) m T hk
  rw [show 10000 - m + m = 10000 by omega] at he
  obtain ⟨r, hr, hri⟩ := he w D D' (.agg ⟨xs⟩) (.agg ⟨ys⟩) lx ly hx hy h1 h2
  have hrb : r = b := by
    rw [Bool.eq_iff_iff, hri, hb]
  subst hrb
  have hgd : (eqGuard .eql T x y (.agg ⟨xs⟩) (.agg ⟨ys⟩)).run P w = .ok () w := by
    simp [eqGuard, hg]
  simp only [Sem.run_bind, hgd, Result.andThen_ok, binOp, Op.equal, Op.maxDepth]
  rw [hr]
  rfl
theorem mapM_some {α β : Type} {f : α → Option β} {g : α → β} : ∀ {l : List α}, (∀ i ∈ l, f i = some (g i)) → l.mapM f = some (l.map g)
  | [], _ => by simp
  | a :: r, h => by
    rw [List.mapM_cons, h a (by simp), mapM_some fun i hi => h i (List.mem_cons_of_mem _ hi)]
    rfl
theorem mask_type : Try.prog.underlying 31 = some (.array 23 29) := by kernel_rfl
theorem u64_type : Try.prog.underlying 29 = some (.int .u64) := by kernel_rfl
theorem mask_cells : Try.prog.cellsOf 31 = 23 := by kernel_rfl
theorem u64_cells : Try.prog.cellsOf 29 = 1 := by kernel_rfl
theorem mask_lits (A : Nat) : Try.prog.keyLits 2 31 ((wordsOf A).map (Value.int .u64)) = some ((List.range 23).map fun k => Lit.int .u64 (word A k : Nat)) := by
  have hone : ∀ k ∈ List.range 23, Try.prog.keyLits 1 29 ((((wordsOf A).map (Value.int .u64)).drop (k * Try.prog.cellsOf 29)).take (Try.prog.cellsOf 29)) = some [Lit.int .u64 (word A k : Nat)] := by
    intro k hk
    have hk : k < 23 := List.mem_range.1 hk
    have e : (((wordsOf A).map (Value.int .u64)).drop (k * 1)).take 1 = [Value.int .u64 (word A k : Nat)] := by
      rw [Nat.mul_one]
      apply List.ext_getElem?
      intro j
      rw [List.getElem?_take, List.getElem?_drop]
      cases j with
      | zero => simpa using wordsOf_cell hk
      | succ j => simp
    rw [u64_cells, e]
    have hwf : (Lit.int .u64 ((word A k : Nat) : Int)).wf = true := by have := word_lt A k; simp [Lit.wf, IntKind.min, IntKind.max, IntKind.signed, IntKind.bits]; omega
    simp [Program.keyLits, u64_type, hwf]
  rw [show (2 : Nat) = 1 + 1 from rfl, Program.keyLits]
  simp only [mask_type, mask_cells, List.length_map, wordsOf_length, if_true]
  rw [mapM_some hone]
  simp only [Option.map_some]
  congr 1
  induction List.range 23 with
  | nil => rfl
  | cons a r ih => simp only [List.map_cons, List.flatten_cons, ih]; try rfl
theorem eqV_mask (A B : Nat) (hA : A % dayN = A) (hB : B % dayN = B) : EqV Try.prog .eql 31 (maskV A) (maskV B) (decide (A = B)) := by
  refine eqV_agg (m := 2) (by kernel_rfl) (by omega) (by kernel_rfl) ?_ ?_ (mask_lits A) (mask_lits B) ?_
  · simp only [Value.formed, mask_type, mask_cells]; simp [wordsOf_length]
  · simp only [Value.formed, mask_type, mask_cells]; simp [wordsOf_length]
  · rw [decide_eq_true_iff, ← eq_masks hA hB]
    constructor
    · intro h
      apply List.ext_getElem?
      intro k
      by_cases hk : k < 23
      · have h1 := congrArg (·[k]?) h
        simp only [wordsOf_get hk, Option.some.injEq] at h1
        simp [hk, h1]
      · simp [hk]
    · intro h
      refine wordsOf_ext (wordsOf_length _) fun k hk => ?_
      have h1 := congrArg (·[k]?) h
      simp only [List.getElem?_map, List.getElem?_range hk, Option.map_some, Option.some.injEq, Lit.int.injEq, true_and] at h1
      rw [wordsOf_get hk, h1]
def holdsN (A : Nat) (a b : Int) : Bool := !(decide (a < 0) || decide (b > 1440) || decide (a > b)) && decide (diffN (ofN [(a, b)]) A % dayN = 0)
theorem day0 : 0 % dayN = 0 := Nat.zero_mod _
/-- A floating block is one's own. -/
theorem St.fresh {M : Nat → Prop} {H0 H H1 : Heap} {L : List (Nat × Obj)} (h : St M H0 H L) (hx : Ext0 H H1) {I : List (Nat × Nat)} {B : List Nat} {b : Nat} {c : List Value} {T : TypeId} (hf : Fresh I B H H1 b c T) : St M H0 H1 ((b, C c T) :: L) := by
  obtain ⟨h1, h2, h3, _, _⟩ := hf
  have hg := h.grow hx
  refine ⟨hg.ext, fun e he => ?_, fun e he => ?_, ?_⟩
  · rcases List.mem_cons.1 he with rfl | he
    · exact .inl (Nat.le_trans h.ext.size h1)
    · exact h.own e he
  · rcases List.mem_cons.1 he with rfl | he
    · exact h3
    · exact hg.at_ e he
  · rw [List.map_cons, List.nodup_cons]
    refine ⟨fun hm => ?_, h.nd⟩
    obtain ⟨e, he, heq⟩ := List.mem_map.1 hm
    have := lt_of_get (h.at_ e he)
    omega
theorem Holds_is (A : Nat) (a b : Int) (H : Heap) : CallsE Try.prog 21 ⟨[maskV A, .agg ⟨[.int .i64 a, .int .i64 b]⟩]⟩ H (.bool (holdsN A a b)) := by
  refine CallsE.all (fun H => ?_) H
  apply masks_Holds_calls
  unfold masks_Holds
  have hS := St.start none0 H
  intro H1
  replace hS : St _ _ H1 _ := St.push hS _
  clear_value H1
  intro H2
  replace hS : St _ _ H2 _ := St.push hS _
  clear_value H2
  refine ⟨a, St.cell (k := 0) hS rfl rfl rfl, decide (a < 0) || decide (b > 1440), ifB_mk (fun h => by rw [h]; rfl) (fun h => ⟨b, St.cell (k := 0) hS rfl rfl rfl, by rw [h]; rfl, rfl⟩),
    (decide (a < 0) || decide (b > 1440)) || decide (a > b), ifB_mk (fun h => by rw [h]; rfl) (fun h => ⟨a, St.cell (k := 0) hS rfl rfl rfl, b, St.cell (k := 0) hS rfl rfl rfl, by rw [h]; rfl, rfl⟩), ifB_mk (fun h => ?_) (fun h => ?_)⟩
  · refine ⟨?_, hS.ext0⟩
    rw [holdsN, h]; rfl
  · refine ⟨a, b, St.atp (k := 0) hS rfl rfl rfl, wordsOf A, wordsOf_length _, St.atAll (k := 1) hS rfl rfl rfl, fun H3 hx b21 hf => ?_⟩
    have hS := hS.fresh hx hf
    clear hx hf
    have hrow : RowAt H3 (some (bA b21)) 2 ([(a, b)].map spanC) := by
      intro i c hc
      cases i with
      | zero =>
        simp only [List.map_cons, List.getElem?_cons_zero, Option.some.injEq] at hc
        subst hc
        exact ⟨_, rfl, St.atAll (k := 0) hS rfl rfl rfl⟩
      | succ i => simp at hc
    refine (Of_calls [(a, b)] (some (bA b21)) 1 (by simp) hrow).call (fun v H4 hr => ?_) (fun c H4 hr => by simp at hr) (fun H4 hr => by simp at hr)
    obtain ⟨hv, hx⟩ := hr
    simp only [Ending.returned.injEq] at hv
    subst hv
    have hS := hS.grow hx
    clear hx
    refine ⟨wordsOf _, wordsOf_length _, rfl, rfl, ⟨wordsOf A, wordsOf_length _, St.atAll (k := 2) hS rfl rfl rfl, rfl⟩, ?_⟩
    refine CallsE.call (Diff_is _ A H4) fun H5 hx => ⟨wordsOf _, wordsOf_length _, rfl, rfl, decide (diffN (ofN [(a, b)]) A % dayN = 0), ?_, ?_, (hS.grow hx).ext0⟩
    · have := eqV_mask (diffN (ofN [(a, b)]) A % dayN) 0 (dayN_mod _) day0
      rw [maskV, maskV, wordsOf_zero] at this
      exact this
    · rw [holdsN, h]; rfl
end Go.Vc
namespace Go.Vc

/-! ## 14. append: a row of one's own -/
theorem St.perm {M : Nat → Prop} {H0 H : Heap} {L L' : List (Nat × Obj)} (h : St M H0 H L) (hp : L.Perm L') : St M H0 H L' :=
  ⟨h.ext, fun e he => h.own e (hp.mem_iff.2 he), fun e he => h.at_ e (hp.mem_iff.2 he), ((hp.map _).nodup_iff).1 h.nd⟩
/-- A row of one's own: nil, or a block whose first cells are these. -/
def RowE (E : List (Nat × Obj)) (a : Option Addr) (n c sz : Nat) (olds : List Value) (e : TypeId) : Prop :=
  (E = [] ∧ a = none ∧ n = 0 ∧ c = 0 ∧ olds = []) ∨ ∃ b rest, E = [(b, C (olds ++ rest) e)] ∧ a = some (bA b) ∧ olds.length = n * sz ∧ rest.length = (c - n) * sz ∧ n ≤ c
theorem RowE.len {E : List (Nat × Obj)} {a : Option Addr} {n c sz : Nat} {olds : List Value} {e : TypeId} (h : RowE E a n c sz olds e) : olds.length = n * sz := by
  rcases h with ⟨_, _, rfl, _, rfl⟩ | ⟨b, rest, _, _, h, _⟩
  · simp
  · exact h
theorem RowE.nil {sz : Nat} {e : TypeId} : RowE [] none 0 0 sz [] e := .inl ⟨rfl, rfl, rfl, rfl, rfl⟩
theorem plain_one {l : List Value} (h : plainL l) : ∀ u ∈ l, u.oneCell' = true := h
theorem splice_mid : ∀ {m p q : List Value}, m.length ≤ q.length → splice (p ++ q) p.length m = p ++ m ++ q.drop m.length
  | [], p, q, _ => by simp [splice]
  | v :: m, p, [], h => by simp at h
  | v :: m, p, u :: q, h => by
    simp only [splice, setN_set]
    have e : (p ++ u :: q).set p.length v = (p ++ [v]) ++ q := by rw [List.set_append]; simp
    rw [e]
    have := splice_mid (m := m) (p := p ++ [v]) (q := q) (by simpa using h)
    rw [List.length_append, List.length_singleton] at this
    rw [this]
    simp
theorem nthO_end {α : Type} : ∀ {l : List α} {x : α}, nthO (l ++ [x]) l.length = some x
  | [], _ => rfl
  | _ :: r, x => by simp only [List.cons_append, nthO, List.length_cons]; exact nthO_end
theorem setN_end {α : Type} : ∀ {l : List α} {x y : α}, setN (l ++ [x]) l.length y = l ++ [y]
  | [], _, _ => rfl
  | a :: r, x, y => by simp only [List.cons_append, setN, List.length_cons]; rw [setN_end]
theorem setCells_wk (w : World) (b o : Nat) : ∀ (vs : List Value) (i : Nat) (H : Heap) (d : Nat), (wk w H d).setCells b (o + i) vs = wk w (storeFrom H ⟨b, o, none⟩ i vs) d
  | [], _, _, _ => rfl
  | v :: r, i, H, d => by
    have e : (⟨b, o, none⟩ : Addr).add i = ⟨b, o + i, none⟩ := by
      unfold Addr.add
      split
      · rename_i h; subst h; rfl
      · rfl
    simp only [World.setCells, storeFrom]
    rw [set_wk, e]
    exact setCells_wk w b o r (i + 1) _ d
section
variable {P : Program} {M : Nat → Prop} {H0 H : Heap} {L E : List (Nat × Obj)} {K : Value → Heap → Prop}
theorem wk_alloc (w : World) (H : Heap) (d : Nat) (o : Obj) : ((wk w H d).drew).alloc o = wk w (H.push o) (d + 1) := rfl
theorem append_own {t e : TypeId} {i : TypeInfo} {z : Value} {a : Option Addr} {n c : Nat} {olds news : List Value} {xa : Addr} {k kc : Nat} (ht : P.underlying t = some (.slice e)) (hi : P.info? e = some i) (hz : i.zero = some z) (hzs : z.cells.size = i.size)
    (hS : St M H0 H (L ++ E)) (hr : RowE E a n c i.size olds e) (hx : At H xa news) (hn : news.length = k * i.size) (hp : plainL news) (hpo : plainL olds) (hk : 1 ≤ k)
    (hfit : 2 * (n + k) * i.bytes ≤ 281474976710656) (h63 : ((n + k : Nat) : Int) ≤ 9223372036854775807)
    (hK : ∀ a' c' H' E', St M H0 H' (L ++ E') → RowE E' a' (n + k) c' i.size (olds ++ news) e → a'.isSome = true → K (.slice a' (n + k) c') H') :
    RunD P (Builtin.append_ #[t, t] t ⟨[.slice a n c, .slice (some xa) k kc]⟩) H K := by
  intro w d
  have hs : Src P i.size t (.slice (some xa) k kc) k news (wk w H d) := Src.ofSlice _ ht xa k kc news hn (fun j u hj => hx.get hj) hp
  by_cases hroom : n + k ≤ c
  · rcases hr with ⟨_, _, rfl, rfl, _⟩ | ⟨b, rest, rfl, rfl, hol, hrl, hnc⟩
    · omega
    · have hb : H[b]? = some (C (olds ++ rest) e) := hS.at_ (b, C (olds ++ rest) e) (by simp)
      have hrk : k * i.size ≤ rest.length := by rw [hrl]; exact Nat.mul_le_mul_right _ (by omega)
      have hcell : ∀ j, j < news.length → cellH H ⟨b, 0 + n * i.size + j, none⟩ = (olds ++ rest)[n * i.size + j]? := fun j hj => by
        rw [cellH_blk (l := olds ++ rest) (T := e) hb rfl, Nat.zero_add]
      have hrun := run_append_room_src (wk w H d) t t t e i ht hi b 0 n c (.slice (some xa) k kc) k news hs hroom
        (fun j hj => by rw [cell_wk, hcell j hj, List.getElem?_eq_getElem (by rw [List.length_append]; omega)]; rfl)
        (fun j hj => by rw [frozen_wk]; simp [frozenH, hb])
      rw [Nat.zero_add, ← Nat.add_zero (n * i.size), setCells_wk w b (n * i.size) news 0 H d] at hrun
      have hput := St.put (a := ⟨b, n * i.size, none⟩) hS nthO_end rfl news
      rw [setN_end] at hput
      have hsp : splice (olds ++ rest) (n * i.size) news = (olds ++ news) ++ rest.drop (k * i.size) := by
        have := splice_mid (m := news) (p := olds) (q := rest) (by omega)
        rw [hol, hn] at this
        exact this
      refine ⟨_, _, d, hrun, hK (some (bA b)) c _ _ hput (.inr ⟨b, rest.drop (k * i.size), by simp only [hsp], rfl, ?_, ?_, hroom⟩) rfl⟩
      · rw [List.length_append, hol, hn, Nat.add_mul]
      · rw [List.length_drop, hrl, ← Nat.sub_mul]; congr 1; omega
  · have hold : (Builtin.firstCells i.size n (.slice a n c)).run P (wk w H d).drew = .ok olds.toArray (wk w H d).drew := by
      rcases hr with ⟨_, rfl, rfl, rfl, rfl⟩ | ⟨b, rest, rfl, rfl, hol, hrl, hnc⟩
      · exact run_firstCells_none _ _ _ _ _
      · have hb : H[b]? = some (C (olds ++ rest) e) := hS.at_ (b, C (olds ++ rest) e) (by simp)
        refine run_firstCells_some _ _ _ _ _ _ olds hol fun j v hj => ?_
        have hat : At H (bA b) olds := At_of_blk (l := olds ++ rest) (T := e) hb rfl fun j v hj => by
          rw [show (bA b).off = 0 from rfl, Nat.zero_add, List.getElem?_append_left (List.getElem?_eq_some_iff.1 hj).1]; exact hj
        exact hat.get hj
    have hrun := run_append_grow_src (wk w H d) t t t e i z ht hi hz a n c olds hold (.slice (some xa) k kc) k news hs (by omega) h63 (Nat.le_trans (Nat.mul_le_mul_right _ (nextslicecap_le (by omega))) hfit)
    rw [wk_alloc] at hrun
    have hge := grownCap_ge (wk w H d) (n + k) c e
    generalize grownCap (wk w H d) (n + k) c e = g at hrun hge
    have hpush := hS.push (.cells ((olds ++ news).toArray ++ Builtin.zeroCells z.cells (g - (n + k))) e)
    have hol := hr.len
    refine ⟨_, _, d + 1, hrun, hK (some ⟨H.size, 0, none⟩) g _ [(H.size, C ((olds ++ news) ++ (Builtin.zeroCells z.cells (g - (n + k))).toList) e)] ?_ (.inr ⟨H.size, _, rfl, rfl, ?_, ?_, hge⟩) rfl⟩
    · have e1 : Obj.cells ((olds ++ news).toArray ++ Builtin.zeroCells z.cells (g - (n + k))) e = C ((olds ++ news) ++ (Builtin.zeroCells z.cells (g - (n + k))).toList) e := by
        congr 1
        apply Array.ext'
        simp
      have h2 : St M H0 (H.push (.cells ((olds ++ news).toArray ++ Builtin.zeroCells z.cells (g - (n + k))) e)) ((H.size, C ((olds ++ news) ++ (Builtin.zeroCells z.cells (g - (n + k))).toList) e) :: L) := by
        rw [← e1]
        exact hpush.sub ((List.sublist_append_left L E).cons_cons _)
      exact h2.perm (List.perm_append_comm (l₁ := [(H.size, C ((olds ++ news) ++ (Builtin.zeroCells z.cells (g - (n + k))).toList) e)]) (l₂ := L))
    · rw [List.length_append, hol, hn, Nat.add_mul]
    · rw [Array.length_toList, size_zeroCells, hzs]
/-- What append asks of a slice's type: its element, of so many cells and bytes. -/
def appB (P : Program) (t e sz by_ : Nat) : Bool := match P.underlying t, P.info? e with
  | some (.slice e'), some i => (match i.zero with
    | some z => Nat.beq e' e && Nat.beq z.cells.size i.size && Nat.beq i.size sz && Nat.beq i.bytes by_
    | none => false)
  | _, _ => false
theorem append_row {t e sz by_ : Nat} {a : Option Addr} {n c : Nat} {olds news : List Value} {xa : Addr} {k kc : Nat} (hI : appB P t e sz by_ = true)
    (hS : St M H0 H (L ++ E)) (hr : RowE E a n c sz olds e) (hx : At H xa news) (hn : news.length = k * sz) (hp : plainL news) (hpo : plainL olds) (hk : 1 ≤ k)
    (hfit : 2 * (n + k) * by_ ≤ 281474976710656) (h63 : ((n + k : Nat) : Int) ≤ 9223372036854775807)
    (hK : ∀ a' c' H' E', St M H0 H' (L ++ E') → RowE E' a' (n + k) c' sz (olds ++ news) e → a'.isSome = true → K (.slice a' (n + k) c') H') :
    RunD P (Builtin.append_ #[t, t] t ⟨[.slice a n c, .slice (some xa) k kc]⟩) H K := by
  unfold appB at hI
  split at hI
  · rename_i e' i h1 h2
    split at hI
    · rename_i z h3
      simp only [Bool.and_eq_true] at hI
      obtain ⟨⟨⟨b1, b2⟩, b3⟩, b4⟩ := hI
      have b1 := Nat.eq_of_beq_eq_true b1; have b2 := Nat.eq_of_beq_eq_true b2; have b3 := Nat.eq_of_beq_eq_true b3; have b4 := Nat.eq_of_beq_eq_true b4
      subst b1 b3 b4
      exact append_own h1 h2 h3 b2 hS hr hx hn hp hpo hk hfit h63 hK
    · cases hI
  · cases hI
end
end Go.Vc
set_option linter.unusedVariables false
set_option linter.unusedSimpArgs false
set_option maxRecDepth 100000
namespace Go.Vc
open Go.Proofs

/-! rows of one's own, read back -/
theorem RowAt.ext {M : Nat → Prop} {H H' : Heap} {ad : Option Addr} {sz : Nat} {l : List (List Value)} (h : RowAt H ad sz l) (hx : Ext M H H') (hm : ∀ p, ad = some p → ¬ M p.block) : RowAt H' ad sz l := fun i c hc => by
  obtain ⟨p, hp, hat⟩ := h i c hc
  exact ⟨p, hp, At.mk fun j v hj => Ext.cell hx (hat.get hj) (by rw [add_block, add_block]; exact hm p hp)⟩
theorem RowAt.nil {H : Heap} {ad : Option Addr} {sz : Nat} : RowAt H ad sz [] := fun i c hc => by simp at hc
theorem flatten_get {sz : Nat} : ∀ {rows : List (List Value)} {i j : Nat} {c : List Value} {v : Value}, (∀ r ∈ rows, r.length = sz) → rows[i]? = some c → c[j]? = some v → rows.flatten[i * sz + j]? = some v
  | r :: rows, 0, j, c, v, hl, hc, hj => by
    simp only [List.getElem?_cons_zero, Option.some.injEq] at hc
    subst hc
    rw [List.flatten_cons, Nat.zero_mul, Nat.zero_add, List.getElem?_append_left (List.getElem?_eq_some_iff.1 hj).1]
    exact hj
  | r :: rows, i + 1, j, c, v, hl, hc, hj => by
    have hr := hl r (by simp)
    rw [List.flatten_cons, List.getElem?_append_right (by rw [hr, Nat.add_mul]; omega)]
    have := flatten_get (rows := rows) (i := i) (fun r hr => hl r (List.mem_cons_of_mem _ hr)) (by simpa using hc) hj
    rw [show (i + 1) * sz + j - r.length = i * sz + j by rw [hr, Nat.add_mul]; omega]
    exact this
theorem row_blk {H : Heap} {a : Addr} {sz : Nat} {T : TypeId} {rows : List (List Value)} {rest : List Value} (hb : H[a.block]? = some (C (rows.flatten ++ rest) T)) (hs : a.spot = none) (ho : a.off = 0) (hl : ∀ r ∈ rows, r.length = sz) : RowAt H (some a) sz rows := by
  intro i c hc
  refine ⟨a, rfl, At_of_blk (l := rows.flatten ++ rest) (T := T) (by rw [add_block]; exact hb) (add_spot _ hs) fun j v hj => ?_⟩
  have := flatten_get hl hc hj
  rw [add_off, ho, Nat.zero_add, List.getElem?_append_left (List.getElem?_eq_some_iff.1 this).1]
  exact this
theorem RowE.row {M : Nat → Prop} {H0 H : Heap} {L E : List (Nat × Obj)} {a : Option Addr} {n c sz : Nat} {rows : List (List Value)} {e : TypeId} (hS : St M H0 H (L ++ E)) (hr : RowE E a n c sz rows.flatten e) (hl : ∀ r ∈ rows, r.length = sz) (h0 : 0 < sz) : RowAt H a sz rows := by
  rcases hr with ⟨_, _, _, _, hf⟩ | ⟨b, rest, rfl, rfl, _, _, _⟩
  · intro i c hc
    have h1 := hl c (List.mem_of_getElem? hc)
    have h2 : c[0]? = some (c[0]'(by omega)) := by simp [show 0 < c.length by omega]
    have := flatten_get hl hc h2
    rw [hf] at this
    simp at this
  · exact row_blk (a := bA b) (T := e) (rest := rest) (hS.at_ (b, C (rows.flatten ++ rest) e) (by simp)) rfl rfl hl
theorem RowE.blk {a : Option Addr} {E : List (Nat × Obj)} {n c sz : Nat} {olds : List Value} {e : TypeId} (hr : RowE E a n c sz olds e) {p : Addr} (h : a = some p) : ∃ o, (p.block, o) ∈ E := by
  rcases hr with ⟨_, h1, _⟩ | ⟨b, rest, rfl, h1, _⟩
  · rw [h1] at h; cases h
  · rw [h1] at h; cases h; exact ⟨_, List.mem_singleton.2 rfl⟩
theorem RowE.n0 {a : Option Addr} {E : List (Nat × Obj)} {n c sz : Nat} {olds : List Value} {e : TypeId} (hr : RowE E a n c sz olds e) (h0 : 0 < sz) : n = olds.length / sz := by
  rw [hr.len, Nat.mul_div_cancel _ h0]

/-! lex.Lex -/
structure Tok where
  k : Int
  n : Int
  at_ : Int
  t : ByteArray
def Tok.c (x : Tok) : List Value := tokC x.k x.n x.at_ x.t
def lexG (s : ByteArray) : Nat → Nat → List Tok → List Tok × Int × Int
  | 0, _, out => (out, 0, 0)
  | m + 1, i, out =>
    if i < s.size then
      if byteN s i = 32 ∨ byteN s i = 10 ∨ byteN s i = 9 then lexG s m (i + 1) out
      else if byteN s i = 35 then lexG s m (leadG s (fun c => !decide (c = 10)) s.size i) out
      else if (oneF (s.extract i s.size)).2.2 = 0 then lexG s m (i + (oneF (s.extract i s.size)).2.1.toNat) (out ++ [⟨(oneF (s.extract i s.size)).1.1, (oneF (s.extract i s.size)).1.2.1, i, (oneF (s.extract i s.size)).1.2.2⟩])
      else ([], (oneF (s.extract i s.size)).2.2, i)
    else (out, 0, 0)
def lexF (s : ByteArray) : List Tok × Int × Int := if s.size > 6000 then ([], 4, 0) else lexG s s.size 0 []
theorem leadN_le (s : ByteArray) (f : Nat → Bool) : ∀ m k, k ≤ s.size → k ≤ leadG s f m k ∧ leadG s f m k ≤ s.size
  | 0, k, h => ⟨Nat.le_refl _, h⟩
  | m + 1, k, h => by
    simp only [leadG]
    split
    · rename_i hc
      have := leadN_le s f m (k + 1) (by omega)
      omega
    · exact ⟨Nat.le_refl _, h⟩
theorem leadN_pos {s : ByteArray} {f : Nat → Bool} (h0 : 0 < s.size) (hf : f (byteN s 0) = true) : 1 ≤ leadN s f ∧ leadN s f ≤ s.size := by
  refine ⟨?_, (leadN_le s f s.size 0 (Nat.zero_le _)).2⟩
  unfold leadN
  rw [show s.size = (s.size - 1) + 1 by omega]
  simp only [leadG]
  rw [if_pos ⟨h0, hf⟩]
  exact (leadN_le s f (s.size - 1) 1 (by omega)).1
theorem smallB_nameB {c : Nat} (h : smallB c = true) : nameB c = true := by simp [nameB, h]
/-- A token is not empty, and no longer than what is there. -/
theorem one_len {s : ByteArray} (h0 : 0 < s.size) (he : (oneF s).2.2 = 0) : 1 ≤ (oneF s).2.1 ∧ (oneF s).2.1 ≤ s.size := by
  revert he
  unfold oneF
  split
  · rename_i h
    have : 10 ≤ s.size := shape_len h
    intro _; simp only; omega
  split
  · rename_i h
    have : 5 ≤ s.size := shape_len h
    split
    · intro he; simp at he
    · intro _; simp only; omega
  split
  · rename_i h
    have := leadN_pos h0 h
    split
    · intro he; simp at he
    · intro _; simp only; omega
  split
  · rename_i h
    have := leadN_pos h0 (smallB_nameB h)
    split
    · intro he; simp at he
    · intro _; simp only; omega
  split
  · rename_i h
    have : 2 ≤ s.size := prefix_len h
    intro _; simp only; omega
  split
  · intro _; simp only; omega
  · intro he; simp at he
theorem Lex_is (s : ByteArray) (hs : s.size ≤ 4611686018427387904) (H : Heap) : CallsH Try.prog 55 ⟨[.string s]⟩ H fun e H' => ∃ a n c, e = .returned (.tuple ⟨[.slice a n c, .agg ⟨[.int .i64 (lexF s).2.1, .int .i64 (lexF s).2.2]⟩]⟩) ∧ Ext0 H H' ∧ n = (lexF s).1.length ∧ RowAt H' a 4 ((lexF s).1.map Tok.c) ∧ (∀ p, a = some p → H.size ≤ p.block ∧ p.block < H'.size) := by
  apply lex_Lex_calls
  unfold lex_Lex
  have hS := St.start none0 H
  intro H1
  replace hS : St _ _ H1 _ := St.push hS _
  clear_value H1
  refine ifB_mk (fun h => ?_) (fun h => ?_)
  · have h : s.size > 6000 := by simp at h; omega
    refine ⟨St.may (k := 0) hS rfl rfl (by simp [newA, bA, add_off]), ?_⟩
    intro H2
    replace hS : St _ _ H2 _ := St.put (k := 0) hS rfl rfl _
    clear_value H2
    simp only [setN, splice, newA, bA, add_off, add_block, Nat.add_zero, Nat.zero_add, Nat.reduceAdd] at hS
    refine ⟨_, _, St.atp (k := 0) hS rfl rfl rfl, ?_⟩
    exact ⟨none, 0, 0, by rw [lexF, if_pos h], hS.ext0, by rw [lexF, if_pos h]; rfl, by rw [lexF, if_pos h]; exact RowAt.nil, by simp⟩
  have h : ¬ s.size > 6000 := by simp at h; omega
  have hF : lexF s = lexG s s.size 0 [] := by rw [lexF, if_neg h]
  rw [hF]
  refine ⟨fun a n c x H' => ∃ E toks m i, x = ((i : Nat) : Int) ∧ i ≤ s.size ∧ s.size ≤ i + m ∧ n ≤ i ∧ n = toks.length ∧ lexG s m i toks = lexG s s.size 0 [] ∧ St none0 H H' ([(H.size, C [.int .i64 0, .int .i64 0] 39)] ++ E) ∧ RowE E a n c 4 (toks.map Tok.c).flatten 111,
    fun a n c x _ => ((s.size : Int) - x).toNat, ⟨[], [], s.size, 0, rfl, Nat.zero_le _, by omega, Nat.le_refl _, rfl, rfl, hS, RowE.nil⟩, ?_⟩
  rintro a n c x H3 ⟨E, toks, m, i, rfl, hi, hm, hn, hnt, hg, hS, hr⟩
  refine ifB_mk (fun hc => ?_) (fun hc => ?_)
  · have hc : i < s.size := by simp at hc; omega
    obtain ⟨m', rfl⟩ : ∃ m', m = m' + 1 := ⟨m - 1, by omega⟩
    simp only [lexG, if_pos hc] at hg
    rw [byteAt_nat]
    have hw : ∀ k : Nat, k < 256 → (((byteN s i : Nat) : Int) == (k : Int)) = decide (byteN s i = k) := fun k _ => by
      by_cases h9 : byteN s i = k
      · simp [h9]
      · have : ¬ ((byteN s i : Nat) : Int) = (k : Int) := by omega
        simp [h9, this]
    have w32 := hw 32 (by decide); have w10 := hw 10 (by decide); have w9 := hw 9 (by decide); have w35 := hw 35 (by decide)
    simp only [Int.cast_ofNat_Int] at w32 w10 w9 w35
    rw [w32, w10, w9, w35]
    refine ⟨by omega, by omega, decide (byteN s i = 32) || decide (byteN s i = 10), ifB_mk (fun h2 => by rw [h2]; rfl) (fun h2 => ⟨by omega, by omega, by rw [h2]; rfl, rfl⟩), (decide (byteN s i = 32) || decide (byteN s i = 10)) || decide (byteN s i = 9), ifB_mk (fun h2 => by rw [h2]; rfl) (fun h2 => ⟨by omega, by omega, by rw [h2]; rfl, rfl⟩), ifB_mk (fun h2 => ?_) (fun h2 => ?_)⟩
    · have h2 : byteN s i = 32 ∨ byteN s i = 10 ∨ byteN s i = 9 := by simpa [or_assoc] using h2
      rw [if_pos h2] at hg
      refine ⟨⟨E, toks, m', i + 1, by rw [i64_id (by omega) (by omega)]; omega, hc, by omega, by omega, hnt, hg, hS, hr⟩, ?_⟩
      show Int.toNat _ < Int.toNat _
      rw [i64_id (by omega) (by omega)]
      omega
    have h2 : ¬ (byteN s i = 32 ∨ byteN s i = 10 ∨ byteN s i = 9) := by simpa [not_or, and_assoc] using h2
    rw [if_neg h2] at hg
    refine ⟨by omega, by omega, ifB_mk (fun h3 => ?_) (fun h3 => ?_)⟩
    · have h3 : byteN s i = 35 := of_decide_eq_true h3
      rw [if_pos h3] at hg
      refine ⟨fun x H' => H' = H3 ∧ ∃ j : Nat, x = j ∧ i ≤ j ∧ j ≤ s.size ∧ ∀ k, i ≤ k → k < j → k < s.size ∧ (!decide (byteN s k = 10)) = true, fun x _ => ((s.size : Int) - x).toNat, ⟨rfl, i, rfl, Nat.le_refl _, hi, fun k h1 h2 => by omega⟩, ?_⟩
      rintro x H4 ⟨rfl, j, rfl, hij, hj, hall⟩
      rw [byteAt_nat]
      have hw : ((((byteN s j : Nat) : Int) != 10)) = !decide (byteN s j = 10) := by
        by_cases h9 : byteN s j = 10
        · simp [h9]
        · have : ¬ ((byteN s j : Nat) : Int) = (10 : Int) := by omega
          simp [h9, this]
      rw [hw]
      refine ⟨decide (j < s.size) && !decide (byteN s j = 10), ifB_mk (fun h5 => ?_) (fun h5 => ?_), ifB_mk (fun h5 => ?_) (fun h5 => ?_)⟩
      · have h5 : j < s.size := by simp at h5; omega
        exact ⟨by omega, by omega, by simp [h5], rfl⟩
      · have h5 : ¬ j < s.size := by simp at h5; omega
        simp [h5]
      · simp only [Bool.and_eq_true, decide_eq_true_eq] at h5
        refine ⟨⟨rfl, j + 1, by rw [i64_id (by omega) (by omega)]; omega, by omega, h5.1, fun k h1 h2 => ?_⟩, ?_⟩
        · by_cases e : k = j
          · subst e; exact ⟨h5.1, h5.2⟩
          · exact hall k h1 (by omega)
        · show Int.toNat _ < Int.toNat _
          rw [i64_id (by omega) (by omega)]
          omega
      · have hlead : leadG s (fun c => !decide (c = 10)) s.size i = j := by
          refine leadG_spec s _ s.size i j hij (by omega) hall ?_
          right
          rintro ⟨h6, h7⟩
          rw [decide_eq_true h6, Bool.true_and] at h5
          rw [h5] at h7
          cases h7
        have hij2 : i < j := by
          rcases Nat.lt_or_ge i j with h6 | h6
          · exact h6
          · have e : j = i := by omega
            subst e
            rw [decide_eq_true hc, h3] at h5
            simp at h5
        rw [hlead] at hg
        refine ⟨⟨E, toks, m', j, rfl, hj, by omega, by omega, hnt, hg, hS, hr⟩, ?_⟩
        show Int.toNat _ < Int.toNat _
        omega
    have h3 : ¬ byteN s i = 35 := of_decide_eq_false h3
    rw [if_neg h3] at hg
    have hxs : (s.extract i s.size).size = s.size - i := by rw [ByteArray.size_extract]; omega
    have hone := one_is (s.extract i s.size) (by omega) (by omega) H3
    have hlen := one_len (s := s.extract i s.size) (by omega)
    rw [hxs] at hlen
    refine ⟨by omega, by omega, by omega, ?_⟩
    rw [Int.toNat_natCast, Int.toNat_natCast]
    generalize oneF (s.extract i s.size) = o at hg hone hlen
    obtain ⟨⟨ok, on, ot⟩, ol, oe⟩ := o
    simp only at hg hone hlen
    refine hone.call fun H5 hx => ⟨_, _, _, _, _, _, rfl, ?_⟩
    have hS := hS.grow hx
    intro H6
    replace hS : St _ _ H6 _ := St.push hS _
    clear_value H6
    refine ⟨St.may (k := 0) hS rfl rfl (by simp [newA, bA, add_off]), ?_⟩
    intro H7
    replace hS : St _ _ H7 _ := St.put (k := 0) hS rfl rfl _
    clear_value H7
    simp only [setN, splice, newA, bA, add_off, add_block, Nat.add_zero, Nat.zero_add, Nat.reduceAdd] at hS
    refine ifB_mk (fun h5 => ?_) (fun h5 => ?_)
    · have h5 : ¬ oe = 0 := by simpa using h5
      rw [if_neg h5] at hg
      refine ⟨St.may (k := 1) hS rfl rfl (by simp [newA, bA, add_off]), ?_⟩
      intro H8
      have hS : St _ _ H8 _ := St.put (k := 1) hS rfl rfl _
      clear_value H8
      refine ⟨_, _, St.atp (k := 1) hS rfl rfl rfl, ?_⟩
      rw [← hg]
      exact ⟨none, 0, 0, rfl, hS.ext0, rfl, RowAt.nil, by simp⟩
    · have h5 : oe = 0 := by simpa using h5
      rw [if_pos h5] at hg
      obtain ⟨hl1, hl2⟩ := hlen h5
      refine ⟨St.may (k := 0) hS rfl rfl (by simp [newA, bA, add_off]), ?_⟩
      intro H9
      replace hS : St _ _ H9 _ := St.put (k := 0) hS rfl rfl _
      clear_value H9
      simp only [setN, splice, newA, bA, add_off, add_block, Nat.add_zero, Nat.zero_add, Nat.reduceAdd] at hS
      refine ⟨_, _, _, _, St.atp (k := 0) hS rfl rfl rfl, ?_⟩
      intro H10
      replace hS : St _ _ H10 _ := St.push hS _
      clear_value H10
      refine append_row (L := [_, _, _]) (by kernel_rfl : appB Try.prog 100 111 4 40 = true) hS hr (St.atAll (k := 0) hS rfl rfl rfl) rfl (by simp [plainL, Value.oneCell']) ?_ (by omega) (by omega) (by omega) ?_
      · intro v hv
        simp only [List.mem_flatten, List.mem_map] at hv
        obtain ⟨r, ⟨t, _, rfl⟩, hv⟩ := hv
        simp only [Tok.c, tokC, List.mem_cons, List.not_mem_nil, or_false] at hv
        rcases hv with rfl | rfl | rfl | rfl <;> rfl
      intro a' c' H11 E' hS hr _
      refine ⟨_, _, _, rfl, ⟨E', toks ++ [⟨ok, on, i, ot⟩], m', i + ol.toNat, by rw [i64_id (by omega) (by omega)]; omega, by omega, by omega, by omega, by simp [hnt], hg, ?_, ?_⟩, ?_⟩
      · exact hS.sub (((List.Sublist.refl _).cons _).cons _)
      · simpa [Tok.c, tokC] using hr
      · show Int.toNat _ < Int.toNat _
        rw [i64_id (by omega) (by omega)]
        omega
  · have hc : ¬ i < s.size := by simp at hc; omega
    have hg : lexG s s.size 0 [] = (toks, 0, 0) := by
      rw [← hg]
      cases m with
      | zero => rfl
      | succ m => simp only [lexG, if_neg hc]
    rw [hg]
    refine ⟨St.may (k := 0) hS rfl rfl (by simp [newA, bA, add_off]), ?_⟩
    intro H13
    have hS : St _ _ H13 _ := St.put (k := 0) hS rfl rfl _
    clear_value H13
    refine ⟨_, _, St.atp (k := 0) hS rfl rfl rfl, ?_⟩
    refine ⟨a, n, c, rfl, hS.ext0, hnt, hr.row (L := [(H.size, _)]) hS (by simp [Tok.c, tokC]) (by decide), fun p hp => ?_⟩
    obtain ⟨o, ho⟩ := hr.blk hp
    exact ⟨(hS.own (p.block, o) (List.mem_append_right [(H.size, _)] ho)).resolve_right (fun h => h), lt_of_get (hS.at_ (p.block, o) (List.mem_append_right [(H.size, _)] ho))⟩
theorem lexG_ok (s : ByteArray) : ∀ (m i : Nat) (out : List Tok), (lexG s m i out).2.1 = 0 → (lexG s m i out).2.2 = 0
  | 0, i, out, _ => rfl
  | m + 1, i, out, h => by
    simp only [lexG] at h ⊢
    split at h
    · rename_i hc
      rw [if_pos hc]
      split at h
      · rename_i h2
        rw [if_pos h2]
        exact lexG_ok s m _ _ h
      · rename_i h2
        rw [if_neg h2]
        split at h
        · rename_i h3
          rw [if_pos h3]
          exact lexG_ok s m _ _ h
        · rename_i h3
          rw [if_neg h3]
          split at h
          · rename_i h4
            rw [if_pos h4]
            exact lexG_ok s m _ _ h
          · rename_i h4
            exact absurd h h4
    · rename_i hc
      rw [if_neg hc]
theorem lexF_ok {s : ByteArray} (h : (lexF s).2.1 = 0) : (lexF s).2.2 = 0 := by
  unfold lexF at h ⊢
  split
  · rename_i hc
    rw [if_pos hc] at h
  · rename_i hc
    rw [if_neg hc] at h
    exact lexG_ok s _ _ _ h
theorem lexG_len (s : ByteArray) : ∀ (m i : Nat) (out : List Tok), i ≤ s.size → (lexG s m i out).1.length ≤ out.length + (s.size - i)
  | 0, i, out, hi => by simp [lexG]
  | m + 1, i, out, hi => by
    simp only [lexG]
    split
    · rename_i hc
      split
      · have := lexG_len s m (i + 1) out (by omega)
        omega
      · split
        · rename_i h2 h3
          have hle := leadN_le s (fun c => !decide (c = 10)) s.size i hi
          have := lexG_len s m _ out hle.2
          omega
        · split
          · rename_i h4
            have h5 := one_len (s := s.extract i s.size) (by rw [ByteArray.size_extract]; omega) h4
            rw [ByteArray.size_extract] at h5
            have := lexG_len s m (i + (oneF (s.extract i s.size)).2.1.toNat) (out ++ [⟨(oneF (s.extract i s.size)).1.1, (oneF (s.extract i s.size)).1.2.1, i, (oneF (s.extract i s.size)).1.2.2⟩]) (by omega)
            rw [List.length_append, List.length_singleton] at this
            omega
          · simp
    · simp
theorem lexF_len (s : ByteArray) : (lexF s).1.length ≤ 6000 := by
  unfold lexF
  split
  · simp
  · have := lexG_len s s.size 0 [] (Nat.zero_le _)
    simp at this; exact Nat.le_trans this (by omega)
end Go.Vc
set_option linter.unusedVariables false
set_option linter.unusedSimpArgs false
set_option maxRecDepth 100000
namespace Go.Vc
open Go.Proofs

/-! expressions, and where they lie -/
inductive Ex where
  | mk (k a b : Int) (n : ByteArray) (kids : List Ex)
abbrev exC (k a b : Int) (n : ByteArray) (ad : Option Addr) (len cap : Nat) : List Value := [.int .i64 k, .int .i64 a, .int .i64 b, .string n, .slice ad len cap]
mutual
def ExAt (H : Heap) : Ex → List Value → Prop
  | .mk k a b n kids, c => ∃ (ad : Option Addr) (cap : Nat), c = exC k a b n ad kids.length cap ∧ KidsAt H ad 0 kids
def KidsAt (H : Heap) (ad : Option Addr) : Nat → List Ex → Prop
  | _, [] => True
  | i, e :: r => (∃ p c, ad = some p ∧ At H (p.add (i * 5)) c ∧ ExAt H e c) ∧ KidsAt H ad (i + 1) r
end
mutual
theorem ExAt.ext0 {H H' : Heap} (hx : Ext0 H H') : ∀ (e : Ex) (c : List Value), ExAt H e c → ExAt H' e c
  | .mk k a b n kids, c, h => by
    simp only [ExAt] at h ⊢
    obtain ⟨ad, cap, h1, h2⟩ := h
    exact ⟨ad, cap, h1, KidsAt.ext0 hx ad kids 0 h2⟩
theorem KidsAt.ext0 {H H' : Heap} (hx : Ext0 H H') (ad : Option Addr) : ∀ (l : List Ex) (i : Nat), KidsAt H ad i l → KidsAt H' ad i l
  | [], i, h => by simp only [KidsAt]
  | e :: r, i, h => by
    simp only [KidsAt] at h ⊢
    obtain ⟨⟨p, c, h1, h2, h3⟩, h4⟩ := h
    exact ⟨⟨p, c, h1, h2.ext0 hx, ExAt.ext0 hx e c h3⟩, KidsAt.ext0 hx ad r (i + 1) h4⟩
end
theorem ExAt.grow {H H' : Heap} {e : Ex} {c : List Value} (h : ExAt H e c) (hx : Ext0 H H') : ExAt H' e c := ExAt.ext0 hx e c h
theorem ExAt.len {H : Heap} {e : Ex} {c : List Value} (h : ExAt H e c) : c.length = 5 := by
  obtain ⟨k, a, b, n, kids⟩ := e
  simp only [ExAt] at h
  obtain ⟨ad, cap, rfl, _⟩ := h
  rfl
theorem ExAt.plain {H : Heap} {e : Ex} {c : List Value} (h : ExAt H e c) : plainL c := by
  obtain ⟨k, a, b, n, kids⟩ := e
  simp only [ExAt] at h
  obtain ⟨ad, cap, rfl, _⟩ := h
  simp [plainL, exC, Value.oneCell']
/-- These blocks are there. -/
def Held (F : List (Nat × Obj)) (H : Heap) : Prop := ∀ x ∈ F, H[x.1]? = some x.2
/-- An expression that lies in these blocks. -/
def ExF (F : List (Nat × Obj)) (e : Ex) (c : List Value) : Prop := ∀ H, Held F H → ExAt H e c
theorem ExF.more {F F' : List (Nat × Obj)} {e : Ex} {c : List Value} (h : ExF F e c) (hs : ∀ x ∈ F, x ∈ F') : ExF F' e c := fun H hh => h H fun x hx => hh x (hs x hx)
theorem St.held {M : Nat → Prop} {H0 H : Heap} {L F : List (Nat × Obj)} (hS : St M H0 H L) (hs : ∀ x ∈ F, x ∈ L) : Held F H := fun x hx => hS.at_ x (hs x hx)
theorem ExF.leaf (k a b : Int) (n : ByteArray) : ExF [] (.mk k a b n []) (exC k a b n none 0 0) := fun H _ => by simp only [ExAt]; exact ⟨none, 0, rfl, trivial⟩
theorem ExF.len {F : List (Nat × Obj)} {e : Ex} {c : List Value} (h : ExF F e c) {H : Heap} (hh : Held F H) : c.length = 5 := (h H hh).len
theorem at_front {H : Heap} {b : Nat} {T : TypeId} {c r : List Value} (hb : H[b]? = some (C (c ++ r) T)) : At H ((bA b).add (0 * 5)) c :=
  At_of_blk (l := c ++ r) (T := T) (by rw [add_block]; exact hb) (add_spot _ rfl) fun j v hj => by
    rw [add_off]
    show (c ++ r)[0 + 0 * 5 + j]? = _
    rw [Nat.zero_mul, Nat.zero_add, List.getElem?_append_left (List.getElem?_eq_some_iff.1 hj).1]
    exact hj
theorem at_second {H : Heap} {b : Nat} {T : TypeId} {c r : List Value} (hc : c.length = 5) (hb : H[b]? = some (C (c ++ r) T)) : At H ((bA b).add (1 * 5)) r :=
  At_of_blk (l := c ++ r) (T := T) (by rw [add_block]; exact hb) (add_spot _ rfl) fun j v hj => by
    rw [add_off]
    show (c ++ r)[0 + 1 * 5 + j]? = _
    rw [List.getElem?_append_right (by omega), hc, show 0 + 1 * 5 + j - 5 = j by omega]
    exact hj
theorem ExF.one {F : List (Nat × Obj)} {e : Ex} {c : List Value} {T : TypeId} (h : ExF F e c) (b : Nat) (k a x : Int) (n : ByteArray) : ExF ((b, C c T) :: F) (.mk k a x n [e]) (exC k a x n (some (bA b)) 1 1) := fun H hh => by
  have hb : H[b]? = some (C c T) := hh (b, C c T) (by simp)
  have he := h H fun x hx => hh x (by simp [hx])
  simp only [ExAt, KidsAt]
  exact ⟨some (bA b), 1, rfl, ⟨bA b, c, rfl, at_front (r := []) (T := T) (by rw [List.append_nil]; exact hb), he⟩, trivial⟩
theorem ExF.two {F1 F2 : List (Nat × Obj)} {e1 e2 : Ex} {c1 c2 : List Value} {T : TypeId} (h1 : ExF F1 e1 c1) (h2 : ExF F2 e2 c2) (b : Nat) (k a x : Int) (n : ByteArray) : ExF ((b, C (c1 ++ c2) T) :: (F1 ++ F2)) (.mk k a x n [e1, e2]) (exC k a x n (some (bA b)) 2 2) := fun H hh => by
  have hb : H[b]? = some (C (c1 ++ c2) T) := hh (b, C (c1 ++ c2) T) (by simp)
  have he1 := h1 H fun x hx => hh x (by simp [hx])
  have he2 := h2 H fun x hx => hh x (by simp [hx])
  simp only [ExAt, KidsAt]
  exact ⟨some (bA b), 2, rfl, ⟨bA b, c1, rfl, at_front hb, he1⟩, ⟨bA b, c2, rfl, at_second he1.len hb, he2⟩, trivial⟩

/-! ### Calls that turn one block and make others -/
theorem St.call {M : Nat → Prop} {H0 H H' : Heap} {L F : List (Nat × Obj)} {k b : Nat} {o o' : Obj} (h : St M H0 H L) (hk : nthO L k = some (b, o)) (hc : St (· = b) H H' ((b, o') :: F)) : St M H0 H' (setN L k (b, o') ++ F) := by
  have h1 := h.turn hk hc.ext (hc.at_ (b, o') (by simp))
  have hnd := hc.nd
  rw [List.map_cons, List.nodup_cons] at hnd
  have hF : ∀ e ∈ F, H.size ≤ e.1 := fun e he => by
    rcases hc.own e (by simp [he]) with h2 | h2
    · exact h2
    · exact absurd (List.mem_map_of_mem (f := fun x : Nat × Obj => x.1) he) (by simp only [h2]; exact hnd.1)
  refine ⟨h1.ext, fun e he => ?_, fun e he => ?_, ?_⟩
  · rcases List.mem_append.1 he with he | he
    · exact h1.own e he
    · exact .inl (Nat.le_trans h.ext.size (hF e he))
  · rcases List.mem_append.1 he with he | he
    · exact h1.at_ e he
    · exact hc.at_ e (by simp [he])
  · rw [List.map_append, List.nodup_append]
    refine ⟨h1.nd, hnd.2, fun x hx y hy hxy => ?_⟩
    obtain ⟨e, he, rfl⟩ := List.mem_map.1 hx
    obtain ⟨f, hf, rfl⟩ := List.mem_map.1 hy
    have hlt : ∀ e ∈ setN L k (b, o'), e.1 < H.size := fun e he => by
      have : e.1 ∈ (setN L k (b, o')).map (·.1) := List.mem_map_of_mem he
      have hkk : L[k]? = some (b, o) := by rw [← nthO_get]; exact hk
      rw [setN_set, List.map_set] at this
      rcases List.mem_or_eq_of_mem_set this with h3 | h3
      · obtain ⟨e', he', h4⟩ := List.mem_map.1 h3
        rw [← h4]; exact lt_of_get (h.at_ e' he')
      · rw [h3]; exact lt_of_get (h.at_ (b, o) (St.mem hk))
    have := hlt e he
    have := hF f hf
    omega
theorem St.ext_call {M : Nat → Prop} {H0 H H' : Heap} {L : List (Nat × Obj)} {k b : Nat} {o : Obj} (h : St M H0 H L) (hk : nthO L k = some (b, o)) (hM : M b) (hx : Ext (· = b) H H') : Ext M H0 H' :=
  h.ext.trans ⟨hx.size, fun b' hb' hm => hx.block b' hb' fun e => hm (by rw [e]; exact hM)⟩
end Go.Vc
