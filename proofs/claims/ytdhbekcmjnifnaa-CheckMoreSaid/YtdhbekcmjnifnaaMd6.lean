/- CheckMore is proved: a rule more that nobody speaks of, of a new name, and that speaks of none, leaves rules as they were; for every input, with no condition. This text is a part of the way there. -/
import Derived.Test.YtdhbekcmjnifnaaMd5
import Derived.KernelRfl
set_option linter.unusedVariables false
set_option maxRecDepth 100000
namespace Go.Vc
open Go.Proofs

/-! slotrules parse.Wrong -/
def parse_Wrong_k1 (H : Heap) (I4 : Int → Heap → Prop) (m4 : Int → Heap → Nat) (x11 : Int) (H3 : Heap) (err4k : Int) (H7 : Heap) (R : Ending → Heap → Prop) : Prop :=
  ifB (err4k != 0)
  (MayPut H7 (newA H) 2 ∧ let H8 : Heap := putH H7 (newA H) ([(.int .i64 err4k), (.int .i64 x11)])
  ∃ o2_0 : Int, ∃ o2_1 : Int, At H8 (newA H) ([(.int .i64 o2_0), (.int .i64 o2_1)]) ∧ R (.returned (.agg ⟨[(.int .i64 o2_0), (.int .i64 o2_1)]⟩)) H8)
  ((I4 (IntKind.i64.wrap (x11 + 1)) H7 ∧ m4 (IntKind.i64.wrap (x11 + 1)) H7 < m4 x11 H3))
def parse_Wrong (l0a : Option Addr) (l0n : Nat) (l0c : Nat) (H : Heap) (R : Ending → Heap → Prop) : Prop :=
  let H1 : Heap := H.push (.cells ⟨[(.int .i64 0), (.int .i64 0)]⟩ 39)
  ifB (decide ((l0n : Int) > 40))
  (MayPut H1 (newA H) 2 ∧ let H2 : Heap := putH H1 (newA H) ([(.int .i64 5), (.int .i64 0)])
  ∃ o2_0 : Int, ∃ o2_1 : Int, At H2 (newA H) ([(.int .i64 o2_0), (.int .i64 o2_1)]) ∧ R (.returned (.agg ⟨[(.int .i64 o2_0), (.int .i64 o2_1)]⟩)) H2)
  (∃ (I4 : Int → Heap → Prop) (m4 : Int → Heap → Nat), I4 0 H1 ∧ ∀ (x11 : Int) (H3 : Heap), I4 x11 H3 → 
  ifB (decide (x11 < (l0n : Int)))
  ((0 : Int) ≤ x11 ∧ x11 < (l0n : Int) ∧ ∃ px16 : Addr, l0a = some px16 ∧ ∃ x18 : ByteArray, cellH H3 ((px16.add (Int.toNat x11 * 6)).add 0) = some (.string x18) ∧ CallsH Try.prog 30 ⟨[(.string x18)]⟩ H3 (onCall (fun rx19 H4 => ∃ x19 : Bool, rx19 = (.bool x19) ∧ ifB x19
  (let H5 : Heap := H4.push (.cells ⟨[(.int .i64 0)]⟩ 75)
  (0 : Int) ≤ x11 ∧ x11 < (l0n : Int) ∧ ∃ px24 : Addr, l0a = some px24 ∧ CallsH Try.prog 31 ⟨[(.pointer (some (newA H4))), (.pointer (some ((px24.add (Int.toNat x11 * 6)).add 1))), (.int .i64 1)]⟩ H5 (onCall (fun rx26 H6 => ∃ x26 : Int, rx26 = (.int .i64 x26) ∧ parse_Wrong_k1 H I4 m4 x11 H3 x26 H6 R) (fun ch H9 => R (.panicked ch) H9)))
  (parse_Wrong_k1 H I4 m4 x11 H3 7 H4 R)) (fun ch H10 => R (.panicked ch) H10)))
  (MayPut H3 (newA H) 2 ∧ let H11 : Heap := putH H3 (newA H) ([(.int .i64 0), (.int .i64 0)])
  ∃ o2_0 : Int, ∃ o2_1 : Int, At H11 (newA H) ([(.int .i64 o2_0), (.int .i64 o2_1)]) ∧ R (.returned (.agg ⟨[(.int .i64 o2_0), (.int .i64 o2_1)]⟩)) H11))
def parse_Wrong_ann : Ann := ⟨lookN (false, 0) [], lookN [] [], lookN [] [(4, [(11, .int .i64)])]⟩
theorem parse_Wrong_den (l0a : Option Addr) (l0n : Nat) (l0c : Nat) (H : Heap) (R : Ending → Heap → Prop) : denF Try.prog Try.f17 parse_Wrong_ann [(.slice l0a l0n l0c)] H R = parse_Wrong l0a l0n l0c H R := by kernel_rfl
theorem parse_Wrong_calls (l0a : Option Addr) (l0n : Nat) (l0c : Nat) {H : Heap} {R : Ending → Heap → Prop} (h : parse_Wrong l0a l0n l0c H R) : CallsH Try.prog 17 ⟨[(.slice l0a l0n l0c)]⟩ H R :=
  callsH_of namesOk mixedOk Try.func17 (ann := parse_Wrong_ann) (by rw [parse_Wrong_den]; exact h)

/-! (*slotrules parse.shaper).expr -/
def parse_shaper_expr_k1 (h0 : Addr) (e1 : Addr) (deep2 : Int) (H3 : Heap) (R : Ending → Heap → Prop) : Prop :=
  ∃ (x148a : Option Addr) (x148n x148c : Nat), cellH H3 (e1.add 4) = some (.slice x148a x148n x148c) ∧ ∃ (I25 : Int → Heap → Prop) (m25 : Int → Heap → Nat), I25 0 H3 ∧ ∀ (x150 : Int) (H4 : Heap), I25 x150 H4 → 
  ifB (decide (x150 < (x148n : Int)))
  (∃ (x157a : Option Addr) (x157n x157c : Nat), cellH H4 (e1.add 4) = some (.slice x157a x157n x157c) ∧ (0 : Int) ≤ x150 ∧ x150 < (x157n : Int) ∧ ∃ px159 : Addr, x157a = some px159 ∧ CallsH Try.prog 31 ⟨[(.pointer (some h0)), (.pointer (some (px159.add (Int.toNat x150 * 5)))), (.int .i64 (IntKind.i64.wrap (deep2 + 1)))]⟩ H4 (onCall (fun rx162 H5 => ∃ x162 : Int, rx162 = (.int .i64 x162) ∧ ifB (x162 != 0)
  (R (.returned (.int .i64 x162)) H5)
  ((I25 (IntKind.i64.wrap (x150 + 1)) H5 ∧ m25 (IntKind.i64.wrap (x150 + 1)) H5 < m25 x150 H4))) (fun ch H6 => R (.panicked ch) H6)))
  (R (.returned (.int .i64 0)) H4)
def parse_shaper_expr (h0 : Addr) (e1 : Addr) (deep2 : Int) (H : Heap) (R : Ending → Heap → Prop) : Prop :=
  ∃ x12 : Int, cellH H (h0.add 0) = some (.int .i64 x12) ∧ MayPut H (h0.add 0) 1 ∧ let H1 : Heap := putH H (h0.add 0) ([(.int .i64 (IntKind.i64.wrap (x12 + 1)))])
  ∃ x19 : Int, cellH H1 (h0.add 0) = some (.int .i64 x19) ∧ ifB ((decide (x19 > 600)) || (decide (deep2 > 40)))
  (R (.returned (.int .i64 4)) H1)
  (∃ x28 : Int, cellH H1 (e1.add 0) = some (.int .i64 x28) ∧ ∃ q36 : Bool, ifB (decide (x28 < 1)) (true = q36) (∃ x34 : Int, cellH H1 (e1.add 0) = some (.int .i64 x34) ∧ (decide (x34 > 10)) = q36 ∧ H1 = H1) ∧ ifB q36
  (R (.returned (.int .i64 1)) H1)
  (∃ (x40a : Option Addr) (x40n x40c : Nat), cellH H1 (e1.add 4) = some (.slice x40a x40n x40c) ∧ ∃ x45 : Int, cellH H1 (e1.add 0) = some (.int .i64 x45) ∧ ∃ x46 : Int, CallsE Try.prog 54 ⟨[(.int .i64 x45)]⟩ H1 (.int .i64 x46) ∧ ∀ H2 : Heap, Ext0 H1 H2 → ifB ((x40n : Int) != x46)
  (R (.returned (.int .i64 5)) H2)
  (∃ x51 : Int, cellH H2 (e1.add 0) = some (.int .i64 x51) ∧ ifB (x51 == 3)
  (∃ x57 : Int, cellH H2 (e1.add 1) = some (.int .i64 x57) ∧ ∃ q65 : Bool, ifB (decide (x57 < 0)) (true = q65) (∃ x63 : Int, cellH H2 (e1.add 2) = some (.int .i64 x63) ∧ (decide (x63 > 1440)) = q65 ∧ H2 = H2) ∧ ∃ q76 : Bool, ifB q65 (true = q76) (∃ x70 : Int, cellH H2 (e1.add 1) = some (.int .i64 x70) ∧ ∃ x74 : Int, cellH H2 (e1.add 2) = some (.int .i64 x74) ∧ (decide (x70 ≥ x74)) = q76 ∧ H2 = H2) ∧ ifB q76
  (R (.returned (.int .i64 3)) H2)
  (parse_shaper_expr_k1 h0 e1 deep2 H2 R))
  (ifB (x51 == 4)
  (∃ x82 : Int, cellH H2 (e1.add 1) = some (.int .i64 x82) ∧ ∃ q90 : Bool, ifB (decide (x82 < 1)) (true = q90) (∃ x88 : Int, cellH H2 (e1.add 1) = some (.int .i64 x88) ∧ (decide (x88 > 127)) = q90 ∧ H2 = H2) ∧ ifB q90
  (R (.returned (.int .i64 3)) H2)
  (parse_shaper_expr_k1 h0 e1 deep2 H2 R))
  (ifB (x51 == 5)
  (∃ x96 : Int, cellH H2 (e1.add 1) = some (.int .i64 x96) ∧ ∃ q104 : Bool, ifB (decide (x96 < 0)) (true = q104) (∃ x102 : Int, cellH H2 (e1.add 2) = some (.int .i64 x102) ∧ (decide (x102 ≥ 146097)) = q104 ∧ H2 = H2) ∧ ∃ q115 : Bool, ifB q104 (true = q115) (∃ x109 : Int, cellH H2 (e1.add 1) = some (.int .i64 x109) ∧ ∃ x113 : Int, cellH H2 (e1.add 2) = some (.int .i64 x113) ∧ (decide (x109 > x113)) = q115 ∧ H2 = H2) ∧ ifB q115
  (R (.returned (.int .i64 3)) H2)
  (parse_shaper_expr_k1 h0 e1 deep2 H2 R))
  (ifB (x51 == 9)
  (∃ x121 : Int, cellH H2 (e1.add 1) = some (.int .i64 x121) ∧ ∃ q129 : Bool, ifB (x121 == 0) (true = q129) (∃ x127 : Int, cellH H2 (e1.add 1) = some (.int .i64 x127) ∧ (decide (x127 ≤ (-1440))) = q129 ∧ H2 = H2) ∧ ∃ q136 : Bool, ifB q129 (true = q136) (∃ x134 : Int, cellH H2 (e1.add 1) = some (.int .i64 x134) ∧ (decide (x134 ≥ 1440)) = q136 ∧ H2 = H2) ∧ ifB q136
  (R (.returned (.int .i64 3)) H2)
  (parse_shaper_expr_k1 h0 e1 deep2 H2 R))
  (ifB (x51 == 10)
  (∃ x142 : ByteArray, cellH H2 (e1.add 3) = some (.string x142) ∧ CallsH Try.prog 30 ⟨[(.string x142)]⟩ H2 (onCall (fun rx143 H7 => ∃ x143 : Bool, rx143 = (.bool x143) ∧ ifB (!x143)
  (R (.returned (.int .i64 7)) H7)
  (parse_shaper_expr_k1 h0 e1 deep2 H7 R)) (fun ch H8 => R (.panicked ch) H8)))
  (parse_shaper_expr_k1 h0 e1 deep2 H2 R))))))))
def parse_shaper_expr_ann : Ann := ⟨lookN (false, 0) [(6, true, 11), (10, false, 23), (16, false, 23)], lookN [] [], lookN [] [(25, [(150, .int .i64)])]⟩
theorem parse_shaper_expr_den (h0 : Addr) (e1 : Addr) (deep2 : Int) (H : Heap) (R : Ending → Heap → Prop) : denF Try.prog Try.f31 parse_shaper_expr_ann [(.pointer (some h0)), (.pointer (some e1)), (.int .i64 deep2)] H R = parse_shaper_expr h0 e1 deep2 H R := by kernel_rfl
theorem parse_shaper_expr_calls (h0 : Addr) (e1 : Addr) (deep2 : Int) {H : Heap} {R : Ending → Heap → Prop} (h : parse_shaper_expr h0 e1 deep2 H R) : CallsH Try.prog 31 ⟨[(.pointer (some h0)), (.pointer (some e1)), (.int .i64 deep2)]⟩ H R :=
  callsH_of namesOk mixedOk Try.func31 (ann := parse_shaper_expr_ann) (by rw [parse_shaper_expr_den]; exact h)

/-! slotrules parse.kids -/
def parse_kids_k2 (x8k : Bool) (H2 : Heap) (R : Ending → Heap → Prop) : Prop :=
  ifB x8k
  (R (.returned (.int .i64 2)) H2)
  (R (.returned (.int .i64 0)) H2)
def parse_kids_k1 (kind0 : Int) (x4k : Bool) (H1 : Heap) (R : Ending → Heap → Prop) : Prop :=
  ifB x4k
  (R (.returned (.int .i64 1)) H1)
  (ifB (kind0 == 6)
  (parse_kids_k2 (kind0 == 6) H1 R)
  (ifB (kind0 == 7)
  (parse_kids_k2 (kind0 == 7) H1 R)
  (parse_kids_k2 (kind0 == 8) H1 R)))
def parse_kids (kind0 : Int) (H : Heap) (R : Ending → Heap → Prop) : Prop :=
  ifB (kind0 == 4)
  (parse_kids_k1 kind0 (kind0 == 4) H R)
  (ifB (kind0 == 5)
  (parse_kids_k1 kind0 (kind0 == 5) H R)
  (parse_kids_k1 kind0 (kind0 == 9) H R))
def parse_kids_ann : Ann := ⟨lookN (false, 0) [], lookN [] [], lookN [] []⟩
theorem parse_kids_den (kind0 : Int) (H : Heap) (R : Ending → Heap → Prop) : denF Try.prog Try.f54 parse_kids_ann [(.int .i64 kind0)] H R = parse_kids kind0 H R := by kernel_rfl
theorem parse_kids_calls (kind0 : Int) {H : Heap} {R : Ending → Heap → Prop} (h : parse_kids kind0 H R) : CallsH Try.prog 54 ⟨[(.int .i64 kind0)]⟩ H R :=
  callsH_of namesOk mixedOk Try.func54 (ann := parse_kids_ann) (by rw [parse_kids_den]; exact h)

/-! (*slotrules parse.parser).eat -/
def parse_parser_eat (p0 : Addr) (kind1 : Int) (text2 : ByteArray) (H : Heap) (R : Ending → Heap → Prop) : Prop :=
  CallsH Try.prog 80 ⟨[(.pointer (some p0)), (.int .i64 kind1), (.string text2)]⟩ H (onCall (fun rx10 H1 => ∃ x10 : Bool, rx10 = (.bool x10) ∧ ifB (!x10)
  (R (.returned (.bool false)) H1)
  (∃ x15 : Int, cellH H1 (p0.add 1) = some (.int .i64 x15) ∧ MayPut H1 (p0.add 1) 1 ∧ let H2 : Heap := putH H1 (p0.add 1) ([(.int .i64 (IntKind.i64.wrap (x15 + 1)))])
  R (.returned (.bool true)) H2)) (fun ch H3 => R (.panicked ch) H3))
def parse_parser_eat_ann : Ann := ⟨lookN (false, 0) [], lookN [] [], lookN [] []⟩
theorem parse_parser_eat_den (p0 : Addr) (kind1 : Int) (text2 : ByteArray) (H : Heap) (R : Ending → Heap → Prop) : denF Try.prog Try.f57 parse_parser_eat_ann [(.pointer (some p0)), (.int .i64 kind1), (.string text2)] H R = parse_parser_eat p0 kind1 text2 H R := by kernel_rfl
theorem parse_parser_eat_calls (p0 : Addr) (kind1 : Int) (text2 : ByteArray) {H : Heap} {R : Ending → Heap → Prop} (h : parse_parser_eat p0 kind1 text2 H R) : CallsH Try.prog 57 ⟨[(.pointer (some p0)), (.int .i64 kind1), (.string text2)]⟩ H R :=
  callsH_of namesOk mixedOk Try.func57 (ann := parse_parser_eat_ann) (by rw [parse_parser_eat_den]; exact h)

/-! (*slotrules parse.parser).fail -/
def parse_parser_fail (p0 : Addr) (err1 : Int) (H : Heap) (R : Ending → Heap → Prop) : Prop :=
  CallsH Try.prog 81 ⟨[(.pointer (some p0))]⟩ H (onCall (fun rx6 H1 => ∃ x6 : Int, rx6 = (.int .i64 x6) ∧ R (.panicked [{ v := (.iface 104 (.agg ⟨[(.int .i64 err1), (.int .i64 x6)]⟩)), recovered := false }]) H1) (fun ch H2 => R (.panicked ch) H2))
def parse_parser_fail_ann : Ann := ⟨lookN (false, 0) [], lookN [] [], lookN [] []⟩
theorem parse_parser_fail_den (p0 : Addr) (err1 : Int) (H : Heap) (R : Ending → Heap → Prop) : denF Try.prog Try.f58 parse_parser_fail_ann [(.pointer (some p0)), (.int .i64 err1)] H R = parse_parser_fail p0 err1 H R := by kernel_rfl
theorem parse_parser_fail_calls (p0 : Addr) (err1 : Int) {H : Heap} {R : Ending → Heap → Prop} (h : parse_parser_fail p0 err1 H R) : CallsH Try.prog 58 ⟨[(.pointer (some p0)), (.int .i64 err1)]⟩ H R :=
  callsH_of namesOk mixedOk Try.func58 (ann := parse_parser_fail_ann) (by rw [parse_parser_fail_den]; exact h)

/-! (*slotrules parse.parser).take -/
def parse_parser_take_k1 (p0 : Addr) (H : Heap) (H3 : Heap) (R : Ending → Heap → Prop) : Prop :=
  ∃ x35 : Int, cellH H3 (p0.add 1) = some (.int .i64 x35) ∧ MayPut H3 (p0.add 1) 1 ∧ let H4 : Heap := putH H3 (p0.add 1) ([(.int .i64 (IntKind.i64.wrap (x35 + 1)))])
  ∃ (x42a : Option Addr) (x42n x42c : Nat), cellH H4 (p0.add 0) = some (.slice x42a x42n x42c) ∧ ∃ x46 : Int, cellH H4 (p0.add 1) = some (.int .i64 x46) ∧ (0 : Int) ≤ (IntKind.i64.wrap (x46 - 1)) ∧ (IntKind.i64.wrap (x46 - 1)) < (x42n : Int) ∧ ∃ px48 : Addr, x42a = some px48 ∧ ∃ x49_0 : Int, ∃ x49_1 : Int, ∃ x49_2 : Int, ∃ x49_3 : ByteArray, At H4 (px48.add (Int.toNat (IntKind.i64.wrap (x46 - 1)) * 4)) ([(.int .i64 x49_0), (.int .i64 x49_1), (.int .i64 x49_2), (.string x49_3)]) ∧ MayPut H4 (newA H) 4 ∧ let H5 : Heap := putH H4 (newA H) ([(.int .i64 x49_0), (.int .i64 x49_1), (.int .i64 x49_2), (.string x49_3)])
  ∃ o4_0 : Int, ∃ o4_1 : Int, ∃ o4_2 : Int, ∃ o4_3 : ByteArray, At H5 (newA H) ([(.int .i64 o4_0), (.int .i64 o4_1), (.int .i64 o4_2), (.string o4_3)]) ∧ R (.returned (.agg ⟨[(.int .i64 o4_0), (.int .i64 o4_1), (.int .i64 o4_2), (.string o4_3)]⟩)) H5
def parse_parser_take (p0 : Addr) (kind1 : Int) (H : Heap) (R : Ending → Heap → Prop) : Prop :=
  let H1 : Heap := H.push (.cells ⟨[(.int .i64 0), (.int .i64 0), (.int .i64 0), (.string (⟨#[]⟩ : ByteArray))]⟩ 111)
  ∃ x8 : Int, cellH H1 (p0.add 1) = some (.int .i64 x8) ∧ ∃ (x12a : Option Addr) (x12n x12c : Nat), cellH H1 (p0.add 0) = some (.slice x12a x12n x12c) ∧ ∃ q29 : Bool, ifB (x8 == (x12n : Int)) (true = q29) (∃ (x19a : Option Addr) (x19n x19c : Nat), cellH H1 (p0.add 0) = some (.slice x19a x19n x19c) ∧ ∃ x23 : Int, cellH H1 (p0.add 1) = some (.int .i64 x23) ∧ (0 : Int) ≤ x23 ∧ x23 < (x19n : Int) ∧ ∃ px24 : Addr, x19a = some px24 ∧ ∃ x26 : Int, cellH H1 ((px24.add (Int.toNat x23 * 4)).add 0) = some (.int .i64 x26) ∧ (x26 != kind1) = q29 ∧ H1 = H1) ∧ ifB q29
  (CallsH Try.prog 58 ⟨[(.pointer (some p0)), (.int .i64 2)]⟩ H1 (onCall (fun rx31 H2 => parse_parser_take_k1 p0 H H2 R) (fun ch H6 => R (.panicked ch) H6)))
  (parse_parser_take_k1 p0 H H1 R)
def parse_parser_take_ann : Ann := ⟨lookN (false, 0) [(1, false, 25), (4, false, 11)], lookN [] [], lookN [] []⟩
theorem parse_parser_take_den (p0 : Addr) (kind1 : Int) (H : Heap) (R : Ending → Heap → Prop) : denF Try.prog Try.f59 parse_parser_take_ann [(.pointer (some p0)), (.int .i64 kind1)] H R = parse_parser_take p0 kind1 H R := by kernel_rfl
theorem parse_parser_take_calls (p0 : Addr) (kind1 : Int) {H : Heap} {R : Ending → Heap → Prop} (h : parse_parser_take p0 kind1 H R) : CallsH Try.prog 59 ⟨[(.pointer (some p0)), (.int .i64 kind1)]⟩ H R :=
  callsH_of namesOk mixedOk Try.func59 (ann := parse_parser_take_ann) (by rw [parse_parser_take_den]; exact h)

/-! (*slotrules parse.parser).must -/
def parse_parser_must (p0 : Addr) (text1 : ByteArray) (H : Heap) (R : Ending → Heap → Prop) : Prop :=
  CallsH Try.prog 57 ⟨[(.pointer (some p0)), (.int .i64 3), (.string text1)]⟩ H (onCall (fun rx6 H1 => ∃ x6 : Bool, rx6 = (.bool x6) ∧ ifB (!x6)
  (CallsH Try.prog 58 ⟨[(.pointer (some p0)), (.int .i64 2)]⟩ H1 (onCall (fun rx9 H2 => R (.returned (.tuple ⟨[]⟩)) H2) (fun ch H3 => R (.panicked ch) H3)))
  (R (.returned (.tuple ⟨[]⟩)) H1)) (fun ch H4 => R (.panicked ch) H4))
def parse_parser_must_ann : Ann := ⟨lookN (false, 0) [], lookN [] [], lookN [] []⟩
theorem parse_parser_must_den (p0 : Addr) (text1 : ByteArray) (H : Heap) (R : Ending → Heap → Prop) : denF Try.prog Try.f60 parse_parser_must_ann [(.pointer (some p0)), (.string text1)] H R = parse_parser_must p0 text1 H R := by kernel_rfl
theorem parse_parser_must_calls (p0 : Addr) (text1 : ByteArray) {H : Heap} {R : Ending → Heap → Prop} (h : parse_parser_must p0 text1 H R) : CallsH Try.prog 60 ⟨[(.pointer (some p0)), (.string text1)]⟩ H R :=
  callsH_of namesOk mixedOk Try.func60 (ann := parse_parser_must_ann) (by rw [parse_parser_must_den]; exact h)

/-! (*slotrules parse.parser).expr -/
def parse_parser_expr_k1 (p0 : Addr) (deep1 : Int) (H2 : Heap) (I2 : Heap → Prop) (m2 : Heap → Nat) (H5 : Heap) (kind6k : Int) (H7 : Heap) (R : Ending → Heap → Prop) : Prop :=
  ∃ x21 : Int, cellH H7 (p0.add 1) = some (.int .i64 x21) ∧ MayPut H7 (p0.add 1) 1 ∧ let H8 : Heap := putH H7 (p0.add 1) ([(.int .i64 (IntKind.i64.wrap (x21 + 1)))])
  CallsH Try.prog 82 ⟨[(.pointer (some p0)), (.int .i64 deep1)]⟩ H8 (onCall (fun rx27 H9 => ∃ x27_0 : Int, ∃ x27_1 : Int, ∃ x27_2 : Int, ∃ x27_3 : ByteArray, ∃ (x27_4a : Option Addr) (x27_4n x27_4c : Nat), rx27 = (.agg ⟨[(.int .i64 x27_0), (.int .i64 x27_1), (.int .i64 x27_2), (.string x27_3), (.slice x27_4a x27_4n x27_4c)]⟩) ∧ let H10 : Heap := H9.push (.cells ⟨[(.int .i64 0), (.int .i64 0), (.int .i64 0), (.string (⟨#[]⟩ : ByteArray)), (.slice none 0 0)]⟩ 25)
  MayPut H10 (newA H9) 5 ∧ let H11 : Heap := putH H10 (newA H9) ([(.int .i64 x27_0), (.int .i64 x27_1), (.int .i64 x27_2), (.string x27_3), (.slice x27_4a x27_4n x27_4c)])
  ∃ x30_0 : Int, ∃ x30_1 : Int, ∃ x30_2 : Int, ∃ x30_3 : ByteArray, ∃ (x30_4a : Option Addr) (x30_4n x30_4c : Nat), At H11 (newA H2) ([(.int .i64 x30_0), (.int .i64 x30_1), (.int .i64 x30_2), (.string x30_3), (.slice x30_4a x30_4n x30_4c)]) ∧ ∃ x31_0 : Int, ∃ x31_1 : Int, ∃ x31_2 : Int, ∃ x31_3 : ByteArray, ∃ (x31_4a : Option Addr) (x31_4n x31_4c : Nat), At H11 (newA H9) ([(.int .i64 x31_0), (.int .i64 x31_1), (.int .i64 x31_2), (.string x31_3), (.slice x31_4a x31_4n x31_4c)]) ∧ let H12 : Heap := H11.push (.cells ⟨[(.int .i64 x30_0), (.int .i64 x30_1), (.int .i64 x30_2), (.string x30_3), (.slice x30_4a x30_4n x30_4c), (.int .i64 x31_0), (.int .i64 x31_1), (.int .i64 x31_2), (.string x31_3), (.slice x31_4a x31_4n x31_4c)]⟩ 25)
  CallsH Try.prog 83 ⟨[(.pointer (some p0)), (.agg ⟨[(.int .i64 kind6k), (.int .i64 0), (.int .i64 0), (.string (⟨#[]⟩ : ByteArray)), (.slice (some (newA H11)) 2 2)]⟩)]⟩ H12 (onCall (fun rx34 H13 => ∃ x34_0 : Int, ∃ x34_1 : Int, ∃ x34_2 : Int, ∃ x34_3 : ByteArray, ∃ (x34_4a : Option Addr) (x34_4n x34_4c : Nat), rx34 = (.agg ⟨[(.int .i64 x34_0), (.int .i64 x34_1), (.int .i64 x34_2), (.string x34_3), (.slice x34_4a x34_4n x34_4c)]⟩) ∧ MayPut H13 (newA H2) 5 ∧ let H14 : Heap := putH H13 (newA H2) ([(.int .i64 x34_0), (.int .i64 x34_1), (.int .i64 x34_2), (.string x34_3), (.slice x34_4a x34_4n x34_4c)])
  (I2  H14 ∧ m2  H14 < m2  H5)) (fun ch H15 => R (.panicked ch) H15))) (fun ch H16 => R (.panicked ch) H16))
def parse_parser_expr (p0 : Addr) (deep1 : Int) (H : Heap) (R : Ending → Heap → Prop) : Prop :=
  let H1 : Heap := H.push (.cells ⟨[(.int .i64 0), (.int .i64 0), (.int .i64 0), (.string (⟨#[]⟩ : ByteArray)), (.slice none 0 0)]⟩ 25)
  CallsH Try.prog 82 ⟨[(.pointer (some p0)), (.int .i64 deep1)]⟩ H1 (onCall (fun rx10 H2 => ∃ x10_0 : Int, ∃ x10_1 : Int, ∃ x10_2 : Int, ∃ x10_3 : ByteArray, ∃ (x10_4a : Option Addr) (x10_4n x10_4c : Nat), rx10 = (.agg ⟨[(.int .i64 x10_0), (.int .i64 x10_1), (.int .i64 x10_2), (.string x10_3), (.slice x10_4a x10_4n x10_4c)]⟩) ∧ let H3 : Heap := H2.push (.cells ⟨[(.int .i64 0), (.int .i64 0), (.int .i64 0), (.string (⟨#[]⟩ : ByteArray)), (.slice none 0 0)]⟩ 25)
  MayPut H3 (newA H2) 5 ∧ let H4 : Heap := putH H3 (newA H2) ([(.int .i64 x10_0), (.int .i64 x10_1), (.int .i64 x10_2), (.string x10_3), (.slice x10_4a x10_4n x10_4c)])
  ∃ (I2 : Heap → Prop) (m2 : Heap → Nat), I2  H4 ∧ ∀ (H5 : Heap), I2  H5 → 
  CallsH Try.prog 80 ⟨[(.pointer (some p0)), (.int .i64 3), (.string (⟨#[43]⟩ : ByteArray))]⟩ H5 (onCall (fun rx14 H6 => ∃ x14 : Bool, rx14 = (.bool x14) ∧ ifB x14
  (parse_parser_expr_k1 p0 deep1 H2 I2 m2 H5 6 H6 R)
  (CallsH Try.prog 80 ⟨[(.pointer (some p0)), (.int .i64 3), (.string (⟨#[45]⟩ : ByteArray))]⟩ H6 (onCall (fun rx17 H17 => ∃ x17 : Bool, rx17 = (.bool x17) ∧ ifB x17
  (parse_parser_expr_k1 p0 deep1 H2 I2 m2 H5 7 H17 R)
  (∃ x11_0 : Int, ∃ x11_1 : Int, ∃ x11_2 : Int, ∃ x11_3 : ByteArray, ∃ (x11_4a : Option Addr) (x11_4n x11_4c : Nat), At H17 (newA H2) ([(.int .i64 x11_0), (.int .i64 x11_1), (.int .i64 x11_2), (.string x11_3), (.slice x11_4a x11_4n x11_4c)]) ∧ MayPut H17 (newA H) 5 ∧ let H18 : Heap := putH H17 (newA H) ([(.int .i64 x11_0), (.int .i64 x11_1), (.int .i64 x11_2), (.string x11_3), (.slice x11_4a x11_4n x11_4c)])
  ∃ o4_0 : Int, ∃ o4_1 : Int, ∃ o4_2 : Int, ∃ o4_3 : ByteArray, ∃ (o4_4a : Option Addr) (o4_4n o4_4c : Nat), At H18 (newA H) ([(.int .i64 o4_0), (.int .i64 o4_1), (.int .i64 o4_2), (.string o4_3), (.slice o4_4a o4_4n o4_4c)]) ∧ R (.returned (.agg ⟨[(.int .i64 o4_0), (.int .i64 o4_1), (.int .i64 o4_2), (.string o4_3), (.slice o4_4a o4_4n o4_4c)]⟩)) H18)) (fun ch H19 => R (.panicked ch) H19)))) (fun ch H20 => R (.panicked ch) H20))) (fun ch H21 => R (.panicked ch) H21))
def parse_parser_expr_ann : Ann := ⟨lookN (false, 0) [], lookN [] [], lookN [] [(2, [])]⟩
theorem parse_parser_expr_den (p0 : Addr) (deep1 : Int) (H : Heap) (R : Ending → Heap → Prop) : denF Try.prog Try.f61 parse_parser_expr_ann [(.pointer (some p0)), (.int .i64 deep1)] H R = parse_parser_expr p0 deep1 H R := by kernel_rfl
theorem parse_parser_expr_calls (p0 : Addr) (deep1 : Int) {H : Heap} {R : Ending → Heap → Prop} (h : parse_parser_expr p0 deep1 H R) : CallsH Try.prog 61 ⟨[(.pointer (some p0)), (.int .i64 deep1)]⟩ H R :=
  callsH_of namesOk mixedOk Try.func61 (ann := parse_parser_expr_ann) (by rw [parse_parser_expr_den]; exact h)

/-! (*slotrules parse.parser).is -/
def parse_parser_is (p0 : Addr) (kind1 : Int) (text2 : ByteArray) (H : Heap) (R : Ending → Heap → Prop) : Prop :=
  ∃ x10 : Int, cellH H (p0.add 1) = some (.int .i64 x10) ∧ ∃ (x14a : Option Addr) (x14n x14c : Nat), cellH H (p0.add 0) = some (.slice x14a x14n x14c) ∧ ∃ q31 : Bool, ifB (decide (x10 < (x14n : Int))) (∃ (x21a : Option Addr) (x21n x21c : Nat), cellH H (p0.add 0) = some (.slice x21a x21n x21c) ∧ ∃ x25 : Int, cellH H (p0.add 1) = some (.int .i64 x25) ∧ (0 : Int) ≤ x25 ∧ x25 < (x21n : Int) ∧ ∃ px26 : Addr, x21a = some px26 ∧ ∃ x28 : Int, cellH H ((px26.add (Int.toNat x25 * 4)).add 0) = some (.int .i64 x28) ∧ (x28 == kind1) = q31 ∧ H = H) (false = q31) ∧ ∃ q46 : Bool, ifB q31 (∃ (x36a : Option Addr) (x36n x36c : Nat), cellH H (p0.add 0) = some (.slice x36a x36n x36c) ∧ ∃ x40 : Int, cellH H (p0.add 1) = some (.int .i64 x40) ∧ (0 : Int) ≤ x40 ∧ x40 < (x36n : Int) ∧ ∃ px41 : Addr, x36a = some px41 ∧ ∃ x43 : ByteArray, cellH H ((px41.add (Int.toNat x40 * 4)).add 3) = some (.string x43) ∧ (x43.toList == text2.toList) = q46 ∧ H = H) (false = q46) ∧ R (.returned (.bool q46)) H
def parse_parser_is_ann : Ann := ⟨lookN (false, 0) [(1, false, 40)], lookN [] [], lookN [] []⟩
theorem parse_parser_is_den (p0 : Addr) (kind1 : Int) (text2 : ByteArray) (H : Heap) (R : Ending → Heap → Prop) : denF Try.prog Try.f80 parse_parser_is_ann [(.pointer (some p0)), (.int .i64 kind1), (.string text2)] H R = parse_parser_is p0 kind1 text2 H R := by kernel_rfl
theorem parse_parser_is_calls (p0 : Addr) (kind1 : Int) (text2 : ByteArray) {H : Heap} {R : Ending → Heap → Prop} (h : parse_parser_is p0 kind1 text2 H R) : CallsH Try.prog 80 ⟨[(.pointer (some p0)), (.int .i64 kind1), (.string text2)]⟩ H R :=
  callsH_of namesOk mixedOk Try.func80 (ann := parse_parser_is_ann) (by rw [parse_parser_is_den]; exact h)

/-! (*slotrules parse.parser).here -/
def parse_parser_here (p0 : Addr) (H : Heap) (R : Ending → Heap → Prop) : Prop :=
  ∃ x6 : Int, cellH H (p0.add 1) = some (.int .i64 x6) ∧ ∃ (x10a : Option Addr) (x10n x10c : Nat), cellH H (p0.add 0) = some (.slice x10a x10n x10c) ∧ ifB (decide (x6 < (x10n : Int)))
  (∃ (x16a : Option Addr) (x16n x16c : Nat), cellH H (p0.add 0) = some (.slice x16a x16n x16c) ∧ ∃ x20 : Int, cellH H (p0.add 1) = some (.int .i64 x20) ∧ (0 : Int) ≤ x20 ∧ x20 < (x16n : Int) ∧ ∃ px21 : Addr, x16a = some px21 ∧ ∃ x23 : Int, cellH H ((px21.add (Int.toNat x20 * 4)).add 2) = some (.int .i64 x23) ∧ R (.returned (.int .i64 x23)) H)
  (∃ x27 : Int, cellH H (p0.add 2) = some (.int .i64 x27) ∧ R (.returned (.int .i64 x27)) H)
def parse_parser_here_ann : Ann := ⟨lookN (false, 0) [(1, false, 10), (2, false, 11)], lookN [] [], lookN [] []⟩
theorem parse_parser_here_den (p0 : Addr) (H : Heap) (R : Ending → Heap → Prop) : denF Try.prog Try.f81 parse_parser_here_ann [(.pointer (some p0))] H R = parse_parser_here p0 H R := by kernel_rfl
theorem parse_parser_here_calls (p0 : Addr) {H : Heap} {R : Ending → Heap → Prop} (h : parse_parser_here p0 H R) : CallsH Try.prog 81 ⟨[(.pointer (some p0))]⟩ H R :=
  callsH_of namesOk mixedOk Try.func81 (ann := parse_parser_here_ann) (by rw [parse_parser_here_den]; exact h)

/-! (*slotrules parse.parser).term -/
def parse_parser_term (p0 : Addr) (deep1 : Int) (H : Heap) (R : Ending → Heap → Prop) : Prop :=
  let H1 : Heap := H.push (.cells ⟨[(.int .i64 0), (.int .i64 0), (.int .i64 0), (.string (⟨#[]⟩ : ByteArray)), (.slice none 0 0)]⟩ 25)
  CallsH Try.prog 95 ⟨[(.pointer (some p0)), (.int .i64 deep1)]⟩ H1 (onCall (fun rx9 H2 => ∃ x9_0 : Int, ∃ x9_1 : Int, ∃ x9_2 : Int, ∃ x9_3 : ByteArray, ∃ (x9_4a : Option Addr) (x9_4n x9_4c : Nat), rx9 = (.agg ⟨[(.int .i64 x9_0), (.int .i64 x9_1), (.int .i64 x9_2), (.string x9_3), (.slice x9_4a x9_4n x9_4c)]⟩) ∧ let H3 : Heap := H2.push (.cells ⟨[(.int .i64 0), (.int .i64 0), (.int .i64 0), (.string (⟨#[]⟩ : ByteArray)), (.slice none 0 0)]⟩ 25)
  MayPut H3 (newA H2) 5 ∧ let H4 : Heap := putH H3 (newA H2) ([(.int .i64 x9_0), (.int .i64 x9_1), (.int .i64 x9_2), (.string x9_3), (.slice x9_4a x9_4n x9_4c)])
  ∃ (I2 : Heap → Prop) (m2 : Heap → Nat), I2  H4 ∧ ∀ (H5 : Heap), I2  H5 → 
  CallsH Try.prog 57 ⟨[(.pointer (some p0)), (.int .i64 3), (.string (⟨#[38]⟩ : ByteArray))]⟩ H5 (onCall (fun rx11 H6 => ∃ x11 : Bool, rx11 = (.bool x11) ∧ ifB x11
  (CallsH Try.prog 95 ⟨[(.pointer (some p0)), (.int .i64 deep1)]⟩ H6 (onCall (fun rx14 H7 => ∃ x14_0 : Int, ∃ x14_1 : Int, ∃ x14_2 : Int, ∃ x14_3 : ByteArray, ∃ (x14_4a : Option Addr) (x14_4n x14_4c : Nat), rx14 = (.agg ⟨[(.int .i64 x14_0), (.int .i64 x14_1), (.int .i64 x14_2), (.string x14_3), (.slice x14_4a x14_4n x14_4c)]⟩) ∧ let H8 : Heap := H7.push (.cells ⟨[(.int .i64 0), (.int .i64 0), (.int .i64 0), (.string (⟨#[]⟩ : ByteArray)), (.slice none 0 0)]⟩ 25)
  MayPut H8 (newA H7) 5 ∧ let H9 : Heap := putH H8 (newA H7) ([(.int .i64 x14_0), (.int .i64 x14_1), (.int .i64 x14_2), (.string x14_3), (.slice x14_4a x14_4n x14_4c)])
  ∃ x16_0 : Int, ∃ x16_1 : Int, ∃ x16_2 : Int, ∃ x16_3 : ByteArray, ∃ (x16_4a : Option Addr) (x16_4n x16_4c : Nat), At H9 (newA H2) ([(.int .i64 x16_0), (.int .i64 x16_1), (.int .i64 x16_2), (.string x16_3), (.slice x16_4a x16_4n x16_4c)]) ∧ ∃ x17_0 : Int, ∃ x17_1 : Int, ∃ x17_2 : Int, ∃ x17_3 : ByteArray, ∃ (x17_4a : Option Addr) (x17_4n x17_4c : Nat), At H9 (newA H7) ([(.int .i64 x17_0), (.int .i64 x17_1), (.int .i64 x17_2), (.string x17_3), (.slice x17_4a x17_4n x17_4c)]) ∧ let H10 : Heap := H9.push (.cells ⟨[(.int .i64 x16_0), (.int .i64 x16_1), (.int .i64 x16_2), (.string x16_3), (.slice x16_4a x16_4n x16_4c), (.int .i64 x17_0), (.int .i64 x17_1), (.int .i64 x17_2), (.string x17_3), (.slice x17_4a x17_4n x17_4c)]⟩ 25)
  CallsH Try.prog 83 ⟨[(.pointer (some p0)), (.agg ⟨[(.int .i64 8), (.int .i64 0), (.int .i64 0), (.string (⟨#[]⟩ : ByteArray)), (.slice (some (newA H9)) 2 2)]⟩)]⟩ H10 (onCall (fun rx20 H11 => ∃ x20_0 : Int, ∃ x20_1 : Int, ∃ x20_2 : Int, ∃ x20_3 : ByteArray, ∃ (x20_4a : Option Addr) (x20_4n x20_4c : Nat), rx20 = (.agg ⟨[(.int .i64 x20_0), (.int .i64 x20_1), (.int .i64 x20_2), (.string x20_3), (.slice x20_4a x20_4n x20_4c)]⟩) ∧ MayPut H11 (newA H2) 5 ∧ let H12 : Heap := putH H11 (newA H2) ([(.int .i64 x20_0), (.int .i64 x20_1), (.int .i64 x20_2), (.string x20_3), (.slice x20_4a x20_4n x20_4c)])
  (I2  H12 ∧ m2  H12 < m2  H5)) (fun ch H13 => R (.panicked ch) H13))) (fun ch H14 => R (.panicked ch) H14)))
  (∃ x21_0 : Int, ∃ x21_1 : Int, ∃ x21_2 : Int, ∃ x21_3 : ByteArray, ∃ (x21_4a : Option Addr) (x21_4n x21_4c : Nat), At H6 (newA H2) ([(.int .i64 x21_0), (.int .i64 x21_1), (.int .i64 x21_2), (.string x21_3), (.slice x21_4a x21_4n x21_4c)]) ∧ MayPut H6 (newA H) 5 ∧ let H15 : Heap := putH H6 (newA H) ([(.int .i64 x21_0), (.int .i64 x21_1), (.int .i64 x21_2), (.string x21_3), (.slice x21_4a x21_4n x21_4c)])
  ∃ o4_0 : Int, ∃ o4_1 : Int, ∃ o4_2 : Int, ∃ o4_3 : ByteArray, ∃ (o4_4a : Option Addr) (o4_4n o4_4c : Nat), At H15 (newA H) ([(.int .i64 o4_0), (.int .i64 o4_1), (.int .i64 o4_2), (.string o4_3), (.slice o4_4a o4_4n o4_4c)]) ∧ R (.returned (.agg ⟨[(.int .i64 o4_0), (.int .i64 o4_1), (.int .i64 o4_2), (.string o4_3), (.slice o4_4a o4_4n o4_4c)]⟩)) H15)) (fun ch H16 => R (.panicked ch) H16))) (fun ch H17 => R (.panicked ch) H17))
def parse_parser_term_ann : Ann := ⟨lookN (false, 0) [], lookN [] [], lookN [] [(2, [])]⟩
theorem parse_parser_term_den (p0 : Addr) (deep1 : Int) (H : Heap) (R : Ending → Heap → Prop) : denF Try.prog Try.f82 parse_parser_term_ann [(.pointer (some p0)), (.int .i64 deep1)] H R = parse_parser_term p0 deep1 H R := by kernel_rfl
theorem parse_parser_term_calls (p0 : Addr) (deep1 : Int) {H : Heap} {R : Ending → Heap → Prop} (h : parse_parser_term p0 deep1 H R) : CallsH Try.prog 82 ⟨[(.pointer (some p0)), (.int .i64 deep1)]⟩ H R :=
  callsH_of namesOk mixedOk Try.func82 (ann := parse_parser_term_ann) (by rw [parse_parser_term_den]; exact h)

/-! (*slotrules parse.parser).node -/
def parse_parser_node_k1 (H : Heap) (H1 : Heap) (H5 : Heap) (R : Ending → Heap → Prop) : Prop :=
  ∃ x19_0 : Int, ∃ x19_1 : Int, ∃ x19_2 : Int, ∃ x19_3 : ByteArray, ∃ (x19_4a : Option Addr) (x19_4n x19_4c : Nat), At H5 (newA H) ([(.int .i64 x19_0), (.int .i64 x19_1), (.int .i64 x19_2), (.string x19_3), (.slice x19_4a x19_4n x19_4c)]) ∧ MayPut H5 (newA H1) 5 ∧ let H6 : Heap := putH H5 (newA H1) ([(.int .i64 x19_0), (.int .i64 x19_1), (.int .i64 x19_2), (.string x19_3), (.slice x19_4a x19_4n x19_4c)])
  ∃ o4_0 : Int, ∃ o4_1 : Int, ∃ o4_2 : Int, ∃ o4_3 : ByteArray, ∃ (o4_4a : Option Addr) (o4_4n o4_4c : Nat), At H6 (newA H1) ([(.int .i64 o4_0), (.int .i64 o4_1), (.int .i64 o4_2), (.string o4_3), (.slice o4_4a o4_4n o4_4c)]) ∧ R (.returned (.agg ⟨[(.int .i64 o4_0), (.int .i64 o4_1), (.int .i64 o4_2), (.string o4_3), (.slice o4_4a o4_4n o4_4c)]⟩)) H6
def parse_parser_node (p0 : Addr) (e1_0 : Int) (e1_1 : Int) (e1_2 : Int) (e1_3 : ByteArray) (e1_4a : Option Addr) (e1_4n : Nat) (e1_4c : Nat) (H : Heap) (R : Ending → Heap → Prop) : Prop :=
  let H1 : Heap := H.push (.cells ⟨[(.int .i64 e1_0), (.int .i64 e1_1), (.int .i64 e1_2), (.string e1_3), (.slice e1_4a e1_4n e1_4c)]⟩ 25)
  let H2 : Heap := H1.push (.cells ⟨[(.int .i64 0), (.int .i64 0), (.int .i64 0), (.string (⟨#[]⟩ : ByteArray)), (.slice none 0 0)]⟩ 25)
  ∃ x8 : Int, cellH H2 (p0.add 3) = some (.int .i64 x8) ∧ MayPut H2 (p0.add 3) 1 ∧ let H3 : Heap := putH H2 (p0.add 3) ([(.int .i64 (IntKind.i64.wrap (x8 + 1)))])
  ∃ x15 : Int, cellH H3 (p0.add 3) = some (.int .i64 x15) ∧ ifB (decide (x15 > 600))
  (CallsH Try.prog 58 ⟨[(.pointer (some p0)), (.int .i64 4)]⟩ H3 (onCall (fun rx18 H4 => parse_parser_node_k1 H H1 H4 R) (fun ch H7 => R (.panicked ch) H7)))
  (parse_parser_node_k1 H H1 H3 R)
def parse_parser_node_ann : Ann := ⟨lookN (false, 0) [], lookN [] [], lookN [] []⟩
theorem parse_parser_node_den (p0 : Addr) (e1_0 : Int) (e1_1 : Int) (e1_2 : Int) (e1_3 : ByteArray) (e1_4a : Option Addr) (e1_4n : Nat) (e1_4c : Nat) (H : Heap) (R : Ending → Heap → Prop) : denF Try.prog Try.f83 parse_parser_node_ann [(.pointer (some p0)), (.agg ⟨[(.int .i64 e1_0), (.int .i64 e1_1), (.int .i64 e1_2), (.string e1_3), (.slice e1_4a e1_4n e1_4c)]⟩)] H R = parse_parser_node p0 e1_0 e1_1 e1_2 e1_3 e1_4a e1_4n e1_4c H R := by kernel_rfl
theorem parse_parser_node_calls (p0 : Addr) (e1_0 : Int) (e1_1 : Int) (e1_2 : Int) (e1_3 : ByteArray) (e1_4a : Option Addr) (e1_4n : Nat) (e1_4c : Nat) {H : Heap} {R : Ending → Heap → Prop} (h : parse_parser_node p0 e1_0 e1_1 e1_2 e1_3 e1_4a e1_4n e1_4c H R) : CallsH Try.prog 83 ⟨[(.pointer (some p0)), (.agg ⟨[(.int .i64 e1_0), (.int .i64 e1_1), (.int .i64 e1_2), (.string e1_3), (.slice e1_4a e1_4n e1_4c)]⟩)]⟩ H R :=
  callsH_of namesOk mixedOk Try.func83 (ann := parse_parser_node_ann) (by rw [parse_parser_node_den]; exact h)

/-! (*slotrules parse.parser).factor -/
def parse_parser_factor_k2 (p0 : Addr) (H2 : Heap) (I2 : Heap → Prop) (m2 : Heap → Nat) (H5 : Heap) (sign6k : Int) (x21_1 : Int) (H12 : Heap) (R : Ending → Heap → Prop) : Prop :=
  ∃ x39_0 : Int, ∃ x39_1 : Int, ∃ x39_2 : Int, ∃ x39_3 : ByteArray, ∃ (x39_4a : Option Addr) (x39_4n x39_4c : Nat), At H12 (newA H2) ([(.int .i64 x39_0), (.int .i64 x39_1), (.int .i64 x39_2), (.string x39_3), (.slice x39_4a x39_4n x39_4c)]) ∧ let H13 : Heap := H12.push (.cells ⟨[(.int .i64 x39_0), (.int .i64 x39_1), (.int .i64 x39_2), (.string x39_3), (.slice x39_4a x39_4n x39_4c)]⟩ 25)
  CallsH Try.prog 83 ⟨[(.pointer (some p0)), (.agg ⟨[(.int .i64 9), (.int .i64 (IntKind.i64.wrap (sign6k * x21_1))), (.int .i64 0), (.string (⟨#[]⟩ : ByteArray)), (.slice (some (newA H12)) 1 1)]⟩)]⟩ H13 (onCall (fun rx42 H14 => ∃ x42_0 : Int, ∃ x42_1 : Int, ∃ x42_2 : Int, ∃ x42_3 : ByteArray, ∃ (x42_4a : Option Addr) (x42_4n x42_4c : Nat), rx42 = (.agg ⟨[(.int .i64 x42_0), (.int .i64 x42_1), (.int .i64 x42_2), (.string x42_3), (.slice x42_4a x42_4n x42_4c)]⟩) ∧ MayPut H14 (newA H2) 5 ∧ let H15 : Heap := putH H14 (newA H2) ([(.int .i64 x42_0), (.int .i64 x42_1), (.int .i64 x42_2), (.string x42_3), (.slice x42_4a x42_4n x42_4c)])
  (I2  H15 ∧ m2  H15 < m2  H5)) (fun ch H16 => R (.panicked ch) H16))
def parse_parser_factor_k1 (p0 : Addr) (H2 : Heap) (I2 : Heap → Prop) (m2 : Heap → Nat) (H5 : Heap) (sign6k : Int) (H8 : Heap) (R : Ending → Heap → Prop) : Prop :=
  ∃ x19 : Int, cellH H8 (p0.add 1) = some (.int .i64 x19) ∧ CallsH Try.prog 59 ⟨[(.pointer (some p0)), (.int .i64 6)]⟩ H8 (onCall (fun rx21 H9 => ∃ x21_0 : Int, ∃ x21_1 : Int, ∃ x21_2 : Int, ∃ x21_3 : ByteArray, rx21 = (.agg ⟨[(.int .i64 x21_0), (.int .i64 x21_1), (.int .i64 x21_2), (.string x21_3)]⟩) ∧ ifB ((decide (x21_1 < 1)) || (decide (x21_1 ≥ 1440)))
  (MayPut H9 (p0.add 1) 1 ∧ let H10 : Heap := putH H9 (p0.add 1) ([(.int .i64 x19)])
  CallsH Try.prog 58 ⟨[(.pointer (some p0)), (.int .i64 3)]⟩ H10 (onCall (fun rx34 H11 => parse_parser_factor_k2 p0 H2 I2 m2 H5 sign6k x21_1 H11 R) (fun ch H17 => R (.panicked ch) H17)))
  (parse_parser_factor_k2 p0 H2 I2 m2 H5 sign6k x21_1 H9 R)) (fun ch H18 => R (.panicked ch) H18))
def parse_parser_factor (p0 : Addr) (deep1 : Int) (H : Heap) (R : Ending → Heap → Prop) : Prop :=
  let H1 : Heap := H.push (.cells ⟨[(.int .i64 0), (.int .i64 0), (.int .i64 0), (.string (⟨#[]⟩ : ByteArray)), (.slice none 0 0)]⟩ 25)
  CallsH Try.prog 101 ⟨[(.pointer (some p0)), (.int .i64 deep1)]⟩ H1 (onCall (fun rx11 H2 => ∃ x11_0 : Int, ∃ x11_1 : Int, ∃ x11_2 : Int, ∃ x11_3 : ByteArray, ∃ (x11_4a : Option Addr) (x11_4n x11_4c : Nat), rx11 = (.agg ⟨[(.int .i64 x11_0), (.int .i64 x11_1), (.int .i64 x11_2), (.string x11_3), (.slice x11_4a x11_4n x11_4c)]⟩) ∧ let H3 : Heap := H2.push (.cells ⟨[(.int .i64 0), (.int .i64 0), (.int .i64 0), (.string (⟨#[]⟩ : ByteArray)), (.slice none 0 0)]⟩ 25)
  MayPut H3 (newA H2) 5 ∧ let H4 : Heap := putH H3 (newA H2) ([(.int .i64 x11_0), (.int .i64 x11_1), (.int .i64 x11_2), (.string x11_3), (.slice x11_4a x11_4n x11_4c)])
  ∃ (I2 : Heap → Prop) (m2 : Heap → Nat), I2  H4 ∧ ∀ (H5 : Heap), I2  H5 → 
  CallsH Try.prog 57 ⟨[(.pointer (some p0)), (.int .i64 2), (.string (⟨#[115, 104, 105, 102, 116]⟩ : ByteArray))]⟩ H5 (onCall (fun rx13 H6 => ∃ x13 : Bool, rx13 = (.bool x13) ∧ ifB x13
  (CallsH Try.prog 57 ⟨[(.pointer (some p0)), (.int .i64 3), (.string (⟨#[45]⟩ : ByteArray))]⟩ H6 (onCall (fun rx15 H7 => ∃ x15 : Bool, rx15 = (.bool x15) ∧ ifB x15
  (parse_parser_factor_k1 p0 H2 I2 m2 H5 (-1) H7 R)
  (parse_parser_factor_k1 p0 H2 I2 m2 H5 1 H7 R)) (fun ch H19 => R (.panicked ch) H19)))
  (∃ x43_0 : Int, ∃ x43_1 : Int, ∃ x43_2 : Int, ∃ x43_3 : ByteArray, ∃ (x43_4a : Option Addr) (x43_4n x43_4c : Nat), At H6 (newA H2) ([(.int .i64 x43_0), (.int .i64 x43_1), (.int .i64 x43_2), (.string x43_3), (.slice x43_4a x43_4n x43_4c)]) ∧ MayPut H6 (newA H) 5 ∧ let H20 : Heap := putH H6 (newA H) ([(.int .i64 x43_0), (.int .i64 x43_1), (.int .i64 x43_2), (.string x43_3), (.slice x43_4a x43_4n x43_4c)])
  ∃ o4_0 : Int, ∃ o4_1 : Int, ∃ o4_2 : Int, ∃ o4_3 : ByteArray, ∃ (o4_4a : Option Addr) (o4_4n o4_4c : Nat), At H20 (newA H) ([(.int .i64 o4_0), (.int .i64 o4_1), (.int .i64 o4_2), (.string o4_3), (.slice o4_4a o4_4n o4_4c)]) ∧ R (.returned (.agg ⟨[(.int .i64 o4_0), (.int .i64 o4_1), (.int .i64 o4_2), (.string o4_3), (.slice o4_4a o4_4n o4_4c)]⟩)) H20)) (fun ch H21 => R (.panicked ch) H21))) (fun ch H22 => R (.panicked ch) H22))
def parse_parser_factor_ann : Ann := ⟨lookN (false, 0) [], lookN [] [], lookN [] [(2, [])]⟩
theorem parse_parser_factor_den (p0 : Addr) (deep1 : Int) (H : Heap) (R : Ending → Heap → Prop) : denF Try.prog Try.f95 parse_parser_factor_ann [(.pointer (some p0)), (.int .i64 deep1)] H R = parse_parser_factor p0 deep1 H R := by kernel_rfl
theorem parse_parser_factor_calls (p0 : Addr) (deep1 : Int) {H : Heap} {R : Ending → Heap → Prop} (h : parse_parser_factor p0 deep1 H R) : CallsH Try.prog 95 ⟨[(.pointer (some p0)), (.int .i64 deep1)]⟩ H R :=
  callsH_of namesOk mixedOk Try.func95 (ann := parse_parser_factor_ann) (by rw [parse_parser_factor_den]; exact h)

/-! (*slotrules parse.parser).thing -/
def parse_parser_thing_k2 (p0 : Addr) (H : Heap) (x79_1 : Int) (x88_1 : Int) (H38 : Heap) (R : Ending → Heap → Prop) : Prop :=
  CallsH Try.prog 83 ⟨[(.pointer (some p0)), (.agg ⟨[(.int .i64 3), (.int .i64 x79_1), (.int .i64 x88_1), (.string (⟨#[]⟩ : ByteArray)), (.slice none 0 0)]⟩)]⟩ H38 (onCall (fun rx103 H39 => ∃ x103_0 : Int, ∃ x103_1 : Int, ∃ x103_2 : Int, ∃ x103_3 : ByteArray, ∃ (x103_4a : Option Addr) (x103_4n x103_4c : Nat), rx103 = (.agg ⟨[(.int .i64 x103_0), (.int .i64 x103_1), (.int .i64 x103_2), (.string x103_3), (.slice x103_4a x103_4n x103_4c)]⟩) ∧ MayPut H39 (newA H) 5 ∧ let H40 : Heap := putH H39 (newA H) ([(.int .i64 x103_0), (.int .i64 x103_1), (.int .i64 x103_2), (.string x103_3), (.slice x103_4a x103_4n x103_4c)])
  ∃ o4_0 : Int, ∃ o4_1 : Int, ∃ o4_2 : Int, ∃ o4_3 : ByteArray, ∃ (o4_4a : Option Addr) (o4_4n o4_4c : Nat), At H40 (newA H) ([(.int .i64 o4_0), (.int .i64 o4_1), (.int .i64 o4_2), (.string o4_3), (.slice o4_4a o4_4n o4_4c)]) ∧ R (.returned (.agg ⟨[(.int .i64 o4_0), (.int .i64 o4_1), (.int .i64 o4_2), (.string o4_3), (.slice o4_4a o4_4n o4_4c)]⟩)) H40) (fun ch H41 => R (.panicked ch) H41))
def parse_parser_thing_k1 (p0 : Addr) (deep1 : Int) (H : Heap) (H3 : Heap) (R : Ending → Heap → Prop) : Prop :=
  CallsH Try.prog 57 ⟨[(.pointer (some p0)), (.int .i64 3), (.string (⟨#[40]⟩ : ByteArray))]⟩ H3 (onCall (fun rx15 H4 => ∃ x15 : Bool, rx15 = (.bool x15) ∧ ifB x15
  (CallsH Try.prog 61 ⟨[(.pointer (some p0)), (.int .i64 (IntKind.i64.wrap (deep1 + 1)))]⟩ H4 (onCall (fun rx19 H5 => ∃ x19_0 : Int, ∃ x19_1 : Int, ∃ x19_2 : Int, ∃ x19_3 : ByteArray, ∃ (x19_4a : Option Addr) (x19_4n x19_4c : Nat), rx19 = (.agg ⟨[(.int .i64 x19_0), (.int .i64 x19_1), (.int .i64 x19_2), (.string x19_3), (.slice x19_4a x19_4n x19_4c)]⟩) ∧ let H6 : Heap := H5.push (.cells ⟨[(.int .i64 0), (.int .i64 0), (.int .i64 0), (.string (⟨#[]⟩ : ByteArray)), (.slice none 0 0)]⟩ 25)
  MayPut H6 (newA H5) 5 ∧ let H7 : Heap := putH H6 (newA H5) ([(.int .i64 x19_0), (.int .i64 x19_1), (.int .i64 x19_2), (.string x19_3), (.slice x19_4a x19_4n x19_4c)])
  CallsH Try.prog 60 ⟨[(.pointer (some p0)), (.string (⟨#[41]⟩ : ByteArray))]⟩ H7 (onCall (fun rx21 H8 => ∃ x22_0 : Int, ∃ x22_1 : Int, ∃ x22_2 : Int, ∃ x22_3 : ByteArray, ∃ (x22_4a : Option Addr) (x22_4n x22_4c : Nat), At H8 (newA H5) ([(.int .i64 x22_0), (.int .i64 x22_1), (.int .i64 x22_2), (.string x22_3), (.slice x22_4a x22_4n x22_4c)]) ∧ MayPut H8 (newA H) 5 ∧ let H9 : Heap := putH H8 (newA H) ([(.int .i64 x22_0), (.int .i64 x22_1), (.int .i64 x22_2), (.string x22_3), (.slice x22_4a x22_4n x22_4c)])
  ∃ o4_0 : Int, ∃ o4_1 : Int, ∃ o4_2 : Int, ∃ o4_3 : ByteArray, ∃ (o4_4a : Option Addr) (o4_4n o4_4c : Nat), At H9 (newA H) ([(.int .i64 o4_0), (.int .i64 o4_1), (.int .i64 o4_2), (.string o4_3), (.slice o4_4a o4_4n o4_4c)]) ∧ R (.returned (.agg ⟨[(.int .i64 o4_0), (.int .i64 o4_1), (.int .i64 o4_2), (.string o4_3), (.slice o4_4a o4_4n o4_4c)]⟩)) H9) (fun ch H10 => R (.panicked ch) H10))) (fun ch H11 => R (.panicked ch) H11)))
  (CallsH Try.prog 57 ⟨[(.pointer (some p0)), (.int .i64 2), (.string (⟨#[110, 101, 118, 101, 114]⟩ : ByteArray))]⟩ H4 (onCall (fun rx25 H12 => ∃ x25 : Bool, rx25 = (.bool x25) ∧ ifB x25
  (CallsH Try.prog 83 ⟨[(.pointer (some p0)), (.agg ⟨[(.int .i64 1), (.int .i64 0), (.int .i64 0), (.string (⟨#[]⟩ : ByteArray)), (.slice none 0 0)]⟩)]⟩ H12 (onCall (fun rx28 H13 => ∃ x28_0 : Int, ∃ x28_1 : Int, ∃ x28_2 : Int, ∃ x28_3 : ByteArray, ∃ (x28_4a : Option Addr) (x28_4n x28_4c : Nat), rx28 = (.agg ⟨[(.int .i64 x28_0), (.int .i64 x28_1), (.int .i64 x28_2), (.string x28_3), (.slice x28_4a x28_4n x28_4c)]⟩) ∧ MayPut H13 (newA H) 5 ∧ let H14 : Heap := putH H13 (newA H) ([(.int .i64 x28_0), (.int .i64 x28_1), (.int .i64 x28_2), (.string x28_3), (.slice x28_4a x28_4n x28_4c)])
  ∃ o4_0 : Int, ∃ o4_1 : Int, ∃ o4_2 : Int, ∃ o4_3 : ByteArray, ∃ (o4_4a : Option Addr) (o4_4n o4_4c : Nat), At H14 (newA H) ([(.int .i64 o4_0), (.int .i64 o4_1), (.int .i64 o4_2), (.string o4_3), (.slice o4_4a o4_4n o4_4c)]) ∧ R (.returned (.agg ⟨[(.int .i64 o4_0), (.int .i64 o4_1), (.int .i64 o4_2), (.string o4_3), (.slice o4_4a o4_4n o4_4c)]⟩)) H14) (fun ch H15 => R (.panicked ch) H15)))
  (CallsH Try.prog 57 ⟨[(.pointer (some p0)), (.int .i64 2), (.string (⟨#[97, 108, 119, 97, 121, 115]⟩ : ByteArray))]⟩ H12 (onCall (fun rx31 H16 => ∃ x31 : Bool, rx31 = (.bool x31) ∧ ifB x31
  (CallsH Try.prog 83 ⟨[(.pointer (some p0)), (.agg ⟨[(.int .i64 2), (.int .i64 0), (.int .i64 0), (.string (⟨#[]⟩ : ByteArray)), (.slice none 0 0)]⟩)]⟩ H16 (onCall (fun rx34 H17 => ∃ x34_0 : Int, ∃ x34_1 : Int, ∃ x34_2 : Int, ∃ x34_3 : ByteArray, ∃ (x34_4a : Option Addr) (x34_4n x34_4c : Nat), rx34 = (.agg ⟨[(.int .i64 x34_0), (.int .i64 x34_1), (.int .i64 x34_2), (.string x34_3), (.slice x34_4a x34_4n x34_4c)]⟩) ∧ MayPut H17 (newA H) 5 ∧ let H18 : Heap := putH H17 (newA H) ([(.int .i64 x34_0), (.int .i64 x34_1), (.int .i64 x34_2), (.string x34_3), (.slice x34_4a x34_4n x34_4c)])
  ∃ o4_0 : Int, ∃ o4_1 : Int, ∃ o4_2 : Int, ∃ o4_3 : ByteArray, ∃ (o4_4a : Option Addr) (o4_4n o4_4c : Nat), At H18 (newA H) ([(.int .i64 o4_0), (.int .i64 o4_1), (.int .i64 o4_2), (.string o4_3), (.slice o4_4a o4_4n o4_4c)]) ∧ R (.returned (.agg ⟨[(.int .i64 o4_0), (.int .i64 o4_1), (.int .i64 o4_2), (.string o4_3), (.slice o4_4a o4_4n o4_4c)]⟩)) H18) (fun ch H19 => R (.panicked ch) H19)))
  (CallsH Try.prog 57 ⟨[(.pointer (some p0)), (.int .i64 2), (.string (⟨#[119, 101, 101, 107, 108, 121]⟩ : ByteArray))]⟩ H16 (onCall (fun rx37 H20 => ∃ x37 : Bool, rx37 = (.bool x37) ∧ ifB x37
  (CallsH Try.prog 104 ⟨[(.pointer (some p0)), (.int .i64 deep1)]⟩ H20 (onCall (fun rx40 H21 => ∃ x40_0 : Int, ∃ x40_1 : Int, ∃ x40_2 : Int, ∃ x40_3 : ByteArray, ∃ (x40_4a : Option Addr) (x40_4n x40_4c : Nat), rx40 = (.agg ⟨[(.int .i64 x40_0), (.int .i64 x40_1), (.int .i64 x40_2), (.string x40_3), (.slice x40_4a x40_4n x40_4c)]⟩) ∧ MayPut H21 (newA H) 5 ∧ let H22 : Heap := putH H21 (newA H) ([(.int .i64 x40_0), (.int .i64 x40_1), (.int .i64 x40_2), (.string x40_3), (.slice x40_4a x40_4n x40_4c)])
  ∃ o4_0 : Int, ∃ o4_1 : Int, ∃ o4_2 : Int, ∃ o4_3 : ByteArray, ∃ (o4_4a : Option Addr) (o4_4n o4_4c : Nat), At H22 (newA H) ([(.int .i64 o4_0), (.int .i64 o4_1), (.int .i64 o4_2), (.string o4_3), (.slice o4_4a o4_4n o4_4c)]) ∧ R (.returned (.agg ⟨[(.int .i64 o4_0), (.int .i64 o4_1), (.int .i64 o4_2), (.string o4_3), (.slice o4_4a o4_4n o4_4c)]⟩)) H22) (fun ch H23 => R (.panicked ch) H23)))
  (CallsH Try.prog 57 ⟨[(.pointer (some p0)), (.int .i64 2), (.string (⟨#[100, 97, 116, 101, 115]⟩ : ByteArray))]⟩ H20 (onCall (fun rx43 H24 => ∃ x43 : Bool, rx43 = (.bool x43) ∧ ifB x43
  (CallsH Try.prog 105 ⟨[(.pointer (some p0)), (.int .i64 deep1)]⟩ H24 (onCall (fun rx46 H25 => ∃ x46_0 : Int, ∃ x46_1 : Int, ∃ x46_2 : Int, ∃ x46_3 : ByteArray, ∃ (x46_4a : Option Addr) (x46_4n x46_4c : Nat), rx46 = (.agg ⟨[(.int .i64 x46_0), (.int .i64 x46_1), (.int .i64 x46_2), (.string x46_3), (.slice x46_4a x46_4n x46_4c)]⟩) ∧ MayPut H25 (newA H) 5 ∧ let H26 : Heap := putH H25 (newA H) ([(.int .i64 x46_0), (.int .i64 x46_1), (.int .i64 x46_2), (.string x46_3), (.slice x46_4a x46_4n x46_4c)])
  ∃ o4_0 : Int, ∃ o4_1 : Int, ∃ o4_2 : Int, ∃ o4_3 : ByteArray, ∃ (o4_4a : Option Addr) (o4_4n o4_4c : Nat), At H26 (newA H) ([(.int .i64 o4_0), (.int .i64 o4_1), (.int .i64 o4_2), (.string o4_3), (.slice o4_4a o4_4n o4_4c)]) ∧ R (.returned (.agg ⟨[(.int .i64 o4_0), (.int .i64 o4_1), (.int .i64 o4_2), (.string o4_3), (.slice o4_4a o4_4n o4_4c)]⟩)) H26) (fun ch H27 => R (.panicked ch) H27)))
  (∃ x51 : Int, cellH H24 (p0.add 1) = some (.int .i64 x51) ∧ ∃ (x55a : Option Addr) (x55n x55c : Nat), cellH H24 (p0.add 0) = some (.slice x55a x55n x55c) ∧ ∃ q71 : Bool, ifB (decide (x51 < (x55n : Int))) (∃ (x62a : Option Addr) (x62n x62c : Nat), cellH H24 (p0.add 0) = some (.slice x62a x62n x62c) ∧ ∃ x66 : Int, cellH H24 (p0.add 1) = some (.int .i64 x66) ∧ (0 : Int) ≤ x66 ∧ x66 < (x62n : Int) ∧ ∃ px67 : Addr, x62a = some px67 ∧ ∃ x69 : Int, cellH H24 ((px67.add (Int.toNat x66 * 4)).add 0) = some (.int .i64 x69) ∧ (x69 == 1) = q71 ∧ H24 = H24) (false = q71) ∧ ifB q71
  (CallsH Try.prog 59 ⟨[(.pointer (some p0)), (.int .i64 1)]⟩ H24 (onCall (fun rx74 H28 => ∃ x74_0 : Int, ∃ x74_1 : Int, ∃ x74_2 : Int, ∃ x74_3 : ByteArray, rx74 = (.agg ⟨[(.int .i64 x74_0), (.int .i64 x74_1), (.int .i64 x74_2), (.string x74_3)]⟩) ∧ CallsH Try.prog 83 ⟨[(.pointer (some p0)), (.agg ⟨[(.int .i64 10), (.int .i64 0), (.int .i64 0), (.string x74_3), (.slice none 0 0)]⟩)]⟩ H28 (onCall (fun rx77 H29 => ∃ x77_0 : Int, ∃ x77_1 : Int, ∃ x77_2 : Int, ∃ x77_3 : ByteArray, ∃ (x77_4a : Option Addr) (x77_4n x77_4c : Nat), rx77 = (.agg ⟨[(.int .i64 x77_0), (.int .i64 x77_1), (.int .i64 x77_2), (.string x77_3), (.slice x77_4a x77_4n x77_4c)]⟩) ∧ MayPut H29 (newA H) 5 ∧ let H30 : Heap := putH H29 (newA H) ([(.int .i64 x77_0), (.int .i64 x77_1), (.int .i64 x77_2), (.string x77_3), (.slice x77_4a x77_4n x77_4c)])
  ∃ o4_0 : Int, ∃ o4_1 : Int, ∃ o4_2 : Int, ∃ o4_3 : ByteArray, ∃ (o4_4a : Option Addr) (o4_4n o4_4c : Nat), At H30 (newA H) ([(.int .i64 o4_0), (.int .i64 o4_1), (.int .i64 o4_2), (.string o4_3), (.slice o4_4a o4_4n o4_4c)]) ∧ R (.returned (.agg ⟨[(.int .i64 o4_0), (.int .i64 o4_1), (.int .i64 o4_2), (.string o4_3), (.slice o4_4a o4_4n o4_4c)]⟩)) H30) (fun ch H31 => R (.panicked ch) H31))) (fun ch H32 => R (.panicked ch) H32)))
  (CallsH Try.prog 59 ⟨[(.pointer (some p0)), (.int .i64 4)]⟩ H24 (onCall (fun rx79 H33 => ∃ x79_0 : Int, ∃ x79_1 : Int, ∃ x79_2 : Int, ∃ x79_3 : ByteArray, rx79 = (.agg ⟨[(.int .i64 x79_0), (.int .i64 x79_1), (.int .i64 x79_2), (.string x79_3)]⟩) ∧ CallsH Try.prog 60 ⟨[(.pointer (some p0)), (.string (⟨#[45]⟩ : ByteArray))]⟩ H33 (onCall (fun rx82 H34 => ∃ x86 : Int, cellH H34 (p0.add 1) = some (.int .i64 x86) ∧ CallsH Try.prog 59 ⟨[(.pointer (some p0)), (.int .i64 4)]⟩ H34 (onCall (fun rx88 H35 => ∃ x88_0 : Int, ∃ x88_1 : Int, ∃ x88_2 : Int, ∃ x88_3 : ByteArray, rx88 = (.agg ⟨[(.int .i64 x88_0), (.int .i64 x88_1), (.int .i64 x88_2), (.string x88_3)]⟩) ∧ ifB (decide (x88_1 ≤ x79_1))
  (MayPut H35 (p0.add 1) 1 ∧ let H36 : Heap := putH H35 (p0.add 1) ([(.int .i64 x86)])
  CallsH Try.prog 58 ⟨[(.pointer (some p0)), (.int .i64 3)]⟩ H36 (onCall (fun rx98 H37 => parse_parser_thing_k2 p0 H x79_1 x88_1 H37 R) (fun ch H42 => R (.panicked ch) H42)))
  (parse_parser_thing_k2 p0 H x79_1 x88_1 H35 R)) (fun ch H43 => R (.panicked ch) H43))) (fun ch H44 => R (.panicked ch) H44))) (fun ch H45 => R (.panicked ch) H45))))) (fun ch H46 => R (.panicked ch) H46)))) (fun ch H47 => R (.panicked ch) H47)))) (fun ch H48 => R (.panicked ch) H48)))) (fun ch H49 => R (.panicked ch) H49)))) (fun ch H50 => R (.panicked ch) H50))
def parse_parser_thing (p0 : Addr) (deep1 : Int) (H : Heap) (R : Ending → Heap → Prop) : Prop :=
  let H1 : Heap := H.push (.cells ⟨[(.int .i64 0), (.int .i64 0), (.int .i64 0), (.string (⟨#[]⟩ : ByteArray)), (.slice none 0 0)]⟩ 25)
  ifB (decide (deep1 > 40))
  (CallsH Try.prog 58 ⟨[(.pointer (some p0)), (.int .i64 4)]⟩ H1 (onCall (fun rx12 H2 => parse_parser_thing_k1 p0 deep1 H H2 R) (fun ch H51 => R (.panicked ch) H51)))
  (parse_parser_thing_k1 p0 deep1 H H1 R)
def parse_parser_thing_ann : Ann := ⟨lookN (false, 0) [(15, false, 25)], lookN [] [], lookN [] []⟩
theorem parse_parser_thing_den (p0 : Addr) (deep1 : Int) (H : Heap) (R : Ending → Heap → Prop) : denF Try.prog Try.f101 parse_parser_thing_ann [(.pointer (some p0)), (.int .i64 deep1)] H R = parse_parser_thing p0 deep1 H R := by kernel_rfl
theorem parse_parser_thing_calls (p0 : Addr) (deep1 : Int) {H : Heap} {R : Ending → Heap → Prop} (h : parse_parser_thing p0 deep1 H R) : CallsH Try.prog 101 ⟨[(.pointer (some p0)), (.int .i64 deep1)]⟩ H R :=
  callsH_of namesOk mixedOk Try.func101 (ann := parse_parser_thing_ann) (by rw [parse_parser_thing_den]; exact h)

/-! (*slotrules parse.parser).weekly -/
def parse_parser_weekly_k1 (p0 : Addr) (deep1 : Int) (H : Heap) (I2 : Int → Heap → Prop) (m2 : Int → Heap → Nat) (set5 : Int) (H2 : Heap) (x16 : Int) (H8 : Heap) (R : Ending → Heap → Prop) : Prop :=
  (0 : Int) ≤ x16 ∧ CallsH Try.prog 57 ⟨[(.pointer (some p0)), (.int .i64 3), (.string (⟨#[44]⟩ : ByteArray))]⟩ H8 (onCall (fun rx30 H9 => ∃ x30 : Bool, rx30 = (.bool x30) ∧ ifB (!x30)
  (CallsH Try.prog 60 ⟨[(.pointer (some p0)), (.string (⟨#[58]⟩ : ByteArray))]⟩ H9 (onCall (fun rx33 H10 => CallsH Try.prog 95 ⟨[(.pointer (some p0)), (.int .i64 (IntKind.i64.wrap (deep1 + 1)))]⟩ H10 (onCall (fun rx39 H11 => ∃ x39_0 : Int, ∃ x39_1 : Int, ∃ x39_2 : Int, ∃ x39_3 : ByteArray, ∃ (x39_4a : Option Addr) (x39_4n x39_4c : Nat), rx39 = (.agg ⟨[(.int .i64 x39_0), (.int .i64 x39_1), (.int .i64 x39_2), (.string x39_3), (.slice x39_4a x39_4n x39_4c)]⟩) ∧ let H12 : Heap := H11.push (.cells ⟨[(.int .i64 x39_0), (.int .i64 x39_1), (.int .i64 x39_2), (.string x39_3), (.slice x39_4a x39_4n x39_4c)]⟩ 25)
  CallsH Try.prog 83 ⟨[(.pointer (some p0)), (.agg ⟨[(.int .i64 4), (.int .i64 (bOr .i64 set5 (IntKind.i64.wrap (1 * 2 ^ (min (Int.toNat x16) 64))))), (.int .i64 0), (.string (⟨#[]⟩ : ByteArray)), (.slice (some (newA H11)) 1 1)]⟩)]⟩ H12 (onCall (fun rx42 H13 => ∃ x42_0 : Int, ∃ x42_1 : Int, ∃ x42_2 : Int, ∃ x42_3 : ByteArray, ∃ (x42_4a : Option Addr) (x42_4n x42_4c : Nat), rx42 = (.agg ⟨[(.int .i64 x42_0), (.int .i64 x42_1), (.int .i64 x42_2), (.string x42_3), (.slice x42_4a x42_4n x42_4c)]⟩) ∧ MayPut H13 (newA H) 5 ∧ let H14 : Heap := putH H13 (newA H) ([(.int .i64 x42_0), (.int .i64 x42_1), (.int .i64 x42_2), (.string x42_3), (.slice x42_4a x42_4n x42_4c)])
  ∃ o4_0 : Int, ∃ o4_1 : Int, ∃ o4_2 : Int, ∃ o4_3 : ByteArray, ∃ (o4_4a : Option Addr) (o4_4n o4_4c : Nat), At H14 (newA H) ([(.int .i64 o4_0), (.int .i64 o4_1), (.int .i64 o4_2), (.string o4_3), (.slice o4_4a o4_4n o4_4c)]) ∧ R (.returned (.agg ⟨[(.int .i64 o4_0), (.int .i64 o4_1), (.int .i64 o4_2), (.string o4_3), (.slice o4_4a o4_4n o4_4c)]⟩)) H14) (fun ch H15 => R (.panicked ch) H15))) (fun ch H16 => R (.panicked ch) H16))) (fun ch H17 => R (.panicked ch) H17)))
  ((I2 (bOr .i64 set5 (IntKind.i64.wrap (1 * 2 ^ (min (Int.toNat x16) 64)))) H9 ∧ m2 (bOr .i64 set5 (IntKind.i64.wrap (1 * 2 ^ (min (Int.toNat x16) 64)))) H9 < m2 set5 H2))) (fun ch H18 => R (.panicked ch) H18))
def parse_parser_weekly (p0 : Addr) (deep1 : Int) (H : Heap) (R : Ending → Heap → Prop) : Prop :=
  let H1 : Heap := H.push (.cells ⟨[(.int .i64 0), (.int .i64 0), (.int .i64 0), (.string (⟨#[]⟩ : ByteArray)), (.slice none 0 0)]⟩ 25)
  ∃ (I2 : Int → Heap → Prop) (m2 : Int → Heap → Nat), I2 0 H1 ∧ ∀ (set5 : Int) (H2 : Heap), I2 set5 H2 → 
  ∃ x11 : Int, cellH H2 (p0.add 1) = some (.int .i64 x11) ∧ CallsH Try.prog 106 ⟨[]⟩ H2 (onCall (fun rx12 H3 => ∃ (x12a : Option Addr) (x12n x12c : Nat), rx12 = (.slice x12a x12n x12c) ∧ CallsH Try.prog 59 ⟨[(.pointer (some p0)), (.int .i64 2)]⟩ H3 (onCall (fun rx14 H4 => ∃ x14_0 : Int, ∃ x14_1 : Int, ∃ x14_2 : Int, ∃ x14_3 : ByteArray, rx14 = (.agg ⟨[(.int .i64 x14_0), (.int .i64 x14_1), (.int .i64 x14_2), (.string x14_3)]⟩) ∧ CallsH Try.prog 78 ⟨[(.slice x12a x12n x12c), (.string x14_3)]⟩ H4 (onCall (fun rx16 H5 => ∃ x16 : Int, rx16 = (.int .i64 x16) ∧ ifB (decide (x16 < 0))
  (MayPut H5 (p0.add 1) 1 ∧ let H6 : Heap := putH H5 (p0.add 1) ([(.int .i64 x11)])
  CallsH Try.prog 58 ⟨[(.pointer (some p0)), (.int .i64 2)]⟩ H6 (onCall (fun rx24 H7 => parse_parser_weekly_k1 p0 deep1 H I2 m2 set5 H2 x16 H7 R) (fun ch H19 => R (.panicked ch) H19)))
  (parse_parser_weekly_k1 p0 deep1 H I2 m2 set5 H2 x16 H5 R)) (fun ch H20 => R (.panicked ch) H20))) (fun ch H21 => R (.panicked ch) H21))) (fun ch H22 => R (.panicked ch) H22))
def parse_parser_weekly_ann : Ann := ⟨lookN (false, 0) [], lookN [] [], lookN [] [(2, [(5, .int .i64)])]⟩
theorem parse_parser_weekly_den (p0 : Addr) (deep1 : Int) (H : Heap) (R : Ending → Heap → Prop) : denF Try.prog Try.f104 parse_parser_weekly_ann [(.pointer (some p0)), (.int .i64 deep1)] H R = parse_parser_weekly p0 deep1 H R := by kernel_rfl
theorem parse_parser_weekly_calls (p0 : Addr) (deep1 : Int) {H : Heap} {R : Ending → Heap → Prop} (h : parse_parser_weekly p0 deep1 H R) : CallsH Try.prog 104 ⟨[(.pointer (some p0)), (.int .i64 deep1)]⟩ H R :=
  callsH_of namesOk mixedOk Try.func104 (ann := parse_parser_weekly_ann) (by rw [parse_parser_weekly_den]; exact h)

/-! (*slotrules parse.parser).dates -/
def parse_parser_dates_k1 (p0 : Addr) (deep1 : Int) (H : Heap) (x9_1 : Int) (b6k : Int) (H7 : Heap) (R : Ending → Heap → Prop) : Prop :=
  CallsH Try.prog 60 ⟨[(.pointer (some p0)), (.string (⟨#[58]⟩ : ByteArray))]⟩ H7 (onCall (fun rx31 H8 => CallsH Try.prog 95 ⟨[(.pointer (some p0)), (.int .i64 (IntKind.i64.wrap (deep1 + 1)))]⟩ H8 (onCall (fun rx38 H9 => ∃ x38_0 : Int, ∃ x38_1 : Int, ∃ x38_2 : Int, ∃ x38_3 : ByteArray, ∃ (x38_4a : Option Addr) (x38_4n x38_4c : Nat), rx38 = (.agg ⟨[(.int .i64 x38_0), (.int .i64 x38_1), (.int .i64 x38_2), (.string x38_3), (.slice x38_4a x38_4n x38_4c)]⟩) ∧ let H10 : Heap := H9.push (.cells ⟨[(.int .i64 x38_0), (.int .i64 x38_1), (.int .i64 x38_2), (.string x38_3), (.slice x38_4a x38_4n x38_4c)]⟩ 25)
  CallsH Try.prog 83 ⟨[(.pointer (some p0)), (.agg ⟨[(.int .i64 5), (.int .i64 x9_1), (.int .i64 b6k), (.string (⟨#[]⟩ : ByteArray)), (.slice (some (newA H9)) 1 1)]⟩)]⟩ H10 (onCall (fun rx41 H11 => ∃ x41_0 : Int, ∃ x41_1 : Int, ∃ x41_2 : Int, ∃ x41_3 : ByteArray, ∃ (x41_4a : Option Addr) (x41_4n x41_4c : Nat), rx41 = (.agg ⟨[(.int .i64 x41_0), (.int .i64 x41_1), (.int .i64 x41_2), (.string x41_3), (.slice x41_4a x41_4n x41_4c)]⟩) ∧ MayPut H11 (newA H) 5 ∧ let H12 : Heap := putH H11 (newA H) ([(.int .i64 x41_0), (.int .i64 x41_1), (.int .i64 x41_2), (.string x41_3), (.slice x41_4a x41_4n x41_4c)])
  ∃ o4_0 : Int, ∃ o4_1 : Int, ∃ o4_2 : Int, ∃ o4_3 : ByteArray, ∃ (o4_4a : Option Addr) (o4_4n o4_4c : Nat), At H12 (newA H) ([(.int .i64 o4_0), (.int .i64 o4_1), (.int .i64 o4_2), (.string o4_3), (.slice o4_4a o4_4n o4_4c)]) ∧ R (.returned (.agg ⟨[(.int .i64 o4_0), (.int .i64 o4_1), (.int .i64 o4_2), (.string o4_3), (.slice o4_4a o4_4n o4_4c)]⟩)) H12) (fun ch H13 => R (.panicked ch) H13))) (fun ch H14 => R (.panicked ch) H14))) (fun ch H15 => R (.panicked ch) H15))
def parse_parser_dates (p0 : Addr) (deep1 : Int) (H : Heap) (R : Ending → Heap → Prop) : Prop :=
  let H1 : Heap := H.push (.cells ⟨[(.int .i64 0), (.int .i64 0), (.int .i64 0), (.string (⟨#[]⟩ : ByteArray)), (.slice none 0 0)]⟩ 25)
  CallsH Try.prog 59 ⟨[(.pointer (some p0)), (.int .i64 5)]⟩ H1 (onCall (fun rx9 H2 => ∃ x9_0 : Int, ∃ x9_1 : Int, ∃ x9_2 : Int, ∃ x9_3 : ByteArray, rx9 = (.agg ⟨[(.int .i64 x9_0), (.int .i64 x9_1), (.int .i64 x9_2), (.string x9_3)]⟩) ∧ CallsH Try.prog 57 ⟨[(.pointer (some p0)), (.int .i64 3), (.string (⟨#[46, 46]⟩ : ByteArray))]⟩ H2 (onCall (fun rx13 H3 => ∃ x13 : Bool, rx13 = (.bool x13) ∧ ifB x13
  (∃ x17 : Int, cellH H3 (p0.add 1) = some (.int .i64 x17) ∧ CallsH Try.prog 59 ⟨[(.pointer (some p0)), (.int .i64 5)]⟩ H3 (onCall (fun rx19 H4 => ∃ x19_0 : Int, ∃ x19_1 : Int, ∃ x19_2 : Int, ∃ x19_3 : ByteArray, rx19 = (.agg ⟨[(.int .i64 x19_0), (.int .i64 x19_1), (.int .i64 x19_2), (.string x19_3)]⟩) ∧ ifB (decide (x19_1 < x9_1))
  (MayPut H4 (p0.add 1) 1 ∧ let H5 : Heap := putH H4 (p0.add 1) ([(.int .i64 x17)])
  CallsH Try.prog 58 ⟨[(.pointer (some p0)), (.int .i64 3)]⟩ H5 (onCall (fun rx29 H6 => parse_parser_dates_k1 p0 deep1 H x9_1 x19_1 H6 R) (fun ch H16 => R (.panicked ch) H16)))
  (parse_parser_dates_k1 p0 deep1 H x9_1 x19_1 H4 R)) (fun ch H17 => R (.panicked ch) H17)))
  (parse_parser_dates_k1 p0 deep1 H x9_1 x9_1 H3 R)) (fun ch H18 => R (.panicked ch) H18))) (fun ch H19 => R (.panicked ch) H19))
def parse_parser_dates_ann : Ann := ⟨lookN (false, 0) [], lookN [] [], lookN [] []⟩
theorem parse_parser_dates_den (p0 : Addr) (deep1 : Int) (H : Heap) (R : Ending → Heap → Prop) : denF Try.prog Try.f105 parse_parser_dates_ann [(.pointer (some p0)), (.int .i64 deep1)] H R = parse_parser_dates p0 deep1 H R := by kernel_rfl
theorem parse_parser_dates_calls (p0 : Addr) (deep1 : Int) {H : Heap} {R : Ending → Heap → Prop} (h : parse_parser_dates p0 deep1 H R) : CallsH Try.prog 105 ⟨[(.pointer (some p0)), (.int .i64 deep1)]⟩ H R :=
  callsH_of namesOk mixedOk Try.func105 (ann := parse_parser_dates_ann) (by rw [parse_parser_dates_den]; exact h)

/-! slotrules parse.days -/
def parse_days (H : Heap) (R : Ending → Heap → Prop) : Prop :=
  let H1 : Heap := H.push (.cells ⟨[(.string (⟨#[109, 111, 110]⟩ : ByteArray)), (.string (⟨#[116, 117, 101]⟩ : ByteArray)), (.string (⟨#[119, 101, 100]⟩ : ByteArray)), (.string (⟨#[116, 104, 117]⟩ : ByteArray)), (.string (⟨#[102, 114, 105]⟩ : ByteArray)), (.string (⟨#[115, 97, 116]⟩ : ByteArray)), (.string (⟨#[115, 117, 110]⟩ : ByteArray))]⟩ 9)
  R (.returned (.slice (some (newA H)) 7 7)) H1
def parse_days_ann : Ann := ⟨lookN (false, 0) [], lookN [] [], lookN [] []⟩
theorem parse_days_den (H : Heap) (R : Ending → Heap → Prop) : denF Try.prog Try.f106 parse_days_ann [] H R = parse_days  H R := by kernel_rfl
theorem parse_days_calls {H : Heap} {R : Ending → Heap → Prop} (h : parse_days  H R) : CallsH Try.prog 106 ⟨[]⟩ H R :=
  callsH_of namesOk mixedOk Try.func106 (ann := parse_days_ann) (by rw [parse_days_den]; exact h)

end Go.Vc
set_option linter.unusedVariables false
set_option linter.unusedSimpArgs false
set_option maxRecDepth 100000
namespace Go.Vc
open Go.Proofs

/-! the parser: small steps -/
abbrev PR (α : Type) := Except (Int × Int) (α × Nat × Nat)
def bindP {α β : Type} (r : PR α) (f : α → Nat → Nat → PR β) : PR β := match r with
  | .error e => .error e
  | .ok (x, i, nd) => f x i nd
theorem bindP_ok {α β : Type} {x : α} {i nd : Nat} {f : α → Nat → Nat → PR β} : bindP (.ok (x, i, nd)) f = f x i nd := rfl
theorem bindP_err {α β : Type} {e : Int × Int} {f : α → Nat → Nat → PR β} : bindP (.error e) f = .error e := rfl
section
variable (toks : List Tok) (en : Int)
def hereF (i : Nat) : Int := match toks[i]? with
  | some t => t.at_
  | none => en
def failF {α : Type} (er : Int) (i : Nat) : PR α := .error (er, hereF toks en i)
def isF (k : Int) (s : ByteArray) (i : Nat) : Bool := match toks[i]? with
  | some t => (t.k == k) && decide (t.t = s)
  | none => false
def kindF (k : Int) (i : Nat) : Bool := match toks[i]? with
  | some t => t.k == k
  | none => false
def mustF (s : ByteArray) (i nd : Nat) : PR Unit := if isF toks 3 s i = true then .ok ((), i + 1, nd) else failF toks en 2 i
def takeF (k : Int) (i nd : Nat) : PR Tok := match toks[i]? with
  | some t => if t.k = k then .ok (t, i + 1, nd) else failF toks en 2 i
  | none => failF toks en 2 i
def nodeF (e : Ex) (i nd : Nat) : PR Ex := if nd + 1 > 600 then failF toks en 4 i else .ok (e, i, nd + 1)
end
abbrev psO (la : Option Addr) (ln lc : Nat) (en : Int) (i nd : Nat) : Obj := C [.slice la ln lc, .int .i64 (i : Int), .int .i64 en, .int .i64 (nd : Int)] 107
structure PIn (la : Option Addr) (lc : Nat) (toks : List Tok) (en : Int) (pb : Nat) (H : Heap) (i nd : Nat) : Prop where
  blk : H[pb]? = some (psO la toks.length lc en i nd)
  row : RowAt H la 4 (toks.map Tok.c)
  sep : ∀ p, la = some p → p.block ≠ pb
  hi : i ≤ toks.length
  hl : toks.length ≤ 6000
def oopsV (er a : Int) : List PanicEntry := [{ v := .iface 104 (.agg ⟨[.int .i64 er, .int .i64 a]⟩), recovered := false }]
section
variable {la : Option Addr} {lc : Nat} {toks : List Tok} {en : Int} {pb : Nat} {H H0 : Heap} {i nd k : Nat} {L : List (Nat × Obj)}
theorem PIn.tok (h : PIn la lc toks en pb H i nd) {j : Nat} {t : Tok} (ht : toks[j]? = some t) : ∃ p, la = some p ∧ At H (p.add (j * 4)) t.c := h.row j t.c (by rw [List.getElem?_map, ht]; rfl)
theorem PIn.go (h : PIn la lc toks en pb H0 i nd) {i' nd' : Nat} (hS : St (· = pb) H0 H L) (hk : nthO L k = some (pb, psO la toks.length lc en i' nd')) (hi : i' ≤ toks.length) : PIn la lc toks en pb H i' nd' :=
  ⟨hS.obj hk, h.row.ext hS.ext h.sep, h.sep, hi, h.hl⟩
def pPost {α : Type} (la : Option Addr) (lc : Nat) (toks : List Tok) (en : Int) (pb : Nat) (V : List (Nat × Obj) → α → Value → Prop) (H : Heap) (i : Nat) (r : PR α) : Ending → Heap → Prop := fun e H' => match r with
  | .ok (x, i', nd') => ∃ F v, e = .returned v ∧ St (· = pb) H H' ((pb, psO la toks.length lc en i' nd') :: F) ∧ V F x v ∧ i ≤ i' ∧ i' ≤ toks.length ∧ nd' ≤ 600
  | .error (er, a) => e = .panicked (oopsV er a) ∧ Ext (· = pb) H H'
def VEx (F : List (Nat × Obj)) (x : Ex) (v : Value) : Prop := ∃ kd a b n ad kl cap, v = .agg ⟨exC kd a b n ad kl cap⟩ ∧ ExF F x (exC kd a b n ad kl cap)
def VTok (F : List (Nat × Obj)) (x : Tok) (v : Value) : Prop := v = .agg ⟨x.c⟩
def VUnit (F : List (Nat × Obj)) (x : Unit) (v : Value) : Prop := v = .tuple ⟨[]⟩
theorem pcall {α : Type} {V : List (Nat × Obj) → α → Value → Prop} {r : PR α} {f : FuncId} {args : Array Value} (hc : CallsH Try.prog f args H (pPost la lc toks en pb V H i r)) {K : Value → Heap → Prop} {X : List PanicEntry → Heap → Prop}
    (hK : ∀ x i' nd' F v H', r = .ok (x, i', nd') → St (· = pb) H H' ((pb, psO la toks.length lc en i' nd') :: F) → V F x v → i ≤ i' → i' ≤ toks.length → nd' ≤ 600 → K v H')
    (hX : ∀ er a H', r = .error (er, a) → Ext (· = pb) H H' → X (oopsV er a) H') : CallsH Try.prog f args H (onCall K X) := by
  refine hc.mono fun e H' h => ?_
  match r, h, hK, hX with
  | .ok (x, i', nd'), h, hK, hX =>
    obtain ⟨F, v, rfl, h1, h2, h3, h4, h5⟩ := h
    exact hK x i' nd' F v H' rfl h1 h2 h3 h4 h5
  | .error (er, a), h, hK, hX =>
    obtain ⟨rfl, h1⟩ := h
    exact hX er a H' rfl h1
theorem here_is (h : PIn la lc toks en pb H i nd) : CallsQ Try.prog 81 ⟨[.pointer (some (bA pb))]⟩ H (.int .i64 (hereF toks en i)) := by
  apply parse_parser_here_calls
  unfold parse_parser_here
  have hS := St.start1 h.blk
  have hl := h.hl
  refine ⟨_, St.cell (k := 0) hS rfl rfl rfl, ?_⟩
  refine ⟨_, _, _, St.cell (k := 0) hS rfl rfl rfl, ?_⟩
  refine ifB_mk (fun hc => ?_) (fun hc => ?_)
  · have hc : i < toks.length := by simp at hc; omega
    have ht : toks[i]? = some toks[i] := by simp [hc]
    obtain ⟨p, rfl, hat⟩ := h.tok ht
    refine ⟨_, _, _, St.cell (k := 0) hS rfl rfl rfl, ?_⟩
    refine ⟨_, St.cell (k := 0) hS rfl rfl rfl, ?_⟩
    refine ⟨by omega, by omega, p, rfl, _, hat.get (j := 2) rfl, ?_⟩
    rw [hereF, ht]; exact ⟨rfl, rfl⟩
  · have hc : ¬ i < toks.length := by simp at hc; omega
    have ht : toks[i]? = none := by simp; omega
    refine ⟨_, St.cell (k := 0) hS rfl rfl rfl, ?_⟩
    rw [hereF, ht]; exact ⟨rfl, rfl⟩
theorem is_is (h : PIn la lc toks en pb H i nd) (kd : Int) (s : ByteArray) : CallsQ Try.prog 80 ⟨[.pointer (some (bA pb)), .int .i64 kd, .string s]⟩ H (.bool (isF toks kd s i)) := by
  apply parse_parser_is_calls
  unfold parse_parser_is
  have hS := St.start1 h.blk
  have hl := h.hl
  refine ⟨_, St.cell (k := 0) hS rfl rfl rfl, ?_⟩
  refine ⟨_, _, _, St.cell (k := 0) hS rfl rfl rfl, ?_⟩
  by_cases hc : i < toks.length
  · have ht : toks[i]? = some toks[i] := by simp [hc]
    obtain ⟨p, rfl, hat⟩ := h.tok ht
    refine ⟨toks[i].k == kd, ifB_mk (fun h1 => ?_) (fun h1 => ?_), isF toks kd s i, ifB_mk (fun h1 => ?_) (fun h1 => ?_), rfl, rfl⟩
    · refine ⟨_, _, _, St.cell (k := 0) hS rfl rfl rfl, ?_⟩
      refine ⟨_, St.cell (k := 0) hS rfl rfl rfl, ?_⟩
      exact ⟨by omega, by omega, p, rfl, _, hat.get (j := 0) rfl, rfl, rfl⟩
    · simp at h1; omega
    · refine ⟨_, _, _, St.cell (k := 0) hS rfl rfl rfl, ?_⟩
      refine ⟨_, St.cell (k := 0) hS rfl rfl rfl, ?_⟩
      refine ⟨by omega, by omega, p, rfl, _, hat.get (j := 3) rfl, ?_, rfl⟩
      rw [isF, ht, bytes_eq]
      simp only
      rw [h1, Bool.true_and]
    · rw [isF, ht]
      simp only
      rw [h1, Bool.false_and]
  · have ht : toks[i]? = none := by simp; omega
    refine ⟨false, ifB_mk (fun h1 => ?_) (fun h1 => rfl), false, ifB_mk (fun h1 => ?_) (fun h1 => rfl), ?_⟩
    · simp at h1; omega
    · cases h1
    · rw [isF, ht]; exact ⟨rfl, rfl⟩
theorem fail_is (h : PIn la lc toks en pb H i nd) (er : Int) : CallsH Try.prog 58 ⟨[.pointer (some (bA pb)), .int .i64 er]⟩ H fun e H' => e = .panicked (oopsV er (hereF toks en i)) ∧ H' = H := by
  apply parse_parser_fail_calls
  unfold parse_parser_fail
  exact (here_is h).go ⟨_, rfl, rfl, rfl⟩
theorem fail_go (h : PIn la lc toks en pb H i nd) (er : Int) {K : Value → Heap → Prop} {X : List PanicEntry → Heap → Prop} (hX : X (oopsV er (hereF toks en i)) H) : CallsH Try.prog 58 ⟨[.pointer (some (bA pb)), .int .i64 er]⟩ H (onCall K X) :=
  (fail_is h er).mono fun e H' ⟨h1, h2⟩ => by subst h1 h2; exact hX
theorem eat_is (h : PIn la lc toks en pb H i nd) (kd : Int) (s : ByteArray) : CallsH Try.prog 57 ⟨[.pointer (some (bA pb)), .int .i64 kd, .string s]⟩ H fun e H' => e = .returned (.bool (isF toks kd s i)) ∧ St (· = pb) H H' [(pb, psO la toks.length lc en (if isF toks kd s i = true then i + 1 else i) nd)] := by
  apply parse_parser_eat_calls
  unfold parse_parser_eat
  have hS := St.start1 h.blk
  have hl := h.hl; have hi := h.hi
  refine (is_is h kd s).go ⟨_, rfl, ifB_mk (fun h1 => ?_) (fun h1 => ?_)⟩
  · have h1 : isF toks kd s i = false := by simpa using h1
    rw [h1]
    exact ⟨rfl, hS⟩
  · have h1 : isF toks kd s i = true := by simpa using h1
    rw [h1]
    refine ⟨_, St.cell (k := 0) hS rfl rfl rfl, ?_⟩
    refine ⟨St.may (k := 0) hS rfl rfl (by simp [newA, bA, add_off]), ?_⟩
    intro H2
    replace hS : St _ _ H2 _ := St.put (k := 0) hS rfl rfl _
    clear_value H2
    simp only [setN, splice, newA, bA, add_off, add_block, Nat.add_zero, Nat.zero_add, Nat.reduceAdd] at hS
    refine ⟨rfl, ?_⟩
    rw [if_pos rfl]
    rw [i64_id (by omega) (by omega)] at hS
    exact hS
theorem isF_lt {toks : List Tok} {kd : Int} {s : ByteArray} {i : Nat} (h : isF toks kd s i = true) : i < toks.length := by
  rcases Nat.lt_or_ge i toks.length with h1 | h1
  · exact h1
  · rw [isF, List.getElem?_eq_none h1] at h; cases h
theorem eat_go (h : PIn la lc toks en pb H i nd) (kd : Int) (s : ByteArray) {K : Value → Heap → Prop} {X : List PanicEntry → Heap → Prop}
    (hy : isF toks kd s i = true → i < toks.length → ∀ H', St (· = pb) H H' [(pb, psO la toks.length lc en (i + 1) nd)] → K (.bool true) H') (hn : isF toks kd s i = false → ∀ H', St (· = pb) H H' [(pb, psO la toks.length lc en i nd)] → K (.bool false) H') :
    CallsH Try.prog 57 ⟨[.pointer (some (bA pb)), .int .i64 kd, .string s]⟩ H (onCall K X) :=
  (eat_is h kd s).mono fun e H' ⟨h1, h2⟩ => by
    subst h1
    cases hb : isF toks kd s i with
    | true => rw [hb, if_pos rfl] at h2; exact hy hb (isF_lt hb) H' h2
    | false => rw [hb, if_neg (by simp)] at h2; exact hn hb H' h2
theorem must_is (h : PIn la lc toks en pb H i nd) (hn : nd ≤ 600) (s : ByteArray) : CallsH Try.prog 60 ⟨[.pointer (some (bA pb)), .string s]⟩ H (pPost la lc toks en pb VUnit H i (mustF toks en s i nd)) := by
  apply parse_parser_must_calls
  unfold parse_parser_must
  have hl := h.hl; have hi := h.hi
  refine eat_go h 3 s (fun hb hlt H' hS => ⟨_, rfl, ?_⟩) (fun hb H' hS => ⟨_, rfl, ?_⟩)
  · refine ifB_mk (fun h1 => by cases h1) (fun h1 => ?_)
    rw [mustF, if_pos hb]
    exact ⟨[], _, rfl, hS, rfl, by omega, by omega, hn⟩
  · refine ifB_mk (fun h1 => ?_) (fun h1 => by cases h1)
    refine fail_go (h.go (k := 0) hS rfl hi) 2 ?_
    rw [mustF, if_neg (by rw [hb]; simp)]
    exact ⟨rfl, hS.ext⟩
theorem take_is (h : PIn la lc toks en pb H i nd) (hn : nd ≤ 600) (kd : Int) : CallsH Try.prog 59 ⟨[.pointer (some (bA pb)), .int .i64 kd]⟩ H (pPost la lc toks en pb VTok H i (takeF toks en kd i nd)) := by
  apply parse_parser_take_calls
  unfold parse_parser_take
  have hS := St.start1 h.blk
  have hl := h.hl; have hi := h.hi
  intro H1
  replace hS : St _ _ H1 _ := St.push hS _
  clear_value H1
  have h1 : PIn la lc toks en pb H1 i nd := h.go (k := 1) hS rfl hi
  refine ⟨_, St.cell (k := 1) hS rfl rfl rfl, ?_⟩
  refine ⟨_, _, _, St.cell (k := 1) hS rfl rfl rfl, ?_⟩
  by_cases hc : i < toks.length
  · have ht : toks[i]? = some toks[i] := by simp [hc]
    generalize toks[i] = t at ht
    obtain ⟨p, rfl, hat⟩ := h1.tok ht
    refine ⟨t.k != kd, ifB_mk (fun h2 => ?_) (fun h2 => ?_), ifB_mk (fun h2 => ?_) (fun h2 => ?_)⟩
    · simp at h2; omega
    · refine ⟨_, _, _, St.cell (k := 1) hS rfl rfl rfl, ?_⟩
      refine ⟨_, St.cell (k := 1) hS rfl rfl rfl, ?_⟩
      exact ⟨by omega, by omega, p, rfl, _, hat.get (j := 0) rfl, rfl, rfl⟩
    · refine fail_go h1 2 ?_
      have h2 : ¬ t.k = kd := by simpa using h2
      rw [takeF, ht]
      simp only
      rw [if_neg h2]
      exact ⟨rfl, hS.ext⟩
    · have h2 : t.k = kd := by simpa using h2
      rw [takeF, ht]
      simp only
      rw [if_pos h2]
      unfold parse_parser_take_k1
      refine ⟨_, St.cell (k := 1) hS rfl rfl rfl, ?_⟩
      refine ⟨St.may (k := 1) hS rfl rfl (by simp [newA, bA, add_off]), ?_⟩
      intro H4
      replace hS : St _ _ H4 _ := St.put (k := 1) hS rfl rfl _
      clear_value H4
      simp only [setN, splice, newA, bA, add_off, add_block, Nat.add_zero, Nat.zero_add, Nat.reduceAdd] at hS
      rw [i64_id (by omega) (by omega)] at hS
      have h4 : PIn (some p) lc toks en pb H4 (i + 1) nd := h.go (k := 1) hS rfl (by omega)
      obtain ⟨p', hp', hat⟩ := h4.tok ht
      cases hp'
      refine ⟨_, _, _, St.cell (k := 1) hS rfl rfl rfl, ?_⟩
      refine ⟨_, St.cell (k := 1) hS rfl rfl rfl, ?_⟩
      have e : IntKind.i64.wrap ((i : Int) + 1 - 1) = (i : Int) := by rw [i64_id (by omega) (by omega)]; omega
      rw [e, Int.toNat_natCast]
      refine ⟨by omega, by omega, p, rfl, _, _, _, _, hat, ?_⟩
      refine ⟨St.may (k := 0) hS rfl rfl (by simp [newA, bA, add_off]), ?_⟩
      intro H5
      replace hS : St _ _ H5 _ := St.put (k := 0) hS rfl rfl _
      clear_value H5
      simp only [setN, splice, newA, bA, add_off, add_block, Nat.add_zero, Nat.zero_add, Nat.reduceAdd] at hS
      refine ⟨_, _, _, _, St.atp (k := 0) hS rfl rfl rfl, ?_⟩
      exact ⟨[], _, rfl, hS.sub (List.Sublist.cons _ (List.Sublist.refl _)), rfl, by omega, by omega, hn⟩
  · have ht : toks[i]? = none := by simp; omega
    have he : i = toks.length := by omega
    refine ⟨true, ifB_mk (fun h2 => rfl) (fun h2 => ?_), ?_⟩
    · simp [he] at h2
    · refine fail_go h1 2 ?_
      rw [takeF, ht]
      exact ⟨rfl, hS.ext⟩
theorem node_is (h : PIn la lc toks en pb H i nd) (hn : nd ≤ 600) (x : Ex) (kd a b : Int) (n : ByteArray) (ad : Option Addr) (kl cap : Nat) :
    CallsH Try.prog 83 ⟨[.pointer (some (bA pb)), .agg ⟨exC kd a b n ad kl cap⟩]⟩ H fun e H' => (nodeF toks en x i nd = .ok (x, i, nd + 1) ∧ nd + 1 ≤ 600 ∧ e = .returned (.agg ⟨exC kd a b n ad kl cap⟩) ∧ St (· = pb) H H' [(pb, psO la toks.length lc en i (nd + 1))]) ∨
      ∃ er a, nodeF toks en x i nd = .error (er, a) ∧ e = .panicked (oopsV er a) ∧ Ext (· = pb) H H' := by
  apply parse_parser_node_calls
  unfold parse_parser_node
  have hS := St.start1 h.blk
  have hl := h.hl; have hi := h.hi
  intro H1
  replace hS : St _ _ H1 _ := St.push hS _
  clear_value H1
  intro H2
  replace hS : St _ _ H2 _ := St.push hS _
  clear_value H2
  refine ⟨_, St.cell (k := 2) hS rfl rfl rfl, ?_⟩
  refine ⟨St.may (k := 2) hS rfl rfl (by simp [newA, bA, add_off]), ?_⟩
  intro H3
  replace hS : St _ _ H3 _ := St.put (k := 2) hS rfl rfl _
  clear_value H3
  simp only [setN, splice, newA, bA, add_off, add_block, Nat.add_zero, Nat.zero_add, Nat.reduceAdd] at hS
  rw [i64_id (by omega) (by omega)] at hS
  refine ⟨_, St.cell (k := 2) hS rfl rfl rfl, ?_⟩
  refine ifB_mk (fun h1 => ?_) (fun h1 => ?_)
  · have h1 : nd + 1 > 600 := by simp at h1; omega
    refine fail_go (h.go (k := 2) (nd' := nd + 1) hS rfl hi) 4 ?_
    exact .inr ⟨4, _, by rw [nodeF, if_pos h1]; rfl, rfl, hS.ext⟩
  · have h1 : ¬ nd + 1 > 600 := by simp at h1; omega
    unfold parse_parser_node_k1
    refine ⟨_, _, _, _, _, _, _, St.atp (k := 1) hS rfl rfl rfl, ?_⟩
    refine ⟨St.may (k := 0) hS rfl rfl (by simp [newA, bA, add_off]), ?_⟩
    intro H6
    replace hS : St _ _ H6 _ := St.put (k := 0) hS rfl rfl _
    clear_value H6
    simp only [setN, splice, newA, bA, add_off, add_block, Nat.add_zero, Nat.zero_add, Nat.reduceAdd] at hS
    refine ⟨_, _, _, _, _, _, _, St.atp (k := 0) hS rfl rfl rfl, ?_⟩
    exact .inl ⟨by rw [nodeF, if_neg h1], by omega, rfl, hS.sub (List.Sublist.cons _ (List.Sublist.cons _ (List.Sublist.refl _)))⟩
theorem node_go (h : PIn la lc toks en pb H i nd) (hn : nd ≤ 600) (x : Ex) {kd a b : Int} {n : ByteArray} {ad : Option Addr} {kl cap : Nat} {K : Value → Heap → Prop} {X : List PanicEntry → Heap → Prop}
    (hK : ∀ H', nodeF toks en x i nd = .ok (x, i, nd + 1) → nd + 1 ≤ 600 → St (· = pb) H H' [(pb, psO la toks.length lc en i (nd + 1))] → K (.agg ⟨exC kd a b n ad kl cap⟩) H') (hX : ∀ er a H', nodeF toks en x i nd = .error (er, a) → Ext (· = pb) H H' → X (oopsV er a) H') :
    CallsH Try.prog 83 ⟨[.pointer (some (bA pb)), .agg ⟨exC kd a b n ad kl cap⟩]⟩ H (onCall K X) :=
  (node_is h hn x kd a b n ad kl cap).mono fun e H' hh => by
    rcases hh with ⟨h1, h2, rfl, h3⟩ | ⟨er, a, h1, rfl, h3⟩
    · exact hK H' h1 h2 h3
    · exact hX er a H' h1 h3
end
end Go.Vc
set_option linter.unusedVariables false
set_option linter.unusedSimpArgs false
set_option maxRecDepth 100000
namespace Go.Vc
open Go.Proofs

/-! the parser: sums, terms, factors -/
def sB (l : List UInt8) : ByteArray := ⟨l.toArray⟩
section
variable (toks : List Tok) (en : Int)
def termLoop (fac : Nat → Nat → PR Ex) : Nat → Ex → Nat → Nat → PR Ex
  | 0, e, i, nd => .ok (e, i, nd)
  | m + 1, e, i, nd => if isF toks 3 ⟨#[38]⟩ i = true then bindP (fac (i + 1) nd) fun f i nd => bindP (nodeF toks en (.mk 8 0 0 noT [e, f]) i nd) fun e i nd => termLoop fac m e i nd else .ok (e, i, nd)
def termG (fac : Nat → Nat → PR Ex) (i nd : Nat) : PR Ex := bindP (fac i nd) fun e i nd => termLoop toks en fac toks.length e i nd
def exprLoop (term : Nat → Nat → PR Ex) : Nat → Ex → Nat → Nat → PR Ex
  | 0, e, i, nd => .ok (e, i, nd)
  | m + 1, e, i, nd => if isF toks 3 ⟨#[43]⟩ i = true then bindP (term (i + 1) nd) fun f i nd => bindP (nodeF toks en (.mk 6 0 0 noT [e, f]) i nd) fun e i nd => exprLoop term m e i nd
    else if isF toks 3 ⟨#[45]⟩ i = true then bindP (term (i + 1) nd) fun f i nd => bindP (nodeF toks en (.mk 7 0 0 noT [e, f]) i nd) fun e i nd => exprLoop term m e i nd else .ok (e, i, nd)
def exprG (term : Nat → Nat → PR Ex) (i nd : Nat) : PR Ex := bindP (term i nd) fun e i nd => exprLoop toks en term toks.length e i nd
def shiftLoop : Nat → Ex → Nat → Nat → PR Ex
  | 0, e, i, nd => .ok (e, i, nd)
  | m + 1, e, i, nd => if isF toks 2 ⟨#[115, 104, 105, 102, 116]⟩ i = true then
      bindP (takeF toks en 6 (if isF toks 3 ⟨#[45]⟩ (i + 1) = true then i + 2 else i + 1) nd) fun t i' nd =>
        if t.n < 1 ∨ t.n ≥ 1440 then failF toks en 3 (if isF toks 3 ⟨#[45]⟩ (i + 1) = true then i + 2 else i + 1)
        else bindP (nodeF toks en (.mk 9 (IntKind.i64.wrap ((if isF toks 3 ⟨#[45]⟩ (i + 1) = true then -1 else 1) * t.n)) 0 noT [e]) i' nd) fun e i nd => shiftLoop m e i nd
    else .ok (e, i, nd)
def factorG (thing : Nat → Nat → PR Ex) (i nd : Nat) : PR Ex := bindP (thing i nd) fun e i nd => shiftLoop toks en toks.length e i nd
end
theorem termLoop_no {toks : List Tok} {en : Int} {fac : Nat → Nat → PR Ex} {m : Nat} {e : Ex} {i nd : Nat} (h : isF toks 3 ⟨#[38]⟩ i = false) : termLoop toks en fac m e i nd = .ok (e, i, nd) := by
  cases m with
  | zero => rfl
  | succ m => simp only [termLoop]; rw [if_neg (by rw [h]; simp)]
theorem exprLoop_no {toks : List Tok} {en : Int} {fac : Nat → Nat → PR Ex} {m : Nat} {e : Ex} {i nd : Nat} (h : isF toks 3 ⟨#[43]⟩ i = false) (h2 : isF toks 3 ⟨#[45]⟩ i = false) : exprLoop toks en fac m e i nd = .ok (e, i, nd) := by
  cases m with
  | zero => rfl
  | succ m => simp only [exprLoop]; rw [if_neg (by rw [h]; simp), if_neg (by rw [h2]; simp)]
theorem shiftLoop_no {toks : List Tok} {en : Int} {m : Nat} {e : Ex} {i nd : Nat} (h : isF toks 2 ⟨#[115, 104, 105, 102, 116]⟩ i = false) : shiftLoop toks en m e i nd = .ok (e, i, nd) := by
  cases m with
  | zero => rfl
  | succ m => simp only [shiftLoop]; rw [if_neg (by rw [h]; simp)]
def leftH (pb n : Nat) (H : Heap) : Nat := match cellH H ((bA pb).add 1) with
  | some (.int _ x) => n - x.toNat
  | _ => 0
def Con (la : Option Addr) (lc : Nat) (toks : List Tok) (en : Int) (pb : Nat) (f : FuncId) (deep : Int) (fac : Nat → Nat → PR Ex) : Prop := ∀ H i nd, PIn la lc toks en pb H i nd → nd ≤ 600 → CallsH Try.prog f ⟨[.pointer (some (bA pb)), .int .i64 deep]⟩ H (pPost la lc toks en pb VEx H i (fac i nd))
section
variable {la : Option Addr} {lc : Nat} {toks : List Tok} {en : Int} {pb : Nat} {H H0 : Heap} {i nd k : Nat} {L : List (Nat × Obj)}
theorem left_of {M : Nat → Prop} {ln : Nat} (n : Nat) (hS : St M H0 H L) (hk : nthO L k = some (pb, psO la ln lc en i nd)) : leftH pb n H = n - i := by
  have : cellH H ((bA pb).add 1) = some (.int .i64 (i : Int)) := St.cell (k := k) (T := 107) hS hk rfl rfl
  unfold leftH
  rw [this]
  simp
theorem St.mid3 {M : Nat → Prop} {a t b c d : Nat × Obj} {F : List (Nat × Obj)} (hS : St M H0 H (a :: t :: b :: c :: d :: F)) : St M H0 H (b :: c :: d :: a :: F) :=
  (hS.sub ((List.Sublist.cons _ (List.Sublist.refl _)).cons_cons _)).perm (List.perm_middle (l₁ := [b, c, d]) (a := a) (l₂ := F)).symm
set_option maxHeartbeats 1000000 in
theorem term_is {deep : Int} {fac : Nat → Nat → PR Ex} (hF : Con la lc toks en pb 95 deep fac) : Con la lc toks en pb 82 deep (termG toks en fac) := by
  intro H i nd h hn
  generalize hg : termG toks en fac i nd = r
  apply parse_parser_term_calls
  unfold parse_parser_term
  have hS := St.start1 h.blk
  intro H1
  replace hS : St _ _ H1 _ := St.push hS _
  clear_value H1
  refine pcall (hF H1 i nd (h.go (k := 1) hS rfl h.hi) hn) (fun x i1 nd1 F1 v H2 he hT hv hi1 hi2 hn1 => ?_) (fun er a H2 he hx => ?_)
  rotate_left
  · rw [termG, he] at hg
    subst hg
    exact ⟨rfl, hS.ext_call (k := 1) rfl rfl hx⟩
  rw [termG, he] at hg
  simp only [bindP] at hg
  obtain ⟨kd, a, b, n, ad, kl, cap, rfl, hex⟩ := hv
  refine ⟨_, _, _, _, _, _, _, rfl, ?_⟩
  replace hS := St.call (k := 1) hS rfl hT
  simp only [setN, List.cons_append, List.nil_append, List.append_nil] at hS
  intro H3
  replace hS : St _ _ H3 _ := St.push hS _
  clear_value H3
  refine ⟨St.may (k := 0) hS rfl rfl (by simp [newA, bA, add_off]), ?_⟩
  intro H4
  replace hS : St _ _ H4 _ := St.put (k := 0) hS rfl rfl _
  clear_value H4
  simp only [setN, splice, newA, bA, add_off, add_block, Nat.add_zero, Nat.zero_add, Nat.reduceAdd] at hS
  refine ⟨fun H' => ∃ F e kd a b n ad kl cap i' nd' m, St (· = pb) H H' ((H2.size, C (exC kd a b n ad kl cap) 25) :: (H.size, C (exC 0 0 0 noT none 0 0) 25) :: (pb, psO la toks.length lc en i' nd') :: F) ∧ ExF F e (exC kd a b n ad kl cap) ∧ toks.length ≤ i' + m ∧ i ≤ i' ∧ i' ≤ toks.length ∧ nd' ≤ 600 ∧ termLoop toks en fac m e i' nd' = r,
    fun H' => leftH pb toks.length H', ⟨F1, x, kd, a, b, n, ad, kl, cap, i1, nd1, toks.length, hS, hex, by omega, hi1, hi2, hn1, hg⟩, ?_⟩
  clear hg hex hS
  rintro H5 ⟨F, e, kd, a, b, n, ad, kl, cap, i', nd', m, hS, hex, hm, hi', hil, hn', hg⟩
  have hleft := left_of (k := 2) toks.length hS rfl
  refine eat_go (h.go (k := 2) hS rfl hil) 3 _ (fun hb hlt H6 hT => ⟨_, rfl, ifB_mk (fun _ => ?_) (fun hc => by cases hc)⟩) (fun hb H6 hT => ⟨_, rfl, ifB_mk (fun hc => by cases hc) (fun _ => ?_)⟩)
  · obtain ⟨m', rfl⟩ : ∃ m', m = m' + 1 := ⟨m - 1, by omega⟩
    simp only [termLoop] at hg
    rw [if_pos hb] at hg
    replace hS := St.call (k := 2) hS rfl hT
    simp only [setN, List.cons_append, List.nil_append, List.append_nil] at hS
    refine pcall (hF H6 (i' + 1) nd' (h.go (k := 2) hS rfl (by omega)) hn') (fun x2 i2 nd2 F2 v H7 he hT hv hi3 hi4 hn2 => ?_) (fun er a H7 he hx => ?_)
    rotate_left
    · rw [he] at hg
      subst hg
      exact ⟨rfl, hS.ext_call (k := 2) rfl rfl hx⟩
    rw [he] at hg
    simp only [bindP] at hg
    obtain ⟨kd2, a2, b2, n2, ad2, kl2, cap2, rfl, hex2⟩ := hv
    refine ⟨_, _, _, _, _, _, _, rfl, ?_⟩
    replace hS := St.call (k := 2) hS rfl hT
    simp only [setN, List.cons_append, List.nil_append, List.append_nil] at hS
    intro H8
    replace hS : St _ _ H8 _ := St.push hS _
    clear_value H8
    refine ⟨St.may (k := 0) hS rfl rfl (by simp [newA, bA, add_off]), ?_⟩
    intro H9
    replace hS : St _ _ H9 _ := St.put (k := 0) hS rfl rfl _
    clear_value H9
    simp only [setN, splice, newA, bA, add_off, add_block, Nat.add_zero, Nat.zero_add, Nat.reduceAdd] at hS
    refine ⟨_, _, _, _, _, _, _, St.atp (k := 1) hS rfl rfl rfl, ?_⟩
    refine ⟨_, _, _, _, _, _, _, St.atp (k := 0) hS rfl rfl rfl, ?_⟩
    intro H10
    replace hS : St _ _ H10 _ := St.push hS _
    clear_value H10
    refine node_go (h.go (k := 4) hS rfl hi4) hn2 (.mk 8 0 0 noT [e, x2]) (fun H11 he hn3 hT => ⟨_, _, _, _, _, _, _, rfl, ?_⟩) (fun er a H11 he hx => ?_)
    rotate_left
    · rw [he] at hg
      subst hg
      exact ⟨rfl, hS.ext_call (k := 4) rfl rfl hx⟩
    rw [he] at hg
    simp only at hg
    replace hS := St.call (k := 4) hS rfl hT
    simp only [setN, List.cons_append, List.nil_append, List.append_nil] at hS
    refine ⟨St.may (k := 2) hS rfl rfl (by simp [newA, bA, add_off]), ?_⟩
    intro H12
    replace hS : St _ _ H12 _ := St.put (k := 2) hS rfl rfl _
    clear_value H12
    simp only [setN, splice, newA, bA, add_off, add_block, Nat.add_zero, Nat.zero_add, Nat.reduceAdd] at hS
    have hS2 := hS.mid3
    refine ⟨⟨(H9.size, C (exC kd a b n ad kl cap ++ exC kd2 a2 b2 n2 ad2 kl2 cap2) 25) :: (F ++ F2), .mk 8 0 0 noT [e, x2], _, _, _, _, _, _, _, i2, nd2 + 1, m', hS2, hex.two hex2 _ _ _ _ _, by omega, by omega, hi4, hn3, hg⟩, ?_⟩
    show leftH pb toks.length _ < leftH pb toks.length _
    rw [hleft, left_of (k := 4) toks.length hS rfl]
    omega
  · rw [termLoop_no hb] at hg
    subst hg
    replace hS := St.call (k := 2) hS rfl hT
    simp only [setN, List.cons_append, List.nil_append, List.append_nil] at hS
    refine ⟨_, _, _, _, _, _, _, St.atp (k := 0) hS rfl rfl rfl, ?_⟩
    refine ⟨St.may (k := 1) hS rfl rfl (by simp [newA, bA, add_off]), ?_⟩
    intro H15
    replace hS : St _ _ H15 _ := St.put (k := 1) hS rfl rfl _
    clear_value H15
    simp only [setN, splice, newA, bA, add_off, add_block, Nat.add_zero, Nat.zero_add, Nat.reduceAdd] at hS
    refine ⟨_, _, _, _, _, _, _, St.atp (k := 1) hS rfl rfl rfl, ?_⟩
    exact ⟨F, _, rfl, hS.sub (((List.Sublist.refl _).cons _).cons _), ⟨_, _, _, _, _, _, _, rfl, hex⟩, hi', hil, hn'⟩
set_option maxHeartbeats 1000000 in
theorem expr_is {deep : Int} {term : Nat → Nat → PR Ex} (hF : Con la lc toks en pb 82 deep term) : Con la lc toks en pb 61 deep (exprG toks en term) := by
  intro H i nd h hn
  generalize hg : exprG toks en term i nd = r
  apply parse_parser_expr_calls
  unfold parse_parser_expr
  have hS := St.start1 h.blk
  intro H1
  replace hS : St _ _ H1 _ := St.push hS _
  clear_value H1
  refine pcall (hF H1 i nd (h.go (k := 1) hS rfl h.hi) hn) (fun x i1 nd1 F1 v H2 he hT hv hi1 hi2 hn1 => ?_) (fun er a H2 he hx => ?_)
  rotate_left
  · rw [exprG, he] at hg
    subst hg
    exact ⟨rfl, hS.ext_call (k := 1) rfl rfl hx⟩
  rw [exprG, he] at hg
  simp only [bindP] at hg
  obtain ⟨kd, a, b, n, ad, kl, cap, rfl, hex⟩ := hv
  refine ⟨_, _, _, _, _, _, _, rfl, ?_⟩
  replace hS := St.call (k := 1) hS rfl hT
  simp only [setN, List.cons_append, List.nil_append, List.append_nil] at hS
  intro H3
  replace hS : St _ _ H3 _ := St.push hS _
  clear_value H3
  refine ⟨St.may (k := 0) hS rfl rfl (by simp [newA, bA, add_off]), ?_⟩
  intro H4
  replace hS : St _ _ H4 _ := St.put (k := 0) hS rfl rfl _
  clear_value H4
  simp only [setN, splice, newA, bA, add_off, add_block, Nat.add_zero, Nat.zero_add, Nat.reduceAdd] at hS
  refine ⟨fun H' => ∃ F e kd a b n ad kl cap i' nd' m, St (· = pb) H H' ((H2.size, C (exC kd a b n ad kl cap) 25) :: (H.size, C (exC 0 0 0 noT none 0 0) 25) :: (pb, psO la toks.length lc en i' nd') :: F) ∧ ExF F e (exC kd a b n ad kl cap) ∧ toks.length ≤ i' + m ∧ i ≤ i' ∧ i' ≤ toks.length ∧ nd' ≤ 600 ∧ exprLoop toks en term m e i' nd' = r,
    fun H' => leftH pb toks.length H', ⟨F1, x, kd, a, b, n, ad, kl, cap, i1, nd1, toks.length, hS, hex, by omega, hi1, hi2, hn1, hg⟩, ?_⟩
  clear hg hex hS
  rintro H5 ⟨F, e, kd, a, b, n, ad, kl, cap, i', nd', m, hS, hex, hm, hi', hil, hn', hg⟩
  have hleft := left_of (k := 2) toks.length hS rfl
  have hl := h.hl
  have key : ∀ (kk : Int) (m' : Nat), m = m' + 1 → i' < toks.length → bindP (term (i' + 1) nd') (fun f i nd => bindP (nodeF toks en (.mk kk 0 0 noT [e, f]) i nd) fun e i nd => exprLoop toks en term m' e i nd) = r →
      parse_parser_expr_k1 (bA pb) deep H2 (fun H' => ∃ F e kd a b n ad kl cap i' nd' m, St (· = pb) H H' ((H2.size, C (exC kd a b n ad kl cap) 25) :: (H.size, C (exC 0 0 0 noT none 0 0) 25) :: (pb, psO la toks.length lc en i' nd') :: F) ∧ ExF F e (exC kd a b n ad kl cap) ∧ toks.length ≤ i' + m ∧ i ≤ i' ∧ i' ≤ toks.length ∧ nd' ≤ 600 ∧ exprLoop toks en term m e i' nd' = r)
        (fun H' => leftH pb toks.length H') H5 kk H5 (pPost la lc toks en pb VEx H i r) := by
    clear hg
    intro kk m' hmm hlt hg
    subst hmm
    unfold parse_parser_expr_k1
    refine ⟨_, St.cell (k := 2) hS rfl rfl rfl, ?_⟩
    refine ⟨St.may (k := 2) hS rfl rfl (by simp [newA, bA, add_off]), ?_⟩
    intro H8
    replace hS : St _ _ H8 _ := St.put (k := 2) hS rfl rfl _
    clear_value H8
    simp only [setN, splice, newA, bA, add_off, add_block, Nat.add_zero, Nat.zero_add, Nat.reduceAdd] at hS
    rw [i64_id (by omega) (by omega)] at hS
    refine pcall (hF H8 (i' + 1) nd' (h.go (k := 2) hS rfl (by omega)) hn') (fun x2 i2 nd2 F2 v H7 he hT hv hi3 hi4 hn2 => ?_) (fun er a H7 he hx => ?_)
    rotate_left
    · rw [he] at hg
      subst hg
      exact ⟨rfl, hS.ext_call (k := 2) rfl rfl hx⟩
    rw [he] at hg
    simp only [bindP] at hg
    obtain ⟨kd2, a2, b2, n2, ad2, kl2, cap2, rfl, hex2⟩ := hv
    refine ⟨_, _, _, _, _, _, _, rfl, ?_⟩
    replace hS := St.call (k := 2) hS rfl hT
    simp only [setN, List.cons_append, List.nil_append, List.append_nil] at hS
    intro H8
    replace hS : St _ _ H8 _ := St.push hS _
    clear_value H8
    refine ⟨St.may (k := 0) hS rfl rfl (by simp [newA, bA, add_off]), ?_⟩
    intro H9
    replace hS : St _ _ H9 _ := St.put (k := 0) hS rfl rfl _
    clear_value H9
    simp only [setN, splice, newA, bA, add_off, add_block, Nat.add_zero, Nat.zero_add, Nat.reduceAdd] at hS
    refine ⟨_, _, _, _, _, _, _, St.atp (k := 1) hS rfl rfl rfl, ?_⟩
    refine ⟨_, _, _, _, _, _, _, St.atp (k := 0) hS rfl rfl rfl, ?_⟩
    intro H10
    replace hS : St _ _ H10 _ := St.push hS _
    clear_value H10
    refine node_go (h.go (k := 4) hS rfl hi4) hn2 (.mk kk 0 0 noT [e, x2]) (fun H11 he hn3 hT => ⟨_, _, _, _, _, _, _, rfl, ?_⟩) (fun er a H11 he hx => ?_)
    rotate_left
    · rw [he] at hg
      subst hg
      exact ⟨rfl, hS.ext_call (k := 4) rfl rfl hx⟩
    rw [he] at hg
    simp only at hg
    replace hS := St.call (k := 4) hS rfl hT
    simp only [setN, List.cons_append, List.nil_append, List.append_nil] at hS
    refine ⟨St.may (k := 2) hS rfl rfl (by simp [newA, bA, add_off]), ?_⟩
    intro H12
    replace hS : St _ _ H12 _ := St.put (k := 2) hS rfl rfl _
    clear_value H12
    simp only [setN, splice, newA, bA, add_off, add_block, Nat.add_zero, Nat.zero_add, Nat.reduceAdd] at hS
    have hS2 := hS.mid3
    refine ⟨⟨(H9.size, C (exC kd a b n ad kl cap ++ exC kd2 a2 b2 n2 ad2 kl2 cap2) 25) :: (F ++ F2), .mk kk 0 0 noT [e, x2], _, _, _, _, _, _, _, i2, nd2 + 1, m', hS2, hex.two hex2 _ _ _ _ _, by omega, by omega, hi4, hn3, hg⟩, ?_⟩
    show leftH pb toks.length _ < leftH pb toks.length _
    rw [hleft, left_of (k := 4) toks.length hS rfl]
    omega
  refine (is_is (h.go (k := 2) hS rfl hil) 3 _).go ⟨_, rfl, ifB_mk (fun hb => ?_) (fun hb => ?_)⟩
  · have hlt := isF_lt hb
    obtain ⟨m', rfl⟩ : ∃ m', m = m' + 1 := ⟨m - 1, by omega⟩
    simp only [exprLoop] at hg
    rw [if_pos hb] at hg
    exact key 6 m' rfl hlt hg
  refine (is_is (h.go (k := 2) hS rfl hil) 3 _).go ⟨_, rfl, ifB_mk (fun hb2 => ?_) (fun hb2 => ?_)⟩
  · have hlt := isF_lt hb2
    obtain ⟨m', rfl⟩ : ∃ m', m = m' + 1 := ⟨m - 1, by omega⟩
    simp only [exprLoop] at hg
    rw [if_neg (by rw [hb]; simp), if_pos hb2] at hg
    exact key 7 m' rfl hlt hg
  · rw [exprLoop_no hb hb2] at hg
    subst hg
    refine ⟨_, _, _, _, _, _, _, St.atp (k := 0) hS rfl rfl rfl, ?_⟩
    refine ⟨St.may (k := 1) hS rfl rfl (by simp [newA, bA, add_off]), ?_⟩
    intro H15
    replace hS : St _ _ H15 _ := St.put (k := 1) hS rfl rfl _
    clear_value H15
    simp only [setN, splice, newA, bA, add_off, add_block, Nat.add_zero, Nat.zero_add, Nat.reduceAdd] at hS
    refine ⟨_, _, _, _, _, _, _, St.atp (k := 1) hS rfl rfl rfl, ?_⟩
    exact ⟨F, _, rfl, hS.sub (((List.Sublist.refl _).cons _).cons _), ⟨_, _, _, _, _, _, _, rfl, hex⟩, hi', hil, hn'⟩
theorem St.mid3' {M : Nat → Prop} {a b c d : Nat × Obj} {F : List (Nat × Obj)} (hS : St M H0 H (a :: b :: c :: d :: F)) : St M H0 H (b :: c :: d :: a :: F) :=
  hS.perm (List.perm_middle (l₁ := [b, c, d]) (a := a) (l₂ := F)).symm
set_option maxHeartbeats 1000000 in
theorem factor_is {deep : Int} {thing : Nat → Nat → PR Ex} (hF : Con la lc toks en pb 101 deep thing) : Con la lc toks en pb 95 deep (factorG toks en thing) := by
  intro H i nd h hn
  generalize hg : factorG toks en thing i nd = r
  apply parse_parser_factor_calls
  unfold parse_parser_factor
  have hS := St.start1 h.blk
  intro H1
  replace hS : St _ _ H1 _ := St.push hS _
  clear_value H1
  refine pcall (hF H1 i nd (h.go (k := 1) hS rfl h.hi) hn) (fun x i1 nd1 F1 v H2 he hT hv hi1 hi2 hn1 => ?_) (fun er a H2 he hx => ?_)
  rotate_left
  · rw [factorG, he] at hg
    subst hg
    exact ⟨rfl, hS.ext_call (k := 1) rfl rfl hx⟩
  rw [factorG, he] at hg
  simp only [bindP] at hg
  obtain ⟨kd, a, b, n, ad, kl, cap, rfl, hex⟩ := hv
  refine ⟨_, _, _, _, _, _, _, rfl, ?_⟩
  replace hS := St.call (k := 1) hS rfl hT
  simp only [setN, List.cons_append, List.nil_append, List.append_nil] at hS
  intro H3
  replace hS : St _ _ H3 _ := St.push hS _
  clear_value H3
  refine ⟨St.may (k := 0) hS rfl rfl (by simp [newA, bA, add_off]), ?_⟩
  intro H4
  replace hS : St _ _ H4 _ := St.put (k := 0) hS rfl rfl _
  clear_value H4
  simp only [setN, splice, newA, bA, add_off, add_block, Nat.add_zero, Nat.zero_add, Nat.reduceAdd] at hS
  refine ⟨fun H' => ∃ F e kd a b n ad kl cap i' nd' m, St (· = pb) H H' ((H2.size, C (exC kd a b n ad kl cap) 25) :: (H.size, C (exC 0 0 0 noT none 0 0) 25) :: (pb, psO la toks.length lc en i' nd') :: F) ∧ ExF F e (exC kd a b n ad kl cap) ∧ toks.length ≤ i' + m ∧ i ≤ i' ∧ i' ≤ toks.length ∧ nd' ≤ 600 ∧ shiftLoop toks en m e i' nd' = r,
    fun H' => leftH pb toks.length H', ⟨F1, x, kd, a, b, n, ad, kl, cap, i1, nd1, toks.length, hS, hex, by omega, hi1, hi2, hn1, hg⟩, ?_⟩
  clear hg hex hS
  rintro H5 ⟨F, e, kd, a, b, n, ad, kl, cap, i', nd', m, hS, hex, hm, hi', hil, hn', hg⟩
  have hleft := left_of (k := 2) toks.length hS rfl
  have hl := h.hl
  have key : ∀ (sg : Int) (m' j : Nat) (H8 : Heap), m = m' + 1 → i' < j → j ≤ toks.length → St (· = pb) H H8 ((H2.size, C (exC kd a b n ad kl cap) 25) :: (H.size, C (exC 0 0 0 noT none 0 0) 25) :: (pb, psO la toks.length lc en j nd') :: F) →
      bindP (takeF toks en 6 j nd') (fun t i' nd => if t.n < 1 ∨ t.n ≥ 1440 then failF toks en 3 j else bindP (nodeF toks en (.mk 9 (IntKind.i64.wrap (sg * t.n)) 0 noT [e]) i' nd) fun e i nd => shiftLoop toks en m' e i nd) = r →
      parse_parser_factor_k1 (bA pb) H2 (fun H' => ∃ F e kd a b n ad kl cap i' nd' m, St (· = pb) H H' ((H2.size, C (exC kd a b n ad kl cap) 25) :: (H.size, C (exC 0 0 0 noT none 0 0) 25) :: (pb, psO la toks.length lc en i' nd') :: F) ∧ ExF F e (exC kd a b n ad kl cap) ∧ toks.length ≤ i' + m ∧ i ≤ i' ∧ i' ≤ toks.length ∧ nd' ≤ 600 ∧ shiftLoop toks en m e i' nd' = r)
        (fun H' => leftH pb toks.length H') H5 sg H8 (pPost la lc toks en pb VEx H i r) := by
    clear hg hS
    intro sg m' j H8 hmm hj1 hj2 hS hg
    subst hmm
    unfold parse_parser_factor_k1
    refine ⟨_, St.cell (k := 2) hS rfl rfl rfl, ?_⟩
    refine pcall (take_is (h.go (k := 2) hS rfl hj2) hn' 6) (fun x2 i2 nd2 F2 v H9 he hT hv hi3 hi4 hn2 => ?_) (fun er a H9 he hx => ?_)
    rotate_left
    · rw [he] at hg
      subst hg
      exact ⟨rfl, hS.ext_call (k := 2) rfl rfl hx⟩
    rw [he] at hg
    simp only [bindP] at hg
    have hv : v = .agg ⟨x2.c⟩ := hv
    subst hv
    refine ⟨_, _, _, _, rfl, ?_⟩
    replace hS := St.call (k := 2) hS rfl hT
    simp only [setN, List.cons_append, List.nil_append, List.append_nil] at hS
    refine ifB_mk (fun hc => ?_) (fun hc => ?_)
    · have hc : x2.n < 1 ∨ x2.n ≥ 1440 := by simpa using hc
      rw [if_pos hc] at hg
      subst hg
      refine ⟨St.may (k := 2) hS rfl rfl (by simp [newA, bA, add_off]), ?_⟩
      intro H10
      replace hS : St _ _ H10 _ := St.put (k := 2) hS rfl rfl _
      clear_value H10
      simp only [setN, splice, newA, bA, add_off, add_block, Nat.add_zero, Nat.zero_add, Nat.reduceAdd] at hS
      refine fail_go (h.go (k := 2) hS rfl hj2) 3 ?_
      exact ⟨rfl, hS.ext⟩
    · have hc : ¬ (x2.n < 1 ∨ x2.n ≥ 1440) := by simpa using hc
      rw [if_neg hc] at hg
      unfold parse_parser_factor_k2
      refine ⟨_, _, _, _, _, _, _, St.atp (k := 0) hS rfl rfl rfl, ?_⟩
      intro H13
      replace hS : St _ _ H13 _ := St.push hS _
      clear_value H13
      refine node_go (h.go (k := 3) hS rfl hi4) hn2 (.mk 9 (IntKind.i64.wrap (sg * x2.n)) 0 noT [e]) (fun H11 he hn3 hT => ⟨_, _, _, _, _, _, _, rfl, ?_⟩) (fun er a H11 he hx => ?_)
      rotate_left
      · rw [he] at hg
        subst hg
        exact ⟨rfl, hS.ext_call (k := 3) rfl rfl hx⟩
      rw [he] at hg
      simp only at hg
      replace hS := St.call (k := 3) hS rfl hT
      simp only [setN, List.cons_append, List.nil_append, List.append_nil] at hS
      refine ⟨St.may (k := 1) hS rfl rfl (by simp [newA, bA, add_off]), ?_⟩
      intro H15
      replace hS : St _ _ H15 _ := St.put (k := 1) hS rfl rfl _
      clear_value H15
      simp only [setN, splice, newA, bA, add_off, add_block, Nat.add_zero, Nat.zero_add, Nat.reduceAdd] at hS
      have hS2 := hS.mid3'
      refine ⟨⟨(H9.size, C (exC kd a b n ad kl cap) 25) :: (F ++ F2), .mk 9 (IntKind.i64.wrap (sg * x2.n)) 0 noT [e], _, _, _, _, _, _, _, i2, nd2 + 1, m', hS2, (hex.one (T := 25) _ _ _ _ _).more ?_, by omega, by omega, hi4, hn3, hg⟩, ?_⟩
      · intro y hy
        rcases List.mem_cons.1 hy with rfl | hy
        · simp
        · simp [hy]
      show leftH pb toks.length _ < leftH pb toks.length _
      rw [hleft, left_of (k := 3) toks.length hS rfl]
      omega
  refine eat_go (h.go (k := 2) hS rfl hil) 2 _ (fun hb hlt H6 hT => ⟨_, rfl, ifB_mk (fun _ => ?_) (fun hc => by cases hc)⟩) (fun hb H6 hT => ⟨_, rfl, ifB_mk (fun hc => by cases hc) (fun _ => ?_)⟩)
  · obtain ⟨m', rfl⟩ : ∃ m', m = m' + 1 := ⟨m - 1, by omega⟩
    simp only [shiftLoop] at hg
    rw [if_pos hb] at hg
    replace hS := St.call (k := 2) hS rfl hT
    simp only [setN, List.cons_append, List.nil_append, List.append_nil] at hS
    refine eat_go (h.go (k := 2) hS rfl (by omega)) 3 _ (fun hb2 hlt2 H7 hT => ⟨_, rfl, ifB_mk (fun _ => ?_) (fun hc => by cases hc)⟩) (fun hb2 H7 hT => ⟨_, rfl, ifB_mk (fun hc => by cases hc) (fun _ => ?_)⟩)
    · replace hS := St.call (k := 2) hS rfl hT
      simp only [setN, List.cons_append, List.nil_append, List.append_nil] at hS
      rw [if_pos hb2] at hg
      simp only [if_pos hb2] at hg
      exact key (-1) m' (i' + 2) H7 rfl (by omega) (by omega) hS hg
    · replace hS := St.call (k := 2) hS rfl hT
      simp only [setN, List.cons_append, List.nil_append, List.append_nil] at hS
      have hb3 : ¬ isF toks 3 ⟨#[45]⟩ (i' + 1) = true := by rw [hb2]; simp
      rw [if_neg hb3] at hg
      simp only [if_neg hb3] at hg
      exact key 1 m' (i' + 1) H7 rfl (by omega) (by omega) hS hg
  · rw [shiftLoop_no hb] at hg
    subst hg
    replace hS := St.call (k := 2) hS rfl hT
    simp only [setN, List.cons_append, List.nil_append, List.append_nil] at hS
    refine ⟨_, _, _, _, _, _, _, St.atp (k := 0) hS rfl rfl rfl, ?_⟩
    refine ⟨St.may (k := 1) hS rfl rfl (by simp [newA, bA, add_off]), ?_⟩
    intro H15
    replace hS : St _ _ H15 _ := St.put (k := 1) hS rfl rfl _
    clear_value H15
    simp only [setN, splice, newA, bA, add_off, add_block, Nat.add_zero, Nat.zero_add, Nat.reduceAdd] at hS
    refine ⟨_, _, _, _, _, _, _, St.atp (k := 1) hS rfl rfl rfl, ?_⟩
    exact ⟨F, _, rfl, hS.sub (((List.Sublist.refl _).cons _).cons _), ⟨_, _, _, _, _, _, _, rfl, hex⟩, hi', hil, hn'⟩
end
end Go.Vc
