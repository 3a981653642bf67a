/- MeanShift is proved: shifted twice the same way is shifted by both, and a sum is shifted as its parts are; for every input, with no condition. -/
import Derived.Test.YtdhbekcmjnifnaaMb9
import Derived.Test.YtdhbekcmjnifnaaRows
import Derived.WalkKit
import Derived.ProofKit
import Derived.OpenShut
import Derived.JoinedCond
import Derived.ReadAgain
import Derived.ChangeStays
import Derived.SizedLaws
set_option linter.unusedVariables false
set_option linter.unusedSimpArgs false
set_option maxRecDepth 100000
namespace Go.Vc
open Go.Proofs

/-! slotlaw6: what its laws use -/
theorem rules6_is (s : ByteArray) (hs : s.size ≤ 4611686018427387904) (hp : (parseF s).2.1 = 0) (H : Heap) : CallsH Try.prog 19 ⟨[.string s]⟩ H fun e H' => ∃ a c, e = .returned (.slice a (parseF s).1.length c) ∧ Ext0 H H' ∧ RulesAt H' a (parseF s).1 := by
  apply slotlaw6_rules_calls
  unfold slotlaw6_rules
  refine (Parse_is s hs H).call (fun v H1 hr => ?_) (fun ch H6 hr5 => by obtain ⟨_, _, hr5, _⟩ := hr5; cases hr5) (fun H6 hr5 => by obtain ⟨_, _, hr5, _⟩ := hr5; cases hr5)
  obtain ⟨a, c, hv, hx, hru⟩ := hr
  simp only [Ending.returned.injEq] at hv
  subst hv
  refine ⟨_, _, _, _, _, rfl, ?_⟩
  have hS := St.start none0 H1
  intro H2
  replace hS : St _ _ H2 _ := St.push hS _
  clear_value H2
  refine ⟨St.may (k := 0) hS rfl rfl (by simp [newA, bA, add_off]), ?_⟩
  intro H3
  replace hS : St _ _ H3 _ := St.put (k := 0) hS rfl rfl _
  clear_value H3
  simp only [setN, splice, newA, bA, add_off, add_block, Nat.add_zero, Nat.zero_add, Nat.reduceAdd] at hS
  refine ⟨_, St.cell (k := 0) hS rfl rfl rfl, ?_⟩
  refine ifB_mk (fun h => ?_) (fun h => ?_)
  · rw [hp] at h; simp at h
  · exact ⟨a, c, rfl, hx.trans hS.ext0, hru.grow hS.ext0⟩
theorem mem_wordsV {H : Heap} {a : Option Addr} {ms : List Nat} (h : RowAt H a 23 (ms.map wordsV)) {i m : Nat} (hi : ms[i]? = some m) : ∃ p, a = some p ∧ At H (p.add (i * 23)) (wordsV m) := h i (wordsV m) (by rw [List.getElem?_map, hi]; rfl)
theorem allErr3 : allErr rules3 0 = (0, 0) := by kernel_rfl
theorem ones_0 : ones ((0 : Nat) : Int) = 0 := by kernel_rfl
theorem ones_8 : ones ((18446744073441116160 : Nat) : Int) = 36 := by kernel_rfl
theorem ones_9 : ones ((16777215 : Nat) : Int) = 24 := by kernel_rfl
theorem countN_step {A k w : Nat} {c o : Int} (hc : countN A k = c) (hw : word A k = w) (ho : ones (w : Nat) = o) (h0 : 0 ≤ c + o) (h1 : c + o ≤ 4611686018427387904) : countN A (k + 1) = c + o := by
  rw [countN, hc, hw, ho, i64_id (by omega) (by omega)]
theorem nine_val : ofN [(540, 600)] = 4149515568880992954913276828056604044764015426093651412899899635049119504932303688310236984409913498032965337728188103462458422568595059209320261989718523935854369658709378439577600 := by kernel_rfl
theorem nine_mod : 4149515568880992954913276828056604044764015426093651412899899635049119504932303688310236984409913498032965337728188103462458422568595059209320261989718523935854369658709378439577600 % dayN = 4149515568880992954913276828056604044764015426093651412899899635049119504932303688310236984409913498032965337728188103462458422568595059209320261989718523935854369658709378439577600 := by kernel_rfl
theorem count_nine : countN 4149515568880992954913276828056604044764015426093651412899899635049119504932303688310236984409913498032965337728188103462458422568595059209320261989718523935854369658709378439577600 23 = 60 := by
  have h0 : countN 4149515568880992954913276828056604044764015426093651412899899635049119504932303688310236984409913498032965337728188103462458422568595059209320261989718523935854369658709378439577600 0 = 0 := rfl
  have h1 : countN 4149515568880992954913276828056604044764015426093651412899899635049119504932303688310236984409913498032965337728188103462458422568595059209320261989718523935854369658709378439577600 1 = 0 := countN_step (A := 4149515568880992954913276828056604044764015426093651412899899635049119504932303688310236984409913498032965337728188103462458422568595059209320261989718523935854369658709378439577600) (k := 0) (w := 0) (c := 0) (o := 0) h0 (by kernel_rfl) ones_0 (by decide) (by decide)
  have h2 : countN 4149515568880992954913276828056604044764015426093651412899899635049119504932303688310236984409913498032965337728188103462458422568595059209320261989718523935854369658709378439577600 2 = 0 := countN_step (A := 4149515568880992954913276828056604044764015426093651412899899635049119504932303688310236984409913498032965337728188103462458422568595059209320261989718523935854369658709378439577600) (k := 1) (w := 0) (c := 0) (o := 0) h1 (by kernel_rfl) ones_0 (by decide) (by decide)
  have h3 : countN 4149515568880992954913276828056604044764015426093651412899899635049119504932303688310236984409913498032965337728188103462458422568595059209320261989718523935854369658709378439577600 3 = 0 := countN_step (A := 4149515568880992954913276828056604044764015426093651412899899635049119504932303688310236984409913498032965337728188103462458422568595059209320261989718523935854369658709378439577600) (k := 2) (w := 0) (c := 0) (o := 0) h2 (by kernel_rfl) ones_0 (by decide) (by decide)
  have h4 : countN 4149515568880992954913276828056604044764015426093651412899899635049119504932303688310236984409913498032965337728188103462458422568595059209320261989718523935854369658709378439577600 4 = 0 := countN_step (A := 4149515568880992954913276828056604044764015426093651412899899635049119504932303688310236984409913498032965337728188103462458422568595059209320261989718523935854369658709378439577600) (k := 3) (w := 0) (c := 0) (o := 0) h3 (by kernel_rfl) ones_0 (by decide) (by decide)
  have h5 : countN 4149515568880992954913276828056604044764015426093651412899899635049119504932303688310236984409913498032965337728188103462458422568595059209320261989718523935854369658709378439577600 5 = 0 := countN_step (A := 4149515568880992954913276828056604044764015426093651412899899635049119504932303688310236984409913498032965337728188103462458422568595059209320261989718523935854369658709378439577600) (k := 4) (w := 0) (c := 0) (o := 0) h4 (by kernel_rfl) ones_0 (by decide) (by decide)
  have h6 : countN 4149515568880992954913276828056604044764015426093651412899899635049119504932303688310236984409913498032965337728188103462458422568595059209320261989718523935854369658709378439577600 6 = 0 := countN_step (A := 4149515568880992954913276828056604044764015426093651412899899635049119504932303688310236984409913498032965337728188103462458422568595059209320261989718523935854369658709378439577600) (k := 5) (w := 0) (c := 0) (o := 0) h5 (by kernel_rfl) ones_0 (by decide) (by decide)
  have h7 : countN 4149515568880992954913276828056604044764015426093651412899899635049119504932303688310236984409913498032965337728188103462458422568595059209320261989718523935854369658709378439577600 7 = 0 := countN_step (A := 4149515568880992954913276828056604044764015426093651412899899635049119504932303688310236984409913498032965337728188103462458422568595059209320261989718523935854369658709378439577600) (k := 6) (w := 0) (c := 0) (o := 0) h6 (by kernel_rfl) ones_0 (by decide) (by decide)
  have h8 : countN 4149515568880992954913276828056604044764015426093651412899899635049119504932303688310236984409913498032965337728188103462458422568595059209320261989718523935854369658709378439577600 8 = 0 := countN_step (A := 4149515568880992954913276828056604044764015426093651412899899635049119504932303688310236984409913498032965337728188103462458422568595059209320261989718523935854369658709378439577600) (k := 7) (w := 0) (c := 0) (o := 0) h7 (by kernel_rfl) ones_0 (by decide) (by decide)
  have h9 : countN 4149515568880992954913276828056604044764015426093651412899899635049119504932303688310236984409913498032965337728188103462458422568595059209320261989718523935854369658709378439577600 9 = 36 := countN_step (A := 4149515568880992954913276828056604044764015426093651412899899635049119504932303688310236984409913498032965337728188103462458422568595059209320261989718523935854369658709378439577600) (k := 8) (w := 18446744073441116160) (c := 0) (o := 36) h8 (by kernel_rfl) ones_8 (by decide) (by decide)
  have h10 : countN 4149515568880992954913276828056604044764015426093651412899899635049119504932303688310236984409913498032965337728188103462458422568595059209320261989718523935854369658709378439577600 10 = 60 := countN_step (A := 4149515568880992954913276828056604044764015426093651412899899635049119504932303688310236984409913498032965337728188103462458422568595059209320261989718523935854369658709378439577600) (k := 9) (w := 16777215) (c := 36) (o := 24) h9 (by kernel_rfl) ones_9 (by decide) (by decide)
  have h11 : countN 4149515568880992954913276828056604044764015426093651412899899635049119504932303688310236984409913498032965337728188103462458422568595059209320261989718523935854369658709378439577600 11 = 60 := countN_step (A := 4149515568880992954913276828056604044764015426093651412899899635049119504932303688310236984409913498032965337728188103462458422568595059209320261989718523935854369658709378439577600) (k := 10) (w := 0) (c := 60) (o := 0) h10 (by kernel_rfl) ones_0 (by decide) (by decide)
  have h12 : countN 4149515568880992954913276828056604044764015426093651412899899635049119504932303688310236984409913498032965337728188103462458422568595059209320261989718523935854369658709378439577600 12 = 60 := countN_step (A := 4149515568880992954913276828056604044764015426093651412899899635049119504932303688310236984409913498032965337728188103462458422568595059209320261989718523935854369658709378439577600) (k := 11) (w := 0) (c := 60) (o := 0) h11 (by kernel_rfl) ones_0 (by decide) (by decide)
  have h13 : countN 4149515568880992954913276828056604044764015426093651412899899635049119504932303688310236984409913498032965337728188103462458422568595059209320261989718523935854369658709378439577600 13 = 60 := countN_step (A := 4149515568880992954913276828056604044764015426093651412899899635049119504932303688310236984409913498032965337728188103462458422568595059209320261989718523935854369658709378439577600) (k := 12) (w := 0) (c := 60) (o := 0) h12 (by kernel_rfl) ones_0 (by decide) (by decide)
  have h14 : countN 4149515568880992954913276828056604044764015426093651412899899635049119504932303688310236984409913498032965337728188103462458422568595059209320261989718523935854369658709378439577600 14 = 60 := countN_step (A := 4149515568880992954913276828056604044764015426093651412899899635049119504932303688310236984409913498032965337728188103462458422568595059209320261989718523935854369658709378439577600) (k := 13) (w := 0) (c := 60) (o := 0) h13 (by kernel_rfl) ones_0 (by decide) (by decide)
  have h15 : countN 4149515568880992954913276828056604044764015426093651412899899635049119504932303688310236984409913498032965337728188103462458422568595059209320261989718523935854369658709378439577600 15 = 60 := countN_step (A := 4149515568880992954913276828056604044764015426093651412899899635049119504932303688310236984409913498032965337728188103462458422568595059209320261989718523935854369658709378439577600) (k := 14) (w := 0) (c := 60) (o := 0) h14 (by kernel_rfl) ones_0 (by decide) (by decide)
  have h16 : countN 4149515568880992954913276828056604044764015426093651412899899635049119504932303688310236984409913498032965337728188103462458422568595059209320261989718523935854369658709378439577600 16 = 60 := countN_step (A := 4149515568880992954913276828056604044764015426093651412899899635049119504932303688310236984409913498032965337728188103462458422568595059209320261989718523935854369658709378439577600) (k := 15) (w := 0) (c := 60) (o := 0) h15 (by kernel_rfl) ones_0 (by decide) (by decide)
  have h17 : countN 4149515568880992954913276828056604044764015426093651412899899635049119504932303688310236984409913498032965337728188103462458422568595059209320261989718523935854369658709378439577600 17 = 60 := countN_step (A := 4149515568880992954913276828056604044764015426093651412899899635049119504932303688310236984409913498032965337728188103462458422568595059209320261989718523935854369658709378439577600) (k := 16) (w := 0) (c := 60) (o := 0) h16 (by kernel_rfl) ones_0 (by decide) (by decide)
  have h18 : countN 4149515568880992954913276828056604044764015426093651412899899635049119504932303688310236984409913498032965337728188103462458422568595059209320261989718523935854369658709378439577600 18 = 60 := countN_step (A := 4149515568880992954913276828056604044764015426093651412899899635049119504932303688310236984409913498032965337728188103462458422568595059209320261989718523935854369658709378439577600) (k := 17) (w := 0) (c := 60) (o := 0) h17 (by kernel_rfl) ones_0 (by decide) (by decide)
  have h19 : countN 4149515568880992954913276828056604044764015426093651412899899635049119504932303688310236984409913498032965337728188103462458422568595059209320261989718523935854369658709378439577600 19 = 60 := countN_step (A := 4149515568880992954913276828056604044764015426093651412899899635049119504932303688310236984409913498032965337728188103462458422568595059209320261989718523935854369658709378439577600) (k := 18) (w := 0) (c := 60) (o := 0) h18 (by kernel_rfl) ones_0 (by decide) (by decide)
  have h20 : countN 4149515568880992954913276828056604044764015426093651412899899635049119504932303688310236984409913498032965337728188103462458422568595059209320261989718523935854369658709378439577600 20 = 60 := countN_step (A := 4149515568880992954913276828056604044764015426093651412899899635049119504932303688310236984409913498032965337728188103462458422568595059209320261989718523935854369658709378439577600) (k := 19) (w := 0) (c := 60) (o := 0) h19 (by kernel_rfl) ones_0 (by decide) (by decide)
  have h21 : countN 4149515568880992954913276828056604044764015426093651412899899635049119504932303688310236984409913498032965337728188103462458422568595059209320261989718523935854369658709378439577600 21 = 60 := countN_step (A := 4149515568880992954913276828056604044764015426093651412899899635049119504932303688310236984409913498032965337728188103462458422568595059209320261989718523935854369658709378439577600) (k := 20) (w := 0) (c := 60) (o := 0) h20 (by kernel_rfl) ones_0 (by decide) (by decide)
  have h22 : countN 4149515568880992954913276828056604044764015426093651412899899635049119504932303688310236984409913498032965337728188103462458422568595059209320261989718523935854369658709378439577600 22 = 60 := countN_step (A := 4149515568880992954913276828056604044764015426093651412899899635049119504932303688310236984409913498032965337728188103462458422568595059209320261989718523935854369658709378439577600) (k := 21) (w := 0) (c := 60) (o := 0) h21 (by kernel_rfl) ones_0 (by decide) (by decide)
  have h23 : countN 4149515568880992954913276828056604044764015426093651412899899635049119504932303688310236984409913498032965337728188103462458422568595059209320261989718523935854369658709378439577600 23 = 60 := countN_step (A := 4149515568880992954913276828056604044764015426093651412899899635049119504932303688310236984409913498032965337728188103462458422568595059209320261989718523935854369658709378439577600) (k := 22) (w := 0) (c := 60) (o := 0) h22 (by kernel_rfl) ones_0 (by decide) (by decide)
  exact h23
theorem ten_val : shiftN 4149515568880992954913276828056604044764015426093651412899899635049119504932303688310236984409913498032965337728188103462458422568595059209320261989718523935854369658709378439577600 60 = 4784065733063810969432369588737795717778834111525504826754561141406313457735348769542171220627015886494582589456337534952014832630620182092060631520577265156773648733548025493236918085607665277337600 := by kernel_rfl
theorem holds_ten : holdsN 4784065733063810969432369588737795717778834111525504826754561141406313457735348769542171220627015886494582589456337534952014832630620182092060631520577265156773648733548025493236918085607665277337600 600 660 = true := by kernel_rfl
theorem week_nine : weekB 32 0 = true := by kernel_rfl
theorem mn_nine (lk : ByteArray → Nat) : mnEx 0 lk (ruAt rules3 0).e = ofN [(540, 600)] := by
  show mnEx 0 lk (.mk 4 32 0 noT [.mk 3 540 600 noT []]) = _
  simp only [mnEx, mnL, comb]
  simp [week_nine]
theorem mn_ten (lk : ByteArray → Nat) : mnEx 0 lk (ruAt rules3 1).e = shiftN (lk nA) 60 := by
  show mnEx 0 lk (.mk 9 60 0 noT [.mk 10 0 0 nA []]) = _
  simp only [mnEx, mnL, comb]
  simp
theorem find_a : findF nA rules3 0 = 0 := by kernel_rfl
theorem alive6_is (H : Heap) : CallsH Try.prog 7 ⟨[]⟩ H fun e H' => e = .returned (.bool true) ∧ Ext0 H H' := by
  apply slotlaw6_alive_calls
  unfold slotlaw6_alive
  have h3 := parse3
  refine (rules6_is text3 (by decide) (by rw [h3]) H).call (fun v H1 hr => ?_) (fun ch H6 hr5 => by obtain ⟨_, _, hr5, _⟩ := hr5; cases hr5) (fun H6 hr5 => by obtain ⟨_, _, hr5, _⟩ := hr5; cases hr5)
  obtain ⟨a, c, hv, hx, hru⟩ := hr
  rw [h3] at hv hru
  simp only [Ending.returned.injEq] at hv
  subst hv
  refine ⟨_, _, _, rfl, ?_⟩
  refine (All_is hru 0).call (fun v H2 hr => ?_) (fun ch H6 hr5 => by obtain ⟨_, _, _, hr5, _⟩ := hr5; cases hr5) (fun H6 hr5 => by obtain ⟨_, _, _, hr5, _⟩ := hr5; cases hr5)
  obtain ⟨ma, mc, ms, hv, hx2, hrow, hok, _⟩ := hr
  simp only [Ending.returned.injEq] at hv
  subst hv
  have hok := hok (by rw [allErr3])
  rw [allErr3]
  refine ⟨_, _, _, _, _, rfl, ?_⟩
  have hS := St.start none0 H2
  intro H3
  replace hS : St _ _ H3 _ := St.push hS _
  clear_value H3
  refine ⟨St.may (k := 0) hS rfl rfl (by simp [newA, bA, add_off]), ?_⟩
  intro H4
  replace hS : St _ _ H4 _ := St.put (k := 0) hS rfl rfl _
  clear_value H4
  simp only [setN, splice, newA, bA, add_off, add_block, Nat.add_zero, Nat.zero_add, Nat.reduceAdd] at hS
  refine ⟨_, St.cell (k := 0) hS rfl rfl rfl, ?_⟩
  have hlen : ms.length = 2 := hok.len
  obtain ⟨m0, m1, rfl⟩ : ∃ m0 m1, ms = [m0, m1] := by
    match ms, hlen with
    | [a, b], _ => exact ⟨a, b, rfl⟩
  have e0 : m0 = ofN [(540, 600)] := by
    have := hok.eqn 0 (by decide)
    rwa [mn_nine] at this
  have e1 : m1 = shiftN m0 60 := by
    have := hok.eqn 1 (by decide)
    rw [mn_ten, find_a] at this
    exact this
  have hc : countN (m0 % dayN) 23 = 60 := by rw [e0, nine_val, nine_mod]; exact count_nine
  have hh : holdsN m1 600 660 = true := by rw [e1, e0, nine_val, ten_val]; exact holds_ten
  have hrow4 := hrow.grow hS.ext0
  refine ⟨fun b H' => b = true ∧ Ext0 H4 H', ifB_mk (fun _ => ?_) (fun h => by simp at h), ?_⟩
  · obtain ⟨p, rfl, hat⟩ := mem_wordsV hrow4 (i := 0) rfl
    refine ⟨by omega, by simp, p, rfl, wordsOf m0, wordsOf_length _, hat, (Count_is m0 H4).call fun H6 hx6 => ⟨_, rfl, ?_, hx6⟩⟩
    rw [hc]; rfl
  rintro q H5 ⟨rfl, hx5⟩
  refine ⟨fun b H' => b = true ∧ Ext0 H4 H', ifB_mk (fun _ => ?_) (fun h => by cases h), ?_⟩
  · obtain ⟨p, rfl, hat⟩ := mem_wordsV (hrow4.grow hx5) (i := 1) rfl
    refine ⟨by omega, by simp, p, rfl, wordsOf m1, wordsOf_length _, hat, (Holds_is m1 600 660 H5).call fun H9 hx9 => ⟨_, rfl, ?_, hx5.trans hx9⟩⟩
    exact hh
  rintro q H8 ⟨rfl, hx8⟩
  exact ⟨rfl, hx.trans (hx2.trans (hS.ext0.trans hx8))⟩
theorem neqV_agg {P : Program} {T : TypeId} {m : Nat} {xs ys : List Value} {lx ly : List Lit} {D D' : Nat} (hk : P.keyTypeAt m T = true) (hm : m ≤ 10000) (hg : P.eqGuardType P.depth T = false)
    (hx : (Value.agg ⟨xs⟩).formed P T = true) (hy : (Value.agg ⟨ys⟩).formed P T = true) (h1 : P.keyLits D T xs = some lx) (h2 : P.keyLits D' T ys = some ly) {b : Bool} (hb : b = false ↔ lx = ly) : EqV P .neq T (.agg ⟨xs⟩) (.agg ⟨ys⟩) b := by
  intro x y w
  have he := run_equalIn_deep (P := P) (10000 - m) m T hk
  rw [show 10000 - m + m = 10000 by omega] at he
  obtain ⟨r, hr, hri⟩ := he w D D' (.agg ⟨xs⟩) (.agg ⟨ys⟩) lx ly hx hy h1 h2
  have hrb : r = !b := by
    rw [Bool.eq_iff_iff, hri, ← hb]; simp
  subst hrb
  have hgd : (eqGuard .neq T x y (.agg ⟨xs⟩) (.agg ⟨ys⟩)).run P w = .ok () w := by
    simp [eqGuard, hg]
  simp only [Sem.run_bind, hgd, Result.andThen_ok, binOp, Op.equal, Op.maxDepth]
  rw [hr]
  simp
theorem neqV_self (A : Nat) : EqV Try.prog .neq 31 (maskV A) (maskV A) false := by
  refine neqV_agg (m := 2) (by kernel_rfl) (by omega) (by kernel_rfl) ?_ ?_ (mask_lits A) (mask_lits A) (by simp)
  · simp only [Value.formed, mask_type, mask_cells]; simp [wordsOf_length]
  · simp only [Value.formed, mask_type, mask_cells]; simp [wordsOf_length]
/-- The same masks. -/
theorem Same_is {a b : List Nat} {aa ba : Option Addr} {H : Heap} (ha : RowAt H aa 23 (a.map wordsV)) (hb : RowAt H ba 23 (b.map wordsV)) (hab : a = b) (hl : a.length ≤ 4611686018427387904) (ac bc : Nat) : CallsQ Try.prog 12 ⟨[.slice aa a.length ac, .slice ba b.length bc]⟩ H (.bool true) := by
  subst hab
  apply slotref5_Same_calls
  unfold slotref5_Same
  refine ifB_mk (fun h => by simp at h) (fun _ => ?_)
  refine ⟨fun x H' => H' = H ∧ ∃ k : Nat, x = k ∧ k ≤ a.length, fun x _ => ((a.length : Int) - x).toNat, ⟨rfl, 0, rfl, Nat.zero_le _⟩, ?_⟩
  rintro x H1 ⟨rfl, k, rfl, hk⟩
  refine ifB_mk (fun hc => ?_) (fun hc => ⟨rfl, rfl⟩)
  have hc : k < a.length := by simp at hc; omega
  have hkk : a[k]? = some a[k] := by simp [hc]
  obtain ⟨p, hp, hat⟩ := mem_wordsV ha hkk
  obtain ⟨q, hq, hbt⟩ := mem_wordsV hb hkk
  refine ⟨by omega, by omega, p, hp, wordsOf a[k], wordsOf_length _, by rw [Int.toNat_natCast]; exact hat, by omega, by omega, q, hq, wordsOf a[k], wordsOf_length _, by rw [Int.toNat_natCast]; exact hbt, false, ?_, ifB_mk (fun h => by cases h) (fun _ => ?_)⟩
  · exact neqV_self _
  · refine ⟨⟨rfl, k + 1, by rw [i64_id (by omega) (by omega)]; omega, hc⟩, ?_⟩
    show Int.toNat _ < Int.toNat _
    rw [i64_id (by omega) (by omega)]
    omega
/-- A row in one piece. -/
theorem At_append {H : Heap} {a : Addr} {x y : List Value} (h1 : At H a x) (h2 : At H (a.add x.length) y) : At H a (x ++ y) := At.mk fun j v hj => by
  rcases Nat.lt_or_ge j x.length with h | h
  · rw [List.getElem?_append_left h] at hj
    exact h1.get hj
  · rw [List.getElem?_append_right h] at hj
    have := h2.get hj
    rw [Addr.add_add, show x.length + (j - x.length) = j by omega] at this
    exact this
theorem At_rows {H : Heap} {sz : Nat} : ∀ (rows : List (List Value)) (p : Addr), (∀ r ∈ rows, r.length = sz) → (∀ i r, rows[i]? = some r → At H (p.add (i * sz)) r) → At H p rows.flatten
  | [], p, _, _ => trivial
  | r :: rows, p, hl, h => by
    rw [List.flatten_cons]
    refine At_append ?_ ?_
    · have := h 0 r rfl
      rwa [Nat.zero_mul, show p.add 0 = p from rfl] at this
    · rw [hl r (by simp)]
      refine At_rows rows _ (fun r hr => hl r (by simp [hr])) fun i r' hr' => ?_
      have := h (i + 1) r' (by simpa using hr')
      rw [Addr.add_add, show sz + i * sz = (i + 1) * sz by rw [Nat.add_mul]; omega]
      exact this
/-- Rules as what append takes. -/
theorem rules_src {H : Heap} {ad : Option Addr} {l : List Ru} (h : RulesAt H ad l) : ∃ cs : List (List Value), cs.length = l.length ∧ (∀ (i : Nat) (r : Ru) (c : List Value), l[i]? = some r → cs[i]? = some c → ∃ c', c = .string r.name :: c' ∧ ExAt H r.e c') ∧ (∀ c ∈ cs, c.length = 6) ∧ SrcH H ad l.length 6 cs.flatten := by
  have key : ∀ i, i < l.length → ∃ c, ∃ p c', ad = some p ∧ At H (p.add (i * 6)) c ∧ c = .string (ruAt l i).name :: c' ∧ ExAt H (ruAt l i).e c' := fun i hi => by
    obtain ⟨p, c, h1, h2, h3⟩ := h i _ (ruAt_some hi)
    exact ⟨_, p, c, h1, h2, rfl, h3⟩
  let f : Nat → List Value := fun i => if hi : i < l.length then Classical.choose (key i hi) else []
  have hf : ∀ i (hi : i < l.length), ∃ p c', ad = some p ∧ At H (p.add (i * 6)) (f i) ∧ f i = .string (ruAt l i).name :: c' ∧ ExAt H (ruAt l i).e c' := fun i hi => by
    have := Classical.choose_spec (key i hi)
    show ∃ p c', ad = some p ∧ At H (p.add (i * 6)) (if hi : i < l.length then Classical.choose (key i hi) else []) ∧ (if hi : i < l.length then Classical.choose (key i hi) else []) = _ ∧ _
    rw [dif_pos hi]
    exact this
  have hl6 : ∀ c ∈ (List.range l.length).map f, c.length = 6 ∧ plainL c := fun c hc => by
    obtain ⟨i, hi, rfl⟩ := List.mem_map.1 hc
    obtain ⟨p, c', _, _, h3, h4⟩ := hf i (List.mem_range.1 hi)
    rw [h3]
    refine ⟨by simp [h4.len], fun v hv => ?_⟩
    rcases List.mem_cons.1 hv with rfl | hv
    · rfl
    · exact h4.plain v hv
  refine ⟨(List.range l.length).map f, by simp, fun i r c hr hc => ?_, fun c hc => (hl6 c hc).1, ?_⟩
  · have hi := (List.getElem?_eq_some_iff.1 hr).1
    simp [hi] at hc
    obtain ⟨p, c', _, _, h3, h4⟩ := hf i hi
    have : ruAt l i = r := by
      have := ruAt_some hi
      rw [hr] at this
      exact (Option.some.inj this).symm
    rw [this] at h3 h4
    exact ⟨c', by rw [← hc, h3], h4⟩
  · cases hl : l with
    | nil =>
      cases ad with
      | none => exact .inl ⟨rfl, rfl, by simp⟩
      | some p => exact .inr ⟨p, rfl, by simp; trivial, by simp, by simp [plainL]⟩
    | cons r rs =>
      have h0 : 0 < l.length := by rw [hl]; simp
      obtain ⟨p, _, hp, _⟩ := hf 0 h0
      rw [← hl]
      refine .inr ⟨p, hp, At_rows (sz := 6) _ p (fun c hc => (hl6 c hc).1) fun i c hc => ?_, ?_, fun v hv => ?_⟩
      · have hi : i < l.length := by
          have := (List.getElem?_eq_some_iff.1 hc).1
          simpa using this
        simp [hi] at hc
        obtain ⟨p', _, hp', hat, _⟩ := hf i hi
        rw [hp] at hp'
        cases hp'
        rw [← hc]
        exact hat
      · have : ∀ (cs : List (List Value)), (∀ c ∈ cs, c.length = 6) → cs.flatten.length = cs.length * 6 := by
          intro cs
          induction cs with
          | nil => simp
          | cons c r ih =>
            intro h
            rw [List.flatten_cons, List.length_append, ih fun x hx => h x (by simp [hx]), h c (by simp)]
            simp only [List.length_cons]; omega
        rw [this _ fun c hc => (hl6 c hc).1]
        simp
      · obtain ⟨c, hc, hv⟩ := List.mem_flatten.1 hv
        exact (hl6 c hc).2 v hv
end Go.Vc
set_option linter.unusedVariables false
set_option linter.unusedSimpArgs false
set_option maxRecDepth 100000
namespace Go.Vc
open Go.Proofs

/-! slotlaw6: expressions made, a rule more -/
theorem two_is {ea eb : Ex} {ca cb : List Value} {H : Heap} (ha : ExAt H ea ca) (hb : ExAt H eb cb) (kind : Int) : CallsH Try.prog 10 ⟨[.int .i64 kind, .agg ⟨ca⟩, .agg ⟨cb⟩]⟩ H fun e H' => ∃ c, e = .returned (.agg ⟨c⟩) ∧ Ext0 H H' ∧ ExAt H' (.mk kind 0 0 noT [ea, eb]) c := by
  obtain ⟨k1, a1, b1, n1, ad1, l1, c1, rfl⟩ := ruC_of ha
  obtain ⟨k2, a2, b2, n2, ad2, l2, c2, rfl⟩ := ruC_of hb
  apply slotlaw6_two_calls
  unfold slotlaw6_two
  have hS := St.start none0 H
  intro H1
  replace hS : St _ _ H1 _ := St.push hS _
  clear_value H1
  intro H2
  replace hS : St _ _ H2 _ := St.push hS _
  clear_value H2
  intro H3
  replace hS : St _ _ H3 _ := St.push hS _
  clear_value H3
  refine ⟨_, _, _, _, _, _, _, St.atp (k := 2) hS rfl rfl rfl, ?_⟩
  refine ⟨_, _, _, _, _, _, _, St.atp (k := 1) hS rfl rfl rfl, ?_⟩
  intro H4
  replace hS : St _ _ H4 _ := St.push hS _
  clear_value H4
  refine ⟨St.may (k := 1) hS rfl rfl (by simp [newA, bA, add_off]), ?_⟩
  intro H5
  replace hS : St _ _ H5 _ := St.put (k := 1) hS rfl rfl _
  clear_value H5
  simp only [setN, splice, newA, bA, add_off, add_block, Nat.add_zero, Nat.zero_add, Nat.reduceAdd] at hS
  refine ⟨_, _, _, _, _, _, _, St.atp (k := 1) hS rfl rfl rfl, ?_⟩
  refine ⟨_, rfl, hS.ext0, ?_⟩
  simp only [ExAt, KidsAt]
  refine ⟨_, _, rfl, ⟨_, _, rfl, St.atp (k := 0) hS rfl rfl rfl, ha.grow hS.ext0⟩, ⟨_, _, rfl, St.atp (k := 0) (post := []) hS rfl rfl rfl, hb.grow hS.ext0⟩, trivial⟩
theorem by_is {ea : Ex} {ca : List Value} {H : Heap} (ha : ExAt H ea ca) (n : Int) : CallsH Try.prog 8 ⟨[.agg ⟨ca⟩, .int .i64 n]⟩ H fun e H' => ∃ c, e = .returned (.agg ⟨c⟩) ∧ Ext0 H H' ∧ ExAt H' (.mk 9 n 0 noT [ea]) c := by
  obtain ⟨k1, a1, b1, n1, ad1, l1, c1, rfl⟩ := ruC_of ha
  apply slotlaw6_MeanShift_c1_calls
  unfold slotlaw6_MeanShift_c1
  have hS := St.start none0 H
  intro H1
  replace hS : St _ _ H1 _ := St.push hS _
  clear_value H1
  intro H2
  replace hS : St _ _ H2 _ := St.push hS _
  clear_value H2
  refine ⟨_, _, _, _, _, _, _, St.atp (k := 1) hS rfl rfl rfl, ?_⟩
  intro H3
  replace hS : St _ _ H3 _ := St.push hS _
  clear_value H3
  refine ⟨St.may (k := 1) hS rfl rfl (by simp [newA, bA, add_off]), ?_⟩
  intro H4
  replace hS : St _ _ H4 _ := St.put (k := 1) hS rfl rfl _
  clear_value H4
  simp only [setN, splice, newA, bA, add_off, add_block, Nat.add_zero, Nat.zero_add, Nat.reduceAdd] at hS
  refine ⟨_, _, _, _, _, _, _, St.atp (k := 1) hS rfl rfl rfl, ?_⟩
  refine ⟨_, rfl, hS.ext0, ?_⟩
  simp only [ExAt, KidsAt]
  exact ⟨_, _, rfl, ⟨_, _, rfl, St.atp (k := 0) (post := []) hS rfl rfl rfl, ha.grow hS.ext0⟩, trivial⟩
theorem Keep.of_ext0 {L : List (Nat × Nat)} {H0 H H' : Heap} (h : Ext0 H H') : Keep L H0 H H' := ⟨h.size, fun b _ hb _ => h.block b hb fun h => h⟩
/-- Behind an empty row of no room nothing is written: it grows, or nothing comes. -/
theorem append_none {P : Program} {t e sz by_ : Nat} {b : Nat} {news : List Value} {sa : Option Addr} {k kc : Nat} {H : Heap} {K : Value → Heap → Prop} (hI : appB P t e sz by_ = true) (hx : SrcH H sa k sz news)
    (hfit : 2 * k * by_ ≤ 281474976710656) (h63 : ((k : Nat) : Int) ≤ 9223372036854775807)
    (hK : ∀ a' c' H', Ext0 H H' → ((k = 0 ∧ a' = some (bA b) ∧ c' = 0 ∧ H' = H) ∨ ∃ rest, a' = some ⟨H.size, 0, none⟩ ∧ rest.length = (c' - k) * sz ∧ k ≤ c' ∧ H'[H.size]? = some (C (news ++ rest) e) ∧ H.size < H'.size) → K (.slice a' k c') H') :
    RunD P (Builtin.append_ #[t, t] t ⟨[.slice (some (bA b)) 0 0, .slice sa k kc]⟩) H K := by
  unfold appB at hI
  split at hI
  rotate_left
  · cases hI
  rename_i e' i ht hi
  split at hI
  rotate_left
  · cases hI
  rename_i z hz
  simp only [Bool.and_eq_true] at hI
  obtain ⟨⟨⟨b1, b2⟩, b3⟩, b4⟩ := hI
  have b1 := Nat.eq_of_beq_eq_true b1; have hzs := Nat.eq_of_beq_eq_true b2; have b3 := Nat.eq_of_beq_eq_true b3; have b4 := Nat.eq_of_beq_eq_true b4
  subst b1 b3 b4
  intro w d
  have hn := hx.len
  have hp := hx.plain
  have hs : Src P i.size t (.slice sa k kc) k news (wk w H d) := by
    rcases hx with ⟨rfl, rfl, rfl⟩ | ⟨xa, rfl, hat, _, _⟩
    · exact Src.ofNil _ ht kc
    · exact Src.ofSlice _ ht xa k kc news hn (fun j u hj => hat.get hj) hp
  by_cases hroom : 0 + k ≤ 0
  · have hk0 : k = 0 := by omega
    subst hk0
    have hnews : news = [] := List.length_eq_zero_iff.1 (by simpa using hn)
    subst hnews
    have hrun := run_append_room_src (wk w H d) t t t _ i ht hi b 0 0 0 (.slice sa 0 kc) 0 [] hs (by omega) (fun j hj => absurd hj (Nat.not_lt_zero _)) (fun j hj => absurd hj (Nat.not_lt_zero _))
    rw [← Nat.add_zero (0 + 0 * i.size), setCells_wk w b (0 + 0 * i.size) [] 0 H d] at hrun
    exact ⟨_, H, d, hrun, hK (some (bA b)) 0 H (Ext0.refl H) (.inl ⟨rfl, rfl, rfl, rfl⟩)⟩
  · have hold : (Builtin.firstCells i.size 0 (.slice (some (bA b)) 0 0)).run P (wk w H d).drew = .ok ([] : List Value).toArray (wk w H d).drew := run_firstCells_some _ _ _ _ _ _ [] (by simp) fun j v hj => by simp at hj
    have hrun := run_append_grow_src (wk w H d) t t t _ i z ht hi hz (some (bA b)) 0 0 [] hold (.slice sa k kc) k news hs (by omega) (by omega) (Nat.le_trans (Nat.mul_le_mul_right _ (nextslicecap_le (by omega))) (by rw [Nat.zero_add]; exact hfit))
    rw [wk_alloc] at hrun
    have hge := grownCap_ge (wk w H d) (0 + k) 0 e'
    generalize grownCap (wk w H d) (0 + k) 0 e' = g at hrun hge
    simp only [Nat.zero_add, List.nil_append] at hrun hge
    refine ⟨_, _, d + 1, hrun, hK (some ⟨H.size, 0, none⟩) g _ (ext0_push _ _) (.inr ⟨(Builtin.zeroCells z.cells (g - k)).toList, rfl, ?_, hge, ?_, by simp⟩)⟩
    · rw [Array.length_toList, size_zeroCells, hzs]
    · rw [Array.getElem?_push_size]
      congr 2
      apply Array.ext'
      simp
theorem SrcH.grow {H H' : Heap} {sa : Option Addr} {k sz : Nat} {news : List Value} (h : SrcH H sa k sz news) (hx : Ext0 H H') : SrcH H' sa k sz news := by
  rcases h with h | ⟨xa, h1, h2, h3, h4⟩
  · exact .inl h
  · exact .inr ⟨xa, h1, h2.ext0 hx, h3, h4⟩
theorem append_two {P : Program} {t e sz by_ : Nat} {b : Nat} {flat : List Value} {la : Option Addr} {k kc : Nat} {H4 : Heap} {K1 : Value → Heap → Prop} (hI : appB P t e sz by_ = true) (hx : SrcH H4 la k sz flat) (hsz : 0 < sz)
    (hfit : 2 * (k + 1) * by_ ≤ 281474976710656) (h63 : ((k + 1 : Nat) : Int) ≤ 9223372036854775807)
    (hK : ∀ a5 c5 H5, Ext0 H4 H5 → (∀ (H7 : Heap) (xa : Option Addr) (rc : List Value) (K2 : Value → Heap → Prop), Ext0 H5 H7 → SrcH H7 xa 1 sz rc →
      (∀ (a' : Addr) (c' : Nat) (H8 : Heap), Ext (fun b => H4.size ≤ b ∧ b < H5.size) H7 H8 → At H8 a' (flat ++ rc) → K2 (.slice (some a') (k + 1) c') H8) → RunD P (Builtin.append_ #[t, t] t ⟨[.slice a5 k c5, .slice xa 1 1]⟩) H7 K2) → K1 (.slice a5 k c5) H5) :
    RunD P (Builtin.append_ #[t, t] t ⟨[.slice (some (bA b)) 0 0, .slice la k kc]⟩) H4 K1 := by
  refine append_none hI hx (Nat.le_trans (Nat.mul_le_mul_right _ (by omega)) hfit) (by omega) fun a5 c5 H5 hx5 hcase => hK a5 c5 H5 hx5 ?_
  intro H7 xa rc K2 hx7 hsrc hK2
  have hrcl : rc.length = 1 * sz := hsrc.len
  have hby : 2 * 1 * by_ ≤ 2 * (k + 1) * by_ := Nat.mul_le_mul_right _ (by omega)
  rcases hcase with ⟨rfl, rfl, rfl, rfl⟩ | ⟨rest, rfl, hrl, hkc, hb, hlt⟩
  · have hfl : flat = [] := List.length_eq_zero_iff.1 (by simpa using hx.len)
    subst hfl
    refine append_none hI hsrc (by omega) (by omega) fun a' c' H8 hx8 hc => ?_
    rcases hc with ⟨h, _⟩ | ⟨rest, rfl, _, _, hb, _⟩
    · omega
    · refine hK2 _ _ _ ⟨hx8.size, fun b hb _ => hx8.block b hb fun h => h⟩ (At_of_blk hb rfl fun j v hj => ?_)
      rw [List.nil_append] at hj
      show (rc ++ rest)[0 + j]? = _
      rw [Nat.zero_add, List.getElem?_append_left (List.getElem?_eq_some_iff.1 hj).1]
      exact hj
  · have hb7 : H7[H4.size]? = some (C (flat ++ rest) e) := by rw [hx7.block _ hlt fun h => h]; exact hb
    refine append_gen (L := []) hI (St.start1 hb7) (.inr ⟨H4.size, [], rest, [], by simp, rfl, hx.len, hrl, hkc⟩) hsrc hx.plain hfit h63 ?_
    intro a' c' H8 E' hS hr
    rcases RowP.at_ hS hr with h | ⟨p, rfl, hat⟩
    · have := congrArg List.length h
      simp at this
      rw [List.length_eq_zero_iff.2 this.2] at hrcl
      omega
    · exact hK2 _ _ _ ⟨hS.ext.size, fun b hb hM => hS.ext.block b hb fun h => hM (by omega)⟩ hat
theorem St.part {M : Nat → Prop} {H0 H H' : Heap} {L : List (Nat × Obj)} (h : St none0 H0 H L) (hx : Ext M H H') (hM : ∀ b, M b → H0.size ≤ b) (hL : ∀ x ∈ L, ¬ M x.1) : St none0 H0 H' L where
  ext := ⟨Nat.le_trans h.ext.size hx.size, fun b hb h0 => by rw [hx.block b (Nat.lt_of_lt_of_le hb h.ext.size) fun hm => absurd hb (by have := hM b hm; omega)]; exact h.ext.block b hb h0⟩
  own := h.own
  at_ e he := by rw [hx.block _ (lt_of_get (h.at_ e he)) (hL e he)]; exact h.at_ e he
  nd := h.nd
theorem At.left {H : Heap} {a : Addr} {x y : List Value} (h : At H a (x ++ y)) : At H a x := At.mk fun j v hj => h.get (by rw [List.getElem?_append_left (List.getElem?_eq_some_iff.1 hj).1]; exact hj)
theorem At.right {H : Heap} {a : Addr} {x y : List Value} (h : At H a (x ++ y)) : At H (a.add x.length) y := At.mk fun j v hj => by
  rw [Addr.add_add]
  exact h.get (by rw [List.getElem?_append_right (by omega), Nat.add_sub_cancel_left]; exact hj)
theorem At_flat {H : Heap} {sz : Nat} : ∀ (rows : List (List Value)) (p : Addr) (y : List Value), (∀ r ∈ rows, r.length = sz) → At H p (rows.flatten ++ y) → (∀ i r, rows[i]? = some r → At H (p.add (i * sz)) r) ∧ At H (p.add (rows.length * sz)) y
  | [], p, y, _, h => ⟨fun i r hr => by simp at hr, by rw [List.length_nil, Nat.zero_mul]; exact h⟩
  | r :: rows, p, y, hl, h => by
    rw [List.flatten_cons, List.append_assoc] at h
    have hr := hl r (by simp)
    have h2 := h.right
    rw [hr] at h2
    obtain ⟨h3, h4⟩ := At_flat rows _ y (fun r hr => hl r (by simp [hr])) h2
    refine ⟨fun i r' hr' => ?_, ?_⟩
    · cases i with
      | zero =>
        simp only [List.getElem?_cons_zero, Option.some.injEq] at hr'
        subst hr'
        rw [Nat.zero_mul]
        exact h.left
      | succ i =>
        have := h3 i r' (by simpa using hr')
        rwa [Addr.add_add, show sz + i * sz = (i + 1) * sz by rw [Nat.add_mul]; omega] at this
    · rwa [Addr.add_add, show sz + rows.length * sz = (r :: rows).length * sz by rw [List.length_cons, Nat.add_mul]; omega] at h4
/-- Rules and one more. -/
theorem rules_more {H H' : Heap} {l : List Ru} {cs : List (List Value)} (hlen : cs.length = l.length) (hc : ∀ (i : Nat) (r : Ru) (c : List Value), l[i]? = some r → cs[i]? = some c → ∃ c', c = .string r.name :: c' ∧ ExAt H r.e c') (hl6 : ∀ c ∈ cs, c.length = 6) (hx : Ext0 H H') {name : ByteArray} {e : Ex} {c : List Value} (he : ExAt H' e c) {p : Addr} (hat : At H' p (cs.flatten ++ (.string name :: c))) : RulesAt H' (some p) (l ++ [⟨name, e⟩]) := by
  obtain ⟨h1, h2⟩ := At_flat cs p _ hl6 hat
  intro i r hr
  rcases Nat.lt_or_ge i l.length with h | h
  · rw [List.getElem?_append_left h] at hr
    have hci : cs[i]? = some (cs[i]'(by omega)) := by simp [show i < cs.length by omega]
    obtain ⟨c', h3, h4⟩ := hc i r _ hr hci
    refine ⟨p, c', rfl, ?_, h4.grow hx⟩
    rw [← h3]
    exact h1 i _ hci
  · rw [List.getElem?_append_right h] at hr
    have hi : i = l.length := by
      have := (List.getElem?_eq_some_iff.1 hr).1
      simp at this
      omega
    subst hi
    simp at hr
    subst hr
    refine ⟨p, c, rfl, ?_, he⟩
    rw [← hlen]
    exact h2
def zzB : ByteArray := ⟨#[122, 122, 95, 110, 101, 119]⟩
theorem At.other {H H' : Heap} {a : Addr} {l : List Value} (h : At H a l) (hb : H'[a.block]? = H[a.block]?) : At H' a l := At.mk fun j v hj => by
  have := h.get hj
  unfold cellH at this ⊢
  rw [add_block, hb]
  rw [add_block] at this
  exact this
/-- Masks lie in no record of a fault. -/
theorem mask_other {H : Heap} {a : Addr} {m b : Nat} {x y : Int} {T : TypeId} (h : At H a (wordsV m)) (hb : H[b]? = some (C [.int .i64 x, .int .i64 y] T)) : a.block ≠ b := by
  intro heq
  have h0 := h.get (j := 0) (v := .int .u64 (word m 0 : Nat)) (by unfold wordsV; exact wordsOf_cell (by decide))
  unfold cellH at h0
  rw [add_block, heq, hb] at h0
  simp only at h0
  split at h0
  · cases h0
  · match ho : (a.add 0).off with
    | 0 => rw [ho] at h0; simp at h0
    | 1 => rw [ho] at h0; simp at h0
    | k + 2 => rw [ho] at h0; simp at h0
theorem St.fresh2 {H0 H H2 : Heap} {L : List (Nat × Obj)} (h : St none0 H0 H L) (hL : ∀ x ∈ L, x.1 < H2.size) (h02 : H0.size ≤ H2.size) {I : List (Nat × Nat)} {B : List Nat} {b : Nat} {c : List Value} {T : TypeId} (hf : Fresh I B H2 H b c T) : St none0 H0 H ((b, C c T) :: L) := by
  obtain ⟨h1, h2, h3, _, _⟩ := hf
  refine ⟨h.ext, fun e he => ?_, fun e he => ?_, ?_⟩
  · rcases List.mem_cons.1 he with rfl | he
    · exact .inl (Nat.le_trans h02 h1)
    · exact h.own e he
  · rcases List.mem_cons.1 he with rfl | he
    · exact h3
    · exact h.at_ e he
  · rw [List.map_cons, List.nodup_cons]
    refine ⟨fun hm => ?_, h.nd⟩
    obtain ⟨e, he, heq⟩ := List.mem_map.1 hm
    have := hL e he
    omega

theorem of_is {l : List Ru} {ad : Option Addr} {e : Ex} {ce : List Value} {H : Heap} (hl : RulesAt H ad l) (hn : l.length * 80 ≤ 140737488351232) (he : ExAt H e ce) (cap : Nat) (day : Int) : CallsH Try.prog 9 ⟨[.slice ad l.length cap, .agg ⟨ce⟩, .int .i64 day]⟩ H fun r H' => ∃ (m : Nat) (ok : Bool), r = .returned (.tuple ⟨[maskV m, .bool ok]⟩) ∧ Ext0 H H' ∧ (ok = true → ∃ ms, AllOk (l ++ [⟨zzB, e⟩]) day ms ∧ m = ms.getD l.length 0) := by
  obtain ⟨k1, a1, b1, n1, ad1, l1, c1, rfl⟩ := ruC_of he
  apply slotlaw6_of_calls
  unfold slotlaw6_of
  have hS := St.start none0 H
  intro H1
  replace hS : St _ _ H1 _ := St.push hS _
  clear_value H1
  intro H2
  replace hS : St _ _ H2 _ := St.push hS _
  clear_value H2
  refine ⟨_, _, _, _, _, _, _, St.atp (k := 1) hS rfl rfl rfl, ?_⟩
  have hS2 := hS
  obtain ⟨cs, hcl, hcr0, hc6, hsrc0⟩ := rules_src hl
  intro H3 hx3 b11 hf11 H4 hx4
  have hx24 := hx3.trans hx4
  replace hS := hS.grow hx24
  have hsrc := hsrc0.grow hS.ext0
  refine append_two (k := l.length) (kc := cap) (by kernel_rfl : appB Try.prog 22 43 6 80 = true) hsrc (by omega) (by omega) (by omega) ?_
  intro a5 c5 H5 hx5 happ
  refine ⟨_, _, _, rfl, Keep.of_ext0 hx5, rfl, rfl, ?_⟩
  replace hS := hS.grow hx5
  refine ⟨⟨_, _, _, _, _, _, _, St.atp (k := 1) hS rfl rfl rfl, rfl⟩, ?_⟩
  intro H6 hx6 b16 hf16 H7 hx7
  have hx57 := hx6.trans hx7
  replace hS := hS.grow hx57
  obtain ⟨hb1, hb2, hb3, _, _⟩ := hf16
  have hb7 := (hx7.block _ hb2 fun h => h).trans hb3
  have hat16 : At H7 (bA b16) (.string zzB :: exC k1 a1 b1 n1 ad1 l1 c1) := At_of_blk hb7 rfl fun j v hj => by
    show _[0 + j]? = _
    rw [Nat.zero_add]; exact hj
  refine happ H7 (some (bA b16)) (.string zzB :: exC k1 a1 b1 n1 ad1 l1 c1) _ hx57 (.inr ⟨_, rfl, hat16, rfl, by simp [plainL, exC, Value.oneCell']⟩) ?_
  intro a' c' H8 hx8 hat
  have hlt : ∀ b, b < H2.size → ¬ (H4.size ≤ b ∧ b < H5.size) := fun b hb h => by have := hx24.size; omega
  have h02 : H.size ≤ H2.size := hS2.ext.size
  have hS7 := hS
  replace hS := hS.part hx8 (fun b hb => by have := hx24.size; omega) (fun x hx => hlt _ (by
    have := lt_of_get (hS2.at_ x hx)
    exact this))
  refine ⟨_, _, _, rfl, ⟨hx8.size, fun b h1 h2 h3 => hx8.block b h2 fun h => by have := h3.1; omega⟩, rfl, ?_⟩
  intro H9 hx9
  replace hS := hS.grow hx9
  have hru : RulesAt H9 (some a') (l ++ [⟨zzB, e⟩]) := (rules_more (H := H) hcl (fun i r c h1 h2 => hcr0 i r c h1 h2) hc6 hS.ext0 (he.grow hS.ext0) (hat.ext0 hx9))
  have hl1 : l.length + 1 = (l ++ [(⟨zzB, e⟩ : Ru)]).length := by simp
  rw [hl1]
  refine (All_is hru day).call (fun v H10 hr => ?_) (fun ch H6 hr5 => by obtain ⟨_, _, _, hr5, _⟩ := hr5; cases hr5) (fun H6 hr5 => by obtain ⟨_, _, _, hr5, _⟩ := hr5; cases hr5)
  obtain ⟨ma, mc, ms, hv, hx10, hrow, hok, _⟩ := hr
  simp only [Ending.returned.injEq] at hv
  subst hv
  refine ⟨_, _, _, _, _, rfl, Keep.of_ext0 hx10, ?_⟩
  replace hS := hS.grow hx10
  intro H11 hx11 b9 hf9
  replace hS := (hS.grow hx11).fresh2 (fun x hx => lt_of_get (hS2.at_ x hx)) h02 hf9
  replace hrow := hrow.grow hx11
  generalize hae : allErr (l ++ [⟨zzB, e⟩]) day = er at hok
  obtain ⟨er0, er1⟩ := er
  have hb9 := hS.obj (k := 0) rfl
  refine ⟨St.may (k := 0) hS rfl rfl (by simp [newA, bA, add_off]), ?_⟩
  have hput := (St.put (a := bA b9) (k := 0) (St.start1 hb9) rfl rfl [.int .i64 er0, .int .i64 er1]).ext
  intro H12
  replace hput : Ext (· = b9) H11 H12 := hput
  replace hS : St _ _ H12 _ := St.put (k := 0) hS rfl rfl _
  clear_value H12
  simp only [setN, splice, newA, bA, add_off, add_block, Nat.add_zero, Nat.zero_add, Nat.reduceAdd] at hS
  refine ⟨_, St.cell (k := 0) hS rfl rfl rfl, ?_⟩
  refine ifB_mk (fun hc => ?_) (fun hc => ?_)
  · refine okL_ints (by simp) ?_
    refine ⟨St.may (k := 1) hS rfl rfl (by simp [newA, bA, add_off]), ?_⟩
    intro H13
    replace hS : St _ _ H13 _ := St.put (k := 1) hS rfl rfl _
    clear_value H13
    simp only [setN, splice, newA, bA, add_off, add_block, Nat.add_zero, Nat.zero_add, Nat.reduceAdd] at hS
    rw [splice_all (by simp)] at hS
    refine ⟨List.replicate 23 0, by simp, St.atAll (k := 1) hS rfl rfl rfl, ?_⟩
    refine ⟨0, false, ?_, hS.ext0, fun h => by cases h⟩
    rw [maskV, wordsOf_zero]
  · have h0 : er0 = 0 := by simpa using hc
    subst h0
    have hok := hok rfl
    have hmsl : ms.length = l.length + 1 := by rw [hok.len]; simp
    have hget : ms[l.length]? = some (ms.getD l.length 0) := by
      rw [List.getD_eq_getElem?_getD]
      simp [hmsl]
    generalize ms.getD l.length 0 = m at hget
    obtain ⟨p, rfl, hpt⟩ := mem_wordsV hrow hget
    refine ⟨by omega, by omega, p, rfl, wordsOf m, wordsOf_length _, ?_, okL_ints (wordsOf_length _) ?_⟩
    · rw [Int.toNat_natCast]
      refine hpt.other (hput.block _ ?_ (mask_other hpt hb9))
      have := hpt.get (j := 0) (v := .int .u64 (word m 0 : Nat)) (by unfold wordsV; exact wordsOf_cell (by decide))
      unfold cellH at this
      rw [add_block] at this
      cases h : H11[(p.add (l.length * 23)).block]? with
      | none => rw [h] at this; cases this
      | some o => exact lt_of_get h
    refine ⟨St.may (k := 1) hS rfl rfl (by simp [newA, bA, add_off]), ?_⟩
    intro H14
    replace hS : St _ _ H14 _ := St.put (k := 1) hS rfl rfl _
    clear_value H14
    simp only [setN, splice, newA, bA, add_off, add_block, Nat.add_zero, Nat.zero_add, Nat.reduceAdd] at hS
    rw [splice_all (by simp [wordsOf_length])] at hS
    refine ⟨wordsOf m, wordsOf_length _, St.atAll (k := 1) hS rfl rfl rfl, ?_⟩
    exact ⟨m, true, rfl, hS.ext0, fun _ => ⟨ms, hok, by rw [List.getD_eq_getElem?_getD, hget]; rfl⟩⟩
end Go.Vc
set_option linter.unusedVariables false
set_option linter.unusedSimpArgs false
set_option maxRecDepth 100000
namespace Go.Vc
open Go.Proofs

/-! slotlaw6: plain laws -/
theorem AllOk.okE {l : List Ru} {day : Int} {ms : List Nat} (h : AllOk l day ms) {i : Nat} (hi : i < l.length) : okEx (ruAt l i).e := by
  obtain ⟨h1, _⟩ := wrongC_ok h.wr
  exact ((wrongP_ok h1).2 _ (List.mem_of_getElem? (ruAt_some hi))).2.1
/-- Where two lists of rules agree, on what rules refer to, masks agree. -/
theorem same_masks {A B : List Ru} {day : Int} {ms ns : List Nat} (hA : AllOk A day ms) (hB : AllOk B day ns) (S : Nat → Prop)
    (hS : ∀ i, S i → i < A.length ∧ i < B.length ∧ (ruAt A i).e = (ruAt B i).e ∧ ∀ n ∈ nmEx (ruAt A i).e, findF n A 0 = findF n B 0 ∧ S (findF n A 0).toNat) : ∀ (m i : Nat), (closeF (directF A) i).length ≤ m → S i → ms.getD i 0 = ns.getD i 0 := by
  obtain ⟨hd, hac⟩ := wrongC_dir hA.wr
  intro m
  induction m with
  | zero =>
    intro i hm hi
    obtain ⟨h1, h2, h3, h4⟩ := hS i hi
    rw [hA.eqn i h1, hB.eqn i h2, ← h3]
    refine mn_congr _ (fun n hn => ?_) (hA.okE h1)
    exfalso
    have h5 : findF n A 0 ∈ (directF A).getD i [] := by rw [dir_at h1]; exact List.mem_map_of_mem hn
    have := (closeF_spec hd i).2.2.1 _ h5
    rw [List.length_eq_zero_iff.1 (by omega : (closeF (directF A) i).length = 0)] at this
    simp at this
  | succ m ih =>
    intro i hm hi
    obtain ⟨h1, h2, h3, h4⟩ := hS i hi
    rw [hA.eqn i h1, hB.eqn i h2, ← h3]
    refine mn_congr _ (fun n hn => ?_) (hA.okE h1)
    obtain ⟨h6, h7⟩ := h4 n hn
    have h5 : findF n A 0 ∈ (directF A).getD i [] := by rw [dir_at h1]; exact List.mem_map_of_mem hn
    have hin := (closeF_spec hd i).2.1 _ ((closeF_spec hd i).2.2.1 _ h5)
    show ms.getD (findF n A 0).toNat 0 = ns.getD (findF n B 0).toNat 0
    rw [← h6]
    refine ih _ ?_ h7
    have := rank_lt hd (i := i) (j := (findF n A 0).toNat) (by rw [Int.toNat_of_nonneg hin.1]; exact h5) (by
      have := hac (findF n A 0).toNat (by omega)
      exact this)
    omega
theorem ruAt_left {l x : List Ru} {i : Nat} (h : i < l.length) : ruAt (l ++ x) i = ruAt l i := by
  simp [ruAt, List.getD_eq_getElem?_getD, List.getElem?_append_left h]
theorem ruAt_last {l : List Ru} {r : Ru} : ruAt (l ++ [r]) l.length = r := by
  simp [ruAt, List.getD_eq_getElem?_getD]
theorem findF_left (n : ByteArray) (x : List Ru) : ∀ (l : List Ru) (i : Nat), findF n l i ≠ -1 → findF n (l ++ x) i = findF n l i
  | [], i, h => absurd rfl h
  | r :: rs, i, h => by
    simp only [List.cons_append, findF] at h ⊢
    split
    · rfl
    · rename_i hne
      rw [if_neg hne] at h
      exact findF_left n x rs (i + 1) h
theorem findF_names (n : ByteArray) {a b : Ru} (h : a.name = b.name) : ∀ (l : List Ru) (i : Nat), findF n (l ++ [a]) i = findF n (l ++ [b]) i
  | [], i => by simp only [List.nil_append, findF, h]
  | r :: rs, i => by
    simp only [List.cons_append, findF, findF_names n h rs (i + 1)]
/-- A rule more changes none. -/
theorem more_same {l : List Ru} {r : Ru} {day : Int} {ms ns : List Nat} (hA : AllOk l day ms) (hB : AllOk (l ++ [r]) day ns) : ms = ns.take l.length := by
  obtain ⟨hd, hac⟩ := wrongC_dir hA.wr
  have hn := hB.len
  simp only [List.length_append, List.length_singleton] at hn
  have key : ∀ i, i < l.length → ms.getD i 0 = ns.getD i 0 := fun i hi => same_masks hA hB (· < l.length) (fun i hi => ⟨hi, by simp; omega, by rw [ruAt_left hi], fun n hn => by
    have h5 : findF n l 0 ∈ (directF l).getD i [] := by rw [dir_at hi]; exact List.mem_map_of_mem hn
    have hin := (closeF_spec hd i).2.1 _ ((closeF_spec hd i).2.2.1 _ h5)
    rw [direct_len] at hin
    exact ⟨(findF_left n _ l 0 (by omega)).symm, by omega⟩⟩) _ i (Nat.le_refl _) hi
  refine List.ext_getElem (by rw [List.length_take, hn, hA.len]; omega) fun i h1 h2 => ?_
  have := key i (by have := hA.len; omega)
  rw [List.getElem_take]
  have hi1 : i < ns.length := by have := hA.len; omega
  simpa [List.getD_eq_getElem?_getD, h1, hi1] using this
/-- What a rule behind others means: it is the same for another one with names of the same. -/
theorem last_same {l : List Ru} {nm : ByteArray} {e1 e2 : Ex} {day : Int} {ms ns : List Nat} (hA : AllOk (l ++ [⟨nm, e1⟩]) day ms) (hB : AllOk (l ++ [⟨nm, e2⟩]) day ns) (hnm : ∀ n ∈ nmEx e2, n ∈ nmEx e1) :
    ∃ lk : ByteArray → Nat, ms.getD l.length 0 = mnEx day lk e1 ∧ ns.getD l.length 0 = mnEx day lk e2 ∧ okEx e1 ∧ okEx e2 := by
  obtain ⟨hd, hac⟩ := wrongC_dir hA.wr
  have hlA : l.length < (l ++ [(⟨nm, e1⟩ : Ru)]).length := by simp
  have hlB : l.length < (l ++ [(⟨nm, e2⟩ : Ru)]).length := by simp
  have hacl := hac l.length (by rw [direct_len]; exact hlA)
  have ff : ∀ n, findF n (l ++ [(⟨nm, e1⟩ : Ru)]) 0 = findF n (l ++ [(⟨nm, e2⟩ : Ru)]) 0 := fun n => findF_names n (a := ⟨nm, e1⟩) (b := ⟨nm, e2⟩) rfl l 0
  have hne : ∀ j : Nat, ((l.length : Nat) : Int) ∉ closeF (directF (l ++ [(⟨nm, e1⟩ : Ru)])) j → ∀ k ∈ (directF (l ++ [(⟨nm, e1⟩ : Ru)])).getD j [], ∃ q : Nat, k = q ∧ q < l.length ∧ ((l.length : Nat) : Int) ∉ closeF (directF (l ++ [(⟨nm, e1⟩ : Ru)])) q := fun j hj k hk => by
    have hc := (closeF_spec hd j).2.2.1 _ hk
    have hin := (closeF_spec hd j).2.1 _ hc
    obtain ⟨q, rfl⟩ : ∃ q : Nat, k = q := ⟨k.toNat, by omega⟩
    rw [direct_len] at hin
    simp only [List.length_append, List.length_singleton] at hin
    refine ⟨q, rfl, ?_, fun h => hj (closeF_sub hd hc _ h)⟩
    have : q ≠ l.length := fun h => hj (by rw [← h]; exact hc)
    omega
  have key := same_masks hA hB (fun i => i < l.length ∧ ((l.length : Nat) : Int) ∉ closeF (directF (l ++ [(⟨nm, e1⟩ : Ru)])) i) (fun i ⟨hi, hr⟩ => by
    refine ⟨by omega, by omega, by rw [ruAt_left hi, ruAt_left hi], fun n hn => ⟨ff n, ?_⟩⟩
    obtain ⟨q, h1, h2, h3⟩ := hne i hr (findF n (l ++ [(⟨nm, e1⟩ : Ru)]) 0) (by rw [dir_at (by omega)]; exact List.mem_map_of_mem hn)
    rw [h1, Int.toNat_natCast]
    exact ⟨h2, h3⟩)
  have e1' := hA.eqn l.length hlA
  have e2' := hB.eqn l.length hlB
  have o1 := hA.okE hlA
  have o2 := hB.okE hlB
  rw [ruAt_last] at e1' e2' o1 o2
  refine ⟨_, e1', ?_, o1, o2⟩
  rw [e2']
  refine mn_congr _ (fun n hn => ?_) o2
  obtain ⟨q, h1, h2, h3⟩ := hne l.length hacl (findF n (l ++ [(⟨nm, e1⟩ : Ru)]) 0) (by rw [dir_at hlA, ruAt_last]; exact List.mem_map_of_mem (hnm n hn))
  show ns.getD (findF n (l ++ [(⟨nm, e2⟩ : Ru)]) 0).toNat 0 = ms.getD (findF n (l ++ [(⟨nm, e1⟩ : Ru)]) 0).toNat 0
  rw [← ff n, h1, Int.toNat_natCast]
  exact (key _ q (Nat.le_refl _) ⟨h2, h3⟩).symm
theorem shift_twice {A : Nat} {s x y : Int} (hs : s = 1 ∨ s = -1) (hx : 1 ≤ x) (hy : 1 ≤ y) (hxy : x + y < 1440) : shiftN (shiftN A (s * x)) (s * y) = shiftN A (s * (x + y)) := by
  apply Nat.eq_of_testBit_eq
  intro j
  rw [shiftN_bit, shiftN_bit]
  by_cases hj : j < 1440
  · simp only [hj, decide_true, Bool.true_and]
    unfold bitZ
    rw [dayN_bit, dayN_bit, shiftN_bit]
    unfold bitZ
    rw [dayN_bit]
    rw [Bool.eq_iff_iff]
    simp only [Bool.and_eq_true, decide_eq_true_eq]
    rcases hs with rfl | rfl
    · have e : ((((j : Int) - 1 * y).toNat : Nat) : Int) - 1 * x = if 0 ≤ (j : Int) - 1 * y then (j : Int) - 1 * (x + y) else - x := by
        split <;> omega
      rw [e]
      constructor
      · rintro ⟨h1, h2, h3, h4, h5, h6⟩
        rw [if_pos h1] at h4 h6
        exact ⟨by omega, by rw [if_pos h1] at h5; exact ⟨h5, h6⟩⟩
      · rintro ⟨h1, h2, h3⟩
        rw [if_pos (by omega)]
        exact ⟨by omega, by omega, by omega, h1, h2, h3⟩
    · have e : ((((j : Int) - -1 * y).toNat : Nat) : Int) - -1 * x = (j : Int) - -1 * (x + y) := by omega
      rw [e]
      constructor
      · rintro ⟨h1, h2, h3, h4, h5, h6⟩
        exact ⟨h4, h5, h6⟩
      · rintro ⟨h1, h2, h3⟩
        exact ⟨by omega, by omega, by omega, h1, h2, h3⟩
  · simp [hj]
theorem shift_union (A B : Nat) (n : Int) : shiftN ((A ||| B) % dayN) n = (shiftN A n ||| shiftN B n) % dayN := by
  apply Nat.eq_of_testBit_eq
  intro j
  rw [shiftN_bit, dayN_bit, Nat.testBit_or, shiftN_bit, shiftN_bit]
  unfold bitZ
  rw [dayN_bit, dayN_bit, dayN_bit, dayN_bit, Nat.testBit_or]
  cases decide (j < 1440) <;> cases decide ((0 : Int) ≤ (j : Int) - n) <;> cases decide (((j : Int) - n).toNat < 1440) <;> cases A.testBit ((j : Int) - n).toNat <;> cases B.testBit ((j : Int) - n).toNat <;> rfl
theorem mn_by {day : Int} {lk : ByteArray → Nat} {n : Int} {e : Ex} (h : -1440 < n) (h2 : n < 1440) : mnEx day lk (.mk 9 n 0 noT [e]) = shiftN (mnEx day lk e) n := by
  simp only [mnEx, mnL, comb]
  simp
  intro h3
  omega
theorem mn_two {day : Int} {lk : ByteArray → Nat} {a b : Ex} : mnEx day lk (.mk 6 0 0 noT [a, b]) = (mnEx day lk a ||| mnEx day lk b) % dayN := by
  simp only [mnEx, mnL, comb]
  simp
theorem nm_by (n : Int) (e : Ex) : nmEx (.mk 9 n 0 noT [e]) = nmEx e := by simp [nmEx, nmKids]
theorem nm_two (a b : Ex) : nmEx (.mk 6 0 0 noT [a, b]) = nmEx a ++ nmEx b := by simp [nmEx, nmKids]
/-- Shifted twice. -/
theorem law_twice {l : List Ru} {e : Ex} {day s x y : Int} {ms ns : List Nat} (hs : s = 1 ∨ s = -1) (hx : 1 ≤ x) (hy : 1 ≤ y) (hxy : x + y < 1440)
    (hA : AllOk (l ++ [⟨zzB, .mk 9 (s * y) 0 noT [.mk 9 (s * x) 0 noT [e]]⟩]) day ms) (hB : AllOk (l ++ [⟨zzB, .mk 9 (s * (x + y)) 0 noT [e]⟩]) day ns) : ms.getD l.length 0 = ns.getD l.length 0 := by
  obtain ⟨lk, h1, h2, _, _⟩ := last_same hA hB (by simp only [nm_by]; exact fun n hn => hn)
  have hb1 : -1440 < s * x ∧ s * x < 1440 := by rcases hs with rfl | rfl <;> omega
  have hb2 : -1440 < s * y ∧ s * y < 1440 := by rcases hs with rfl | rfl <;> omega
  have hb3 : -1440 < s * (x + y) ∧ s * (x + y) < 1440 := by rcases hs with rfl | rfl <;> omega
  rw [h1, h2, mn_by hb2.1 hb2.2, mn_by hb1.1 hb1.2, mn_by hb3.1 hb3.2, shift_twice hs hx hy hxy]
/-- A sum is shifted as its parts are. -/
theorem law_sum {l : List Ru} {a b : Ex} {day n : Int} {ms ns : List Nat} (h0 : -1440 < n) (h9 : n < 1440)
    (hA : AllOk (l ++ [⟨zzB, .mk 9 n 0 noT [.mk 6 0 0 noT [a, b]]⟩]) day ms) (hB : AllOk (l ++ [⟨zzB, .mk 6 0 0 noT [.mk 9 n 0 noT [a], .mk 9 n 0 noT [b]]⟩]) day ns) : ms.getD l.length 0 = ns.getD l.length 0 := by
  obtain ⟨lk, h1, h2, _, _⟩ := last_same hA hB (by simp only [nm_by, nm_two]; exact fun n hn => hn)
  rw [h1, h2, mn_by h0 h9, mn_two, mn_two, mn_by h0 h9, mn_by h0 h9, shift_union]
end Go.Vc
set_option linter.unusedVariables false
set_option linter.unusedSimpArgs false
set_option maxRecDepth 100000
namespace Go.Vc
open Go.Proofs

/-! slotlaw6.MeanMore -/
theorem RowAt.take {H : Heap} {a : Option Addr} {sz : Nat} {l : List (List Value)} (h : RowAt H a sz l) (k : Nat) : RowAt H a sz (l.take k) := fun i c hc => h i c (by
  rw [List.getElem?_take] at hc
  split at hc
  · exact hc
  · cases hc)
/-- A fault is laid down: masks stay. -/
theorem masks_keep {H H' : Heap} {a : Option Addr} {ms : List Nat} {b : Nat} {x y : Int} {T : TypeId} (h : RowAt H a 23 (ms.map wordsV)) (hb : H[b]? = some (C [.int .i64 x, .int .i64 y] T)) (hx : Ext (· = b) H H') : RowAt H' a 23 (ms.map wordsV) := fun i c hc => by
  obtain ⟨p, h1, h2⟩ := h i c hc
  obtain ⟨m, _, rfl⟩ := List.mem_map.1 (List.mem_of_getElem? hc)
  refine ⟨p, h1, h2.other (hx.block _ ?_ (mask_other h2 hb))⟩
  have := h2.get (j := 0) (v := .int .u64 (word m 0 : Nat)) (by unfold wordsV; exact wordsOf_cell (by decide))
  unfold cellH at this
  rw [add_block] at this
  cases h : H[(p.add (i * 23)).block]? with
  | none => rw [h] at this; cases this
  | some o => exact lt_of_get h
theorem MeanMore_is {l : List Ru} {ad : Option Addr} {e : Ex} {ce : List Value} {H : Heap} (hl : RulesAt H ad l) (hn : l.length * 80 ≤ 140737488351232) (he : ExAt H e ce) (cap : Nat) (name : ByteArray) (day : Int) : CallsH Try.prog 4 ⟨[.slice ad l.length cap, .string name, .agg ⟨ce⟩, .int .i64 day]⟩ H fun r H' => r = .returned (.bool true) ∧ Ext0 H H' := by
  obtain ⟨k1, a1, b1, n1, ad1, l1, c1, rfl⟩ := ruC_of he
  apply slotlaw6_MeanMore_calls
  unfold slotlaw6_MeanMore
  have hS := St.start none0 H
  intro H1
  replace hS : St _ _ H1 _ := St.push hS _
  clear_value H1
  refine (alive6_is H1).call (fun v H2 hr => ?_) (fun ch H6 hr5 => by obtain ⟨hr5, _⟩ := hr5; cases hr5) (fun H6 hr5 => by obtain ⟨hr5, _⟩ := hr5; cases hr5)
  obtain ⟨hv, hx⟩ := hr
  simp only [Ending.returned.injEq] at hv
  subst hv
  replace hS := hS.grow hx
  refine ⟨_, rfl, ifB_mk (fun h => by simp at h) (fun _ => ?_)⟩
  refine (All_is (hl.grow hS.ext0) day).call (fun v H3 hr => ?_) (fun ch H6 hr5 => by obtain ⟨_, _, _, hr5, _⟩ := hr5; cases hr5) (fun H6 hr5 => by obtain ⟨_, _, _, hr5, _⟩ := hr5; cases hr5)
  obtain ⟨ma, mc, ms, hv, hx, hrow, hok, hno, hmc⟩ := hr
  simp only [Ending.returned.injEq] at hv
  subst hv
  replace hS := hS.grow hx
  refine ⟨_, _, _, _, _, rfl, ?_⟩
  have hx3 := hS.ext0
  have he3 : At H3 (newA H) (exC k1 a1 b1 n1 ad1 l1 c1) := St.atAll (k := 0) hS rfl rfl rfl
  clear hS
  have hS := St.start none0 H3
  generalize allErr l day = er at hok hno
  obtain ⟨er0, er1⟩ := er
  intro H4
  replace hS : St _ _ H4 _ := St.push hS _
  clear_value H4
  refine ⟨St.may (k := 0) hS rfl rfl (by simp [newA, bA, add_off]), ?_⟩
  intro H5
  replace hS : St _ _ H5 _ := St.put (k := 0) hS rfl rfl _
  clear_value H5
  simp only [setN, splice, newA, bA, add_off, add_block, Nat.add_zero, Nat.zero_add, Nat.reduceAdd] at hS
  refine ⟨_, _, _, _, _, _, _, he3.ext0 hS.ext0, ?_⟩
  have hS5 := hS
  obtain ⟨cs, hcl, hcr0, hc6, hsrc0⟩ := rules_src hl
  intro H6 hx6 b11 hf11 H7 hx7
  have hx57 := hx6.trans hx7
  replace hS := hS.grow hx57
  have hsrc := hsrc0.grow (hx3.trans hS.ext0)
  refine append_two (k := l.length) (kc := cap) (by kernel_rfl : appB Try.prog 22 43 6 80 = true) hsrc (by omega) (by omega) (by omega) ?_
  intro a5 c5 H8 hx8 happ
  replace hS := hS.grow hx8
  refine ⟨_, _, _, rfl, Keep.of_ext0 hx8, rfl, rfl, ⟨_, _, _, _, _, _, _, he3.ext0 hS.ext0, rfl⟩, rfl, ?_⟩
  intro H9 hx9 b16 hf16 H10 hx10
  have hx810 := hx9.trans hx10
  replace hS := hS.grow hx810
  obtain ⟨hb1, hb2, hb3, _, _⟩ := hf16
  have hb7 := (hx10.block _ hb2 fun h => h).trans hb3
  have hat16 : At H10 (bA b16) (.string name :: exC k1 a1 b1 n1 ad1 l1 c1) := At_of_blk hb7 rfl fun j v hj => by
    show _[0 + j]? = _
    rw [Nat.zero_add]; exact hj
  refine happ H10 (some (bA b16)) (.string name :: exC k1 a1 b1 n1 ad1 l1 c1) _ hx810 (.inr ⟨_, rfl, hat16, rfl, by simp [plainL, exC, Value.oneCell']⟩) ?_
  intro a' c' H11 hx11 hat
  have hlt : ∀ b, b < H5.size → ¬ (H7.size ≤ b ∧ b < H8.size) := fun b hb h => by have := hx57.size; omega
  have h02 : H3.size ≤ H5.size := hS5.ext.size
  replace hS := hS.part hx11 (fun b hb => by have := hx57.size; omega) (fun x hx => hlt _ (by
    have := lt_of_get (hS5.at_ x hx)
    exact this))
  refine ⟨_, _, _, rfl, ⟨hx11.size, fun b h1 h2 h3 => hx11.block b h2 fun h => by have := h3.1; omega⟩, rfl, ?_⟩
  intro H12 hx12
  replace hS := hS.grow hx12
  have hru : RulesAt H12 (some a') (l ++ [⟨name, e⟩]) := (rules_more (H := H) hcl (fun i r c h1 h2 => hcr0 i r c h1 h2) hc6 (hx3.trans hS.ext0) (he.grow (hx3.trans hS.ext0)) (hat.ext0 hx12))
  have hl1 : l.length + 1 = (l ++ [(⟨name, e⟩ : Ru)]).length := by simp
  rw [hl1]
  refine (All_is hru day).call (fun v H13 hr => ?_) (fun ch H6 hr5 => by obtain ⟨_, _, _, hr5, _⟩ := hr5; cases hr5) (fun H6 hr5 => by obtain ⟨_, _, _, hr5, _⟩ := hr5; cases hr5)
  obtain ⟨na, nc, ns, hv, hx13, hrow2, hok2, hno2, hnc⟩ := hr
  simp only [Ending.returned.injEq] at hv
  subst hv
  refine ⟨_, _, _, _, _, rfl, Keep.of_ext0 hx13, ?_⟩
  replace hS := hS.grow hx13
  intro H14 hx14 b9 hf9
  replace hS := (hS.grow hx14).fresh2 (fun x hx => lt_of_get (hS5.at_ x hx)) h02 hf9
  replace hrow2 := hrow2.grow hx14
  generalize allErr (l ++ [⟨name, e⟩]) day = fr at hok2 hno2
  obtain ⟨fr0, fr1⟩ := fr
  have hb9 := hS.obj (k := 0) rfl
  refine ⟨St.may (k := 0) hS rfl rfl (by simp [newA, bA, add_off]), ?_⟩
  have hput := (St.put (a := bA b9) (k := 0) (St.start1 hb9) rfl rfl [.int .i64 fr0, .int .i64 fr1]).ext
  intro H15
  replace hput : Ext (· = b9) H14 H15 := hput
  replace hS : St _ _ H15 _ := St.put (k := 0) hS rfl rfl _
  clear_value H15
  simp only [setN, splice, newA, bA, add_off, add_block, Nat.add_zero, Nat.zero_add, Nat.reduceAdd] at hS
  have hrow3 := masks_keep hrow2 hb9 hput
  have hout := hx3.trans hS.ext0
  refine ⟨_, St.cell (k := 1) hS rfl rfl rfl, ?_⟩
  refine ⟨(er0 != 0) || (fr0 != 0), ifB_mk (fun h => by rw [h]; rfl) (fun h => ⟨fr0, St.cell (k := 0) hS rfl rfl rfl, by rw [h]; rfl, rfl⟩), ?_⟩
  refine ifB_mk (fun _ => ⟨rfl, hout⟩) (fun h => ?_)
  have h1 : er0 = 0 ∧ fr0 = 0 := by simpa using h
  obtain ⟨rfl, rfl⟩ := h1
  have hA := hok rfl
  have hB := hok2 rfl
  have hml := hA.len
  have hnl := hB.len
  simp only [List.length_append, List.length_singleton] at hnl
  have hsame := more_same hA hB
  have htk : (ns.take l.length).length = ms.length := by rw [List.length_take]; omega
  have hr4 := hrow3.take l.length
  rw [← List.map_take] at hr4
  refine ⟨fun b H' => b = true ∧ Ext0 H15 H', ifB_mk (fun _ => ?_) (fun h => ?_), ?_⟩
  · refine ⟨by omega, by omega, ?_⟩
    rw [Int.toNat_natCast]
    have hsm := Same_is (hrow.grow hS.ext0) hr4 hsame (by omega) mc nc
    rw [htk] at hsm
    exact hsm.call ⟨_, rfl, rfl, Ext0.refl _⟩
  · rw [i64_id (by omega) (by omega)] at h
    simp at h
    omega
  · rintro q H16 ⟨rfl, hx16⟩
    exact ⟨rfl, hout.trans hx16⟩
end Go.Vc
set_option linter.unusedVariables false
set_option linter.unusedSimpArgs false
set_option maxRecDepth 100000
namespace Go.Vc
open Go.Proofs

/-! slotlaw6.MeanShift -/
set_option maxHeartbeats 2000000 in
theorem MeanShift_is {l : List Ru} {ad : Option Addr} {ea eb : Ex} {ca cb : List Value} {H : Heap} (hl : RulesAt H ad l) (hn : l.length * 80 ≤ 140737488351232) (ha : ExAt H ea ca) (hb : ExAt H eb cb) (cap : Nat) (x y day : Int) : CallsH Try.prog 3 ⟨[.slice ad l.length cap, .agg ⟨ca⟩, .agg ⟨cb⟩, .int .i64 x, .int .i64 y, .int .i64 day]⟩ H fun r H' => r = .returned (.bool true) ∧ Ext0 H H' := by
  obtain ⟨k1, a1, b1, n1, ad1, l1, c1, rfl⟩ := ruC_of ha
  obtain ⟨k2, a2, b2, n2, ad2, l2, c2, rfl⟩ := ruC_of hb
  apply slotlaw6_MeanShift_calls
  unfold slotlaw6_MeanShift
  have hS := St.start none0 H
  intro H1
  replace hS : St _ _ H1 _ := St.push hS _
  clear_value H1
  intro H2
  replace hS : St _ _ H2 _ := St.push hS _
  clear_value H2
  refine (alive6_is H2).call (fun v H3 hr => ?_) (fun ch H6 hr5 => by obtain ⟨hr5, _⟩ := hr5; cases hr5) (fun H6 hr5 => by obtain ⟨hr5, _⟩ := hr5; cases hr5)
  obtain ⟨hv, hx⟩ := hr
  simp only [Ending.returned.injEq] at hv
  subst hv
  replace hS := hS.grow hx
  refine ⟨_, rfl, ifB_mk (fun h => by simp at h) (fun _ => ?_)⟩
  refine ifB_mk (fun _ => ⟨rfl, hS.ext0⟩) (fun hc => ?_)
  simp only [Bool.or_eq_false_iff, decide_eq_false_iff_not] at hc
  obtain ⟨⟨⟨⟨hc1, hc2⟩, hc3⟩, hc4⟩, hc5⟩ := hc
  have hw : IntKind.i64.wrap (x + y) = x + y := i64_id (by omega) (by omega)
  rw [hw] at hc3 ⊢
  intro H4
  replace hS : St _ _ H4 _ := St.push hS _
  clear_value H4
  refine ⟨fun z H' => ∃ k : Nat, z = k ∧ k ≤ 2 ∧ St none0 H H' [(H3.size, C [.int .i64 1, .int .i64 (-1)] 3), (H1.size, C (exC k2 a2 b2 n2 ad2 l2 c2) 25), (H.size, C (exC k1 a1 b1 n1 ad1 l1 c1) 25)], fun z _ => ((2 : Int) - z).toNat, ⟨0, rfl, by omega, hS⟩, ?_⟩
  rintro z H5 ⟨k, rfl, hk, hS⟩
  refine ifB_mk (fun hc => ?_) (fun hc => ⟨rfl, hS.ext0⟩)
  have hc : k < 2 := by simp at hc; omega
  obtain ⟨s, hs, hcell⟩ : ∃ s : Int, (s = 1 ∨ s = -1) ∧ cellH H5 ((newA H3).add (k * 1)) = some (.int .i64 s) := by
    match k, hc with
    | 0, _ => exact ⟨1, .inl rfl, St.cell (k := 0) hS rfl rfl rfl⟩
    | 1, _ => exact ⟨-1, .inr rfl, St.cell (k := 0) hS rfl rfl rfl⟩
  refine ⟨by omega, by omega, _, rfl, s, by rw [Int.toNat_natCast]; exact hcell, ?_⟩
  have hw1 : IntKind.i64.wrap (s * x) = s * x := by rcases hs with rfl | rfl <;> exact i64_id (by omega) (by omega)
  have hw2 : IntKind.i64.wrap (s * y) = s * y := by rcases hs with rfl | rfl <;> exact i64_id (by omega) (by omega)
  have hw3 : IntKind.i64.wrap (s * (x + y)) = s * (x + y) := by rcases hs with rfl | rfl <;> exact i64_id (by omega) (by omega)
  have hbx : -1440 < s * x ∧ s * x < 1440 := by rcases hs with rfl | rfl <;> omega
  rw [hw1, hw2, hw3]
  refine ⟨_, _, _, _, _, _, _, St.atAll (k := 2) hS rfl rfl rfl, ?_⟩
  refine (by_is (ha.grow hS.ext0) _).call (fun v H6 hr => ?_) (fun ch H6 hr5 => by obtain ⟨_, hr5, _⟩ := hr5; cases hr5) (fun H6 hr5 => by obtain ⟨_, hr5, _⟩ := hr5; cases hr5)
  obtain ⟨_, hv, hx, hex1⟩ := hr
  simp only [Ending.returned.injEq] at hv
  subst hv
  obtain ⟨_, _, _, _, _, _, _, rfl⟩ := ruC_of hex1
  replace hS := hS.grow hx
  refine ⟨_, _, _, _, _, _, _, rfl, ?_⟩
  refine (by_is hex1 _).call (fun v H7 hr => ?_) (fun ch H6 hr5 => by obtain ⟨_, hr5, _⟩ := hr5; cases hr5) (fun H6 hr5 => by obtain ⟨_, hr5, _⟩ := hr5; cases hr5)
  obtain ⟨_, hv, hx, hex2⟩ := hr
  simp only [Ending.returned.injEq] at hv
  subst hv
  obtain ⟨_, _, _, _, _, _, _, rfl⟩ := ruC_of hex2
  replace hS := hS.grow hx
  refine ⟨_, _, _, _, _, _, _, rfl, ?_⟩
  refine (of_is (hl.grow hS.ext0) hn hex2 cap day).call (fun v H8 hr => ?_) (fun ch H6 hr5 => by obtain ⟨_, _, hr5, _⟩ := hr5; cases hr5) (fun H6 hr5 => by obtain ⟨_, _, hr5, _⟩ := hr5; cases hr5)
  obtain ⟨m1, o1, hv, hx, hm1⟩ := hr
  simp only [Ending.returned.injEq] at hv
  subst hv
  replace hS := hS.grow hx
  refine ⟨wordsOf m1, wordsOf_length _, o1, rfl, ?_⟩
  intro H9
  replace hS : St _ _ H9 _ := St.push hS _
  clear_value H9
  refine okL_ints (wordsOf_length _) ?_
  refine ⟨St.may (k := 0) hS rfl rfl (by simp [newA, bA, add_off, wordsOf_length]), ?_⟩
  intro H10
  replace hS : St _ _ H10 _ := St.put (k := 0) hS rfl rfl _
  clear_value H10
  simp only [setN, newA, bA, add_off, add_block, Nat.add_zero, Nat.zero_add, Nat.reduceAdd] at hS
  rw [splice_all (by simp [wordsOf_length])] at hS
  refine ⟨_, _, _, _, _, _, _, St.atAll (k := 3) hS rfl rfl rfl, ?_⟩
  refine (by_is (ha.grow hS.ext0) _).call (fun v H11 hr => ?_) (fun ch H6 hr5 => by obtain ⟨_, hr5, _⟩ := hr5; cases hr5) (fun H6 hr5 => by obtain ⟨_, hr5, _⟩ := hr5; cases hr5)
  obtain ⟨_, hv, hx, hex3⟩ := hr
  simp only [Ending.returned.injEq] at hv
  subst hv
  obtain ⟨_, _, _, _, _, _, _, rfl⟩ := ruC_of hex3
  replace hS := hS.grow hx
  refine ⟨_, _, _, _, _, _, _, rfl, ?_⟩
  refine (of_is (hl.grow hS.ext0) hn hex3 cap day).call (fun v H12 hr => ?_) (fun ch H6 hr5 => by obtain ⟨_, _, hr5, _⟩ := hr5; cases hr5) (fun H6 hr5 => by obtain ⟨_, _, hr5, _⟩ := hr5; cases hr5)
  obtain ⟨m2, o2, hv, hx, hm2⟩ := hr
  simp only [Ending.returned.injEq] at hv
  subst hv
  replace hS := hS.grow hx
  refine ⟨wordsOf m2, wordsOf_length _, o2, rfl, ?_⟩
  intro H13
  replace hS : St _ _ H13 _ := St.push hS _
  clear_value H13
  refine okL_ints (wordsOf_length _) ?_
  refine ⟨St.may (k := 0) hS rfl rfl (by simp [newA, bA, add_off, wordsOf_length]), ?_⟩
  intro H14
  replace hS : St _ _ H14 _ := St.put (k := 0) hS rfl rfl _
  clear_value H14
  simp only [setN, newA, bA, add_off, add_block, Nat.add_zero, Nat.zero_add, Nat.reduceAdd] at hS
  rw [splice_all (by simp [wordsOf_length])] at hS
  have heq1 : o1 = true → o2 = true → m1 = m2 := fun h1 h2 => by
    obtain ⟨ms, h3, rfl⟩ := hm1 h1
    obtain ⟨ns, h4, rfl⟩ := hm2 h2
    exact law_twice hs (by omega) (by omega) (by omega) h3 h4
  refine ⟨false, ifB_mk (fun h => ⟨wordsOf m1, wordsOf_length _, St.atAll (k := 1) hS rfl rfl rfl, wordsOf m2, wordsOf_length _, St.atAll (k := 0) hS rfl rfl rfl, false, ?_, rfl, rfl⟩) (fun _ => rfl), ifB_mk (fun h => by cases h) (fun _ => ?_)⟩
  · simp only [Bool.and_eq_true] at h
    rw [heq1 h.1 h.2]
    exact neqV_self _
  refine ⟨_, _, _, _, _, _, _, St.atAll (k := 4) hS rfl rfl rfl, ?_⟩
  refine ⟨_, _, _, _, _, _, _, St.atAll (k := 3) hS rfl rfl rfl, ?_⟩
  refine (two_is (ha.grow hS.ext0) (hb.grow hS.ext0) _).call (fun v H15 hr => ?_) (fun ch H6 hr5 => by obtain ⟨_, hr5, _⟩ := hr5; cases hr5) (fun H6 hr5 => by obtain ⟨_, hr5, _⟩ := hr5; cases hr5)
  obtain ⟨_, hv, hx, hex4⟩ := hr
  simp only [Ending.returned.injEq] at hv
  subst hv
  obtain ⟨_, _, _, _, _, _, _, rfl⟩ := ruC_of hex4
  replace hS := hS.grow hx
  refine ⟨_, _, _, _, _, _, _, rfl, ?_⟩
  refine (by_is hex4 _).call (fun v H16 hr => ?_) (fun ch H6 hr5 => by obtain ⟨_, hr5, _⟩ := hr5; cases hr5) (fun H6 hr5 => by obtain ⟨_, hr5, _⟩ := hr5; cases hr5)
  obtain ⟨_, hv, hx, hex5⟩ := hr
  simp only [Ending.returned.injEq] at hv
  subst hv
  obtain ⟨_, _, _, _, _, _, _, rfl⟩ := ruC_of hex5
  replace hS := hS.grow hx
  refine ⟨_, _, _, _, _, _, _, rfl, ?_⟩
  refine (of_is (hl.grow hS.ext0) hn hex5 cap day).call (fun v H17 hr => ?_) (fun ch H6 hr5 => by obtain ⟨_, _, hr5, _⟩ := hr5; cases hr5) (fun H6 hr5 => by obtain ⟨_, _, hr5, _⟩ := hr5; cases hr5)
  obtain ⟨m3, o3, hv, hx, hm3⟩ := hr
  simp only [Ending.returned.injEq] at hv
  subst hv
  replace hS := hS.grow hx
  refine ⟨wordsOf m3, wordsOf_length _, o3, rfl, ?_⟩
  refine okL_ints (wordsOf_length _) ?_
  refine ⟨St.may (k := 1) hS rfl rfl (by simp [newA, bA, add_off, wordsOf_length]), ?_⟩
  intro H18
  replace hS : St _ _ H18 _ := St.put (k := 1) hS rfl rfl _
  clear_value H18
  simp only [setN, newA, bA, add_off, add_block, Nat.add_zero, Nat.zero_add, Nat.reduceAdd] at hS
  rw [splice_all (by simp [wordsOf_length])] at hS
  refine ⟨_, _, _, _, _, _, _, St.atAll (k := 4) hS rfl rfl rfl, ?_⟩
  refine ⟨_, _, _, _, _, _, _, St.atAll (k := 3) hS rfl rfl rfl, ?_⟩
  refine (by_is (ha.grow hS.ext0) _).call (fun v H19 hr => ?_) (fun ch H6 hr5 => by obtain ⟨_, hr5, _⟩ := hr5; cases hr5) (fun H6 hr5 => by obtain ⟨_, hr5, _⟩ := hr5; cases hr5)
  obtain ⟨_, hv, hx, hex6⟩ := hr
  simp only [Ending.returned.injEq] at hv
  subst hv
  obtain ⟨_, _, _, _, _, _, _, rfl⟩ := ruC_of hex6
  replace hS := hS.grow hx
  refine ⟨_, _, _, _, _, _, _, rfl, ?_⟩
  refine ⟨rfl, rfl, rfl, rfl, ⟨_, _, _, _, _, _, _, St.atAll (k := 3) hS rfl rfl rfl, rfl⟩, rfl, rfl, ?_⟩
  have hx19 := hS.ext0
  refine (by_is (hb.grow hS.ext0) _).call (fun v H20 hr => ?_) (fun ch H6 hr5 => by obtain ⟨_, hr5, _⟩ := hr5; cases hr5) (fun H6 hr5 => by obtain ⟨_, hr5, _⟩ := hr5; cases hr5)
  obtain ⟨_, hv, hx, hex7⟩ := hr
  simp only [Ending.returned.injEq] at hv
  subst hv
  obtain ⟨_, _, _, _, _, _, _, rfl⟩ := ruC_of hex7
  replace hS := hS.grow hx
  refine ⟨_, _, _, _, _, _, _, rfl, ?_⟩
  replace hex6 := hex6.grow hx
  refine ⟨rfl, rfl, ?_⟩
  refine (two_is hex6 hex7 _).call (fun v H21 hr => ?_) (fun ch H6 hr5 => by obtain ⟨_, hr5, _⟩ := hr5; cases hr5) (fun H6 hr5 => by obtain ⟨_, hr5, _⟩ := hr5; cases hr5)
  obtain ⟨_, hv, hx, hex8⟩ := hr
  simp only [Ending.returned.injEq] at hv
  subst hv
  obtain ⟨_, _, _, _, _, _, _, rfl⟩ := ruC_of hex8
  replace hS := hS.grow hx
  refine ⟨_, _, _, _, _, _, _, rfl, ?_⟩
  refine ⟨rfl, rfl, ?_⟩
  refine (of_is (hl.grow hS.ext0) hn hex8 cap day).call (fun v H22 hr => ?_) (fun ch H6 hr5 => by obtain ⟨_, _, hr5, _⟩ := hr5; cases hr5) (fun H6 hr5 => by obtain ⟨_, _, hr5, _⟩ := hr5; cases hr5)
  obtain ⟨m4, o4, hv, hx, hm4⟩ := hr
  simp only [Ending.returned.injEq] at hv
  subst hv
  replace hS := hS.grow hx
  refine ⟨wordsOf m4, wordsOf_length _, o4, rfl, ?_⟩
  refine okL_ints (wordsOf_length _) ?_
  refine ⟨St.may (k := 0) hS rfl rfl (by simp [newA, bA, add_off, wordsOf_length]), ?_⟩
  intro H23
  replace hS : St _ _ H23 _ := St.put (k := 0) hS rfl rfl _
  clear_value H23
  simp only [setN, newA, bA, add_off, add_block, Nat.add_zero, Nat.zero_add, Nat.reduceAdd] at hS
  rw [splice_all (by simp [wordsOf_length])] at hS
  refine ⟨rfl, ?_⟩
  have heq2 : o3 = true → o4 = true → m3 = m4 := fun h1 h2 => by
    obtain ⟨ms, h3, rfl⟩ := hm3 h1
    obtain ⟨ns, h4, rfl⟩ := hm4 h2
    exact law_sum hbx.1 hbx.2 h3 h4
  refine ⟨false, ifB_mk (fun h => ⟨wordsOf m3, wordsOf_length _, St.atAll (k := 1) hS rfl rfl rfl, wordsOf m4, wordsOf_length _, St.atAll (k := 0) hS rfl rfl rfl, false, ?_, rfl, rfl⟩) (fun _ => rfl), ifB_mk (fun h => by cases h) (fun _ => ?_)⟩
  · simp only [Bool.and_eq_true] at h
    rw [heq2 h.1 h.2]
    exact neqV_self _
  refine ⟨⟨k + 1, by rw [i64_id (by omega) (by omega)]; omega, hc, hS.sub ((List.Sublist.refl _).cons _ |>.cons _)⟩, ?_⟩
  show Int.toNat _ < Int.toNat _
  rw [i64_id (by omega) (by omega)]
  omega
end Go.Vc
set_option linter.unusedVariables false
set_option linter.unusedSimpArgs false
set_option maxRecDepth 100000
namespace Go.Vc
open Go.Proofs Go.ChangeShapes Go.WideShapes Go.ChangeAt Go.RowKit

/-! from the reading of the arguments to rules and expressions, and back -/
section
variable {H : Type} {enc : TypeId × Value → H} {w : World} {base : Nat} {spare : Nat → Bool} {held : Bool}
theorem cells_at {a : Addr} {n : Nat} {cs : List Value} (h : w.cells? base a n = some cs) : At w.heap a cs ∧ cs.length = n := by
  obtain ⟨_, hl, hc⟩ := World.cells?_some h
  refine ⟨At.mk fun j v hj => ?_, hl⟩
  have := hc j (by have := (List.getElem?_eq_some_iff.1 hj).1; omega)
  rw [hj] at this
  exact this
theorem kids_of {hp : Heap} {a : Addr} : ∀ (n i0 : Nat), (∀ i, i < n → ∃ c e, At hp (a.add ((i0 + i) * 5)) c ∧ ExAt hp e c) → ∃ kids : List Ex, kids.length = n ∧ KidsAt hp (some a) i0 kids
  | 0, i0, _ => ⟨[], rfl, by simp only [KidsAt]⟩
  | n + 1, i0, h => by
    obtain ⟨kids, h1, h2⟩ := kids_of n (i0 + 1) fun i hi => by
      have := h (i + 1) (by omega)
      rwa [show i0 + (i + 1) = i0 + 1 + i by omega] at this
    obtain ⟨c, e, h3, h4⟩ := h 0 (by omega)
    exact ⟨e :: kids, by simp [h1], by simp only [KidsAt]; exact ⟨⟨a, c, rfl, h3, h4⟩, h2⟩⟩
theorem ty_exprs : Try.prog.underlying 23 = some (.slice 25) := by kernel_rfl
theorem ty_rules : Try.prog.underlying 22 = some (.slice 43) := by kernel_rfl
theorem ty_int : Try.prog.underlying 3 = some (.int .i64) := by kernel_rfl
theorem ty_bool : Try.prog.underlying 4 = some .bool := by kernel_rfl
theorem ty_string : Try.prog.underlying 9 = some .string := by kernel_rfl
theorem cells_expr : Try.prog.cellsOf 25 = 5 := by kernel_rfl
theorem cells_rule : Try.prog.cellsOf 43 = 6 := by kernel_rfl
theorem cells_int : Try.prog.cellsOf 3 = 1 := by kernel_rfl
theorem cells_string : Try.prog.cellsOf 9 = 1 := by kernel_rfl
theorem cells_exprs : Try.prog.cellsOf 23 = 1 := by kernel_rfl
theorem open_ex : ∀ (fuel : Nat) (cs : List Value) (x : DataW H × List MemPlace), DataW.trod enc Try.prog w base spare held fuel 25 cs = some x → ∃ e, ExAt w.heap e cs := by
  intro fuel
  induction fuel using Nat.strongRecOn with
  | ind fuel ih =>
    intro cs x h
    obtain ⟨xs, n, rfl, rfl, hl, hxl, hf⟩ := DataW.trod_struct Try.underlying25 h
    rw [cells_expr] at hl
    clear h
    match cs, hl, xs, hxl with
    | [c0, c1, c2, c3, c4], _, [y0, y1, y2, y3, y4], _ =>
      have f0 := hf 0 _ rfl
      have f1 := hf 1 _ rfl
      have f2 := hf 2 _ rfl
      have f3 := hf 3 _ rfl
      have f4 := hf 4 _ rfl
      simp only [cells_int, cells_string, cells_exprs, List.drop_zero, List.drop_succ_cons, List.take_succ_cons, List.take_zero, List.getElem?_cons_zero, List.getElem?_cons_succ] at f0 f1 f2 f3 f4
      obtain ⟨n0, e0, _, _⟩ := DataW.trod_int ty_int f0
      obtain ⟨n1, e1, _, _⟩ := DataW.trod_int ty_int f1
      obtain ⟨n2, e2, _, _⟩ := DataW.trod_int ty_int f2
      obtain ⟨s3, e3, _, _⟩ := DataW.trod_string ty_string f3
      cases e0; cases e1; cases e2; cases e3
      rcases DataW.trod_slice ty_exprs f4 with ⟨e4, _⟩ | ⟨a, len, cap, elems, rest, m, rfl, e4, _, _, _, _, hel, hall, _, _⟩
      · cases e4
        refine ⟨.mk n0 n1 n2 s3 [], ?_⟩
        simp only [ExAt, KidsAt]
        exact ⟨none, 0, rfl, trivial⟩
      · cases e4
        obtain ⟨kids, h1, h2⟩ := kids_of (hp := w.heap) (a := a) len 0 fun i hi => by
          have hi2 := hall i hi
          have hlt : i < elems.length := by omega
          rw [List.getElem?_eq_getElem hlt] at hi2
          obtain ⟨cs', h3, h4⟩ := Option.bind_eq_some_iff.1 hi2
          rw [cells_expr] at h3
          obtain ⟨e, he⟩ := ih m (by omega) cs' _ h4
          exact ⟨cs', e, by rw [Nat.zero_add]; exact (cells_at h3).1, he⟩
        refine ⟨.mk n0 n1 n2 s3 kids, ?_⟩
        simp only [ExAt]
        exact ⟨some a, cap, by rw [h1], h2⟩
theorem rules_of {hp : Heap} {a : Addr} : ∀ (n : Nat), (∀ i, i < n → ∃ s c e, At hp (a.add (i * 6)) (.string s :: c) ∧ ExAt hp e c) → ∃ l : List Ru, l.length = n ∧ RulesAt hp (some a) l
  | 0, _ => ⟨[], rfl, RulesAt.nil⟩
  | n + 1, h => by
    obtain ⟨l, h1, h2⟩ := rules_of n fun i hi => h i (by omega)
    obtain ⟨s, c, e, h3, h4⟩ := h n (by omega)
    refine ⟨l ++ [⟨s, e⟩], by simp [h1], fun i r hr => ?_⟩
    rcases Nat.lt_or_ge i l.length with hi | hi
    · rw [List.getElem?_append_left hi] at hr
      exact h2 i r hr
    · rw [List.getElem?_append_right hi] at hr
      have : i = l.length := by
        have := (List.getElem?_eq_some_iff.1 hr).1
        simp at this
        omega
      subst this
      simp at hr
      subst hr
      exact ⟨a, c, rfl, by rw [h1]; exact h3, h4⟩
theorem bytes_rule : Try.prog.bytesOf 43 = 80 := by kernel_rfl
theorem open_rules {fuel : Nat} {cs : List Value} {x : DataW H × List MemPlace} (h : DataW.trod enc Try.prog w base spare held fuel 22 cs = some x) :
    ∃ (a : Option Addr) (cap : Nat) (l : List Ru), cs = [.slice a l.length cap] ∧ RulesAt w.heap a l ∧ ((DataW.weights Try.prog 22 x.1).all (· ≤ reachBytes) = true → l.length * 80 ≤ 140737488351232) := by
  rcases DataW.trod_slice ty_rules h with ⟨rfl, _⟩ | ⟨a, len, cap, elems, rest, m, rfl, rfl, rfl, _, _, _, hel, hall, _, _⟩
  · exact ⟨none, 0, [], rfl, RulesAt.nil, fun _ => by simp⟩
  · obtain ⟨l, h1, h2⟩ := rules_of (hp := w.heap) (a := a) len fun i hi => by
      have hi2 := hall i hi
      have hlt : i < elems.length := by omega
      rw [List.getElem?_eq_getElem hlt] at hi2
      obtain ⟨cs', h3, h4⟩ := Option.bind_eq_some_iff.1 hi2
      rw [cells_rule] at h3
      obtain ⟨hat, hl6⟩ := cells_at h3
      obtain ⟨xs, n, hn, _, _, hxl, hf⟩ := DataW.trod_struct Try.underlying43 h4
      clear h4 hi2 h3
      replace hxl : xs.length = 2 := hxl
      match cs', hl6, xs, hxl with
      | [c0, c1, c2, c3, c4, c5], _, [y0, y1], _ =>
        have f0 := hf 0 _ rfl
        have f1 := hf 1 _ rfl
        simp only [cells_string, cells_expr, List.drop_zero, List.drop_succ_cons, List.take_succ_cons, List.take_zero, List.getElem?_cons_zero, List.getElem?_cons_succ] at f0 f1
        obtain ⟨s3, e3, _, _⟩ := DataW.trod_string ty_string f0
        cases e3
        obtain ⟨e, he⟩ := open_ex _ _ _ f1
        exact ⟨s3, _, e, hat, he⟩
    refine ⟨some a, cap, l, by rw [h1], h2, fun hw => ?_⟩
    simp only [DataW.weights, ty_rules, List.all_cons, Bool.and_eq_true, decide_eq_true_eq, bytes_rule, List.length_map] at hw
    have := hw.1
    unfold reachBytes at this
    rw [h1, ← hel]
    omega
/-- What was there reads as it did. -/
theorem trodAll_grown {ts : List TypeId} {vs : List Value} {ds : List (DataW H)} {ps : List MemPlace} {H' : Heap} {d' : Nat} (hts : ∀ t ∈ ts, t < Try.prog.types.size) (h : DataW.TrodAll enc Try.prog w 0 (fun _ => true) true ts vs ds ps) (hx : Ext0 w.heap H') {sp : Nat → Bool} (hsp : ∀ p ∈ ps, sp p.block = true) :
    DataW.TrodAll enc Try.prog (wk w H' d') 0 sp true ts vs ds ps := by
  refine DataW.TrodAll.respare (T := (· < Try.prog.types.size)) (kids_rows (by kernel_rfl) (by kernel_rfl)) (slices_full_of Try.prog (by kernel_rfl)) hts ?_ hsp
  have hlt := h.lt
  clear hsp
  induction ts generalizing vs ds ps with
  | nil =>
    obtain ⟨rfl, rfl, rfl⟩ := trodAll_nil h
    exact h
  | cons t ts ih =>
    obtain ⟨v, vs1, d, ds1, p, q, rfl, rfl, rfl, ⟨fuel, h1⟩, h2⟩ := trodAll_cons h
    refine ⟨p, q, ⟨fuel, DataW.trod_carry _ _ _ _ h1 fun x hx2 => ?_⟩, ih (fun t ht => hts t (by simp [ht])) h2 (fun x hx2 => hlt x (by simp [hx2])), rfl⟩
    have hb := hlt x (by simp [hx2])
    have he := hx.block x.block hb fun h => h
    cases x with
    | cell b off =>
      show cellH H' ⟨b, off, none⟩ = cellH w.heap ⟨b, off, none⟩
      unfold cellH
      rw [show H'[(⟨b, off, none⟩ : Addr).block]? = w.heap[b]? from he]
    | map b => exact he
end
/-- The answer true, and all as it was. -/
theorem post_true {H : Type} {enc : TypeId × Value → H} {f : Func} {s : ChangeSpec} {W : World} {args : Array Value} {ds gs : List (DataW H)} {before : List MemPlace} {H' : Heap} {d' : Nat} (hr : f.resultTypes = #[4]) (hvars : s.vars = []) (hp : ∀ t ∈ f.params.toList, t < Try.prog.types.size)
    (hW : DataW.Whole enc Try.prog f.params.toList s.vars false W args.toList ds gs before) (hres : (s.fn H ds).results = [.lit (.bool true)]) (hargs : (s.fn H ds).args = ds) (hv : (s.fn H ds).vars = []) (hx : Ext0 W.heap H') :
    s.post enc Try.prog f false true false false W args (.bool true) (wk W H' d') := by
  have hW' := hW
  obtain ⟨p, q, hA, hV, rfl, hz, hn⟩ := hW
  rw [hvars] at hV
  obtain ⟨rfl, rfl⟩ := trodVars_none hV
  have hlt := hA.lt
  rw [List.append_nil] at hz
  have hRes : ∀ (b : Nat) (sp : Nat → Bool) (hd : Bool), DataW.TrodAll enc Try.prog (wk W H' d') b sp hd f.resultTypes.toList ((Value.bool true).resultList f.resultTypes.size) (s.fn H (ds ++ [])).results [] := fun b sp hd => by
    rw [List.append_nil, hres, hr]
    exact trodAll_cons_mk (shut_bool ty_bool _) trodAll_mk0
  have hArg : ∀ sp : Nat → Bool, (∀ x ∈ p, sp x.block = true) → DataW.TrodAll enc Try.prog (wk W H' d') 0 sp true f.params.toList args.toList (s.fn H (ds ++ [])).args p := fun sp hsp => by
    rw [List.append_nil, hargs]
    exact trodAll_grown hp hA hx hsp
  have hVar : ∀ sp : Nat → Bool, DataW.TrodVars enc Try.prog (wk W H' d') sp s.vars (s.fn H (ds ++ [])).vars [] := fun sp => by
    rw [List.append_nil, hv, hvars]; rfl
  refine ⟨ds, [], p ++ [], [], p, [], hW', hRes _ _ _, hArg _ (fun x hx2 => by have := hlt x hx2; simpa using this), hVar _, ⟨rfl, rfl, fun i hi => ?_⟩, fun h => by cases h⟩
  have he : (wk W H' d').heap[i]? = W.heap[i]? := hx.block i hi fun h => h
  rw [he]
  cases hh : W.heap[i]? with
  | none => rfl
  | some o =>
    cases o with
    | cells c t fr => exact ⟨rfl, rfl, rfl, fun _ _ => rfl⟩
    | map es clock => exact .inr ⟨rfl, rfl⟩
    | _ => rfl
end Go.Vc
/- MeanShift: shifted twice the same way is shifted by both; a sum is shifted as its parts are: proved for every input, with no condition. -/
set_option linter.unusedVariables false
set_option linter.unusedSimpArgs false
set_option maxRecDepth 100000
namespace Go.Proofs.Ytdhbekcmjnifnaa.Shift
open Go.ChangeShapes Go.WideShapes Go.ChangeAt Go.RowKit Go.Vc
theorem own : ownKnob Try.prog.godebug = none := by kernel_rfl
theorem contract (H : Type) (enc : TypeId × Value → H) (W : World) (base : Nat) (args : Array Value) (ds gs : List (DataW H)) (before : List MemPlace)
    (hval : ∀ (j : Nat) t v, Try.f3.params[j]? = some t → args[j]? = some v → Value.okWide Try.prog W .any base t v)
    (hW : DataW.Whole enc Try.prog Try.f3.params.toList Rows.meanShiftSpec.vars false W args.toList ds gs before)
    (hwt : (DataW.weightsEach Try.prog (Try.f3.params.toList ++ Rows.meanShiftSpec.plain.varTypes Try.prog) (ds ++ gs)).all (· ≤ reachBytes) = true) :
    Calls Try.prog 3 args W fun e W' => ∃ v, e = .returned v ∧ Rows.meanShiftSpec.post enc Try.prog Try.f3 false true false false W args v W' := by
  have hW' := hW
  obtain ⟨p, q, hA0, hV, rfl, _, _⟩ := hW
  have hA : DataW.TrodAll enc Try.prog W 0 (fun _ => true) true Try.f3.params.toList args.toList ds p := hA0
  have hwt2 : (DataW.weightsEach Try.prog (Try.f3.params.toList ++ []) (ds ++ gs)).all (· ≤ reachBytes) = true := hwt
  rw [Try.params3] at hA hval hwt2
  obtain ⟨v0, vs0, d0, ds0, p0, q0, hargs, rfl, rfl, ⟨f0, h0⟩, r0⟩ := trodAll_cons hA
  obtain ⟨v1, vs1, d1, ds1, p1, q1, rfl, rfl, rfl, ⟨f1, h1⟩, r1⟩ := trodAll_cons r0
  obtain ⟨v2, vs2, d2, ds2, p2, q2, rfl, rfl, rfl, ⟨f2, h2⟩, r2⟩ := trodAll_cons r1
  obtain ⟨v3, vs3, d3, ds3, p3, q3, rfl, rfl, rfl, h3, r3⟩ := trodAll_cons r2
  obtain ⟨v4, vs4, d4, ds4, p4, q4, rfl, rfl, rfl, h4, r4⟩ := trodAll_cons r3
  obtain ⟨v5, vs5, d5, ds5, p5, q5, rfl, rfl, rfl, h5, r5⟩ := trodAll_cons r4
  obtain ⟨rfl, rfl, rfl⟩ := trodAll_nil r5
  obtain rfl : args = #[v0, v1, v2, v3, v4, v5] := by cases args; simp_all
  obtain ⟨rfl, rfl⟩ := trodVars_none hV
  obtain ⟨a, len, cap, rfl⟩ := okWide_slice ty_rules (hval 0 _ v0 rfl rfl)
  obtain ⟨ca, rfl, _⟩ := okWide_struct Try.underlying25 (hval 1 _ v1 rfl rfl)
  obtain ⟨cb, rfl, _⟩ := okWide_struct Try.underlying25 (hval 2 _ v2 rfl rfl)
  obtain ⟨x, rfl, rfl, rfl, _⟩ := open_int ty_int (hval 3 _ v3 rfl rfl) h3
  obtain ⟨y, rfl, rfl, rfl, _⟩ := open_int ty_int (hval 4 _ v4 rfl rfl) h4
  obtain ⟨day, rfl, rfl, rfl, _⟩ := open_int ty_int (hval 5 _ v5 rfl rfl) h5
  obtain ⟨a', cap', l, hcs, hl, hlw⟩ := open_rules h0
  obtain ⟨ea, hea⟩ := open_ex _ _ _ h1
  obtain ⟨eb, heb⟩ := open_ex _ _ _ h2
  have hcs2 : Value.slice a len cap = Value.slice a' l.length cap' := by simpa [Value.cells] using hcs
  simp only [Value.slice.injEq] at hcs2
  obtain ⟨rfl, rfl, rfl⟩ := hcs2
  have hln : l.length * 80 ≤ 140737488351232 := hlw (by
    simp only [List.append_nil, List.cons_append, List.nil_append, DataW.weightsEach, List.all_append, Bool.and_eq_true] at hwt2
    exact hwt2.1)
  clear hA hA0 hval hwt hwt2 hlw
  have hcall := MeanShift_is (H := W.heap) hl hln hea heb cap x y day W W.drawn
  rw [wk_self] at hcall
  refine hcall.mono fun e W' ⟨H', d', hw, hr, hx⟩ => ?_
  subst hw
  exact ⟨_, hr, post_true rfl rfl (by decide +kernel) hW' rfl rfl rfl hx⟩
theorem lifted (os : Os) (started : os.Started) (H : Type) (enc : TypeId × Value → H) :
    ReturnsInHanded {} Try.checked os 3 .any (Rows.meanShiftSpec.pre6 enc Try.prog Try.f3 Rows.meanShiftRow.domain false) (Rows.meanShiftSpec.post enc Try.prog Try.f3 false true false false) := by
  refine returnsInHanded_of_change_sized (C := Try.checked) own started (by kernel_rfl) Try.func3
    (ChangeSpec.witness6 (enc := enc) (C := Try.checked) false ⟨#[], #[.slice none 0 0, .agg #[.int .i64 0, .int .i64 0, .int .i64 0, .string ⟨#[]⟩, .slice none 0 0], .agg #[.int .i64 0, .int .i64 0, .int .i64 0, .string ⟨#[]⟩, .slice none 0 0], .int .i64 0, .int .i64 0, .int .i64 0], []⟩ 8 (by kernel_rfl) (by kernel_rfl) (by kernel_rfl) (by kernel_rfl)) ?_
  intro W base args ds gs before hval hW _ hwt _
  exact contract H enc W base args ds gs before hval hW hwt
end Go.Proofs.Ytdhbekcmjnifnaa.Shift
namespace Go.Proofs.Ytdhbekcmjnifnaa
/-- MeanShift: later and later. -/
theorem meanShift_holds : Rows.MeanShiftSaid :=
  OpenClaim.holds_of_wide 3 Try.f3 rfl rfl rfl rfl rfl rfl rfl ⟨rfl, rfl, rfl, rfl, rfl⟩ rfl rfl rfl rfl rfl (by kernel_rfl) Try.func3 (by kernel_rfl)
    (of_decide_eq_true (by kernel_rfl)) (by unfold Func.isWrapper; first | (rw [if_pos (by decide +kernel)]; kernel_rfl) | (rw [if_neg (by decide +kernel)]; exact ⟨rfl, rfl⟩))
    (fun os started H enc _ => Shift.lifted os started H enc)
#print axioms meanShift_holds
end Go.Proofs.Ytdhbekcmjnifnaa
