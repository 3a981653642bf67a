/- CheckMore is proved: a rule more that nobody speaks of, of a new name, and that speaks of none, leaves rules as they were; for every input, with no condition. This text is a part of the way there. -/
import Derived.Test.YtdhbekcmjnifnaaMd9
set_option linter.unusedVariables false
set_option linter.unusedSimpArgs false
set_option maxRecDepth 100000
namespace Go.Vc
open Go.Proofs

/-! slotlaw6: what its laws use -/
theorem rules6_is (s : ByteArray) (hs : s.size ≤ 4611686018427387904) (hp : (parseF s).2.1 = 0) (H : Heap) : CallsH Try.prog 19 ⟨[.string s]⟩ H fun e H' => ∃ a c, e = .returned (.slice a (parseF s).1.length c) ∧ Ext0 H H' ∧ RulesAt H' a (parseF s).1 := by
  apply slotlaw6_rules_calls
  unfold slotlaw6_rules
  refine (Parse_is s hs H).call (fun v H1 hr => ?_) (fun ch H6 hr5 => by obtain ⟨_, _, hr5, _⟩ := hr5; cases hr5) (fun H6 hr5 => by obtain ⟨_, _, hr5, _⟩ := hr5; cases hr5)
  obtain ⟨a, c, hv, hx, hru⟩ := hr
  simp only [Ending.returned.injEq] at hv
  subst hv
  refine ⟨_, _, _, _, _, rfl, ?_⟩
  have hS := St.start none0 H1
  intro H2
  replace hS : St _ _ H2 _ := St.push hS _
  clear_value H2
  refine ⟨St.may (k := 0) hS rfl rfl (by simp [newA, bA, add_off]), ?_⟩
  intro H3
  replace hS : St _ _ H3 _ := St.put (k := 0) hS rfl rfl _
  clear_value H3
  simp only [setN, splice, newA, bA, add_off, add_block, Nat.add_zero, Nat.zero_add, Nat.reduceAdd] at hS
  refine ⟨_, St.cell (k := 0) hS rfl rfl rfl, ?_⟩
  refine ifB_mk (fun h => ?_) (fun h => ?_)
  · rw [hp] at h; simp at h
  · exact ⟨a, c, rfl, hx.trans hS.ext0, hru.grow hS.ext0⟩
theorem mem_wordsV {H : Heap} {a : Option Addr} {ms : List Nat} (h : RowAt H a 23 (ms.map wordsV)) {i m : Nat} (hi : ms[i]? = some m) : ∃ p, a = some p ∧ At H (p.add (i * 23)) (wordsV m) := h i (wordsV m) (by rw [List.getElem?_map, hi]; rfl)
theorem allErr3 : allErr rules3 0 = (0, 0) := by kernel_rfl
theorem ones_0 : ones ((0 : Nat) : Int) = 0 := by kernel_rfl
theorem ones_8 : ones ((18446744073441116160 : Nat) : Int) = 36 := by kernel_rfl
theorem ones_9 : ones ((16777215 : Nat) : Int) = 24 := by kernel_rfl
theorem countN_step {A k w : Nat} {c o : Int} (hc : countN A k = c) (hw : word A k = w) (ho : ones (w : Nat) = o) (h0 : 0 ≤ c + o) (h1 : c + o ≤ 4611686018427387904) : countN A (k + 1) = c + o := by
  rw [countN, hc, hw, ho, i64_id (by omega) (by omega)]
theorem nine_val : ofN [(540, 600)] = 4149515568880992954913276828056604044764015426093651412899899635049119504932303688310236984409913498032965337728188103462458422568595059209320261989718523935854369658709378439577600 := by kernel_rfl
theorem nine_mod : 4149515568880992954913276828056604044764015426093651412899899635049119504932303688310236984409913498032965337728188103462458422568595059209320261989718523935854369658709378439577600 % dayN = 4149515568880992954913276828056604044764015426093651412899899635049119504932303688310236984409913498032965337728188103462458422568595059209320261989718523935854369658709378439577600 := by kernel_rfl
theorem count_nine : countN 4149515568880992954913276828056604044764015426093651412899899635049119504932303688310236984409913498032965337728188103462458422568595059209320261989718523935854369658709378439577600 23 = 60 := by
  have h0 : countN 4149515568880992954913276828056604044764015426093651412899899635049119504932303688310236984409913498032965337728188103462458422568595059209320261989718523935854369658709378439577600 0 = 0 := rfl
  have h1 : countN 4149515568880992954913276828056604044764015426093651412899899635049119504932303688310236984409913498032965337728188103462458422568595059209320261989718523935854369658709378439577600 1 = 0 := countN_step (A := 4149515568880992954913276828056604044764015426093651412899899635049119504932303688310236984409913498032965337728188103462458422568595059209320261989718523935854369658709378439577600) (k := 0) (w := 0) (c := 0) (o := 0) h0 (by kernel_rfl) ones_0 (by decide) (by decide)
  have h2 : countN 4149515568880992954913276828056604044764015426093651412899899635049119504932303688310236984409913498032965337728188103462458422568595059209320261989718523935854369658709378439577600 2 = 0 := countN_step (A := 4149515568880992954913276828056604044764015426093651412899899635049119504932303688310236984409913498032965337728188103462458422568595059209320261989718523935854369658709378439577600) (k := 1) (w := 0) (c := 0) (o := 0) h1 (by kernel_rfl) ones_0 (by decide) (by decide)
  have h3 : countN 4149515568880992954913276828056604044764015426093651412899899635049119504932303688310236984409913498032965337728188103462458422568595059209320261989718523935854369658709378439577600 3 = 0 := countN_step (A := 4149515568880992954913276828056604044764015426093651412899899635049119504932303688310236984409913498032965337728188103462458422568595059209320261989718523935854369658709378439577600) (k := 2) (w := 0) (c := 0) (o := 0) h2 (by kernel_rfl) ones_0 (by decide) (by decide)
  have h4 : countN 4149515568880992954913276828056604044764015426093651412899899635049119504932303688310236984409913498032965337728188103462458422568595059209320261989718523935854369658709378439577600 4 = 0 := countN_step (A := 4149515568880992954913276828056604044764015426093651412899899635049119504932303688310236984409913498032965337728188103462458422568595059209320261989718523935854369658709378439577600) (k := 3) (w := 0) (c := 0) (o := 0) h3 (by kernel_rfl) ones_0 (by decide) (by decide)
  have h5 : countN 4149515568880992954913276828056604044764015426093651412899899635049119504932303688310236984409913498032965337728188103462458422568595059209320261989718523935854369658709378439577600 5 = 0 := countN_step (A := 4149515568880992954913276828056604044764015426093651412899899635049119504932303688310236984409913498032965337728188103462458422568595059209320261989718523935854369658709378439577600) (k := 4) (w := 0) (c := 0) (o := 0) h4 (by kernel_rfl) ones_0 (by decide) (by decide)
  have h6 : countN 4149515568880992954913276828056604044764015426093651412899899635049119504932303688310236984409913498032965337728188103462458422568595059209320261989718523935854369658709378439577600 6 = 0 := countN_step (A := 4149515568880992954913276828056604044764015426093651412899899635049119504932303688310236984409913498032965337728188103462458422568595059209320261989718523935854369658709378439577600) (k := 5) (w := 0) (c := 0) (o := 0) h5 (by kernel_rfl) ones_0 (by decide) (by decide)
  have h7 : countN 4149515568880992954913276828056604044764015426093651412899899635049119504932303688310236984409913498032965337728188103462458422568595059209320261989718523935854369658709378439577600 7 = 0 := countN_step (A := 4149515568880992954913276828056604044764015426093651412899899635049119504932303688310236984409913498032965337728188103462458422568595059209320261989718523935854369658709378439577600) (k := 6) (w := 0) (c := 0) (o := 0) h6 (by kernel_rfl) ones_0 (by decide) (by decide)
  have h8 : countN 4149515568880992954913276828056604044764015426093651412899899635049119504932303688310236984409913498032965337728188103462458422568595059209320261989718523935854369658709378439577600 8 = 0 := countN_step (A := 4149515568880992954913276828056604044764015426093651412899899635049119504932303688310236984409913498032965337728188103462458422568595059209320261989718523935854369658709378439577600) (k := 7) (w := 0) (c := 0) (o := 0) h7 (by kernel_rfl) ones_0 (by decide) (by decide)
  have h9 : countN 4149515568880992954913276828056604044764015426093651412899899635049119504932303688310236984409913498032965337728188103462458422568595059209320261989718523935854369658709378439577600 9 = 36 := countN_step (A := 4149515568880992954913276828056604044764015426093651412899899635049119504932303688310236984409913498032965337728188103462458422568595059209320261989718523935854369658709378439577600) (k := 8) (w := 18446744073441116160) (c := 0) (o := 36) h8 (by kernel_rfl) ones_8 (by decide) (by decide)
  have h10 : countN 4149515568880992954913276828056604044764015426093651412899899635049119504932303688310236984409913498032965337728188103462458422568595059209320261989718523935854369658709378439577600 10 = 60 := countN_step (A := 4149515568880992954913276828056604044764015426093651412899899635049119504932303688310236984409913498032965337728188103462458422568595059209320261989718523935854369658709378439577600) (k := 9) (w := 16777215) (c := 36) (o := 24) h9 (by kernel_rfl) ones_9 (by decide) (by decide)
  have h11 : countN 4149515568880992954913276828056604044764015426093651412899899635049119504932303688310236984409913498032965337728188103462458422568595059209320261989718523935854369658709378439577600 11 = 60 := countN_step (A := 4149515568880992954913276828056604044764015426093651412899899635049119504932303688310236984409913498032965337728188103462458422568595059209320261989718523935854369658709378439577600) (k := 10) (w := 0) (c := 60) (o := 0) h10 (by kernel_rfl) ones_0 (by decide) (by decide)
  have h12 : countN 4149515568880992954913276828056604044764015426093651412899899635049119504932303688310236984409913498032965337728188103462458422568595059209320261989718523935854369658709378439577600 12 = 60 := countN_step (A := 4149515568880992954913276828056604044764015426093651412899899635049119504932303688310236984409913498032965337728188103462458422568595059209320261989718523935854369658709378439577600) (k := 11) (w := 0) (c := 60) (o := 0) h11 (by kernel_rfl) ones_0 (by decide) (by decide)
  have h13 : countN 4149515568880992954913276828056604044764015426093651412899899635049119504932303688310236984409913498032965337728188103462458422568595059209320261989718523935854369658709378439577600 13 = 60 := countN_step (A := 4149515568880992954913276828056604044764015426093651412899899635049119504932303688310236984409913498032965337728188103462458422568595059209320261989718523935854369658709378439577600) (k := 12) (w := 0) (c := 60) (o := 0) h12 (by kernel_rfl) ones_0 (by decide) (by decide)
  have h14 : countN 4149515568880992954913276828056604044764015426093651412899899635049119504932303688310236984409913498032965337728188103462458422568595059209320261989718523935854369658709378439577600 14 = 60 := countN_step (A := 4149515568880992954913276828056604044764015426093651412899899635049119504932303688310236984409913498032965337728188103462458422568595059209320261989718523935854369658709378439577600) (k := 13) (w := 0) (c := 60) (o := 0) h13 (by kernel_rfl) ones_0 (by decide) (by decide)
  have h15 : countN 4149515568880992954913276828056604044764015426093651412899899635049119504932303688310236984409913498032965337728188103462458422568595059209320261989718523935854369658709378439577600 15 = 60 := countN_step (A := 4149515568880992954913276828056604044764015426093651412899899635049119504932303688310236984409913498032965337728188103462458422568595059209320261989718523935854369658709378439577600) (k := 14) (w := 0) (c := 60) (o := 0) h14 (by kernel_rfl) ones_0 (by decide) (by decide)
  have h16 : countN 4149515568880992954913276828056604044764015426093651412899899635049119504932303688310236984409913498032965337728188103462458422568595059209320261989718523935854369658709378439577600 16 = 60 := countN_step (A := 4149515568880992954913276828056604044764015426093651412899899635049119504932303688310236984409913498032965337728188103462458422568595059209320261989718523935854369658709378439577600) (k := 15) (w := 0) (c := 60) (o := 0) h15 (by kernel_rfl) ones_0 (by decide) (by decide)
  have h17 : countN 4149515568880992954913276828056604044764015426093651412899899635049119504932303688310236984409913498032965337728188103462458422568595059209320261989718523935854369658709378439577600 17 = 60 := countN_step (A := 4149515568880992954913276828056604044764015426093651412899899635049119504932303688310236984409913498032965337728188103462458422568595059209320261989718523935854369658709378439577600) (k := 16) (w := 0) (c := 60) (o := 0) h16 (by kernel_rfl) ones_0 (by decide) (by decide)
  have h18 : countN 4149515568880992954913276828056604044764015426093651412899899635049119504932303688310236984409913498032965337728188103462458422568595059209320261989718523935854369658709378439577600 18 = 60 := countN_step (A := 4149515568880992954913276828056604044764015426093651412899899635049119504932303688310236984409913498032965337728188103462458422568595059209320261989718523935854369658709378439577600) (k := 17) (w := 0) (c := 60) (o := 0) h17 (by kernel_rfl) ones_0 (by decide) (by decide)
  have h19 : countN 4149515568880992954913276828056604044764015426093651412899899635049119504932303688310236984409913498032965337728188103462458422568595059209320261989718523935854369658709378439577600 19 = 60 := countN_step (A := 4149515568880992954913276828056604044764015426093651412899899635049119504932303688310236984409913498032965337728188103462458422568595059209320261989718523935854369658709378439577600) (k := 18) (w := 0) (c := 60) (o := 0) h18 (by kernel_rfl) ones_0 (by decide) (by decide)
  have h20 : countN 4149515568880992954913276828056604044764015426093651412899899635049119504932303688310236984409913498032965337728188103462458422568595059209320261989718523935854369658709378439577600 20 = 60 := countN_step (A := 4149515568880992954913276828056604044764015426093651412899899635049119504932303688310236984409913498032965337728188103462458422568595059209320261989718523935854369658709378439577600) (k := 19) (w := 0) (c := 60) (o := 0) h19 (by kernel_rfl) ones_0 (by decide) (by decide)
  have h21 : countN 4149515568880992954913276828056604044764015426093651412899899635049119504932303688310236984409913498032965337728188103462458422568595059209320261989718523935854369658709378439577600 21 = 60 := countN_step (A := 4149515568880992954913276828056604044764015426093651412899899635049119504932303688310236984409913498032965337728188103462458422568595059209320261989718523935854369658709378439577600) (k := 20) (w := 0) (c := 60) (o := 0) h20 (by kernel_rfl) ones_0 (by decide) (by decide)
  have h22 : countN 4149515568880992954913276828056604044764015426093651412899899635049119504932303688310236984409913498032965337728188103462458422568595059209320261989718523935854369658709378439577600 22 = 60 := countN_step (A := 4149515568880992954913276828056604044764015426093651412899899635049119504932303688310236984409913498032965337728188103462458422568595059209320261989718523935854369658709378439577600) (k := 21) (w := 0) (c := 60) (o := 0) h21 (by kernel_rfl) ones_0 (by decide) (by decide)
  have h23 : countN 4149515568880992954913276828056604044764015426093651412899899635049119504932303688310236984409913498032965337728188103462458422568595059209320261989718523935854369658709378439577600 23 = 60 := countN_step (A := 4149515568880992954913276828056604044764015426093651412899899635049119504932303688310236984409913498032965337728188103462458422568595059209320261989718523935854369658709378439577600) (k := 22) (w := 0) (c := 60) (o := 0) h22 (by kernel_rfl) ones_0 (by decide) (by decide)
  exact h23
theorem ten_val : shiftN 4149515568880992954913276828056604044764015426093651412899899635049119504932303688310236984409913498032965337728188103462458422568595059209320261989718523935854369658709378439577600 60 = 4784065733063810969432369588737795717778834111525504826754561141406313457735348769542171220627015886494582589456337534952014832630620182092060631520577265156773648733548025493236918085607665277337600 := by kernel_rfl
theorem holds_ten : holdsN 4784065733063810969432369588737795717778834111525504826754561141406313457735348769542171220627015886494582589456337534952014832630620182092060631520577265156773648733548025493236918085607665277337600 600 660 = true := by kernel_rfl
theorem week_nine : weekB 32 0 = true := by kernel_rfl
theorem mn_nine (lk : ByteArray → Nat) : mnEx 0 lk (ruAt rules3 0).e = ofN [(540, 600)] := by
  show mnEx 0 lk (.mk 4 32 0 noT [.mk 3 540 600 noT []]) = _
  simp only [mnEx, mnL, comb]
  simp [week_nine]
theorem mn_ten (lk : ByteArray → Nat) : mnEx 0 lk (ruAt rules3 1).e = shiftN (lk nA) 60 := by
  show mnEx 0 lk (.mk 9 60 0 noT [.mk 10 0 0 nA []]) = _
  simp only [mnEx, mnL, comb]
  simp
theorem find_a : findF nA rules3 0 = 0 := by kernel_rfl
theorem alive6_is (H : Heap) : CallsH Try.prog 7 ⟨[]⟩ H fun e H' => e = .returned (.bool true) ∧ Ext0 H H' := by
  apply slotlaw6_alive_calls
  unfold slotlaw6_alive
  have h3 := parse3
  refine (rules6_is text3 (by decide) (by rw [h3]) H).call (fun v H1 hr => ?_) (fun ch H6 hr5 => by obtain ⟨_, _, hr5, _⟩ := hr5; cases hr5) (fun H6 hr5 => by obtain ⟨_, _, hr5, _⟩ := hr5; cases hr5)
  obtain ⟨a, c, hv, hx, hru⟩ := hr
  rw [h3] at hv hru
  simp only [Ending.returned.injEq] at hv
  subst hv
  refine ⟨_, _, _, rfl, ?_⟩
  refine (All_is hru 0).call (fun v H2 hr => ?_) (fun ch H6 hr5 => by obtain ⟨_, _, _, hr5, _⟩ := hr5; cases hr5) (fun H6 hr5 => by obtain ⟨_, _, _, hr5, _⟩ := hr5; cases hr5)
  obtain ⟨ma, mc, ms, hv, hx2, hrow, hok, _⟩ := hr
  simp only [Ending.returned.injEq] at hv
  subst hv
  have hok := hok (by rw [allErr3])
  rw [allErr3]
  refine ⟨_, _, _, _, _, rfl, ?_⟩
  have hS := St.start none0 H2
  intro H3
  replace hS : St _ _ H3 _ := St.push hS _
  clear_value H3
  refine ⟨St.may (k := 0) hS rfl rfl (by simp [newA, bA, add_off]), ?_⟩
  intro H4
  replace hS : St _ _ H4 _ := St.put (k := 0) hS rfl rfl _
  clear_value H4
  simp only [setN, splice, newA, bA, add_off, add_block, Nat.add_zero, Nat.zero_add, Nat.reduceAdd] at hS
  refine ⟨_, St.cell (k := 0) hS rfl rfl rfl, ?_⟩
  have hlen : ms.length = 2 := hok.len
  obtain ⟨m0, m1, rfl⟩ : ∃ m0 m1, ms = [m0, m1] := by
    match ms, hlen with
    | [a, b], _ => exact ⟨a, b, rfl⟩
  have e0 : m0 = ofN [(540, 600)] := by
    have := hok.eqn 0 (by decide)
    rwa [mn_nine] at this
  have e1 : m1 = shiftN m0 60 := by
    have := hok.eqn 1 (by decide)
    rw [mn_ten, find_a] at this
    exact this
  have hc : countN (m0 % dayN) 23 = 60 := by rw [e0, nine_val, nine_mod]; exact count_nine
  have hh : holdsN m1 600 660 = true := by rw [e1, e0, nine_val, ten_val]; exact holds_ten
  have hrow4 := hrow.grow hS.ext0
  refine ⟨fun b H' => b = true ∧ Ext0 H4 H', ifB_mk (fun _ => ?_) (fun h => by simp at h), ?_⟩
  · obtain ⟨p, rfl, hat⟩ := mem_wordsV hrow4 (i := 0) rfl
    refine ⟨by omega, by simp, p, rfl, wordsOf m0, wordsOf_length _, hat, (Count_is m0 H4).call fun H6 hx6 => ⟨_, rfl, ?_, hx6⟩⟩
    rw [hc]; rfl
  rintro q H5 ⟨rfl, hx5⟩
  refine ⟨fun b H' => b = true ∧ Ext0 H4 H', ifB_mk (fun _ => ?_) (fun h => by cases h), ?_⟩
  · obtain ⟨p, rfl, hat⟩ := mem_wordsV (hrow4.grow hx5) (i := 1) rfl
    refine ⟨by omega, by simp, p, rfl, wordsOf m1, wordsOf_length _, hat, (Holds_is m1 600 660 H5).call fun H9 hx9 => ⟨_, rfl, ?_, hx5.trans hx9⟩⟩
    exact hh
  rintro q H8 ⟨rfl, hx8⟩
  exact ⟨rfl, hx.trans (hx2.trans (hS.ext0.trans hx8))⟩
theorem neqV_agg {P : Program} {T : TypeId} {m : Nat} {xs ys : List Value} {lx ly : List Lit} {D D' : Nat} (hk : P.keyTypeAt m T = true) (hm : m ≤ 10000) (hg : P.eqGuardType P.depth T = false)
    (hx : (Value.agg ⟨xs⟩).formed P T = true) (hy : (Value.agg ⟨ys⟩).formed P T = true) (h1 : P.keyLits D T xs = some lx) (h2 : P.keyLits D' T ys = some ly) {b : Bool} (hb : b = false ↔ lx = ly) : EqV P .neq T (.agg ⟨xs⟩) (.agg ⟨ys⟩) b := by
  intro x y w
  have he := run_equalIn_deep (P := P) (10000 - m) m T hk
  rw [show 10000 - m + m = 10000 by omega] at he
  obtain ⟨r, hr, hri⟩ := he w D D' (.agg ⟨xs⟩) (.agg ⟨ys⟩) lx ly hx hy h1 h2
  have hrb : r = !b := by
    rw [Bool.eq_iff_iff, hri, ← hb]; simp
  subst hrb
  have hgd : (eqGuard .neq T x y (.agg ⟨xs⟩) (.agg ⟨ys⟩)).run P w = .ok () w := by
    simp [eqGuard, hg]
  simp only [Sem.run_bind, hgd, Result.andThen_ok, binOp, Op.equal, Op.maxDepth]
  rw [hr]
  simp
theorem neqV_self (A : Nat) : EqV Try.prog .neq 31 (maskV A) (maskV A) false := by
  refine neqV_agg (m := 2) (by kernel_rfl) (by omega) (by kernel_rfl) ?_ ?_ (mask_lits A) (mask_lits A) (by simp)
  · simp only [Value.formed, mask_type, mask_cells]; simp [wordsOf_length]
  · simp only [Value.formed, mask_type, mask_cells]; simp [wordsOf_length]
/-- The same masks. -/
theorem Same_is {a b : List Nat} {aa ba : Option Addr} {H : Heap} (ha : RowAt H aa 23 (a.map wordsV)) (hb : RowAt H ba 23 (b.map wordsV)) (hab : a = b) (hl : a.length ≤ 4611686018427387904) (ac bc : Nat) : CallsQ Try.prog 12 ⟨[.slice aa a.length ac, .slice ba b.length bc]⟩ H (.bool true) := by
  subst hab
  apply slotref5_Same_calls
  unfold slotref5_Same
  refine ifB_mk (fun h => by simp at h) (fun _ => ?_)
  refine ⟨fun x H' => H' = H ∧ ∃ k : Nat, x = k ∧ k ≤ a.length, fun x _ => ((a.length : Int) - x).toNat, ⟨rfl, 0, rfl, Nat.zero_le _⟩, ?_⟩
  rintro x H1 ⟨rfl, k, rfl, hk⟩
  refine ifB_mk (fun hc => ?_) (fun hc => ⟨rfl, rfl⟩)
  have hc : k < a.length := by simp at hc; omega
  have hkk : a[k]? = some a[k] := by simp [hc]
  obtain ⟨p, hp, hat⟩ := mem_wordsV ha hkk
  obtain ⟨q, hq, hbt⟩ := mem_wordsV hb hkk
  refine ⟨by omega, by omega, p, hp, wordsOf a[k], wordsOf_length _, by rw [Int.toNat_natCast]; exact hat, by omega, by omega, q, hq, wordsOf a[k], wordsOf_length _, by rw [Int.toNat_natCast]; exact hbt, false, ?_, ifB_mk (fun h => by cases h) (fun _ => ?_)⟩
  · exact neqV_self _
  · refine ⟨⟨rfl, k + 1, by rw [i64_id (by omega) (by omega)]; omega, hc⟩, ?_⟩
    show Int.toNat _ < Int.toNat _
    rw [i64_id (by omega) (by omega)]
    omega
/-- A row in one piece. -/
theorem At_append {H : Heap} {a : Addr} {x y : List Value} (h1 : At H a x) (h2 : At H (a.add x.length) y) : At H a (x ++ y) := At.mk fun j v hj => by
  rcases Nat.lt_or_ge j x.length with h | h
  · rw [List.getElem?_append_left h] at hj
    exact h1.get hj
  · rw [List.getElem?_append_right h] at hj
    have := h2.get hj
    rw [Addr.add_add, show x.length + (j - x.length) = j by omega] at this
    exact this
theorem At_rows {H : Heap} {sz : Nat} : ∀ (rows : List (List Value)) (p : Addr), (∀ r ∈ rows, r.length = sz) → (∀ i r, rows[i]? = some r → At H (p.add (i * sz)) r) → At H p rows.flatten
  | [], p, _, _ => trivial
  | r :: rows, p, hl, h => by
    rw [List.flatten_cons]
    refine At_append ?_ ?_
    · have := h 0 r rfl
      rwa [Nat.zero_mul, show p.add 0 = p from rfl] at this
    · rw [hl r (by simp)]
      refine At_rows rows _ (fun r hr => hl r (by simp [hr])) fun i r' hr' => ?_
      have := h (i + 1) r' (by simpa using hr')
      rw [Addr.add_add, show sz + i * sz = (i + 1) * sz by rw [Nat.add_mul]; omega]
      exact this
/-- Rules as what append takes. -/
theorem rules_src {H : Heap} {ad : Option Addr} {l : List Ru} (h : RulesAt H ad l) : ∃ cs : List (List Value), cs.length = l.length ∧ (∀ (i : Nat) (r : Ru) (c : List Value), l[i]? = some r → cs[i]? = some c → ∃ c', c = .string r.name :: c' ∧ ExAt H r.e c') ∧ (∀ c ∈ cs, c.length = 6) ∧ SrcH H ad l.length 6 cs.flatten := by
  have key : ∀ i, i < l.length → ∃ c, ∃ p c', ad = some p ∧ At H (p.add (i * 6)) c ∧ c = .string (ruAt l i).name :: c' ∧ ExAt H (ruAt l i).e c' := fun i hi => by
    obtain ⟨p, c, h1, h2, h3⟩ := h i _ (ruAt_some hi)
    exact ⟨_, p, c, h1, h2, rfl, h3⟩
  let f : Nat → List Value := fun i => if hi : i < l.length then Classical.choose (key i hi) else []
  have hf : ∀ i (hi : i < l.length), ∃ p c', ad = some p ∧ At H (p.add (i * 6)) (f i) ∧ f i = .string (ruAt l i).name :: c' ∧ ExAt H (ruAt l i).e c' := fun i hi => by
    have := Classical.choose_spec (key i hi)
    show ∃ p c', ad = some p ∧ At H (p.add (i * 6)) (if hi : i < l.length then Classical.choose (key i hi) else []) ∧ (if hi : i < l.length then Classical.choose (key i hi) else []) = _ ∧ _
    rw [dif_pos hi]
    exact this
  have hl6 : ∀ c ∈ (List.range l.length).map f, c.length = 6 ∧ plainL c := fun c hc => by
    obtain ⟨i, hi, rfl⟩ := List.mem_map.1 hc
    obtain ⟨p, c', _, _, h3, h4⟩ := hf i (List.mem_range.1 hi)
    rw [h3]
    refine ⟨by simp [h4.len], fun v hv => ?_⟩
    rcases List.mem_cons.1 hv with rfl | hv
    · rfl
    · exact h4.plain v hv
  refine ⟨(List.range l.length).map f, by simp, fun i r c hr hc => ?_, fun c hc => (hl6 c hc).1, ?_⟩
  · have hi := (List.getElem?_eq_some_iff.1 hr).1
    simp [hi] at hc
    obtain ⟨p, c', _, _, h3, h4⟩ := hf i hi
    have : ruAt l i = r := by
      have := ruAt_some hi
      rw [hr] at this
      exact (Option.some.inj this).symm
    rw [this] at h3 h4
    exact ⟨c', by rw [← hc, h3], h4⟩
  · cases hl : l with
    | nil =>
      cases ad with
      | none => exact .inl ⟨rfl, rfl, by simp⟩
      | some p => exact .inr ⟨p, rfl, by simp; trivial, by simp, by simp [plainL]⟩
    | cons r rs =>
      have h0 : 0 < l.length := by rw [hl]; simp
      obtain ⟨p, _, hp, _⟩ := hf 0 h0
      rw [← hl]
      refine .inr ⟨p, hp, At_rows (sz := 6) _ p (fun c hc => (hl6 c hc).1) fun i c hc => ?_, ?_, fun v hv => ?_⟩
      · have hi : i < l.length := by
          have := (List.getElem?_eq_some_iff.1 hc).1
          simpa using this
        simp [hi] at hc
        obtain ⟨p', _, hp', hat, _⟩ := hf i hi
        rw [hp] at hp'
        cases hp'
        rw [← hc]
        exact hat
      · have : ∀ (cs : List (List Value)), (∀ c ∈ cs, c.length = 6) → cs.flatten.length = cs.length * 6 := by
          intro cs
          induction cs with
          | nil => simp
          | cons c r ih =>
            intro h
            rw [List.flatten_cons, List.length_append, ih fun x hx => h x (by simp [hx]), h c (by simp)]
            simp only [List.length_cons]; omega
        rw [this _ fun c hc => (hl6 c hc).1]
        simp
      · obtain ⟨c, hc, hv⟩ := List.mem_flatten.1 hv
        exact (hl6 c hc).2 v hv
end Go.Vc
set_option linter.unusedVariables false
set_option linter.unusedSimpArgs false
set_option maxRecDepth 100000
namespace Go.Vc
open Go.Proofs

/-! slotlaw6: expressions made, a rule more -/
theorem two_is {ea eb : Ex} {ca cb : List Value} {H : Heap} (ha : ExAt H ea ca) (hb : ExAt H eb cb) (kind : Int) : CallsH Try.prog 10 ⟨[.int .i64 kind, .agg ⟨ca⟩, .agg ⟨cb⟩]⟩ H fun e H' => ∃ c, e = .returned (.agg ⟨c⟩) ∧ Ext0 H H' ∧ ExAt H' (.mk kind 0 0 noT [ea, eb]) c := by
  obtain ⟨k1, a1, b1, n1, ad1, l1, c1, rfl⟩ := ruC_of ha
  obtain ⟨k2, a2, b2, n2, ad2, l2, c2, rfl⟩ := ruC_of hb
  apply slotlaw6_two_calls
  unfold slotlaw6_two
  have hS := St.start none0 H
  intro H1
  replace hS : St _ _ H1 _ := St.push hS _
  clear_value H1
  intro H2
  replace hS : St _ _ H2 _ := St.push hS _
  clear_value H2
  intro H3
  replace hS : St _ _ H3 _ := St.push hS _
  clear_value H3
  refine ⟨_, _, _, _, _, _, _, St.atp (k := 2) hS rfl rfl rfl, ?_⟩
  refine ⟨_, _, _, _, _, _, _, St.atp (k := 1) hS rfl rfl rfl, ?_⟩
  intro H4
  replace hS : St _ _ H4 _ := St.push hS _
  clear_value H4
  refine ⟨St.may (k := 1) hS rfl rfl (by simp [newA, bA, add_off]), ?_⟩
  intro H5
  replace hS : St _ _ H5 _ := St.put (k := 1) hS rfl rfl _
  clear_value H5
  simp only [setN, splice, newA, bA, add_off, add_block, Nat.add_zero, Nat.zero_add, Nat.reduceAdd] at hS
  refine ⟨_, _, _, _, _, _, _, St.atp (k := 1) hS rfl rfl rfl, ?_⟩
  refine ⟨_, rfl, hS.ext0, ?_⟩
  simp only [ExAt, KidsAt]
  refine ⟨_, _, rfl, ⟨_, _, rfl, St.atp (k := 0) hS rfl rfl rfl, ha.grow hS.ext0⟩, ⟨_, _, rfl, St.atp (k := 0) (post := []) hS rfl rfl rfl, hb.grow hS.ext0⟩, trivial⟩
theorem by_is {ea : Ex} {ca : List Value} {H : Heap} (ha : ExAt H ea ca) (n : Int) : CallsH Try.prog 8 ⟨[.agg ⟨ca⟩, .int .i64 n]⟩ H fun e H' => ∃ c, e = .returned (.agg ⟨c⟩) ∧ Ext0 H H' ∧ ExAt H' (.mk 9 n 0 noT [ea]) c := by
  obtain ⟨k1, a1, b1, n1, ad1, l1, c1, rfl⟩ := ruC_of ha
  apply slotlaw6_MeanShift_c1_calls
  unfold slotlaw6_MeanShift_c1
  have hS := St.start none0 H
  intro H1
  replace hS : St _ _ H1 _ := St.push hS _
  clear_value H1
  intro H2
  replace hS : St _ _ H2 _ := St.push hS _
  clear_value H2
  refine ⟨_, _, _, _, _, _, _, St.atp (k := 1) hS rfl rfl rfl, ?_⟩
  intro H3
  replace hS : St _ _ H3 _ := St.push hS _
  clear_value H3
  refine ⟨St.may (k := 1) hS rfl rfl (by simp [newA, bA, add_off]), ?_⟩
  intro H4
  replace hS : St _ _ H4 _ := St.put (k := 1) hS rfl rfl _
  clear_value H4
  simp only [setN, splice, newA, bA, add_off, add_block, Nat.add_zero, Nat.zero_add, Nat.reduceAdd] at hS
  refine ⟨_, _, _, _, _, _, _, St.atp (k := 1) hS rfl rfl rfl, ?_⟩
  refine ⟨_, rfl, hS.ext0, ?_⟩
  simp only [ExAt, KidsAt]
  exact ⟨_, _, rfl, ⟨_, _, rfl, St.atp (k := 0) (post := []) hS rfl rfl rfl, ha.grow hS.ext0⟩, trivial⟩
theorem Keep.of_ext0 {L : List (Nat × Nat)} {H0 H H' : Heap} (h : Ext0 H H') : Keep L H0 H H' := ⟨h.size, fun b _ hb _ => h.block b hb fun h => h⟩
/-- Behind an empty row of no room nothing is written: it grows, or nothing comes. -/
theorem append_none {P : Program} {t e sz by_ : Nat} {b : Nat} {news : List Value} {sa : Option Addr} {k kc : Nat} {H : Heap} {K : Value → Heap → Prop} (hI : appB P t e sz by_ = true) (hx : SrcH H sa k sz news)
    (hfit : 2 * k * by_ ≤ 281474976710656) (h63 : ((k : Nat) : Int) ≤ 9223372036854775807)
    (hK : ∀ a' c' H', Ext0 H H' → ((k = 0 ∧ a' = some (bA b) ∧ c' = 0 ∧ H' = H) ∨ ∃ rest, a' = some ⟨H.size, 0, none⟩ ∧ rest.length = (c' - k) * sz ∧ k ≤ c' ∧ H'[H.size]? = some (C (news ++ rest) e) ∧ H.size < H'.size) → K (.slice a' k c') H') :
    RunD P (Builtin.append_ #[t, t] t ⟨[.slice (some (bA b)) 0 0, .slice sa k kc]⟩) H K := by
  unfold appB at hI
  split at hI
  rotate_left
  · cases hI
  rename_i e' i ht hi
  split at hI
  rotate_left
  · cases hI
  rename_i z hz
  simp only [Bool.and_eq_true] at hI
  obtain ⟨⟨⟨b1, b2⟩, b3⟩, b4⟩ := hI
  have b1 := Nat.eq_of_beq_eq_true b1; have hzs := Nat.eq_of_beq_eq_true b2; have b3 := Nat.eq_of_beq_eq_true b3; have b4 := Nat.eq_of_beq_eq_true b4
  subst b1 b3 b4
  intro w d
  have hn := hx.len
  have hp := hx.plain
  have hs : Src P i.size t (.slice sa k kc) k news (wk w H d) := by
    rcases hx with ⟨rfl, rfl, rfl⟩ | ⟨xa, rfl, hat, _, _⟩
    · exact Src.ofNil _ ht kc
    · exact Src.ofSlice _ ht xa k kc news hn (fun j u hj => hat.get hj) hp
  by_cases hroom : 0 + k ≤ 0
  · have hk0 : k = 0 := by omega
    subst hk0
    have hnews : news = [] := List.length_eq_zero_iff.1 (by simpa using hn)
    subst hnews
    have hrun := run_append_room_src (wk w H d) t t t _ i ht hi b 0 0 0 (.slice sa 0 kc) 0 [] hs (by omega) (fun j hj => absurd hj (Nat.not_lt_zero _)) (fun j hj => absurd hj (Nat.not_lt_zero _))
    rw [← Nat.add_zero (0 + 0 * i.size), setCells_wk w b (0 + 0 * i.size) [] 0 H d] at hrun
    exact ⟨_, H, d, hrun, hK (some (bA b)) 0 H (Ext0.refl H) (.inl ⟨rfl, rfl, rfl, rfl⟩)⟩
  · have hold : (Builtin.firstCells i.size 0 (.slice (some (bA b)) 0 0)).run P (wk w H d).drew = .ok ([] : List Value).toArray (wk w H d).drew := run_firstCells_some _ _ _ _ _ _ [] (by simp) fun j v hj => by simp at hj
    have hrun := run_append_grow_src (wk w H d) t t t _ i z ht hi hz (some (bA b)) 0 0 [] hold (.slice sa k kc) k news hs (by omega) (by omega) (Nat.le_trans (Nat.mul_le_mul_right _ (nextslicecap_le (by omega))) (by rw [Nat.zero_add]; exact hfit))
    rw [wk_alloc] at hrun
    have hge := grownCap_ge (wk w H d) (0 + k) 0 e'
    generalize grownCap (wk w H d) (0 + k) 0 e' = g at hrun hge
    simp only [Nat.zero_add, List.nil_append] at hrun hge
    refine ⟨_, _, d + 1, hrun, hK (some ⟨H.size, 0, none⟩) g _ (ext0_push _ _) (.inr ⟨(Builtin.zeroCells z.cells (g - k)).toList, rfl, ?_, hge, ?_, by simp⟩)⟩
    · rw [Array.length_toList, size_zeroCells, hzs]
    · rw [Array.getElem?_push_size]
      congr 2
      apply Array.ext'
      simp
theorem SrcH.grow {H H' : Heap} {sa : Option Addr} {k sz : Nat} {news : List Value} (h : SrcH H sa k sz news) (hx : Ext0 H H') : SrcH H' sa k sz news := by
  rcases h with h | ⟨xa, h1, h2, h3, h4⟩
  · exact .inl h
  · exact .inr ⟨xa, h1, h2.ext0 hx, h3, h4⟩
theorem append_two {P : Program} {t e sz by_ : Nat} {b : Nat} {flat : List Value} {la : Option Addr} {k kc : Nat} {H4 : Heap} {K1 : Value → Heap → Prop} (hI : appB P t e sz by_ = true) (hx : SrcH H4 la k sz flat) (hsz : 0 < sz)
    (hfit : 2 * (k + 1) * by_ ≤ 281474976710656) (h63 : ((k + 1 : Nat) : Int) ≤ 9223372036854775807)
    (hK : ∀ a5 c5 H5, Ext0 H4 H5 → (∀ (H7 : Heap) (xa : Option Addr) (rc : List Value) (K2 : Value → Heap → Prop), Ext0 H5 H7 → SrcH H7 xa 1 sz rc →
      (∀ (a' : Addr) (c' : Nat) (H8 : Heap), Ext (fun b => H4.size ≤ b ∧ b < H5.size) H7 H8 → At H8 a' (flat ++ rc) → K2 (.slice (some a') (k + 1) c') H8) → RunD P (Builtin.append_ #[t, t] t ⟨[.slice a5 k c5, .slice xa 1 1]⟩) H7 K2) → K1 (.slice a5 k c5) H5) :
    RunD P (Builtin.append_ #[t, t] t ⟨[.slice (some (bA b)) 0 0, .slice la k kc]⟩) H4 K1 := by
  refine append_none hI hx (Nat.le_trans (Nat.mul_le_mul_right _ (by omega)) hfit) (by omega) fun a5 c5 H5 hx5 hcase => hK a5 c5 H5 hx5 ?_
  intro H7 xa rc K2 hx7 hsrc hK2
  have hrcl : rc.length = 1 * sz := hsrc.len
  have hby : 2 * 1 * by_ ≤ 2 * (k + 1) * by_ := Nat.mul_le_mul_right _ (by omega)
  rcases hcase with ⟨rfl, rfl, rfl, rfl⟩ | ⟨rest, rfl, hrl, hkc, hb, hlt⟩
  · have hfl : flat = [] := List.length_eq_zero_iff.1 (by simpa using hx.len)
    subst hfl
    refine append_none hI hsrc (by omega) (by omega) fun a' c' H8 hx8 hc => ?_
    rcases hc with ⟨h, _⟩ | ⟨rest, rfl, _, _, hb, _⟩
    · omega
    · refine hK2 _ _ _ ⟨hx8.size, fun b hb _ => hx8.block b hb fun h => h⟩ (At_of_blk hb rfl fun j v hj => ?_)
      rw [List.nil_append] at hj
      show (rc ++ rest)[0 + j]? = _
      rw [Nat.zero_add, List.getElem?_append_left (List.getElem?_eq_some_iff.1 hj).1]
      exact hj
  · have hb7 : H7[H4.size]? = some (C (flat ++ rest) e) := by rw [hx7.block _ hlt fun h => h]; exact hb
    refine append_gen (L := []) hI (St.start1 hb7) (.inr ⟨H4.size, [], rest, [], by simp, rfl, hx.len, hrl, hkc⟩) hsrc hx.plain hfit h63 ?_
    intro a' c' H8 E' hS hr
    rcases RowP.at_ hS hr with h | ⟨p, rfl, hat⟩
    · have := congrArg List.length h
      simp at this
      rw [List.length_eq_zero_iff.2 this.2] at hrcl
      omega
    · exact hK2 _ _ _ ⟨hS.ext.size, fun b hb hM => hS.ext.block b hb fun h => hM (by omega)⟩ hat
theorem St.part {M : Nat → Prop} {H0 H H' : Heap} {L : List (Nat × Obj)} (h : St none0 H0 H L) (hx : Ext M H H') (hM : ∀ b, M b → H0.size ≤ b) (hL : ∀ x ∈ L, ¬ M x.1) : St none0 H0 H' L where
  ext := ⟨Nat.le_trans h.ext.size hx.size, fun b hb h0 => by rw [hx.block b (Nat.lt_of_lt_of_le hb h.ext.size) fun hm => absurd hb (by have := hM b hm; omega)]; exact h.ext.block b hb h0⟩
  own := h.own
  at_ e he := by rw [hx.block _ (lt_of_get (h.at_ e he)) (hL e he)]; exact h.at_ e he
  nd := h.nd
theorem At.left {H : Heap} {a : Addr} {x y : List Value} (h : At H a (x ++ y)) : At H a x := At.mk fun j v hj => h.get (by rw [List.getElem?_append_left (List.getElem?_eq_some_iff.1 hj).1]; exact hj)
theorem At.right {H : Heap} {a : Addr} {x y : List Value} (h : At H a (x ++ y)) : At H (a.add x.length) y := At.mk fun j v hj => by
  rw [Addr.add_add]
  exact h.get (by rw [List.getElem?_append_right (by omega), Nat.add_sub_cancel_left]; exact hj)
theorem At_flat {H : Heap} {sz : Nat} : ∀ (rows : List (List Value)) (p : Addr) (y : List Value), (∀ r ∈ rows, r.length = sz) → At H p (rows.flatten ++ y) → (∀ i r, rows[i]? = some r → At H (p.add (i * sz)) r) ∧ At H (p.add (rows.length * sz)) y
  | [], p, y, _, h => ⟨fun i r hr => by simp at hr, by rw [List.length_nil, Nat.zero_mul]; exact h⟩
  | r :: rows, p, y, hl, h => by
    rw [List.flatten_cons, List.append_assoc] at h
    have hr := hl r (by simp)
    have h2 := h.right
    rw [hr] at h2
    obtain ⟨h3, h4⟩ := At_flat rows _ y (fun r hr => hl r (by simp [hr])) h2
    refine ⟨fun i r' hr' => ?_, ?_⟩
    · cases i with
      | zero =>
        simp only [List.getElem?_cons_zero, Option.some.injEq] at hr'
        subst hr'
        rw [Nat.zero_mul]
        exact h.left
      | succ i =>
        have := h3 i r' (by simpa using hr')
        rwa [Addr.add_add, show sz + i * sz = (i + 1) * sz by rw [Nat.add_mul]; omega] at this
    · rwa [Addr.add_add, show sz + rows.length * sz = (r :: rows).length * sz by rw [List.length_cons, Nat.add_mul]; omega] at h4
/-- Rules and one more. -/
theorem rules_more {H H' : Heap} {l : List Ru} {cs : List (List Value)} (hlen : cs.length = l.length) (hc : ∀ (i : Nat) (r : Ru) (c : List Value), l[i]? = some r → cs[i]? = some c → ∃ c', c = .string r.name :: c' ∧ ExAt H r.e c') (hl6 : ∀ c ∈ cs, c.length = 6) (hx : Ext0 H H') {name : ByteArray} {e : Ex} {c : List Value} (he : ExAt H' e c) {p : Addr} (hat : At H' p (cs.flatten ++ (.string name :: c))) : RulesAt H' (some p) (l ++ [⟨name, e⟩]) := by
  obtain ⟨h1, h2⟩ := At_flat cs p _ hl6 hat
  intro i r hr
  rcases Nat.lt_or_ge i l.length with h | h
  · rw [List.getElem?_append_left h] at hr
    have hci : cs[i]? = some (cs[i]'(by omega)) := by simp [show i < cs.length by omega]
    obtain ⟨c', h3, h4⟩ := hc i r _ hr hci
    refine ⟨p, c', rfl, ?_, h4.grow hx⟩
    rw [← h3]
    exact h1 i _ hci
  · rw [List.getElem?_append_right h] at hr
    have hi : i = l.length := by
      have := (List.getElem?_eq_some_iff.1 hr).1
      simp at this
      omega
    subst hi
    simp at hr
    subst hr
    refine ⟨p, c, rfl, ?_, he⟩
    rw [← hlen]
    exact h2
def zzB : ByteArray := ⟨#[122, 122, 95, 110, 101, 119]⟩
theorem At.other {H H' : Heap} {a : Addr} {l : List Value} (h : At H a l) (hb : H'[a.block]? = H[a.block]?) : At H' a l := At.mk fun j v hj => by
  have := h.get hj
  unfold cellH at this ⊢
  rw [add_block, hb]
  rw [add_block] at this
  exact this
/-- Masks lie in no record of a fault. -/
theorem mask_other {H : Heap} {a : Addr} {m b : Nat} {x y : Int} {T : TypeId} (h : At H a (wordsV m)) (hb : H[b]? = some (C [.int .i64 x, .int .i64 y] T)) : a.block ≠ b := by
  intro heq
  have h0 := h.get (j := 0) (v := .int .u64 (word m 0 : Nat)) (by unfold wordsV; exact wordsOf_cell (by decide))
  unfold cellH at h0
  rw [add_block, heq, hb] at h0
  simp only at h0
  split at h0
  · cases h0
  · match ho : (a.add 0).off with
    | 0 => rw [ho] at h0; simp at h0
    | 1 => rw [ho] at h0; simp at h0
    | k + 2 => rw [ho] at h0; simp at h0
theorem St.fresh2 {H0 H H2 : Heap} {L : List (Nat × Obj)} (h : St none0 H0 H L) (hL : ∀ x ∈ L, x.1 < H2.size) (h02 : H0.size ≤ H2.size) {I : List (Nat × Nat)} {B : List Nat} {b : Nat} {c : List Value} {T : TypeId} (hf : Fresh I B H2 H b c T) : St none0 H0 H ((b, C c T) :: L) := by
  obtain ⟨h1, h2, h3, _, _⟩ := hf
  refine ⟨h.ext, fun e he => ?_, fun e he => ?_, ?_⟩
  · rcases List.mem_cons.1 he with rfl | he
    · exact .inl (Nat.le_trans h02 h1)
    · exact h.own e he
  · rcases List.mem_cons.1 he with rfl | he
    · exact h3
    · exact h.at_ e he
  · rw [List.map_cons, List.nodup_cons]
    refine ⟨fun hm => ?_, h.nd⟩
    obtain ⟨e, he, heq⟩ := List.mem_map.1 hm
    have := hL e he
    omega

theorem of_is {l : List Ru} {ad : Option Addr} {e : Ex} {ce : List Value} {H : Heap} (hl : RulesAt H ad l) (hn : l.length * 80 ≤ 140737488351232) (he : ExAt H e ce) (cap : Nat) (day : Int) : CallsH Try.prog 9 ⟨[.slice ad l.length cap, .agg ⟨ce⟩, .int .i64 day]⟩ H fun r H' => ∃ (m : Nat) (ok : Bool), r = .returned (.tuple ⟨[maskV m, .bool ok]⟩) ∧ Ext0 H H' ∧ (ok = true → ∃ ms, AllOk (l ++ [⟨zzB, e⟩]) day ms ∧ m = ms.getD l.length 0) := by
  obtain ⟨k1, a1, b1, n1, ad1, l1, c1, rfl⟩ := ruC_of he
  apply slotlaw6_of_calls
  unfold slotlaw6_of
  have hS := St.start none0 H
  intro H1
  replace hS : St _ _ H1 _ := St.push hS _
  clear_value H1
  intro H2
  replace hS : St _ _ H2 _ := St.push hS _
  clear_value H2
  refine ⟨_, _, _, _, _, _, _, St.atp (k := 1) hS rfl rfl rfl, ?_⟩
  have hS2 := hS
  obtain ⟨cs, hcl, hcr0, hc6, hsrc0⟩ := rules_src hl
  intro H3 hx3 b11 hf11 H4 hx4
  have hx24 := hx3.trans hx4
  replace hS := hS.grow hx24
  have hsrc := hsrc0.grow hS.ext0
  refine append_two (k := l.length) (kc := cap) (by kernel_rfl : appB Try.prog 22 43 6 80 = true) hsrc (by omega) (by omega) (by omega) ?_
  intro a5 c5 H5 hx5 happ
  refine ⟨_, _, _, rfl, Keep.of_ext0 hx5, rfl, rfl, ?_⟩
  replace hS := hS.grow hx5
  refine ⟨⟨_, _, _, _, _, _, _, St.atp (k := 1) hS rfl rfl rfl, rfl⟩, ?_⟩
  intro H6 hx6 b16 hf16 H7 hx7
  have hx57 := hx6.trans hx7
  replace hS := hS.grow hx57
  obtain ⟨hb1, hb2, hb3, _, _⟩ := hf16
  have hb7 := (hx7.block _ hb2 fun h => h).trans hb3
  have hat16 : At H7 (bA b16) (.string zzB :: exC k1 a1 b1 n1 ad1 l1 c1) := At_of_blk hb7 rfl fun j v hj => by
    show _[0 + j]? = _
    rw [Nat.zero_add]; exact hj
  refine happ H7 (some (bA b16)) (.string zzB :: exC k1 a1 b1 n1 ad1 l1 c1) _ hx57 (.inr ⟨_, rfl, hat16, rfl, by simp [plainL, exC, Value.oneCell']⟩) ?_
  intro a' c' H8 hx8 hat
  have hlt : ∀ b, b < H2.size → ¬ (H4.size ≤ b ∧ b < H5.size) := fun b hb h => by have := hx24.size; omega
  have h02 : H.size ≤ H2.size := hS2.ext.size
  have hS7 := hS
  replace hS := hS.part hx8 (fun b hb => by have := hx24.size; omega) (fun x hx => hlt _ (by
    have := lt_of_get (hS2.at_ x hx)
    exact this))
  refine ⟨_, _, _, rfl, ⟨hx8.size, fun b h1 h2 h3 => hx8.block b h2 fun h => by have := h3.1; omega⟩, rfl, ?_⟩
  intro H9 hx9
  replace hS := hS.grow hx9
  have hru : RulesAt H9 (some a') (l ++ [⟨zzB, e⟩]) := (rules_more (H := H) hcl (fun i r c h1 h2 => hcr0 i r c h1 h2) hc6 hS.ext0 (he.grow hS.ext0) (hat.ext0 hx9))
  have hl1 : l.length + 1 = (l ++ [(⟨zzB, e⟩ : Ru)]).length := by simp
  rw [hl1]
  refine (All_is hru day).call (fun v H10 hr => ?_) (fun ch H6 hr5 => by obtain ⟨_, _, _, hr5, _⟩ := hr5; cases hr5) (fun H6 hr5 => by obtain ⟨_, _, _, hr5, _⟩ := hr5; cases hr5)
  obtain ⟨ma, mc, ms, hv, hx10, hrow, hok, _⟩ := hr
  simp only [Ending.returned.injEq] at hv
  subst hv
  refine ⟨_, _, _, _, _, rfl, Keep.of_ext0 hx10, ?_⟩
  replace hS := hS.grow hx10
  intro H11 hx11 b9 hf9
  replace hS := (hS.grow hx11).fresh2 (fun x hx => lt_of_get (hS2.at_ x hx)) h02 hf9
  replace hrow := hrow.grow hx11
  generalize hae : allErr (l ++ [⟨zzB, e⟩]) day = er at hok
  obtain ⟨er0, er1⟩ := er
  have hb9 := hS.obj (k := 0) rfl
  refine ⟨St.may (k := 0) hS rfl rfl (by simp [newA, bA, add_off]), ?_⟩
  have hput := (St.put (a := bA b9) (k := 0) (St.start1 hb9) rfl rfl [.int .i64 er0, .int .i64 er1]).ext
  intro H12
  replace hput : Ext (· = b9) H11 H12 := hput
  replace hS : St _ _ H12 _ := St.put (k := 0) hS rfl rfl _
  clear_value H12
  simp only [setN, splice, newA, bA, add_off, add_block, Nat.add_zero, Nat.zero_add, Nat.reduceAdd] at hS
  refine ⟨_, St.cell (k := 0) hS rfl rfl rfl, ?_⟩
  refine ifB_mk (fun hc => ?_) (fun hc => ?_)
  · refine okL_ints (by simp) ?_
    refine ⟨St.may (k := 1) hS rfl rfl (by simp [newA, bA, add_off]), ?_⟩
    intro H13
    replace hS : St _ _ H13 _ := St.put (k := 1) hS rfl rfl _
    clear_value H13
    simp only [setN, splice, newA, bA, add_off, add_block, Nat.add_zero, Nat.zero_add, Nat.reduceAdd] at hS
    rw [splice_all (by simp)] at hS
    refine ⟨List.replicate 23 0, by simp, St.atAll (k := 1) hS rfl rfl rfl, ?_⟩
    refine ⟨0, false, ?_, hS.ext0, fun h => by cases h⟩
    rw [maskV, wordsOf_zero]
  · have h0 : er0 = 0 := by simpa using hc
    subst h0
    have hok := hok rfl
    have hmsl : ms.length = l.length + 1 := by rw [hok.len]; simp
    have hget : ms[l.length]? = some (ms.getD l.length 0) := by
      rw [List.getD_eq_getElem?_getD]
      simp [hmsl]
    generalize ms.getD l.length 0 = m at hget
    obtain ⟨p, rfl, hpt⟩ := mem_wordsV hrow hget
    refine ⟨by omega, by omega, p, rfl, wordsOf m, wordsOf_length _, ?_, okL_ints (wordsOf_length _) ?_⟩
    · rw [Int.toNat_natCast]
      refine hpt.other (hput.block _ ?_ (mask_other hpt hb9))
      have := hpt.get (j := 0) (v := .int .u64 (word m 0 : Nat)) (by unfold wordsV; exact wordsOf_cell (by decide))
      unfold cellH at this
      rw [add_block] at this
      cases h : H11[(p.add (l.length * 23)).block]? with
      | none => rw [h] at this; cases this
      | some o => exact lt_of_get h
    refine ⟨St.may (k := 1) hS rfl rfl (by simp [newA, bA, add_off]), ?_⟩
    intro H14
    replace hS : St _ _ H14 _ := St.put (k := 1) hS rfl rfl _
    clear_value H14
    simp only [setN, splice, newA, bA, add_off, add_block, Nat.add_zero, Nat.zero_add, Nat.reduceAdd] at hS
    rw [splice_all (by simp [wordsOf_length])] at hS
    refine ⟨wordsOf m, wordsOf_length _, St.atAll (k := 1) hS rfl rfl rfl, ?_⟩
    exact ⟨m, true, rfl, hS.ext0, fun _ => ⟨ms, hok, by rw [List.getD_eq_getElem?_getD, hget]; rfl⟩⟩
end Go.Vc
set_option linter.unusedVariables false
set_option linter.unusedSimpArgs false
set_option maxRecDepth 100000
namespace Go.Vc
open Go.Proofs

/-! slotref5.Speaks, slotref5.Ints -/
def spkB (name : ByteArray) (e : Ex) : Bool := (nmEx e).any fun n => decide (n = name)
theorem spkB_iff {name : ByteArray} {e : Ex} : spkB name e = true ↔ name ∈ nmEx e := by simp [spkB]
theorem spkB_not {name : ByteArray} {e : Ex} (h : name ∉ nmEx e) : spkB name e = false := by
  cases hb : spkB name e with
  | true => exact absurd (spkB_iff.1 hb) h
  | false => rfl
def SpkC (name : ByteArray) (e : Ex) : Prop := okEx e → ∀ (H : Heap) (c : List Value), ExAt H e c → CallsH Try.prog 16 ⟨[.agg ⟨c⟩, .string name]⟩ H fun r H' => r = .returned (.bool (spkB name e)) ∧ Ext0 H H'
theorem mem_nmKids {name : ByteArray} : ∀ {kids : List Ex}, name ∈ nmKids kids ↔ ∃ e ∈ kids, name ∈ nmEx e
  | [] => by simp [nmKids]
  | e :: r => by simp [nmKids, mem_nmKids (kids := r)]
theorem spk_step {name : ByteArray} {k a b : Int} {n : ByteArray} {kids : List Ex} (ih : ∀ e ∈ kids, SpkC name e) : SpkC name (.mk k a b n kids) := by
  intro hok H c hex
  simp only [ExAt] at hex
  simp only [okEx] at hok
  have hk2 := kidsF_le k
  obtain ⟨ka, cap, rfl, hkids⟩ := hex
  apply slotref5_Speaks_calls
  unfold slotref5_Speaks
  have hS := St.start none0 H
  intro H1
  replace hS : St _ _ H1 _ := St.push hS _
  clear_value H1
  refine ⟨_, St.cell (k := 0) hS rfl rfl rfl, ?_⟩
  refine ifB_mk (fun h1 => ?_) (fun h1 => ?_)
  · have h1 : k = 10 := by simpa using h1
    refine ⟨_, St.cell (k := 0) hS rfl rfl rfl, ?_⟩
    refine ⟨?_, hS.ext0⟩
    rw [bytes_eq]
    have : spkB name (.mk k a b n kids) = decide (n = name) := by simp only [spkB, nmEx]; rw [if_pos h1]; simp
    rw [this]
  · have h1 : ¬ k = 10 := by simpa using h1
    have hn : nmEx (.mk k a b n kids) = nmKids kids := by simp only [nmEx]; rw [if_neg h1]
    refine ⟨_, _, _, St.cell (k := 0) hS rfl rfl rfl, ?_⟩
    refine ⟨fun x H' => ∃ j : Nat, x = j ∧ j ≤ kids.length ∧ Ext0 H H' ∧ ∀ e ∈ kids.take j, name ∉ nmEx e, fun x _ => (kids.length - x : Int).toNat, ⟨0, rfl, Nat.zero_le _, hS.ext0, by simp⟩, ?_⟩
    rintro x H2 ⟨j, rfl, hj, hx2, hno⟩
    refine ifB_mk (fun hc => ?_) (fun hc => ?_)
    · have hc : j < kids.length := by simp at hc; omega
      have hk : kids[j]? = some kids[j] := by simp [hc]
      obtain ⟨p, c, hp, hpa, hpe⟩ := hkids.get hk
      subst hp
      rw [Nat.zero_add] at hpa
      obtain ⟨ek, ea, eb, en, ead, elen, ecap, rfl⟩ := ruC_of hpe
      refine ⟨by omega, by omega, p, rfl, _, _, _, _, _, _, _, by rw [Int.toNat_natCast]; exact hpa.ext0 hx2, ?_⟩
      have hS2 := St.start none0 H2
      intro H3
      replace hS2 : St _ _ H3 _ := St.push hS2 _
      clear_value H3
      refine ⟨St.may (k := 0) hS2 rfl rfl (by simp [newA, bA, add_off]), ?_⟩
      intro H4
      replace hS2 : St _ _ H4 _ := St.put (k := 0) hS2 rfl rfl _
      clear_value H4
      simp only [setN, splice, newA, bA, add_off, add_block, Nat.add_zero, Nat.zero_add, Nat.reduceAdd] at hS2
      refine ⟨_, _, _, _, _, _, _, St.atp (k := 0) (post := []) hS2 rfl rfl rfl, ?_⟩
      refine (ih kids[j] (List.getElem_mem hc) (okKids_mem hok.2.2.2.2 (List.getElem_mem hc)) H4 _ (hpe.grow (hx2.trans hS2.ext0))).call (fun v H5 hr => ?_) (fun ch H6 hr5 => by obtain ⟨hr5, _⟩ := hr5; cases hr5) (fun H6 hr5 => by obtain ⟨hr5, _⟩ := hr5; cases hr5)
      obtain ⟨hv, hx5⟩ := hr
      simp only [Ending.returned.injEq] at hv
      subst hv
      have hx := hx2.trans (hS2.ext0.trans hx5)
      refine ⟨_, rfl, ifB_mk (fun h => ?_) (fun h => ?_)⟩
      · have h := spkB_iff.1 h
        refine ⟨?_, hx⟩
        rw [spkB_iff.2 (by rw [hn]; exact mem_nmKids.2 ⟨_, List.getElem_mem hc, h⟩)]
      · have h : name ∉ nmEx kids[j] := fun hm => by rw [spkB_iff.2 hm] at h; cases h
        refine ⟨⟨j + 1, by rw [i64_id (by omega) (by omega)]; omega, hc, hx, fun e he => ?_⟩, ?_⟩
        · rw [List.take_add_one, hk] at he
          rcases List.mem_append.1 he with he | he
          · exact hno e he
          · simp at he; rw [he]; exact h
        · show Int.toNat _ < Int.toNat _
          rw [i64_id (by omega) (by omega)]
          omega
    · have hc : j = kids.length := by simp at hc; omega
      subst hc
      rw [List.take_length] at hno
      refine ⟨?_, hx2⟩
      rw [spkB_not fun h => by rw [hn] at h; obtain ⟨e, he, h⟩ := mem_nmKids.1 h; exact hno e he h]
mutual
theorem spk_ex (name : ByteArray) : ∀ e : Ex, SpkC name e
  | .mk k a b n kids => spk_step (spk_kids name kids)
theorem spk_kids (name : ByteArray) : ∀ l : List Ex, ∀ e ∈ l, SpkC name e
  | [], e, h => by cases h
  | x :: r, e, h => by
    rcases List.mem_cons.1 h with h | h
    · rw [h]; exact spk_ex name x
    · exact spk_kids name r e h
end
theorem Speaks_is {e : Ex} {c : List Value} {H : Heap} (hok : okEx e) (he : ExAt H e c) (name : ByteArray) : CallsE Try.prog 16 ⟨[.agg ⟨c⟩, .string name]⟩ H (.bool (spkB name e)) := fun H1 hx => spk_ex name e hok H1 c (he.grow hx)
theorem Ints_is {a b : List Int} {aa ba : Option Addr} {H : Heap} (ha : IntsAt H aa a) (hb : IntsAt H ba b) (hla : a.length ≤ 4611686018427387904) (hlb : b.length ≤ 4611686018427387904) (ac bc : Nat) : CallsQ Try.prog 18 ⟨[.slice aa a.length ac, .slice ba b.length bc]⟩ H (.bool (decide (a = b))) := by
  apply slotref5_Ints_calls
  unfold slotref5_Ints
  refine ifB_mk (fun h => ?_) (fun h => ?_)
  · have h : a.length ≠ b.length := by simp at h; omega
    refine ⟨?_, rfl⟩
    rw [decide_eq_false fun e => h (by rw [e])]
  have h : a.length = b.length := by simp at h; omega
  refine ⟨fun x H' => H' = H ∧ ∃ k : Nat, x = k ∧ k ≤ a.length ∧ a.take k = b.take k, fun x _ => ((a.length : Int) - x).toNat, ⟨rfl, 0, rfl, Nat.zero_le _, by simp⟩, ?_⟩
  rintro x H1 ⟨rfl, k, rfl, hk, htk⟩
  refine ifB_mk (fun hc => ?_) (fun hc => ?_)
  · have hc : k < a.length := by simp at hc; omega
    have hcb : k < b.length := by omega
    rcases ha with ha | ⟨p, rfl, hpa⟩
    · rw [ha] at hc; simp at hc
    rcases hb with hb | ⟨q, rfl, hqb⟩
    · rw [hb] at hcb; simp at hcb
    refine ⟨by omega, by omega, p, rfl, a[k], ?_, by omega, by omega, q, rfl, b[k], ?_, ifB_mk (fun he => ?_) (fun he => ?_)⟩
    · rw [Int.toNat_natCast, Nat.mul_one]; exact hpa.get (by simp [hc])
    · rw [Int.toNat_natCast, Nat.mul_one]; exact hqb.get (by simp [hcb])
    · have he : a[k] ≠ b[k] := by simpa using he
      refine ⟨?_, rfl⟩
      rw [decide_eq_false fun e => he (by subst e; rfl)]
    · have he : a[k] = b[k] := by simpa using he
      refine ⟨⟨rfl, k + 1, by rw [i64_id (by omega) (by omega)]; omega, hc, ?_⟩, ?_⟩
      · rw [List.take_add_one, List.take_add_one, htk]
        simp [hc, hcb, he]
      · show Int.toNat _ < Int.toNat _
        rw [i64_id (by omega) (by omega)]
        omega
  · have hc : k = a.length := by simp at hc; omega
    subst hc
    rw [List.take_length, h, List.take_length] at htk
    refine ⟨?_, rfl⟩
    rw [decide_eq_true htk]
end Go.Vc
