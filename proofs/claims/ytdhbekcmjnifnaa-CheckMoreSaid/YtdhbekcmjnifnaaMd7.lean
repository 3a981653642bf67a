/- CheckMore is proved: a rule more that nobody speaks of, of a new name, and that speaks of none, leaves rules as they were; for every input, with no condition. This text is a part of the way there. -/
import Derived.Test.YtdhbekcmjnifnaaMd6
import Derived.Recover
import Derived.KernelRfl
set_option linter.unusedVariables false
set_option linter.unusedSimpArgs false
set_option maxRecDepth 100000
namespace Go.Vc
open Go.Proofs

/-! the parser: guards, things, and all of it -/
def daysL : List ByteArray := [⟨#[109, 111, 110]⟩, ⟨#[116, 117, 101]⟩, ⟨#[119, 101, 100]⟩, ⟨#[116, 104, 117]⟩, ⟨#[102, 114, 105]⟩, ⟨#[115, 97, 116]⟩, ⟨#[115, 117, 110]⟩]
theorem days_is (H : Heap) : CallsH Try.prog 106 ⟨[]⟩ H fun e H' => ∃ a : Addr, e = .returned (.slice (some a) 7 7) ∧ Ext0 H H' ∧ RowAt H' (some a) 1 (daysL.map strC) ∧ a.block = H.size ∧ a.block < H'.size := by
  apply parse_days_calls
  unfold parse_days
  have hS := St.start none0 H
  intro H1
  replace hS : St _ _ H1 _ := St.push hS _
  clear_value H1
  exact ⟨newA H, rfl, hS.ext0, row1 (T := 9) (hS.obj (k := 0) rfl) rfl rfl, rfl, lt_of_get (hS.obj (k := 0) rfl)⟩
section
variable (toks : List Tok) (en : Int)
def weekLoop : Nat → Int → Nat → Nat → PR Int
  | 0, _, i, _ => failF toks en 2 i
  | m + 1, set, i, nd => bindP (takeF toks en 2 i nd) fun t i' nd =>
      if idxG t.t daysL 0 < 0 then failF toks en 2 i
      else if isF toks 3 ⟨#[44]⟩ i' = true then weekLoop m (bOr .i64 set (IntKind.i64.wrap (1 * 2 ^ (min (Int.toNat (idxG t.t daysL 0)) 64)))) (i' + 1) nd
      else .ok (bOr .i64 set (IntKind.i64.wrap (1 * 2 ^ (min (Int.toNat (idxG t.t daysL 0)) 64))), i', nd)
def weeklyG (fac : Nat → Nat → PR Ex) (i nd : Nat) : PR Ex := bindP (weekLoop toks en toks.length 0 i nd) fun set i nd => bindP (mustF toks en ⟨#[58]⟩ i nd) fun _ i nd => bindP (fac i nd) fun e i nd => nodeF toks en (.mk 4 set 0 noT [e]) i nd
def datesT (fac : Nat → Nat → PR Ex) (a b : Int) (i nd : Nat) : PR Ex := bindP (mustF toks en ⟨#[58]⟩ i nd) fun _ i nd => bindP (fac i nd) fun e i nd => nodeF toks en (.mk 5 a b noT [e]) i nd
def datesG (fac : Nat → Nat → PR Ex) (i nd : Nat) : PR Ex := bindP (takeF toks en 5 i nd) fun a i nd =>
  if isF toks 3 ⟨#[46, 46]⟩ i = true then bindP (takeF toks en 5 (i + 1) nd) fun b i' nd => if b.n < a.n then failF toks en 3 (i + 1) else datesT toks en fac a.n b.n i' nd
  else datesT toks en fac a.n a.n i nd
def thingT (expr fac : Nat → Nat → PR Ex) (i nd : Nat) : PR Ex :=
  if isF toks 3 ⟨#[40]⟩ i = true then bindP (expr (i + 1) nd) fun e i nd => bindP (mustF toks en ⟨#[41]⟩ i nd) fun _ i nd => .ok (e, i, nd)
  else if isF toks 2 ⟨#[110, 101, 118, 101, 114]⟩ i = true then nodeF toks en (.mk 1 0 0 noT []) (i + 1) nd
  else if isF toks 2 ⟨#[97, 108, 119, 97, 121, 115]⟩ i = true then nodeF toks en (.mk 2 0 0 noT []) (i + 1) nd
  else if isF toks 2 ⟨#[119, 101, 101, 107, 108, 121]⟩ i = true then weeklyG toks en fac (i + 1) nd
  else if isF toks 2 ⟨#[100, 97, 116, 101, 115]⟩ i = true then datesG toks en fac (i + 1) nd
  else if kindF toks 1 i = true then bindP (takeF toks en 1 i nd) fun t i nd => nodeF toks en (.mk 10 0 0 t.t []) i nd
  else bindP (takeF toks en 4 i nd) fun a i nd => bindP (mustF toks en ⟨#[45]⟩ i nd) fun _ i nd => bindP (takeF toks en 4 i nd) fun b i' nd => if b.n ≤ a.n then failF toks en 3 i else nodeF toks en (.mk 3 a.n b.n noT []) i' nd
def thingR : Nat → Nat → Nat → PR Ex
  | 0, i, _ => failF toks en 4 i
  | r + 1, i, nd => thingT toks en (exprG toks en (termG toks en (factorG toks en (thingR r)))) (factorG toks en (thingR r)) i nd
def factorR (r : Nat) (i nd : Nat) : PR Ex := factorG toks en (thingR toks en r) i nd
def exprR (r : Nat) (i nd : Nat) : PR Ex := exprG toks en (termG toks en (factorG toks en (thingR toks en r))) i nd
end
section
variable {la : Option Addr} {lc : Nat} {toks : List Tok} {en : Int} {pb : Nat} {H H0 : Heap} {i nd k : Nat} {L : List (Nat × Obj)}
theorem idx_range (v : ByteArray) : ∀ (ws : List ByteArray) (k : Nat), -1 ≤ idxG v ws k ∧ idxG v ws k < k + ws.length ∧ (0 ≤ idxG v ws k ∨ idxG v ws k = -1)
  | [], k => by simp [idxG]; omega
  | w :: r, k => by
    simp only [idxG, List.length_cons]
    split
    · omega
    · have := idx_range v r (k + 1); omega
set_option maxHeartbeats 1000000 in
theorem weekly_is {deep : Int} {fac : Nat → Nat → PR Ex} (hd : 0 ≤ deep ∧ deep ≤ 100) (hF : Con la lc toks en pb 95 (deep + 1) fac) : Con la lc toks en pb 104 deep (weeklyG toks en fac) := by
  intro H i nd h hn
  generalize hg : weeklyG toks en fac i nd = r
  apply parse_parser_weekly_calls
  unfold parse_parser_weekly
  have hS := St.start1 h.blk
  have hl := h.hl; have hi := h.hi
  intro H1
  replace hS : St _ _ H1 _ := St.push hS _
  clear_value H1
  refine ⟨fun set H' => ∃ i' m, St (· = pb) H H' [(H.size, C (exC 0 0 0 noT none 0 0) 25), (pb, psO la toks.length lc en i' nd)] ∧ toks.length ≤ i' + m ∧ i ≤ i' ∧ i' ≤ toks.length ∧ bindP (weekLoop toks en m set i' nd) (fun set i nd => bindP (mustF toks en ⟨#[58]⟩ i nd) fun _ i nd => bindP (fac i nd) fun e i nd => nodeF toks en (.mk 4 set 0 noT [e]) i nd) = r,
    fun _ H' => leftH pb toks.length H', ⟨i, toks.length, hS, by omega, Nat.le_refl _, hi, hg⟩, ?_⟩
  clear hg hS
  rintro set H2 ⟨i', m, hS, hm, hi', hil, hg⟩
  have hleft := left_of (k := 1) toks.length hS rfl
  refine ⟨_, St.cell (k := 1) hS rfl rfl rfl, ?_⟩
  refine (days_is H2).call (fun v H3 hr => ?_) (fun c H5 hr => by obtain ⟨a, hr, _⟩ := hr; cases hr) (fun H5 hr => by obtain ⟨a, hr, _⟩ := hr; cases hr)
  obtain ⟨a, hv, hx, hrow, hab, hal⟩ := hr
  simp only [Ending.returned.injEq] at hv
  subst hv
  refine ⟨_, _, _, rfl, ?_⟩
  have hpb : pb < H2.size := lt_of_get (hS.obj (k := 1) rfl)
  replace hS := hS.grow hx
  refine pcall (take_is (h.go (k := 1) hS rfl hil) hn 2) (fun x2 i2 nd2 F2 v H4 he hT hv hi3 hi4 hn2 => ?_) (fun er a H4 he hx => ?_)
  rotate_left
  · cases m with
    | zero =>
      have : toks[i']? = none := by simp; omega
      rw [takeF, this] at he
      simp only [failF, Except.error.injEq] at he
      rw [show weekLoop toks en 0 set i' nd = Except.error (er, a) by simp only [weekLoop, failF]; rw [he]] at hg
      subst hg
      exact ⟨rfl, hS.ext_call (k := 1) rfl rfl hx⟩
    | succ m =>
      simp only [weekLoop] at hg
      rw [he] at hg
      subst hg
      exact ⟨rfl, hS.ext_call (k := 1) rfl rfl hx⟩
  have hv : v = .agg ⟨x2.c⟩ := hv
  subst hv
  obtain ⟨t, ht, rfl, rfl, hlt⟩ : ∃ t, toks[i']? = some t ∧ t = x2 ∧ i2 = i' + 1 ∧ nd2 = nd := by
    rw [takeF] at he
    split at he
    · rename_i t ht
      split at he
      · simp only [Except.ok.injEq, Prod.mk.injEq] at he
        exact ⟨t, ht, he.1, he.2.1.symm, he.2.2.symm⟩
      · cases he
    · cases he
  subst hlt
  have hlt : i' < toks.length := by
    rcases Nat.lt_or_ge i' toks.length with h1 | h1
    · exact h1
    · rw [List.getElem?_eq_none h1] at ht; cases ht
  obtain ⟨m, rfl⟩ : ∃ m', m = m' + 1 := ⟨m - 1, by omega⟩
  simp only [weekLoop] at hg
  rw [he] at hg
  simp only [bindP_ok] at hg
  have hrow4 : RowAt H4 (some a) 1 (daysL.map strC) := hrow.ext hT.ext fun p hp => by
    cases hp
    show ¬ a.block = pb
    omega
  replace hS := St.call (k := 1) hS rfl hT
  simp only [setN, List.cons_append, List.nil_append, List.append_nil] at hS
  refine ⟨_, _, _, _, rfl, (Index_str (ws := daysL) (by decide) hrow4 7 _).go ⟨_, rfl, ?_⟩⟩
  have hidx := idx_range t.t daysL 0
  refine ifB_mk (fun hc => ?_) (fun hc => ?_)
  · have hc : idxG t.t daysL 0 < 0 := of_decide_eq_true hc
    rw [if_pos hc] at hg
    subst hg
    refine ⟨St.may (k := 1) hS rfl rfl (by simp [newA, bA, add_off]), ?_⟩
    intro H6
    replace hS : St _ _ H6 _ := St.put (k := 1) hS rfl rfl _
    clear_value H6
    simp only [setN, splice, newA, bA, add_off, add_block, Nat.add_zero, Nat.zero_add, Nat.reduceAdd] at hS
    refine fail_go (h.go (k := 1) hS rfl hil) 2 ?_
    exact ⟨rfl, hS.ext⟩
  · have hc : ¬ idxG t.t daysL 0 < 0 := of_decide_eq_false hc
    rw [if_neg hc] at hg
    unfold parse_parser_weekly_k1
    refine ⟨by omega, ?_⟩
    refine eat_go (h.go (k := 1) hS rfl hi4) 3 _ (fun hb hlt2 H9 hT => ⟨_, rfl, ifB_mk (fun hc => by cases hc) (fun _ => ?_)⟩) (fun hb H9 hT => ⟨_, rfl, ifB_mk (fun _ => ?_) (fun hc => by cases hc)⟩)
    · rw [if_pos hb] at hg
      replace hS := St.call (k := 1) hS rfl hT
      simp only [setN, List.cons_append, List.nil_append, List.append_nil] at hS
      refine ⟨⟨i' + 1 + 1, m, hS.sub ((List.prefix_append [_, _] F2).sublist), by omega, by omega, by omega, hg⟩, ?_⟩
      show leftH pb toks.length _ < leftH pb toks.length _
      rw [hleft, left_of (k := 1) toks.length hS rfl]
      omega
    · rw [if_neg (by rw [hb]; simp)] at hg
      simp only [bindP_ok] at hg
      replace hS := St.call (k := 1) hS rfl hT
      simp only [setN, List.cons_append, List.nil_append, List.append_nil] at hS
      refine pcall (must_is (h.go (k := 1) hS rfl hi4) hn _) (fun x3 i3 nd3 F3 v H10 he hT hv hi5 hi6 hn3 => ?_) (fun er a H10 he hx => ?_)
      rotate_left
      · rw [he] at hg
        subst hg
        exact ⟨rfl, hS.ext_call (k := 1) rfl rfl hx⟩
      rw [he] at hg
      simp only [bindP_ok] at hg
      replace hS := St.call (k := 1) hS rfl hT
      simp only [setN, List.cons_append, List.nil_append, List.append_nil] at hS
      rw [i64_id (by omega) (by omega)]
      refine pcall (hF H10 i3 nd3 (h.go (k := 1) hS rfl hi6) hn3) (fun x4 i4 nd4 F4 v H11 he hT hv hi7 hi8 hn4 => ?_) (fun er a H11 he hx => ?_)
      rotate_left
      · rw [he] at hg
        subst hg
        exact ⟨rfl, hS.ext_call (k := 1) rfl rfl hx⟩
      rw [he] at hg
      simp only [bindP_ok] at hg
      obtain ⟨kd2, a2, b2, n2, ad2, kl2, cap2, rfl, hex2⟩ := hv
      refine ⟨_, _, _, _, _, _, _, rfl, ?_⟩
      replace hS := St.call (k := 1) hS rfl hT
      simp only [setN, List.cons_append, List.nil_append, List.append_nil] at hS
      intro H12
      replace hS : St _ _ H12 _ := St.push hS _
      clear_value H12
      refine node_go (h.go (k := 2) hS rfl hi8) hn4 (.mk 4 (bOr .i64 set (IntKind.i64.wrap (1 * 2 ^ (min (Int.toNat (idxG t.t daysL 0)) 64)))) 0 noT [x4]) (fun H13 he hn3 hT => ⟨_, _, _, _, _, _, _, rfl, ?_⟩) (fun er a H13 he hx => ?_)
      rotate_left
      · rw [he] at hg
        subst hg
        exact ⟨rfl, hS.ext_call (k := 2) rfl rfl hx⟩
      rw [he] at hg
      subst hg
      replace hS := St.call (k := 2) hS rfl hT
      simp only [setN, List.cons_append, List.nil_append, List.append_nil] at hS
      refine ⟨St.may (k := 1) hS rfl rfl (by simp [newA, bA, add_off]), ?_⟩
      intro H14
      replace hS : St _ _ H14 _ := St.put (k := 1) hS rfl rfl _
      clear_value H14
      simp only [setN, splice, newA, bA, add_off, add_block, Nat.add_zero, Nat.zero_add, Nat.reduceAdd] at hS
      refine ⟨_, _, _, _, _, _, _, St.atp (k := 1) hS rfl rfl rfl, ?_⟩
      refine ⟨(H11.size, C (exC kd2 a2 b2 n2 ad2 kl2 cap2) 25) :: (F2 ++ F3 ++ F4), _, rfl, ?_, ⟨_, _, _, _, _, _, _, rfl, (hex2.one (T := 25) _ _ _ _ _).more ?_⟩, by omega, hi8, hn3⟩
      · exact (hS.sub ((List.Sublist.cons _ (List.Sublist.refl _)).cons_cons _)).perm (List.perm_middle (l₁ := [_]) (a := (H11.size, _)) (l₂ := F2 ++ F3 ++ F4)).symm
      · intro y hy
        rcases List.mem_cons.1 hy with rfl | hy
        · simp
        · simp [hy]
set_option maxHeartbeats 1000000 in
theorem dates_is {deep : Int} {fac : Nat → Nat → PR Ex} (hd : 0 ≤ deep ∧ deep ≤ 100) (hF : Con la lc toks en pb 95 (deep + 1) fac) : Con la lc toks en pb 105 deep (datesG toks en fac) := by
  intro H i nd h hn
  generalize hg : datesG toks en fac i nd = r
  apply parse_parser_dates_calls
  unfold parse_parser_dates
  have hS := St.start1 h.blk
  have hl := h.hl; have hi := h.hi
  intro H1
  replace hS : St _ _ H1 _ := St.push hS _
  clear_value H1
  refine pcall (take_is (h.go (k := 1) hS rfl hi) hn 5) (fun x2 i2 nd2 F2 v H2 he hT hv hi3 hi4 hn2 => ?_) (fun er a H4 he hx => ?_)
  rotate_left
  · rw [datesG, he] at hg
    subst hg
    exact ⟨rfl, hS.ext_call (k := 1) rfl rfl hx⟩
  have hv : v = .agg ⟨x2.c⟩ := hv
  subst hv
  rw [datesG, he] at hg
  simp only [bindP_ok] at hg
  replace hS := St.call (k := 1) hS rfl hT
  simp only [setN, List.cons_append, List.nil_append, List.append_nil] at hS
  refine ⟨_, _, _, _, rfl, ?_⟩
  have key : ∀ (b : Int) (j nd2 : Nat) (F : List (Nat × Obj)) (H7 : Heap), i ≤ j → j ≤ toks.length → nd2 ≤ 600 → St (· = pb) H H7 ((H.size, C (exC 0 0 0 noT none 0 0) 25) :: (pb, psO la toks.length lc en j nd2) :: F) → datesT toks en fac x2.n b j nd2 = r →
      parse_parser_dates_k1 (bA pb) deep H x2.n b H7 (pPost la lc toks en pb VEx H i r) := by
    clear hg hS hT
    intro b j nd2 F H7 hj1 hj2 hn2 hS hg
    unfold parse_parser_dates_k1
    refine pcall (must_is (h.go (k := 1) hS rfl hj2) hn2 _) (fun x3 i3 nd3 F3 v H10 he hT hv hi5 hi6 hn3 => ?_) (fun er a H10 he hx => ?_)
    rotate_left
    · rw [datesT, he] at hg
      subst hg
      exact ⟨rfl, hS.ext_call (k := 1) rfl rfl hx⟩
    rw [datesT, he] at hg
    simp only [bindP_ok] at hg
    replace hS := St.call (k := 1) hS rfl hT
    simp only [setN, List.cons_append, List.nil_append, List.append_nil] at hS
    rw [i64_id (by omega) (by omega)]
    refine pcall (hF H10 i3 nd3 (h.go (k := 1) hS rfl hi6) hn3) (fun x4 i4 nd4 F4 v H11 he hT hv hi7 hi8 hn4 => ?_) (fun er a H11 he hx => ?_)
    rotate_left
    · rw [he] at hg
      subst hg
      exact ⟨rfl, hS.ext_call (k := 1) rfl rfl hx⟩
    rw [he] at hg
    simp only [bindP_ok] at hg
    obtain ⟨kd2, a2, b2, n2, ad2, kl2, cap2, rfl, hex2⟩ := hv
    refine ⟨_, _, _, _, _, _, _, rfl, ?_⟩
    replace hS := St.call (k := 1) hS rfl hT
    simp only [setN, List.cons_append, List.nil_append, List.append_nil] at hS
    intro H12
    replace hS : St _ _ H12 _ := St.push hS _
    clear_value H12
    refine node_go (h.go (k := 2) hS rfl hi8) hn4 (.mk 5 x2.n b noT [x4]) (fun H13 he hn3 hT => ⟨_, _, _, _, _, _, _, rfl, ?_⟩) (fun er a H13 he hx => ?_)
    rotate_left
    · rw [he] at hg
      subst hg
      exact ⟨rfl, hS.ext_call (k := 2) rfl rfl hx⟩
    rw [he] at hg
    subst hg
    replace hS := St.call (k := 2) hS rfl hT
    simp only [setN, List.cons_append, List.nil_append, List.append_nil] at hS
    refine ⟨St.may (k := 1) hS rfl rfl (by simp [newA, bA, add_off]), ?_⟩
    intro H14
    replace hS : St _ _ H14 _ := St.put (k := 1) hS rfl rfl _
    clear_value H14
    simp only [setN, splice, newA, bA, add_off, add_block, Nat.add_zero, Nat.zero_add, Nat.reduceAdd] at hS
    refine ⟨_, _, _, _, _, _, _, St.atp (k := 1) hS rfl rfl rfl, ?_⟩
    refine ⟨(H11.size, C (exC kd2 a2 b2 n2 ad2 kl2 cap2) 25) :: (F ++ F3 ++ F4), _, rfl, ?_, ⟨_, _, _, _, _, _, _, rfl, (hex2.one (T := 25) _ _ _ _ _).more ?_⟩, by omega, hi8, hn3⟩
    · exact (hS.sub ((List.Sublist.cons _ (List.Sublist.refl _)).cons_cons _)).perm (List.perm_middle (l₁ := [_]) (a := (H11.size, _)) (l₂ := F ++ F3 ++ F4)).symm
    · intro y hy
      rcases List.mem_cons.1 hy with rfl | hy
      · simp
      · simp [hy]
  refine eat_go (h.go (k := 1) hS rfl hi4) 3 _ (fun hb hlt2 H9 hT => ⟨_, rfl, ifB_mk (fun _ => ?_) (fun hc => by cases hc)⟩) (fun hb H9 hT => ⟨_, rfl, ifB_mk (fun hc => by cases hc) (fun _ => ?_)⟩)
  · rw [if_pos hb] at hg
    replace hS := St.call (k := 1) hS rfl hT
    simp only [setN, List.cons_append, List.nil_append, List.append_nil] at hS
    refine ⟨_, St.cell (k := 1) hS rfl rfl rfl, ?_⟩
    refine pcall (take_is (h.go (k := 1) hS rfl (by omega)) hn2 5) (fun x3 i3 nd3 F3 v H4 he hT hv hi5 hi6 hn3 => ?_) (fun er a H4 he hx => ?_)
    rotate_left
    · rw [he] at hg
      subst hg
      exact ⟨rfl, hS.ext_call (k := 1) rfl rfl hx⟩
    have hv : v = .agg ⟨x3.c⟩ := hv
    subst hv
    rw [he] at hg
    simp only [bindP_ok] at hg
    refine ⟨_, _, _, _, rfl, ?_⟩
    replace hS := St.call (k := 1) hS rfl hT
    simp only [setN, List.cons_append, List.nil_append, List.append_nil] at hS
    refine ifB_mk (fun hc => ?_) (fun hc => ?_)
    · have hc : x3.n < x2.n := of_decide_eq_true hc
      rw [if_pos hc] at hg
      subst hg
      refine ⟨St.may (k := 1) hS rfl rfl (by simp [newA, bA, add_off]), ?_⟩
      intro H5
      replace hS : St _ _ H5 _ := St.put (k := 1) hS rfl rfl _
      clear_value H5
      simp only [setN, splice, newA, bA, add_off, add_block, Nat.add_zero, Nat.zero_add, Nat.reduceAdd] at hS
      refine fail_go (h.go (k := 1) (i' := i2 + 1) hS rfl (by omega)) 3 ?_
      exact ⟨rfl, hS.ext⟩
    · have hc : ¬ x3.n < x2.n := of_decide_eq_false hc
      rw [if_neg hc] at hg
      exact key x3.n i3 nd3 _ H4 (by omega) hi6 hn3 hS hg
  · rw [if_neg (by rw [hb]; simp)] at hg
    replace hS := St.call (k := 1) hS rfl hT
    simp only [setN, List.cons_append, List.nil_append, List.append_nil] at hS
    exact key x2.n i2 nd2 _ H9 hi3 hi4 hn2 hS hg
theorem take_spec {kd : Int} {x : Tok} {i' nd' : Nat} (h : takeF toks en kd i nd = .ok (x, i', nd')) : toks[i]? = some x ∧ x.k = kd ∧ i' = i + 1 ∧ nd' = nd := by
  rw [takeF] at h
  split at h
  · rename_i t ht
    split at h
    · rename_i hk
      simp only [Except.ok.injEq, Prod.mk.injEq] at h
      exact ⟨by rw [← h.1]; exact ht, by rw [← h.1]; exact hk, h.2.1.symm, h.2.2.symm⟩
    · cases h
  · cases h
set_option maxHeartbeats 2000000 in
theorem thing_is {deep : Int} {expr fac : Nat → Nat → PR Ex} (hd : 0 ≤ deep ∧ deep ≤ 40) (hE : Con la lc toks en pb 61 (deep + 1) expr) (hF : Con la lc toks en pb 95 (deep + 1) fac) :
    Con la lc toks en pb 101 deep (thingT toks en expr fac) := by
  intro H i nd h hn
  generalize hg : thingT toks en expr fac i nd = r
  apply parse_parser_thing_calls
  unfold parse_parser_thing
  have hS := St.start1 h.blk
  have hl := h.hl; have hi := h.hi
  intro H1
  replace hS : St _ _ H1 _ := St.push hS _
  clear_value H1
  refine ifB_mk (fun hc => by simp at hc; omega) (fun _ => ?_)
  unfold parse_parser_thing_k1
  rw [thingT] at hg
  -- a bracket
  refine eat_go (h.go (k := 1) hS rfl hi) 3 _ (fun hb hlt H4 hT => ⟨_, rfl, ifB_mk (fun _ => ?_) (fun hc => by cases hc)⟩) (fun hb H4 hT => ⟨_, rfl, ifB_mk (fun hc => by cases hc) (fun _ => ?_)⟩)
  · rw [if_pos hb] at hg
    replace hS := St.call (k := 1) hS rfl hT
    simp only [setN, List.cons_append, List.nil_append, List.append_nil] at hS
    rw [i64_id (by omega) (by omega)]
    refine pcall (hE H4 (i + 1) nd (h.go (k := 1) hS rfl hlt) hn) (fun x2 i2 nd2 F2 v H5 he hT hv hi3 hi4 hn2 => ?_) (fun er a H5 he hx => ?_)
    rotate_left
    · rw [he] at hg
      subst hg
      exact ⟨rfl, hS.ext_call (k := 1) rfl rfl hx⟩
    rw [he] at hg
    simp only [bindP_ok] at hg
    obtain ⟨kd2, a2, b2, n2, ad2, kl2, cap2, rfl, hex2⟩ := hv
    refine ⟨_, _, _, _, _, _, _, rfl, ?_⟩
    replace hS := St.call (k := 1) hS rfl hT
    simp only [setN, List.cons_append, List.nil_append, List.append_nil] at hS
    intro H6
    replace hS : St _ _ H6 _ := St.push hS _
    clear_value H6
    refine ⟨St.may (k := 0) hS rfl rfl (by simp [newA, bA, add_off]), ?_⟩
    intro H7
    replace hS : St _ _ H7 _ := St.put (k := 0) hS rfl rfl _
    clear_value H7
    simp only [setN, splice, newA, bA, add_off, add_block, Nat.add_zero, Nat.zero_add, Nat.reduceAdd] at hS
    refine pcall (must_is (h.go (k := 2) hS rfl hi4) hn2 _) (fun x3 i3 nd3 F3 v H8 he hT hv hi5 hi6 hn3 => ?_) (fun er a H8 he hx => ?_)
    rotate_left
    · rw [he] at hg
      subst hg
      exact ⟨rfl, hS.ext_call (k := 2) rfl rfl hx⟩
    rw [he] at hg
    simp only [bindP_ok] at hg
    subst hg
    replace hS := St.call (k := 2) hS rfl hT
    simp only [setN, List.cons_append, List.nil_append, List.append_nil] at hS
    refine ⟨_, _, _, _, _, _, _, St.atp (k := 0) hS rfl rfl rfl, ?_⟩
    refine ⟨St.may (k := 1) hS rfl rfl (by simp [newA, bA, add_off]), ?_⟩
    intro H9
    replace hS : St _ _ H9 _ := St.put (k := 1) hS rfl rfl _
    clear_value H9
    simp only [setN, splice, newA, bA, add_off, add_block, Nat.add_zero, Nat.zero_add, Nat.reduceAdd] at hS
    refine ⟨_, _, _, _, _, _, _, St.atp (k := 1) hS rfl rfl rfl, ?_⟩
    refine ⟨F2 ++ F3, _, rfl, hS.sub (((List.Sublist.refl _).cons _).cons _), ⟨_, _, _, _, _, _, _, rfl, hex2.more fun y hy => by simp [hy]⟩, by omega, hi6, hn3⟩
  rw [if_neg (by rw [hb]; simp)] at hg
  clear hb
  replace hS := St.call (k := 1) hS rfl hT
  simp only [setN, List.cons_append, List.nil_append, List.append_nil] at hS
  -- never
  refine eat_go (h.go (k := 1) hS rfl hi) 2 _ (fun hb hlt H12 hT => ⟨_, rfl, ifB_mk (fun _ => ?_) (fun hc => by cases hc)⟩) (fun hb H12 hT => ⟨_, rfl, ifB_mk (fun hc => by cases hc) (fun _ => ?_)⟩)
  · rw [if_pos hb] at hg
    replace hS := St.call (k := 1) hS rfl hT
    simp only [setN, List.cons_append, List.nil_append, List.append_nil] at hS
    refine node_go (h.go (k := 1) hS rfl hlt) hn (.mk 1 0 0 noT []) (fun H13 he hn3 hT => ⟨_, _, _, _, _, _, _, rfl, ?_⟩) (fun er a H13 he hx => ?_)
    rotate_left
    · rw [he] at hg
      subst hg
      exact ⟨rfl, hS.ext_call (k := 1) rfl rfl hx⟩
    rw [he] at hg
    subst hg
    replace hS := St.call (k := 1) hS rfl hT
    simp only [setN, List.cons_append, List.nil_append, List.append_nil] at hS
    refine ⟨St.may (k := 0) hS rfl rfl (by simp [newA, bA, add_off]), ?_⟩
    intro H14
    replace hS : St _ _ H14 _ := St.put (k := 0) hS rfl rfl _
    clear_value H14
    simp only [setN, splice, newA, bA, add_off, add_block, Nat.add_zero, Nat.zero_add, Nat.reduceAdd] at hS
    refine ⟨_, _, _, _, _, _, _, St.atp (k := 0) hS rfl rfl rfl, ?_⟩
    exact ⟨[], _, rfl, hS.sub ((List.Sublist.refl _).cons _), ⟨_, _, _, _, _, _, _, rfl, ExF.leaf _ _ _ _⟩, by omega, hlt, hn3⟩
  rw [if_neg (by rw [hb]; simp)] at hg
  clear hb
  replace hS := St.call (k := 1) hS rfl hT
  simp only [setN, List.cons_append, List.nil_append, List.append_nil] at hS
  -- always
  refine eat_go (h.go (k := 1) hS rfl hi) 2 _ (fun hb hlt H16 hT => ⟨_, rfl, ifB_mk (fun _ => ?_) (fun hc => by cases hc)⟩) (fun hb H16 hT => ⟨_, rfl, ifB_mk (fun hc => by cases hc) (fun _ => ?_)⟩)
  · rw [if_pos hb] at hg
    replace hS := St.call (k := 1) hS rfl hT
    simp only [setN, List.cons_append, List.nil_append, List.append_nil] at hS
    refine node_go (h.go (k := 1) hS rfl hlt) hn (.mk 2 0 0 noT []) (fun H13 he hn3 hT => ⟨_, _, _, _, _, _, _, rfl, ?_⟩) (fun er a H13 he hx => ?_)
    rotate_left
    · rw [he] at hg
      subst hg
      exact ⟨rfl, hS.ext_call (k := 1) rfl rfl hx⟩
    rw [he] at hg
    subst hg
    replace hS := St.call (k := 1) hS rfl hT
    simp only [setN, List.cons_append, List.nil_append, List.append_nil] at hS
    refine ⟨St.may (k := 0) hS rfl rfl (by simp [newA, bA, add_off]), ?_⟩
    intro H14
    replace hS : St _ _ H14 _ := St.put (k := 0) hS rfl rfl _
    clear_value H14
    simp only [setN, splice, newA, bA, add_off, add_block, Nat.add_zero, Nat.zero_add, Nat.reduceAdd] at hS
    refine ⟨_, _, _, _, _, _, _, St.atp (k := 0) hS rfl rfl rfl, ?_⟩
    exact ⟨[], _, rfl, hS.sub ((List.Sublist.refl _).cons _), ⟨_, _, _, _, _, _, _, rfl, ExF.leaf _ _ _ _⟩, by omega, hlt, hn3⟩
  rw [if_neg (by rw [hb]; simp)] at hg
  clear hb
  replace hS := St.call (k := 1) hS rfl hT
  simp only [setN, List.cons_append, List.nil_append, List.append_nil] at hS
  -- weekly
  refine eat_go (h.go (k := 1) hS rfl hi) 2 _ (fun hb hlt H20 hT => ⟨_, rfl, ifB_mk (fun _ => ?_) (fun hc => by cases hc)⟩) (fun hb H20 hT => ⟨_, rfl, ifB_mk (fun hc => by cases hc) (fun _ => ?_)⟩)
  · rw [if_pos hb] at hg
    replace hS := St.call (k := 1) hS rfl hT
    simp only [setN, List.cons_append, List.nil_append, List.append_nil] at hS
    refine pcall (weekly_is (by omega) hF H20 (i + 1) nd (h.go (k := 1) hS rfl hlt) hn) (fun x2 i2 nd2 F2 v H5 he hT hv hi3 hi4 hn2 => ?_) (fun er a H5 he hx => ?_)
    rotate_left
    · rw [he] at hg
      subst hg
      exact ⟨rfl, hS.ext_call (k := 1) rfl rfl hx⟩
    rw [he] at hg
    subst hg
    obtain ⟨kd2, a2, b2, n2, ad2, kl2, cap2, rfl, hex2⟩ := hv
    refine ⟨_, _, _, _, _, _, _, rfl, ?_⟩
    replace hS := St.call (k := 1) hS rfl hT
    simp only [setN, List.cons_append, List.nil_append, List.append_nil] at hS
    refine ⟨St.may (k := 0) hS rfl rfl (by simp [newA, bA, add_off]), ?_⟩
    intro H14
    replace hS : St _ _ H14 _ := St.put (k := 0) hS rfl rfl _
    clear_value H14
    simp only [setN, splice, newA, bA, add_off, add_block, Nat.add_zero, Nat.zero_add, Nat.reduceAdd] at hS
    refine ⟨_, _, _, _, _, _, _, St.atp (k := 0) hS rfl rfl rfl, ?_⟩
    exact ⟨F2, _, rfl, hS.sub ((List.Sublist.refl _).cons _), ⟨_, _, _, _, _, _, _, rfl, hex2⟩, by omega, hi4, hn2⟩
  rw [if_neg (by rw [hb]; simp)] at hg
  clear hb
  replace hS := St.call (k := 1) hS rfl hT
  simp only [setN, List.cons_append, List.nil_append, List.append_nil] at hS
  -- dates
  refine eat_go (h.go (k := 1) hS rfl hi) 2 _ (fun hb hlt H24 hT => ⟨_, rfl, ifB_mk (fun _ => ?_) (fun hc => by cases hc)⟩) (fun hb H24 hT => ⟨_, rfl, ifB_mk (fun hc => by cases hc) (fun _ => ?_)⟩)
  · rw [if_pos hb] at hg
    replace hS := St.call (k := 1) hS rfl hT
    simp only [setN, List.cons_append, List.nil_append, List.append_nil] at hS
    refine pcall (dates_is (by omega) hF H24 (i + 1) nd (h.go (k := 1) hS rfl hlt) hn) (fun x2 i2 nd2 F2 v H5 he hT hv hi3 hi4 hn2 => ?_) (fun er a H5 he hx => ?_)
    rotate_left
    · rw [he] at hg
      subst hg
      exact ⟨rfl, hS.ext_call (k := 1) rfl rfl hx⟩
    rw [he] at hg
    subst hg
    obtain ⟨kd2, a2, b2, n2, ad2, kl2, cap2, rfl, hex2⟩ := hv
    refine ⟨_, _, _, _, _, _, _, rfl, ?_⟩
    replace hS := St.call (k := 1) hS rfl hT
    simp only [setN, List.cons_append, List.nil_append, List.append_nil] at hS
    refine ⟨St.may (k := 0) hS rfl rfl (by simp [newA, bA, add_off]), ?_⟩
    intro H14
    replace hS : St _ _ H14 _ := St.put (k := 0) hS rfl rfl _
    clear_value H14
    simp only [setN, splice, newA, bA, add_off, add_block, Nat.add_zero, Nat.zero_add, Nat.reduceAdd] at hS
    refine ⟨_, _, _, _, _, _, _, St.atp (k := 0) hS rfl rfl rfl, ?_⟩
    exact ⟨F2, _, rfl, hS.sub ((List.Sublist.refl _).cons _), ⟨_, _, _, _, _, _, _, rfl, hex2⟩, by omega, hi4, hn2⟩
  rw [if_neg (by rw [hb]; simp)] at hg
  clear hb
  replace hS := St.call (k := 1) hS rfl hT
  simp only [setN, List.cons_append, List.nil_append, List.append_nil] at hS
  -- a name
  have h24 : PIn la lc toks en pb H24 i nd := h.go (k := 1) hS rfl hi
  refine ⟨_, St.cell (k := 1) hS rfl rfl rfl, ?_⟩
  refine ⟨_, _, _, St.cell (k := 1) hS rfl rfl rfl, ?_⟩
  refine ⟨kindF toks 1 i, ifB_mk (fun hc => ?_) (fun hc => ?_), ifB_mk (fun hb => ?_) (fun hb => ?_)⟩
  · have hc : i < toks.length := by simp at hc; omega
    have ht : toks[i]? = some toks[i] := by simp [hc]
    obtain ⟨p, rfl, hat⟩ := h24.tok ht
    refine ⟨_, _, _, St.cell (k := 1) hS rfl rfl rfl, ?_⟩
    refine ⟨_, St.cell (k := 1) hS rfl rfl rfl, ?_⟩
    refine ⟨by omega, by omega, p, rfl, _, hat.get (j := 0) rfl, ?_, rfl⟩
    rw [kindF, ht]
  · have hc : ¬ i < toks.length := by simp at hc; omega
    rw [kindF, List.getElem?_eq_none (by omega)]
  · rw [if_pos hb] at hg
    refine pcall (take_is h24 hn 1) (fun x2 i2 nd2 F2 v H28 he hT hv hi3 hi4 hn2 => ?_) (fun er a H28 he hx => ?_)
    rotate_left
    · rw [he] at hg
      subst hg
      exact ⟨rfl, hS.ext_call (k := 1) rfl rfl hx⟩
    have hv : v = .agg ⟨x2.c⟩ := hv
    subst hv
    rw [he] at hg
    simp only [bindP_ok] at hg
    refine ⟨_, _, _, _, rfl, ?_⟩
    replace hS := St.call (k := 1) hS rfl hT
    simp only [setN, List.cons_append, List.nil_append, List.append_nil] at hS
    refine node_go (h.go (k := 1) hS rfl hi4) hn2 (.mk 10 0 0 x2.t []) (fun H13 he hn3 hT => ⟨_, _, _, _, _, _, _, rfl, ?_⟩) (fun er a H13 he hx => ?_)
    rotate_left
    · rw [he] at hg
      subst hg
      exact ⟨rfl, hS.ext_call (k := 1) rfl rfl hx⟩
    rw [he] at hg
    subst hg
    replace hS := St.call (k := 1) hS rfl hT
    simp only [setN, List.cons_append, List.nil_append, List.append_nil] at hS
    refine ⟨St.may (k := 0) hS rfl rfl (by simp [newA, bA, add_off]), ?_⟩
    intro H14
    replace hS : St _ _ H14 _ := St.put (k := 0) hS rfl rfl _
    clear_value H14
    simp only [setN, splice, newA, bA, add_off, add_block, Nat.add_zero, Nat.zero_add, Nat.reduceAdd] at hS
    refine ⟨_, _, _, _, _, _, _, St.atp (k := 0) hS rfl rfl rfl, ?_⟩
    exact ⟨F2, _, rfl, hS.sub ((List.Sublist.refl _).cons _), ⟨_, _, _, _, _, _, _, rfl, (ExF.leaf _ _ _ _).more fun y hy => by cases hy⟩, by omega, hi4, hn3⟩
  -- a span
  · rw [if_neg (by rw [hb]; simp)] at hg
    refine pcall (take_is h24 hn 4) (fun x2 i2 nd2 F2 v H33 he hT hv hi3 hi4 hn2 => ?_) (fun er a H28 he hx => ?_)
    rotate_left
    · rw [he] at hg
      subst hg
      exact ⟨rfl, hS.ext_call (k := 1) rfl rfl hx⟩
    have hv : v = .agg ⟨x2.c⟩ := hv
    subst hv
    rw [he] at hg
    simp only [bindP_ok] at hg
    refine ⟨_, _, _, _, rfl, ?_⟩
    replace hS := St.call (k := 1) hS rfl hT
    simp only [setN, List.cons_append, List.nil_append, List.append_nil] at hS
    refine pcall (must_is (h.go (k := 1) hS rfl hi4) hn2 _) (fun x3 i3 nd3 F3 v H34 he hT hv hi5 hi6 hn3 => ?_) (fun er a H8 he hx => ?_)
    rotate_left
    · rw [he] at hg
      subst hg
      exact ⟨rfl, hS.ext_call (k := 1) rfl rfl hx⟩
    rw [he] at hg
    simp only [bindP_ok] at hg
    replace hS := St.call (k := 1) hS rfl hT
    simp only [setN, List.cons_append, List.nil_append, List.append_nil] at hS
    refine ⟨_, St.cell (k := 1) hS rfl rfl rfl, ?_⟩
    refine pcall (take_is (h.go (k := 1) hS rfl hi6) hn3 4) (fun x4 i4 nd4 F4 v H35 he hT hv hi7 hi8 hn4 => ?_) (fun er a H28 he hx => ?_)
    rotate_left
    · rw [he] at hg
      subst hg
      exact ⟨rfl, hS.ext_call (k := 1) rfl rfl hx⟩
    have hv : v = .agg ⟨x4.c⟩ := hv
    subst hv
    rw [he] at hg
    simp only [bindP_ok] at hg
    refine ⟨_, _, _, _, rfl, ?_⟩
    replace hS := St.call (k := 1) hS rfl hT
    simp only [setN, List.cons_append, List.nil_append, List.append_nil] at hS
    refine ifB_mk (fun hc => ?_) (fun hc => ?_)
    · have hc : x4.n ≤ x2.n := of_decide_eq_true hc
      rw [if_pos hc] at hg
      subst hg
      refine ⟨St.may (k := 1) hS rfl rfl (by simp [newA, bA, add_off]), ?_⟩
      intro H36
      replace hS : St _ _ H36 _ := St.put (k := 1) hS rfl rfl _
      clear_value H36
      simp only [setN, splice, newA, bA, add_off, add_block, Nat.add_zero, Nat.zero_add, Nat.reduceAdd] at hS
      refine fail_go (h.go (k := 1) (i' := i3) hS rfl hi6) 3 ?_
      exact ⟨rfl, hS.ext⟩
    · have hc : ¬ x4.n ≤ x2.n := of_decide_eq_false hc
      rw [if_neg hc] at hg
      unfold parse_parser_thing_k2
      refine node_go (h.go (k := 1) hS rfl hi8) hn4 (.mk 3 x2.n x4.n noT []) (fun H13 he hn3 hT => ⟨_, _, _, _, _, _, _, rfl, ?_⟩) (fun er a H13 he hx => ?_)
      rotate_left
      · rw [he] at hg
        subst hg
        exact ⟨rfl, hS.ext_call (k := 1) rfl rfl hx⟩
      rw [he] at hg
      subst hg
      replace hS := St.call (k := 1) hS rfl hT
      simp only [setN, List.cons_append, List.nil_append, List.append_nil] at hS
      refine ⟨St.may (k := 0) hS rfl rfl (by simp [newA, bA, add_off]), ?_⟩
      intro H14
      replace hS : St _ _ H14 _ := St.put (k := 0) hS rfl rfl _
      clear_value H14
      simp only [setN, splice, newA, bA, add_off, add_block, Nat.add_zero, Nat.zero_add, Nat.reduceAdd] at hS
      refine ⟨_, _, _, _, _, _, _, St.atp (k := 0) hS rfl rfl rfl, ?_⟩
      exact ⟨F2 ++ F3 ++ F4, _, rfl, hS.sub ((List.Sublist.refl _).cons _), ⟨_, _, _, _, _, _, _, rfl, (ExF.leaf _ _ _ _).more fun y hy => by cases hy⟩, by omega, hi8, hn3⟩
theorem thing_deep {deep : Int} (hd : deep = 41) : Con la lc toks en pb 101 deep (thingR toks en 0) := by
  intro H i nd h hn
  apply parse_parser_thing_calls
  unfold parse_parser_thing
  have hS := St.start1 h.blk
  intro H1
  replace hS : St _ _ H1 _ := St.push hS _
  clear_value H1
  refine ifB_mk (fun _ => ?_) (fun hc => by simp at hc; omega)
  refine fail_go (h.go (k := 1) hS rfl h.hi) 4 ?_
  exact ⟨rfl, hS.ext⟩
theorem thingR_is : ∀ (r : Nat) (deep : Int), deep + r = 41 → 0 ≤ deep → Con la lc toks en pb 101 deep (thingR toks en r)
  | 0, deep, hd, h0 => thing_deep (by omega)
  | r + 1, deep, hd, h0 => by
    have ih := thingR_is r (deep + 1) (by omega) (by omega)
    have hF := factor_is ih
    exact thing_is (by omega) (expr_is (term_is hF)) hF
theorem exprR_is (r : Nat) (deep : Int) (hd : deep + r = 41) (h0 : 0 ≤ deep) : Con la lc toks en pb 61 deep (exprR toks en r) := expr_is (term_is (factor_is (thingR_is r deep hd h0)))
end
end Go.Vc
set_option linter.unusedVariables false
set_option linter.unusedSimpArgs false
set_option maxRecDepth 100000
namespace Go.Vc
open Go.Proofs

/-! the shaper, and what is wrong with a form -/
def kidsF (k : Int) : Int := if k = 4 ∨ k = 5 ∨ k = 9 then 1 else if k = 6 ∨ k = 7 ∨ k = 8 then 2 else 0
theorem kids_is (k : Int) (H : Heap) : CallsQ Try.prog 54 ⟨[.int .i64 k]⟩ H (.int .i64 (kidsF k)) := by
  apply parse_kids_calls
  unfold parse_kids parse_kids_k1 parse_kids_k2
  have b : ∀ j : Int, (k == j) = decide (k = j) := fun j => by
    by_cases h : k = j
    · simp [h]
    · simp [h]
  simp only [b]
  refine ifB_mk (fun h => ifB_mk (fun _ => ?_) (fun h' => ?_)) (fun h => ifB_mk (fun h2 => ifB_mk (fun _ => ?_) (fun h' => ?_)) (fun h2 => ifB_mk (fun h3 => ?_) (fun h3 => ifB_mk (fun h6 => ifB_mk (fun _ => ?_) (fun h' => ?_)) (fun h6 => ifB_mk (fun h7 => ifB_mk (fun _ => ?_) (fun h' => ?_)) (fun h7 => ifB_mk (fun h8 => ?_) (fun h8 => ?_))))))
  all_goals simp only [decide_eq_true_eq, decide_eq_false_iff_not] at *
  all_goals first
    | contradiction
    | (refine ⟨?_, (by trivial)⟩; simp only [kidsF]; simp_all)
def rangeF (k a b : Int) (n : ByteArray) : Int :=
  if k = 3 then if (a < 0 ∨ b > 1440) ∨ a ≥ b then 3 else 0
  else if k = 4 then if a < 1 ∨ a > 127 then 3 else 0
  else if k = 5 then if (a < 0 ∨ b ≥ 146097) ∨ a > b then 3 else 0
  else if k = 9 then if (a = 0 ∨ a ≤ -1440) ∨ a ≥ 1440 then 3 else 0
  else if k = 10 then if namedF n = true then 0 else 7
  else 0
mutual
def shEx : Ex → Int → Int → Int × Int
  | .mk k a b n kids, deep, nd =>
    if nd + 1 > 600 ∨ deep > 40 then (4, nd + 1)
    else if k < 1 ∨ k > 10 then (1, nd + 1)
    else if (kids.length : Int) ≠ kidsF k then (5, nd + 1)
    else if rangeF k a b n ≠ 0 then (rangeF k a b n, nd + 1)
    else shKids kids (deep + 1) (nd + 1)
def shKids : List Ex → Int → Int → Int × Int
  | [], _, nd => (0, nd)
  | e :: r, deep, nd => if (shEx e deep nd).1 ≠ 0 then shEx e deep nd else shKids r deep (shEx e deep nd).2
end
theorem KidsAt.get {H : Heap} {ad : Option Addr} : ∀ {l : List Ex} {i j : Nat} {e : Ex}, KidsAt H ad i l → l[j]? = some e → ∃ p c, ad = some p ∧ At H (p.add ((i + j) * 5)) c ∧ ExAt H e c
  | e :: r, i, 0, e', h, hj => by
    simp only [KidsAt] at h
    simp only [List.getElem?_cons_zero, Option.some.injEq] at hj
    subst hj
    exact h.1
  | e :: r, i, j + 1, e', h, hj => by
    simp only [KidsAt] at h
    have := KidsAt.get (i := i + 1) (j := j) h.2 (by simpa using hj)
    rw [show i + 1 + j = i + (j + 1) by omega] at this
    exact this
theorem Ext0.over {H0 H H' : Heap} {b : Nat} (h : Ext0 H0 H) (hx : Ext (· = b) H H') (hb : H0.size ≤ b) : Ext0 H0 H' :=
  ⟨Nat.le_trans h.size hx.size, fun b' hb' _ => by rw [hx.block b' (Nat.lt_of_lt_of_le hb' h.size) (by omega)]; exact h.block b' hb' fun h => h⟩
abbrev shO (nd : Int) : Obj := C [.int .i64 nd] 75
def ShC (e : Ex) : Prop := ∀ (H0 H : Heap) (hb : Nat) (a : Addr) (c : List Value) (deep nd : Int), Ext0 H0 H → H0.size ≤ hb → H[hb]? = some (shO nd) → At H0 a c → ExAt H0 e c → 0 ≤ nd → nd ≤ 600 → 0 ≤ deep → deep ≤ 41 →
  CallsH Try.prog 31 ⟨[.pointer (some (bA hb)), .pointer (some a), .int .i64 deep]⟩ H fun e' H' => e' = .returned (.int .i64 (shEx e deep nd).1) ∧ St (· = hb) H H' [(hb, shO (shEx e deep nd).2)] ∧ ((shEx e deep nd).1 = 0 → 0 ≤ (shEx e deep nd).2 ∧ (shEx e deep nd).2 ≤ 600)
theorem sh_step {k a b : Int} {n : ByteArray} {kids : List Ex} (ih : ∀ e ∈ kids, ShC e) : ShC (.mk k a b n kids) := by
  intro H0 H hb ad c deep nd hx0 hbl hob hat hex hn0 hn1 hd0 hd1
  simp only [ExAt] at hex
  obtain ⟨ka, cap, rfl, hkids⟩ := hex
  generalize hr : shEx (.mk k a b n kids) deep nd = r
  simp only [shEx] at hr
  apply parse_shaper_expr_calls
  unfold parse_shaper_expr
  have hS := St.start1 hob
  refine ⟨_, St.cell (k := 0) hS rfl rfl rfl, ?_⟩
  refine ⟨St.may (k := 0) hS rfl rfl (by simp [newA, bA, add_off]), ?_⟩
  intro H1
  replace hS : St _ _ H1 _ := St.put (k := 0) hS rfl rfl _
  clear_value H1
  simp only [setN, splice, newA, bA, add_off, add_block, Nat.add_zero, Nat.zero_add, Nat.reduceAdd] at hS
  rw [i64_id (by omega) (by omega)] at hS
  refine ⟨_, St.cell (k := 0) hS rfl rfl rfl, ?_⟩
  have hx1 : Ext0 H0 H1 := hx0.over hS.ext hbl
  have get : ∀ {H2 : Heap}, Ext0 H1 H2 → ∀ {j : Nat} {v : Value}, (exC k a b n ka kids.length cap)[j]? = some v → cellH H2 (ad.add j) = some v := fun h j v hj => (hx1.trans h).cell (hat.get hj)
  have g0 := Ext0.refl H1
  refine ifB_mk (fun hc => ?_) (fun hc => ?_)
  · have hc : nd + 1 > 600 ∨ deep > 40 := by simpa using hc
    rw [if_pos hc] at hr
    subst hr
    exact ⟨rfl, hS, fun h => by simp at h⟩
  have hc : ¬ (nd + 1 > 600 ∨ deep > 40) := by simpa using hc
  rw [if_neg hc] at hr
  refine ⟨_, get g0 (j := 0) rfl, decide (k < 1) || decide (k > 10), ifB_mk (fun h1 => by rw [h1]; rfl) (fun h1 => ⟨_, get g0 (j := 0) rfl, by rw [h1]; rfl, rfl⟩), ifB_mk (fun h1 => ?_) (fun h1 => ?_)⟩
  · have h1 : k < 1 ∨ k > 10 := by simpa using h1
    rw [if_pos h1] at hr
    subst hr
    exact ⟨rfl, hS, fun h => by simp at h⟩
  have h1 : ¬ (k < 1 ∨ k > 10) := by simpa using h1
  rw [if_neg h1] at hr
  refine ⟨_, _, _, get g0 (j := 4) rfl, _, get g0 (j := 0) rfl, _, CallsQ.e (fun H => kids_is k H) _, fun H2 hx2 => ?_⟩
  replace hS := hS.grow hx2
  refine ifB_mk (fun h2 => ?_) (fun h2 => ?_)
  · have h2 : (kids.length : Int) ≠ kidsF k := by simpa using h2
    rw [if_pos h2] at hr
    subst hr
    exact ⟨rfl, hS, fun h => by simp at h⟩
  have h2 : ¬ (kids.length : Int) ≠ kidsF k := by simpa using h2
  rw [if_neg h2] at hr
  have hkl : kids.length ≤ 2 := by
    have : kidsF k ≤ 2 := by unfold kidsF; repeat' split <;> omega
    omega
  have bad : rangeF k a b n ≠ 0 → ∀ x, rangeF k a b n = x → ∀ H3, St (· = hb) H H3 [(hb, shO (nd + 1))] → (fun e' H' => e' = Ending.returned (.int .i64 r.1) ∧ St (· = hb) H H' [(hb, shO r.2)] ∧ (r.1 = 0 → 0 ≤ r.2 ∧ r.2 ≤ 600)) (.returned (.int .i64 x)) H3 := fun h3 x hx H3 hS => by
    rw [if_pos h3] at hr
    subst hr hx
    exact ⟨rfl, hS, fun h => absurd h h3⟩
  have key : rangeF k a b n = 0 → ∀ H3, Ext0 H2 H3 → parse_shaper_expr_k1 (bA hb) ad deep H3 (fun e' H' => e' = .returned (.int .i64 r.1) ∧ St (· = hb) H H' [(hb, shO r.2)] ∧ (r.1 = 0 → 0 ≤ r.2 ∧ r.2 ≤ 600)) := fun h3 H3 hx3 => by
    rw [if_neg (by simp [h3])] at hr
    replace hS := hS.grow hx3
    unfold parse_shaper_expr_k1
    refine ⟨_, _, _, get (hx2.trans hx3) (j := 4) rfl, fun x H' => ∃ (j : Nat) (ndj : Int), x = j ∧ j ≤ kids.length ∧ St (· = hb) H H' [(hb, shO ndj)] ∧ 0 ≤ ndj ∧ ndj ≤ 600 ∧ shKids (kids.drop j) (deep + 1) ndj = r, fun x _ => (kids.length - x : Int).toNat, ⟨0, nd + 1, rfl, Nat.zero_le _, hS, by omega, by omega, hr⟩, ?_⟩
    rintro x H4 ⟨j, ndj, rfl, hj, hS, hnj0, hnj1, hrj⟩
    have hx4 : Ext0 H0 H4 := hx0.over hS.ext hbl
    refine ifB_mk (fun hc => ?_) (fun hc => ?_)
    · have hc : j < kids.length := by simp at hc; omega
      have hk : kids[j]? = some kids[j] := by simp [hc]
      obtain ⟨p, c, hp, hpa, hpe⟩ := hkids.get hk
      subst hp
      rw [Nat.zero_add] at hpa
      refine ⟨_, _, _, hx4.cell (hat.get (j := 4) rfl), by omega, by omega, p, rfl, ?_⟩
      rw [i64_id (by omega) (by omega), Int.toNat_natCast]
      refine (ih kids[j] (List.getElem_mem hc) H0 H4 hb _ c (deep + 1) ndj hx4 hbl (hS.obj (k := 0) rfl) hpa hpe hnj0 hnj1 (by omega) (by omega)).call (fun v H5 hr5 => ?_) (fun ch H5 hr5 => by obtain ⟨hr5, _⟩ := hr5; cases hr5) (fun H5 hr5 => by obtain ⟨hr5, _⟩ := hr5; cases hr5)
      obtain ⟨hv, hT, hnd⟩ := hr5
      simp only [Ending.returned.injEq] at hv
      subst hv
      rw [List.drop_eq_getElem_cons hc] at hrj
      simp only [shKids] at hrj
      replace hS := St.call (k := 0) hS rfl hT
      simp only [setN, List.cons_append, List.nil_append, List.append_nil] at hS
      refine ⟨_, rfl, ifB_mk (fun h5 => ?_) (fun h5 => ?_)⟩
      · have h5 : (shEx kids[j] (deep + 1) ndj).1 ≠ 0 := by simpa using h5
        rw [if_pos h5] at hrj
        subst hrj
        exact ⟨rfl, hS, hnd⟩
      · have h5 : (shEx kids[j] (deep + 1) ndj).1 = 0 := by simpa using h5
        rw [if_neg (by simp [h5])] at hrj
        refine ⟨⟨j + 1, _, by rw [i64_id (by omega) (by omega)]; omega, hc, hS, (hnd h5).1, (hnd h5).2, hrj⟩, ?_⟩
        show Int.toNat _ < Int.toNat _
        rw [i64_id (by omega) (by omega)]
        omega
    · have hc : ¬ j < kids.length := by simp at hc; omega
      rw [List.drop_eq_nil_of_le (by omega)] at hrj
      simp only [shKids] at hrj
      subst hrj
      exact ⟨rfl, hS, fun _ => ⟨hnj0, hnj1⟩⟩
  have eqb : ∀ j : Int, (k == j) = decide (k = j) := fun j => by
    by_cases h : k = j
    · simp [h]
    · simp [h]
  simp only [eqb]
  refine ⟨_, get hx2 (j := 0) rfl, ?_⟩
  refine ifB_mk (fun h3 => ?_) (fun h3 => ?_)
  · have h3 : k = 3 := of_decide_eq_true h3
    have hR : rangeF k a b n = if (a < 0 ∨ b > 1440) ∨ a ≥ b then 3 else 0 := by rw [rangeF, if_pos h3]
    refine ⟨_, get hx2 (j := 1) rfl, decide (a < 0) || decide (b > 1440), ifB_mk (fun h => by rw [h]; rfl) (fun h => ⟨_, get hx2 (j := 2) rfl, by rw [h]; rfl, (by trivial)⟩), (decide (a < 0) || decide (b > 1440)) || decide (a ≥ b), ifB_mk (fun h => by rw [h]; rfl) (fun h => ⟨_, get hx2 (j := 1) rfl, _, get hx2 (j := 2) rfl, by rw [h]; rfl, (by trivial)⟩), ifB_mk (fun h => ?_) (fun h => ?_)⟩
    · rw [if_pos (by simpa using h)] at hR
      exact bad (by omega) 3 hR _ hS
    · rw [if_neg (by simpa using h)] at hR
      exact key hR _ (Ext0.refl _)
  have h3 : ¬ k = 3 := of_decide_eq_false h3
  refine ifB_mk (fun h4 => ?_) (fun h4 => ?_)
  · have h4 : k = 4 := of_decide_eq_true h4
    have hR : rangeF k a b n = if a < 1 ∨ a > 127 then 3 else 0 := by rw [rangeF, if_neg h3, if_pos h4]
    refine ⟨_, get hx2 (j := 1) rfl, decide (a < 1) || decide (a > 127), ifB_mk (fun h => by rw [h]; rfl) (fun h => ⟨_, get hx2 (j := 1) rfl, by rw [h]; rfl, (by trivial)⟩), ifB_mk (fun h => ?_) (fun h => ?_)⟩
    · rw [if_pos (by simpa using h)] at hR
      exact bad (by omega) 3 hR _ hS
    · rw [if_neg (by simpa using h)] at hR
      exact key hR _ (Ext0.refl _)
  have h4 : ¬ k = 4 := of_decide_eq_false h4
  refine ifB_mk (fun h5 => ?_) (fun h5 => ?_)
  · have h5 : k = 5 := of_decide_eq_true h5
    have hR : rangeF k a b n = if (a < 0 ∨ b ≥ 146097) ∨ a > b then 3 else 0 := by rw [rangeF, if_neg h3, if_neg h4, if_pos h5]
    refine ⟨_, get hx2 (j := 1) rfl, decide (a < 0) || decide (b ≥ 146097), ifB_mk (fun h => by rw [h]; rfl) (fun h => ⟨_, get hx2 (j := 2) rfl, by rw [h]; rfl, (by trivial)⟩), (decide (a < 0) || decide (b ≥ 146097)) || decide (a > b), ifB_mk (fun h => by rw [h]; rfl) (fun h => ⟨_, get hx2 (j := 1) rfl, _, get hx2 (j := 2) rfl, by rw [h]; rfl, (by trivial)⟩), ifB_mk (fun h => ?_) (fun h => ?_)⟩
    · rw [if_pos (by simpa using h)] at hR
      exact bad (by omega) 3 hR _ hS
    · rw [if_neg (by simpa using h)] at hR
      exact key hR _ (Ext0.refl _)
  have h5 : ¬ k = 5 := of_decide_eq_false h5
  refine ifB_mk (fun h9 => ?_) (fun h9 => ?_)
  · have h9 : k = 9 := of_decide_eq_true h9
    have hR : rangeF k a b n = if (a = 0 ∨ a ≤ -1440) ∨ a ≥ 1440 then 3 else 0 := by rw [rangeF, if_neg h3, if_neg h4, if_neg h5, if_pos h9]
    have ea : (a == 0) = decide (a = 0) := by
      by_cases h : a = 0
      · simp [h]
      · simp [h]
    refine ⟨_, get hx2 (j := 1) rfl, ?_⟩
    rw [ea]
    refine ⟨decide (a = 0) || decide (a ≤ -1440), ifB_mk (fun h => by rw [h]; rfl) (fun h => ⟨_, get hx2 (j := 1) rfl, by rw [h]; rfl, (by trivial)⟩), (decide (a = 0) || decide (a ≤ -1440)) || decide (a ≥ 1440), ifB_mk (fun h => by rw [h]; rfl) (fun h => ⟨_, get hx2 (j := 1) rfl, by rw [h]; rfl, (by trivial)⟩), ifB_mk (fun h => ?_) (fun h => ?_)⟩
    · rw [if_pos (by simpa using h)] at hR
      exact bad (by omega) 3 hR _ hS
    · rw [if_neg (by simpa using h)] at hR
      exact key hR _ (Ext0.refl _)
  have h9 : ¬ k = 9 := of_decide_eq_false h9
  refine ifB_mk (fun h10 => ?_) (fun h10 => ?_)
  · have h10 : k = 10 := of_decide_eq_true h10
    have hR : rangeF k a b n = if namedF n = true then 0 else 7 := by rw [rangeF, if_neg h3, if_neg h4, if_neg h5, if_neg h9, if_pos h10]
    refine ⟨_, get hx2 (j := 3) rfl, (Named_is n H2).call fun H7 hx7 => ⟨_, rfl, ifB_mk (fun h => ?_) (fun h => ?_)⟩⟩
    · rw [if_neg (by simpa using h)] at hR
      exact bad (by omega) 7 hR _ (hS.grow hx7)
    · rw [if_pos (by simpa using h)] at hR
      exact key hR _ hx7
  have h10 : ¬ k = 10 := of_decide_eq_false h10
  exact key (by rw [rangeF, if_neg h3, if_neg h4, if_neg h5, if_neg h9, if_neg h10]) _ (Ext0.refl _)
mutual
theorem sh_ex : ∀ e : Ex, ShC e
  | .mk k a b n kids => sh_step (sh_kids kids)
theorem sh_kids : ∀ l : List Ex, ∀ e ∈ l, ShC e
  | [], e, h => by cases h
  | x :: r, e, h => by
    rcases List.mem_cons.1 h with h | h
    · rw [h]; exact sh_ex x
    · exact sh_kids r e h
end
end Go.Vc
namespace Go.Vc

/-! ## 15. Beside a deferred call: what slots hold where a panic leaves -/
def bodyC (fn : Func) : Code := match fn.body with
  | some c => c
  | none => .skip
def preC : Nat → Code → List Code
  | k + 1, .seq a b => a :: preC k b
  | _, _ => []
def sufC : Nat → Code → Code
  | k + 1, .seq _ b => sufC k b
  | _, c => c
def endPost (R : Ending → Heap → Prop) : Post := fun e _ H => match e with
  | .normal => R (.returned (.tuple ⟨[]⟩)) H
  | .ret => R (.returned (.tuple ⟨[]⟩)) H
  | .panic ch => R (.panicked ch) H
  | _ => False
def denL (P : Program) (n : Nat) (ann : Ann) : List Code → (Env → Heap → Prop) → Post → Env → Heap → Prop
  | [], K, _, env, H => K env H
  | c :: cs, K, Q, env, H => den P n ann c (andThen (denL P n ann cs K Q) Q) env H
def noDraw : Code → Bool
  | .region _ _ d => !d
  | .seq a b => noDraw a && noDraw b
  | .cond _ a b => noDraw a && noDraw b
  | .block _ c => noDraw c
  | .loop c => noDraw c
  | _ => true
def HeldA (env0 : Env) (D : List Nat) (a : Act) : Prop := ∀ t v, get env0 t = some v → t ∉ D → a.tmps.getD t undef = v
section
variable {P : Program} {n : Nat} {ann : Ann} {ds : List Deferred} {w0 : World}
theorem Fits.heldA {env : Env} {D : List Nat} {a : Act} (hf : Fits n env ds a) : HeldA env D a := fun t v hv _ => by
  have := hf.at_ t v hv
  simp [this]
theorem HeldA.more {env : Env} {D D' : List Nat} {a : Act} (h : HeldA env D a) (hD : ∀ t, t ∈ D → t ∈ D') : HeldA env D' a := fun t v hv hn => h t v hv fun hm => hn (hD t hm)
theorem HeldA.put {env : Env} {D : List Nat} {a : Act} (h : HeldA env D a) {dst : Option Tmp} (hd : ∀ t, dst = some t → t ∈ D) (v : Value) : HeldA env D (a.put dst v) := fun t u hu hn => by
  have := h t u hu hn
  have hne : dst ≠ some t := fun e => hn (hd t e)
  rw [Array.getD_eq_getD_getElem?] at this ⊢
  rw [put_get, if_neg (fun e => hne e.1), if_neg hne]
  exact this
theorem seq_wpK (hP : NamesOk P) {ops : Array Oper} {Q : Post} {f : Nat} {l : List Oper} {env0 : Env} {D : List Nat} {env : Env} {H : Heap} {a : Act}
    (h : seqD P n ops (opF P fun ch H' => Q (.panic ch) [] H') f [] l (fun env H => Q .normal env H) env H) (hf : Fits n env ds a) (hD : ∀ env', Grew env env' l → Keeps env0 D env') (hl : ∀ o ∈ l, ∀ t, o.dst = some t → t ∈ D) (hA : HeldA env0 D a) :
    ∀ d, wpList P ops (fun e a' w' => up n ds w0 env0 D Q e a' w' ∧ HeldA env0 D a') l a (wk w0 H d) := by
  have := seqD_sound (P := P) (n := n) (all := ops) (F := opF P fun ch H' => Q (.panic ch) [] H') (ds := ds) (L := fun l a H' => (∀ o ∈ l, ∀ t, o.dst = some t → t ∈ D) → HeldA env0 D a → ∀ d, wpList P ops (fun e a' w' => up n ds w0 env0 D Q e a' w' ∧ HeldA env0 D a') l a (wk w0 H' d))
    (fun o r a H' env K hw hf hop hk hl hA d => by
      unfold wpList
      rw [if_pos hw]
      exact .inl (opd_sound hP (fun y _ u hu => hf.ev y u hu) hop (fun v H'' d' hK => hk v H'' hK (fun o ho => hl o (List.mem_cons_of_mem _ ho)) (hA.put (hl o (by simp)) v) d') (fun c H'' d' hX => ⟨⟨[], H'', d', rfl, hf.nil, fun hp => (hp c rfl).elim, hX⟩, hA⟩)))
    (fun o r a H' hw hk hl hA d => by
      unfold wpList
      rw [if_neg (by rw [hw]; simp)]
      exact hk (fun o ho => hl o (List.mem_cons_of_mem _ ho)) (hA.put (hl o (by simp)) _) d)
    (fun o r a H' env v hw hf hp hk hl hA d => by
      unfold wpList
      rw [if_pos hw]
      refine .inl ?_
      unfold Oper.wp
      rw [pev_val hf hp]
      exact hk (fun o ho => hl o (List.mem_cons_of_mem _ ho)) (hA.put (hl o (by simp)) _) d)
    (fun o r a H' c y z t hop hw hc hk hl hA d => by
      unfold wpList
      rw [if_pos hw]
      refine .inl ?_
      unfold Oper.wp
      have : (execOp a.eval o).run P (wk w0 H' d) = .ok (.value (if t then a.eval y else a.eval z)) (wk w0 H' d) := by
        simp only [execOp, hop, hc, asBool, Sem.run_bind, Sem.run_pure, Result.andThen_ok]
      rw [this]
      exact hk (fun o ho => hl o (List.mem_cons_of_mem _ ho)) (hA.put (hl o (by simp)) _) d)
    f [] l (fun env H => Q .normal env H) env H h [] a hf (fun env' a' H' hK hf' hg _ hA d => wpList_nil ⟨⟨env', H', d, rfl, hf', fun _ => hD env' hg, hK⟩, hA⟩)
  simp only [List.append_nil] at this
  exact this hl hA
set_option linter.unusedSectionVars false in
theorem den_soundK (hP : NamesOk P) : ∀ (c : Code) (Q : Post) (env : Env) (H : Heap) (a : Act), noDraw c = true → den P n ann c Q env H → Fits n env ds a → ∀ d, c.wp P (fun e a' w' => up n ds w0 env (dstsC c) Q e a' w' ∧ HeldA env (dstsC c) a') a (wk w0 H d) := by
  intro c
  induction c with
  | skip => intro Q env H a _ h hf d; exact wp_skip ⟨⟨env, H, d, rfl, hf, fun _ => Keeps.refl _ _, h⟩, hf.heldA⟩
  | exit id => intro Q env H a _ h hf d; exact wp_exit ⟨⟨env, H, d, rfl, hf, fun _ => Keeps.refl _ _, h⟩, hf.heldA⟩
  | ret => intro Q env H a _ h hf d; exact wp_ret ⟨⟨env, H, d, rfl, hf, fun _ => Keeps.refl _ _, h⟩, hf.heldA⟩
  | region id ops draw =>
    intro Q env H a hnd h hf d
    cases draw with
    | false => exact wp_region_list (seq_wpK hP h hf (fun env' hg => hg.keeps) (fun o ho t ht => mem_dstsL.2 ⟨o, ho, ht⟩) hf.heldA d)
    | true => cases hnd
  | seq x y ihx ihy =>
    intro Q env H a hnd h hf d
    simp only [noDraw, Bool.and_eq_true] at hnd
    refine wp_seq (wp_mono (ihx _ env H a hnd.1 h hf d) fun e a' w' hq => ?_)
    obtain ⟨⟨env', H', d', rfl, hf', hk, hq⟩, hA⟩ := hq
    cases e with
    | normal =>
      refine wp_mono (ihy Q env' H' a' hnd.2 hq hf' d') fun e2 a2 w2 h2 => ⟨h2.1.weaken (fun env2 h3 => (hk (by simp)).trans h3) fun _ _ _ h => h, fun t v hv hn => ?_⟩
      simp only [dstsC, List.mem_append, not_or] at hn
      exact h2.2 t v (hk (by simp) t v hv hn.1) hn.2
    | panic ch => exact ⟨⟨env', H', d', rfl, hf', fun hp => (hp ch rfl).elim, hq⟩, hA.more fun t ht => List.mem_append_left _ ht⟩
    | _ => exact ⟨⟨env', H', d', rfl, hf', fun hp => (hk hp).more fun t ht => List.mem_append_left _ ht, hq⟩, hA.more fun t ht => List.mem_append_left _ ht⟩
  | cond c x y ihx ihy =>
    intro Q env H a hnd h hf d
    simp only [noDraw, Bool.and_eq_true] at hnd
    obtain ⟨t, ht, h⟩ := onBool_use h
    refine wp_cond_split (hf.ev c _ ht) (fun e => ?_) (fun e => ?_)
    · subst e; exact wp_mono (ihx Q env H a hnd.1 h hf d) fun e2 a2 w2 h2 => ⟨h2.1.weaken (fun env2 h3 => h3.more fun t ht => List.mem_append_left _ ht) fun _ _ _ h => h, h2.2.more fun t ht => List.mem_append_left _ ht⟩
    · subst e; exact wp_mono (ihy Q env H a hnd.2 h hf d) fun e2 a2 w2 h2 => ⟨h2.1.weaken (fun env2 h3 => h3.more fun t ht => List.mem_append_right _ ht) fun _ _ _ h => h, h2.2.more fun t ht => List.mem_append_right _ ht⟩
  | block id c ih =>
    intro Q env H a hnd h hf d
    refine wp_block (wp_mono (ih _ env H a hnd h hf d) fun e a' w' hq => ?_)
    obtain ⟨⟨env', H', d', rfl, hf', hk, hq⟩, hA⟩ := hq
    cases e with
    | exit j =>
      simp only [Exit.inBlock, inBlock] at hq ⊢
      split at hq
      · rename_i hj; rw [if_pos (beqN hj)]; exact ⟨⟨env', H', d', rfl, hf', fun _ => hk (by simp), hq⟩, hA⟩
      · rename_i hj
        rw [if_neg (fun e => by rw [e, show Nat.beq id id = true from Nat.beq_refl id] at hj; cases hj)]
        exact ⟨⟨env', H', d', rfl, hf', fun _ => hk (by simp), hq⟩, hA⟩
    | _ => exact ⟨⟨env', H', d', rfl, hf', hk, hq⟩, hA⟩
  | loop c ih =>
    intro Q env H a hnd0 h hf d
    obtain ⟨L, hL, h⟩ := onSome_use h
    obtain ⟨vs, hvs, I, μ, h0, hall⟩ := onSome_use h
    have hL' : ann.loop (firstReg c) = L ∧ slotsOk (dstsC c) L = true := by
      unfold carried at hL
      split at hL
      · rename_i hs; simp only [Option.some.injEq] at hL; rw [hL] at hs; exact ⟨hL, hs⟩
      · cases hL
    obtain ⟨hin, hnd⟩ := slotsOk_spec hL'.2
    let ts := L.map (·.1)
    let ls := L.map (·.2)
    let e0 := dropE (dstsC c) env
    have he0 : ∀ t v, get e0 t = some v → t ∉ dstsC c ∧ get env t = some v := fun t v h => get_dropE h
    have hnot : ∀ {us : List Value} {t : Nat} {v : Value}, get e0 t = some v → get (zipE ts us e0) t = some v := fun {us t v} hg => by
      rw [zipE_out fun hm => (he0 t v hg).1 (hin t hm)]; exact hg
    let Inv : Act → World → Prop := fun a w => ∃ us H d, w = wk w0 H d ∧ Fits n (zipE ts us e0) ds a ∧ us.length = ts.length ∧ ap2 ls I μ us fun p _ => p H
    let μ' : Act → World → Nat := fun a w => apF (fun _ => 0) ls μ (ts.map fun t => a.tmps.getD t undef) w.heap
    have hkeep : ∀ env', Keeps env (dstsC c) env' → Keeps env (dstsC (.loop c)) env' := fun _ h => h
    refine wp_loop Inv μ' ⟨vs, H, d, rfl, hf.sub (zipE_getsE (fun t v hg => (he0 t v hg).2) hvs), (getsE_spec hf hvs).1, h0⟩ ?_
    rintro a1 w1 ⟨us, H1, d1, rfl, hf1, hlen, hp⟩
    obtain ⟨p, hp1, hp2, _⟩ := ap2_apF (db := fun _ => 0) hp
    have hbody := hp2 hall H1 hp1
    have hus : ts.map (fun t => a1.tmps.getD t undef) = us := (getsE_spec hf1 (getsE_zipE hnd hlen)).2
    refine wp_mono (ih _ _ H1 a1 hnd0 hbody hf1 d1) fun e a2 w2 hq => ?_
    obtain ⟨⟨env2, H2, d2, rfl, hf2, hk2, hq⟩, hA⟩ := hq
    have hz : ∀ t v, get env t = some v → t ∉ dstsC c → get (zipE ts us e0) t = some v := fun t v hg hn => by
      have hg0 : get e0 t = some v := by
        have : ∀ {en : Env}, get en t = some v → get (dropE (dstsC c) en) t = some v := by
          intro en
          induction en with
          | nil => intro h; simp [get] at h
          | cons x r ihr =>
            obtain ⟨s, u⟩ := x
            intro h
            rw [get_cons] at h
            simp only [dropE]
            split at h
            · rename_i e
              rw [e]
              cases hi : inN t (dstsC c) with
              | true => exact (hn (inN_iff.1 hi)).elim
              | false => simp only [get_cons, if_true]; exact h
            · rename_i e
              cases hi : inN s (dstsC c) with
              | true => exact ihr h
              | false => simp only [get_cons, if_neg e]; exact ihr h
        exact this hg
      exact hnot hg0
    have hout : Keeps (zipE ts us e0) (dstsC c) env2 → Keeps env (dstsC c) env2 := fun hk t v hg hn => hk t v (hz t v hg hn) hn
    have hA' : HeldA env (dstsC (.loop c)) a2 := fun t v hg hn => hA t v (hz t v hg hn) hn
    cases e with
    | normal =>
      obtain ⟨vs2, hvs2, hq⟩ := onSome_use hq
      obtain ⟨p', hp', _, hlen2⟩ := ap2_apF (db := fun _ => 0) hq
      have hsub : ∀ t v, get e0 t = some v → get env2 t = some v := fun t v hg => hk2 (by simp) t v (hnot hg) (he0 t v hg).1
      refine ⟨⟨vs2, H2, d2, rfl, hf2.sub (zipE_getsE hsub hvs2), (getsE_spec hf2 hvs2).1, ?_⟩, ?_⟩
      · have hmono : ∀ (ls : List Lk) {F : CurT ls (Heap → Prop)} {G : CurT ls (Heap → Nat)} {vs : List Value} {K K' : (Heap → Prop) → (Heap → Nat) → Prop}, (∀ f g, K f g → K' f g) → ap2 ls F G vs K → ap2 ls F G vs K' := by
          intro ls
          induction ls with
          | nil => intro F G vs K K' hkk h; cases vs <;> first | exact hkk _ _ h | exact h.elim
          | cons l r ihl =>
            intro F G vs K K' hkk h
            cases l <;> first | exact h.elim | skip
            case int k =>
              cases vs with
              | nil => exact h.elim
              | cons v vs =>
                cases v <;> first | exact h.elim | skip
                obtain ⟨hk, h'⟩ := sameK_use h
                subst hk
                simp only [ap2, sameK]
                cases hd : decEq k k with
                | isTrue _ => exact ihl hkk h'
                | isFalse e => exact (e rfl).elim
            case val =>
              cases vs with
              | nil => exact h.elim
              | cons v vs => exact ihl (F := F v) (G := G v) hkk h
            case ptr =>
              cases vs with
              | nil => exact h.elim
              | cons v vs =>
                cases v <;> first | exact h.elim | skip
                rename_i x
                cases x with
                | none => exact h.elim
                | some x => exact ihl hkk h
            all_goals
              cases vs with
              | nil => exact h.elim
              | cons v vs =>
                cases v <;> first | exact h.elim | exact ihl hkk h
        exact hmono ls (fun f g h => h.1) hq
      · show apF _ ls μ (ts.map fun t => a2.tmps.getD t undef) H2 < apF _ ls μ (ts.map fun t => a1.tmps.getD t undef) H1
        rw [hus, (getsE_spec hf2 hvs2).2]
        exact hp'.2
    | panic ch => exact ⟨⟨env2, H2, d2, rfl, hf2, fun hp => (hp ch rfl).elim, hq⟩, hA'⟩
    | _ => exact ⟨⟨env2, H2, d2, rfl, hf2, fun hp => hout (hk2 hp), hq⟩, hA'⟩
  | _ => intro Q env H a hnd h hf d; exact h.elim

/-- A run of pieces ahead of a code. -/
theorem denL_sound (hP : NamesOk P) (hm : P.follows .mixedOrders = true) {K : Env → Heap → Prop} {Q : Post} {X : Code} {Q' : Exit → Act → World → Prop} :
    ∀ (cs : List Code) (env : Env) (H : Heap) (a : Act) (d : Nat), denL P n ann cs K Q env H → Fits n env ds a →
      (∀ env' H' a' d', K env' H' → Fits n env' ds a' → X.wp P Q' a' (wk w0 H' d')) → (∀ e env' H' a' d', e ≠ .normal → Q e env' H' → Fits n env' ds a' → Q' e a' (wk w0 H' d')) → (cs.foldr Code.seq X).wp P Q' a (wk w0 H d)
  | [], env, H, a, d, h, hf, hX, hQ => hX env H a d h hf
  | c :: cs, env, H, a, d, h, hf, hX, hQ => by
    refine wp_seq (wp_mono (den_sound hP hm c _ env H a h hf d) fun e a' w' hq => ?_)
    obtain ⟨env', H', d', rfl, hf', hk, hq⟩ := hq
    cases e with
    | normal => exact denL_sound hP hm cs env' H' a' d' hq hf' hX hQ
    | _ => exact hQ _ env' H' a' d' (by simp) hq hf'
/-- The same, and what slots hold. -/
theorem denL_soundK (hP : NamesOk P) {K : Env → Heap → Prop} {Q : Post} {X : Code} {Q' : Exit → Act → World → Prop} :
    ∀ (cs : List Code) (env : Env) (H : Heap) (a : Act) (d : Nat), cs.all noDraw = true → denL P n ann cs K Q env H → Fits n env ds a →
      (∀ env' H' a' d', K env' H' → Fits n env' ds a' → X.wp P Q' a' (wk w0 H' d')) → (∀ e env' H' a' d', e ≠ .normal → Q e env' H' → Fits n env' ds a' → HeldA env ((cs.map dstsC).flatten) a' → Q' e a' (wk w0 H' d')) → (cs.foldr Code.seq X).wp P Q' a (wk w0 H d)
  | [], env, H, a, d, hnd, h, hf, hX, hQ => hX env H a d h hf
  | c :: cs, env, H, a, d, hnd, h, hf, hX, hQ => by
    simp only [List.all_cons, Bool.and_eq_true] at hnd
    refine wp_seq (wp_mono (den_soundK hP c _ env H a hnd.1 h hf d) fun e a' w' hq => ?_)
    obtain ⟨⟨env', H', d', rfl, hf', hk, hq⟩, hA⟩ := hq
    cases e with
    | normal =>
      refine denL_soundK hP cs env' H' a' d' hnd.2 hq hf' hX fun e env2 H2 a2 d2 he hq2 hf2 hA2 => hQ e env2 H2 a2 d2 he hq2 hf2 fun t v hv hn => ?_
      simp only [List.map_cons, List.flatten_cons, List.mem_append, not_or] at hn
      exact hA2 t v (hk (by simp) t v hv hn.1) hn.2
    | _ => exact hQ _ env' H' a' d' (by simp) hq hf' (hA.more fun t ht => by simp [ht])
theorem wl_val {ops : Array Oper} {Q : Exit → Act → World → Prop} {o : Oper} {rest : List Oper} {a : Act} {w w' : World} {v : Value} (hw : Region.wanted o (yielded ops a.tmps) = true) (hr : (execOp a.eval o).run P w = .ok (.value v) w') (h : wpList P ops Q rest (a.put o.dst v) w') : wpList P ops Q (o :: rest) a w := by
  unfold wpList
  rw [if_pos hw]
  refine .inl ?_
  unfold Oper.wp
  rw [hr]
  exact h
theorem wl_defer {ops : Array Oper} {Q : Exit → Act → World → Prop} {o : Oper} {rest : List Oper} {a : Act} {w w' : World} {df : Deferred} (hw : Region.wanted o (yielded ops a.tmps) = true) (hr : (execOp a.eval o).run P w = .ok (.defer df) w') (h : wpList P ops Q rest ({ a with defers := df :: a.defers }.put o.dst undef) w') : wpList P ops Q (o :: rest) a w := by
  unfold wpList
  rw [if_pos hw]
  refine .inl ?_
  unfold Oper.wp
  rw [hr]
  exact h
end
end Go.Vc
set_option linter.unusedVariables false
set_option maxRecDepth 100000
namespace Go.Vc
open Go.Proofs

def parse_Parse_a (s0 : ByteArray) (H : Heap) (R : Ending → Heap → Prop) (KA : ByteArray → Addr → Addr → Option Addr → Nat → Nat → Heap → Prop) : Prop :=
  let H1 : Heap := H.push (.cells ⟨[(.slice none 0 0)]⟩ 22)
  let H2 : Heap := H1.push (.cells ⟨[(.int .i64 0), (.int .i64 0)]⟩ 39)
  CallsH Try.prog 55 ⟨[(.string s0)]⟩ H2 (onCall (fun rx10 H3 => ∃ (x10_0a : Option Addr) (x10_0n x10_0c : Nat), ∃ x10_1_0 : Int, ∃ x10_1_1 : Int, rx10 = (.tuple ⟨[(.slice x10_0a x10_0n x10_0c), (.agg ⟨[(.int .i64 x10_1_0), (.int .i64 x10_1_1)]⟩)]⟩) ∧ MayPut H3 (newA H1) 2 ∧ let H4 : Heap := putH H3 (newA H1) ([(.int .i64 x10_1_0), (.int .i64 x10_1_1)])
  ∃ x14 : Int, cellH H4 ((newA H1).add 0) = some (.int .i64 x14) ∧ ifB (x14 != 0)
  (∃ x16_0 : Int, ∃ x16_1 : Int, At H4 (newA H1) ([(.int .i64 x16_0), (.int .i64 x16_1)]) ∧ MayPut H4 (newA H) 1 ∧ let H5 : Heap := putH H4 (newA H) ([(.slice none 0 0)])
  (∃ x16r_0 : Int, ∃ x16r_1 : Int, At H5 (newA H1) ([(.int .i64 x16r_0), (.int .i64 x16r_1)]) ∧ ((.agg ⟨[(.int .i64 x16r_0), (.int .i64 x16r_1)]⟩) : Value) = (.agg ⟨[(.int .i64 x16_0), (.int .i64 x16_1)]⟩)) ∧ MayPut H5 (newA H1) 2 ∧ let H6 : Heap := putH H5 (newA H1) ([(.int .i64 x16_0), (.int .i64 x16_1)])
  ∃ (o2a : Option Addr) (o2n o2c : Nat), cellH H6 (newA H) = some (.slice o2a o2n o2c) ∧ ∃ o3_0 : Int, ∃ o3_1 : Int, At H6 (newA H1) ([(.int .i64 o3_0), (.int .i64 o3_1)]) ∧ R (.returned (.tuple ⟨[(.slice o2a o2n o2c), (.agg ⟨[(.int .i64 o3_0), (.int .i64 o3_1)]⟩)]⟩)) H6)
  (KA s0 (newA H) (newA H1) x10_0a x10_0n x10_0c H4)) (fun ch H7 => R (.panicked ch) H7))
def parse_Parse_a_ann : Ann := ⟨lookN (false, 0) [(3, false, 2)], lookN [] [(3, [.s 0, .e 1])], lookN [] []⟩
def kA (KA : ByteArray → Addr → Addr → Option Addr → Nat → Nat → Heap → Prop) (env : Env) (H : Heap) : Prop := match get env 0, get env 2, get env 3, get env 4 with
  | some (.string s), some (.pointer (some p)), some (.pointer (some q)), some (.slice a n c) => KA s p q a n c H
  | _, _, _, _ => False
theorem parse_Parse_a_den (s0 : ByteArray) (H : Heap) (R : Ending → Heap → Prop) (KA : ByteArray → Addr → Addr → Option Addr → Nat → Nat → Heap → Prop) : denL Try.prog Try.f32.ntmps parse_Parse_a_ann (preC 3 (bodyC Try.f32)) (kA KA) (fnPost Try.prog Try.f32.results.toList R) [(0, .string s0)] H = parse_Parse_a s0 H R KA := by kernel_rfl

def kB (KB : Addr → Addr → Heap → Prop) (env : Env) (H : Heap) : Prop := match get env 2, get env 3 with
  | some (.pointer (some p)), some (.pointer (some q)) => KB p q H
  | _, _ => False

def parse_Parse_b_k3 (p2 : Addr) (H : Heap) (I6 : Heap → Prop) (m6 : Heap → Nat) (H2 : Heap) (x41_3 : ByteArray) (H11 : Heap) (H17 : Heap) (R : Ending → Heap → Prop) : Prop :=
  CallsH Try.prog 60 ⟨[(.pointer (some (newA H))), (.string (⟨#[59]⟩ : ByteArray))]⟩ H17 (onCall (fun rx57 H18 => ∃ (x58a : Option Addr) (x58n x58c : Nat), cellH H18 p2 = some (.slice x58a x58n x58c) ∧ ∃ x60_0 : Int, ∃ x60_1 : Int, ∃ x60_2 : Int, ∃ x60_3 : ByteArray, ∃ (x60_4a : Option Addr) (x60_4n x60_4c : Nat), At H18 (newA H11) ([(.int .i64 x60_0), (.int .i64 x60_1), (.int .i64 x60_2), (.string x60_3), (.slice x60_4a x60_4n x60_4c)]) ∧ let H19 : Heap := H18.push (.cells ⟨[(.string x41_3), (.int .i64 x60_0), (.int .i64 x60_1), (.int .i64 x60_2), (.string x60_3), (.slice x60_4a x60_4n x60_4c)]⟩ 43)
  RunD Try.prog (Builtin.append_ #[22, 22] 22 ⟨[(.slice x58a x58n x58c), (.slice (some (newA H18)) 1 1)]⟩) H19 (fun rx63 H20 => ∃ (x63a : Option Addr) (x63n x63c : Nat), rx63 = (.slice x63a x63n x63c) ∧ MayPut H20 p2 1 ∧ let H21 : Heap := putH H20 p2 ([(.slice x63a x63n x63c)])
  (I6  H21 ∧ m6  H21 < m6  H2))) (fun ch H22 => R (.panicked ch) H22))
def parse_Parse_b_k2 (p2 : Addr) (H : Heap) (I6 : Heap → Prop) (m6 : Heap → Nat) (H2 : Heap) (H7 : Heap) (R : Ending → Heap → Prop) : Prop :=
  CallsH Try.prog 59 ⟨[(.pointer (some (newA H))), (.int .i64 1)]⟩ H7 (onCall (fun rx41 H8 => ∃ x41_0 : Int, ∃ x41_1 : Int, ∃ x41_2 : Int, ∃ x41_3 : ByteArray, rx41 = (.agg ⟨[(.int .i64 x41_0), (.int .i64 x41_1), (.int .i64 x41_2), (.string x41_3)]⟩) ∧ CallsH Try.prog 60 ⟨[(.pointer (some (newA H))), (.string (⟨#[61]⟩ : ByteArray))]⟩ H8 (onCall (fun rx44 H9 => MayPut H9 ((newA H).add 3) 1 ∧ let H10 : Heap := putH H9 ((newA H).add 3) ([(.int .i64 0)])
  CallsH Try.prog 61 ⟨[(.pointer (some (newA H))), (.int .i64 1)]⟩ H10 (onCall (fun rx49 H11 => ∃ x49_0 : Int, ∃ x49_1 : Int, ∃ x49_2 : Int, ∃ x49_3 : ByteArray, ∃ (x49_4a : Option Addr) (x49_4n x49_4c : Nat), rx49 = (.agg ⟨[(.int .i64 x49_0), (.int .i64 x49_1), (.int .i64 x49_2), (.string x49_3), (.slice x49_4a x49_4n x49_4c)]⟩) ∧ let H12 : Heap := H11.push (.cells ⟨[(.int .i64 0), (.int .i64 0), (.int .i64 0), (.string (⟨#[]⟩ : ByteArray)), (.slice none 0 0)]⟩ 25)
  MayPut H12 (newA H11) 5 ∧ let H13 : Heap := putH H12 (newA H11) ([(.int .i64 x49_0), (.int .i64 x49_1), (.int .i64 x49_2), (.string x49_3), (.slice x49_4a x49_4n x49_4c)])
  let H14 : Heap := H13.push (.cells ⟨[(.int .i64 0)]⟩ 75)
  CallsH Try.prog 31 ⟨[(.pointer (some (newA H13))), (.pointer (some (newA H11))), (.int .i64 1)]⟩ H14 (onCall (fun rx52 H15 => ∃ x52 : Int, rx52 = (.int .i64 x52) ∧ ifB (x52 != 0)
  (CallsH Try.prog 58 ⟨[(.pointer (some (newA H))), (.int .i64 4)]⟩ H15 (onCall (fun rx55 H16 => parse_Parse_b_k3 p2 H I6 m6 H2 x41_3 H11 H16 R) (fun ch H23 => R (.panicked ch) H23)))
  (parse_Parse_b_k3 p2 H I6 m6 H2 x41_3 H11 H15 R)) (fun ch H24 => R (.panicked ch) H24))) (fun ch H25 => R (.panicked ch) H25))) (fun ch H26 => R (.panicked ch) H26))) (fun ch H27 => R (.panicked ch) H27))
def parse_Parse_b_k1 (p2 : Addr) (H : Heap) (I6 : Heap → Prop) (m6 : Heap → Nat) (H2 : Heap) (H5 : Heap) (R : Ending → Heap → Prop) : Prop :=
  ∃ (x35a : Option Addr) (x35n x35c : Nat), cellH H5 p2 = some (.slice x35a x35n x35c) ∧ ifB ((x35n : Int) == 40)
  (CallsH Try.prog 58 ⟨[(.pointer (some (newA H))), (.int .i64 5)]⟩ H5 (onCall (fun rx39 H6 => parse_Parse_b_k2 p2 H I6 m6 H2 H6 R) (fun ch H28 => R (.panicked ch) H28)))
  (parse_Parse_b_k2 p2 H I6 m6 H2 H5 R)
def parse_Parse_b (s0 : ByteArray) (p2 : Addr) (p3 : Addr) (l4a : Option Addr) (l4n : Nat) (l4c : Nat) (H : Heap) (R : Ending → Heap → Prop) (KB : Addr → Addr → Heap → Prop) : Prop :=
  let H1 : Heap := H.push (.cells ⟨[(.slice l4a l4n l4c), (.int .i64 0), (.int .i64 (s0.size : Int)), (.int .i64 0)]⟩ 107)
  ∃ (I6 : Heap → Prop) (m6 : Heap → Nat), I6  H1 ∧ ∀ (H2 : Heap), I6  H2 → 
  ∃ x26 : Int, cellH H2 ((newA H).add 1) = some (.int .i64 x26) ∧ ifB (decide (x26 < (l4n : Int)))
  (CallsH Try.prog 57 ⟨[(.pointer (some (newA H))), (.int .i64 2), (.string (⟨#[114, 117, 108, 101]⟩ : ByteArray))]⟩ H2 (onCall (fun rx31 H3 => ∃ x31 : Bool, rx31 = (.bool x31) ∧ ifB (!x31)
  (CallsH Try.prog 58 ⟨[(.pointer (some (newA H))), (.int .i64 2)]⟩ H3 (onCall (fun rx34 H4 => parse_Parse_b_k1 p2 H I6 m6 H2 H4 R) (fun ch H29 => R (.panicked ch) H29)))
  (parse_Parse_b_k1 p2 H I6 m6 H2 H3 R)) (fun ch H30 => R (.panicked ch) H30)))
  (KB p2 p3 H2)
def parse_Parse_b_ann : Ann := ⟨lookN (false, 0) [], lookN [] [], lookN [] [(6, [])]⟩
theorem parse_Parse_b_den (s0 : ByteArray) (p2 : Addr) (p3 : Addr) (l4a : Option Addr) (l4n : Nat) (l4c : Nat) (H : Heap) (R : Ending → Heap → Prop) (KB : Addr → Addr → Heap → Prop) : denL Try.prog Try.f32.ntmps parse_Parse_b_ann (preC 2 (sufC 4 (bodyC Try.f32))) (kB KB) (endPost R) [(0, .string s0), (2, .pointer (some p2)), (3, .pointer (some p3)), (4, .slice l4a l4n l4c)] H = parse_Parse_b s0 p2 p3 l4a l4n l4c H R KB := by kernel_rfl

def parse_Parse_d (p2 : Addr) (p3 : Addr) (H : Heap) (R : Ending → Heap → Prop) : Prop :=
  ∃ (x64a : Option Addr) (x64n x64c : Nat), cellH H p2 = some (.slice x64a x64n x64c) ∧ ∃ x65_0 : Int, ∃ x65_1 : Int, At H p3 ([(.int .i64 x65_0), (.int .i64 x65_1)]) ∧ MayPut H p2 1 ∧ let H1 : Heap := putH H p2 ([(.slice x64a x64n x64c)])
  (∃ x65r_0 : Int, ∃ x65r_1 : Int, At H1 p3 ([(.int .i64 x65r_0), (.int .i64 x65r_1)]) ∧ ((.agg ⟨[(.int .i64 x65r_0), (.int .i64 x65r_1)]⟩) : Value) = (.agg ⟨[(.int .i64 x65_0), (.int .i64 x65_1)]⟩)) ∧ MayPut H1 p3 2 ∧ let H2 : Heap := putH H1 p3 ([(.int .i64 x65_0), (.int .i64 x65_1)])
  R (.returned (.tuple ⟨[]⟩)) H2
def parse_Parse_d_ann : Ann := ⟨lookN (false, 0) [(19, false, 3)], lookN [] [(19, [.s 0, .s 1, .e 2])], lookN [] []⟩
theorem parse_Parse_d_den (p2 : Addr) (p3 : Addr) (H : Heap) (R : Ending → Heap → Prop) : den Try.prog Try.f32.ntmps parse_Parse_d_ann (sufC 6 (bodyC Try.f32)) (endPost R) [(2, .pointer (some p2)), (3, .pointer (some p3))] H = parse_Parse_d p2 p3 H R := by kernel_rfl

def caughtC (fn : Func) : Code := match sufC 1 (bodyC fn) with
  | .block _ (.seq _ (.cond _ _ (.seq _ (.cond _ c _)))) => c
  | c => c
def parse_Parse_c (p0 : Addr) (p1 : Addr) (er : Int) (x : Int) (H : Heap) (R : Ending → Heap → Prop) : Prop :=
  let H1 : Heap := H.push (.cells ⟨[(.int .i64 0), (.int .i64 0)]⟩ 104)
  MayPut H1 (newA H) 2 ∧ let H2 : Heap := putH H1 (newA H) ([(.int .i64 er), (.int .i64 x)])
  ∃ x12_0 : Int, ∃ x12_1 : Int, At H2 ((newA H).add 0) ([(.int .i64 x12_0), (.int .i64 x12_1)]) ∧ MayPut H2 p0 1 ∧ let H3 : Heap := putH H2 p0 ([(.slice none 0 0)])
  (∃ x12r_0 : Int, ∃ x12r_1 : Int, At H3 ((newA H).add 0) ([(.int .i64 x12r_0), (.int .i64 x12r_1)]) ∧ ((.agg ⟨[(.int .i64 x12r_0), (.int .i64 x12r_1)]⟩) : Value) = (.agg ⟨[(.int .i64 x12_0), (.int .i64 x12_1)]⟩)) ∧ (((.pointer (some ((newA H).add 0))) : Value) = (.pointer (some ((newA H).add 0)))) ∧ MayPut H3 p1 2 ∧ let H4 : Heap := putH H3 p1 ([(.int .i64 x12_0), (.int .i64 x12_1)])
  R (.returned (.tuple ⟨[]⟩)) H4
def parse_Parse_c_ann : Ann := ⟨lookN (false, 0) [(7, false, 3)], lookN [] [(7, [.s 0, .s 1, .e 2])], lookN [] []⟩
theorem parse_Parse_c_den (p0 : Addr) (p1 : Addr) (er : Int) (x : Int) (H : Heap) (R : Ending → Heap → Prop) : den Try.prog Try.f56.ntmps parse_Parse_c_ann (caughtC Try.f56) (endPost R) [(0, .pointer (some p0)), (1, .pointer (some p1)), (10, .agg ⟨[.int .i64 er, .int .i64 x]⟩)] H = parse_Parse_c p0 p1 er x H R := by kernel_rfl

end Go.Vc
set_option linter.unusedVariables false
set_option linter.unusedSimpArgs false
set_option maxRecDepth 100000
namespace Go.Vc
open Go.Proofs

/-! parse.Parse, but for its edge -/
structure Ru where
  name : ByteArray
  e : Ex
def RulesAt (H : Heap) (ad : Option Addr) (l : List Ru) : Prop := ∀ i r, l[i]? = some r → ∃ p c, ad = some p ∧ At H (p.add (i * 6)) (.string r.name :: c) ∧ ExAt H r.e c
theorem RulesAt.grow {H H' : Heap} {ad : Option Addr} {l : List Ru} (h : RulesAt H ad l) (hx : Ext0 H H') : RulesAt H' ad l := fun i r hr => by
  obtain ⟨p, c, h1, h2, h3⟩ := h i r hr
  exact ⟨p, c, h1, h2.ext0 hx, h3.grow hx⟩
theorem RulesAt.nil {H : Heap} {ad : Option Addr} : RulesAt H ad [] := fun i r hr => by simp at hr
def ruleF (toks : List Tok) (en : Int) (i nd : Nat) : PR Ru := bindP (takeF toks en 1 i nd) fun n i nd => bindP (mustF toks en ⟨#[61]⟩ i nd) fun _ i nd => bindP (exprR toks en 40 i 0) fun e i nd =>
  if (shEx e 1 0).1 ≠ 0 then failF toks en 4 i else bindP (mustF toks en ⟨#[59]⟩ i nd) fun _ i nd => .ok (⟨n.t, e⟩, i, nd)
def parseL (toks : List Tok) (en : Int) : Nat → Nat → Nat → List Ru → Except (Int × Int) (List Ru)
  | 0, _, _, acc => .ok acc
  | m + 1, i, nd, acc => if i < toks.length then
      if isF toks 2 ⟨#[114, 117, 108, 101]⟩ i = true then
        if acc.length = 40 then .error (5, hereF toks en (i + 1))
        else match ruleF toks en (i + 1) nd with
          | .error e => .error e
          | .ok (r, i', nd') => parseL toks en m i' nd' (acc ++ [r])
      else .error (2, hereF toks en i)
    else .ok acc
def parseF (s : ByteArray) : List Ru × Int × Int :=
  if (lexF s).2.1 ≠ 0 then ([], (lexF s).2.1, (lexF s).2.2) else match parseL (lexF s).1 (s.size : Int) (lexF s).1.length 0 0 [] with
  | .error (er, a) => ([], er, a)
  | .ok l => (l, 0, 0)
theorem St.lose {M : Nat → Prop} {H0 H H' : Heap} {L L' : List (Nat × Obj)} {k b : Nat} {o : Obj} (h : St M H0 H L) (hk : nthO L k = some (b, o)) (hx : Ext (· = b) H H') (hs : L'.Sublist L) (hb : ∀ e ∈ L', e.1 ≠ b) : St M H0 H' L' := by
  have hown := h.own _ (St.mem hk)
  refine ⟨⟨Nat.le_trans h.ext.size hx.size, fun b' hb' hM => ?_⟩, fun e he => h.own e (hs.subset he), fun e he => ?_, (hs.map _).nodup h.nd⟩
  · rw [hx.block b' (Nat.lt_of_lt_of_le hb' h.ext.size) ?_]
    · exact h.ext.block b' hb' hM
    · rintro rfl
      rcases hown with h5 | h5
      · exact absurd hb' (by simp only at h5; omega)
      · exact hM h5
  · have := h.at_ e (hs.subset he)
    rw [hx.block _ (lt_of_get this) (hb e he)]; exact this
section
variable {la : Option Addr} {lc : Nat} {toks : List Tok} {en : Int}
abbrev M2 (p2 p3 : Nat) : Nat → Prop := fun b => b = p2 ∨ b = p3
abbrev o2 (a : Option Addr) (n c : Nat) : Obj := C [.slice a n c] 22
abbrev o3 : Obj := C [.int .i64 0, .int .i64 0] 39
def ruC (x : Ru × List Value) : List Value := .string x.1.name :: x.2
/-- Rules that lie in these blocks. -/
def RulesF (G : List (Nat × Obj)) (a : Option Addr) (l : List Ru) : Prop := ∀ H, Held G H → RulesAt H a l
def bPost (toks : List Tok) (en : Int) (p2 p3 : Nat) (Hm : Heap) : Ending → Heap → Prop := fun e H' => match e with
  | .panicked ch => ∃ er x a n c, parseL toks en toks.length 0 0 [] = .error (er, x) ∧ ch = oopsV er x ∧ St (M2 p2 p3) Hm H' [(p3, o3), (p2, o2 a n c)]
  | _ => False
def bKB (toks : List Tok) (en : Int) (p2 p3 : Nat) (Hm : Heap) (p q : Addr) (H' : Heap) : Prop := p = bA p2 ∧ q = bA p3 ∧ ∃ rs a c G, parseL toks en toks.length 0 0 [] = .ok rs ∧ St (M2 p2 p3) Hm H' ((p3, o3) :: (p2, o2 a rs.length c) :: G) ∧ RulesF G a rs
theorem RowE.rules {E F : List (Nat × Obj)} {a : Option Addr} {n c : Nat} {rs : List (Ru × List Value)} {T : TypeId} (hr : RowE E a n c 6 (rs.map ruC).flatten T) (hrs : ∀ x ∈ rs, ExF F x.1.e x.2) : RulesF (F ++ E) a (rs.map (·.1)) := by
  intro H hh j r hj
  rw [List.getElem?_map] at hj
  obtain ⟨x, hx, rfl⟩ := Option.map_eq_some_iff.1 hj
  have hF : Held F H := fun y hy => hh y (by simp [hy])
  have hl : ∀ r ∈ rs.map ruC, r.length = 6 := fun r hr => by
    obtain ⟨y, hy, rfl⟩ := List.mem_map.1 hr
    simp [ruC, ((hrs y hy) H hF).len]
  have hrow : RowAt H a 6 (rs.map ruC) := by
    rcases hr with ⟨_, _, _, _, h0⟩ | ⟨b, rest, rfl, rfl, _, _, _⟩
    · have : (ruC x) ∈ rs.map ruC := List.mem_map_of_mem (List.mem_of_getElem? hx)
      have h1 : Value.string x.1.name ∈ (rs.map ruC).flatten := List.mem_flatten.2 ⟨_, this, by simp [ruC]⟩
      rw [h0] at h1
      simp at h1
    · exact row_blk (a := bA b) (T := T) (rest := rest) (hh (b, C ((rs.map ruC).flatten ++ rest) T) (by simp)) rfl rfl hl
  obtain ⟨p, hp, hat⟩ := hrow j (ruC x) (by rw [List.getElem?_map, hx]; rfl)
  exact ⟨p, x.2, hp, hat, hrs x (List.mem_of_getElem? hx) H hF⟩
set_option maxHeartbeats 2000000 in
theorem Parse_b_is {s : ByteArray} {p2 p3 : Nat} {Hm : Heap} (h2 : Hm[p2]? = some (o2 none 0 0)) (h3 : Hm[p3]? = some o3) (h23 : p3 ≠ p2) (hrow : RowAt Hm la 4 (toks.map Tok.c)) (hla : ∀ p, la = some p → p.block < Hm.size ∧ p.block ≠ p2 ∧ p.block ≠ p3) (hl : toks.length ≤ 6000) :
    parse_Parse_b s (bA p2) (bA p3) la toks.length lc Hm (bPost toks (s.size : Int) p2 p3 Hm) (bKB toks (s.size : Int) p2 p3 Hm) := by
  unfold parse_Parse_b
  have hS : St (M2 p2 p3) Hm Hm [(p3, o3), (p2, o2 none 0 0)] := ⟨Ext.refl _ _, by simp [M2], by simp [h2, h3], by simp [h23]⟩
  have hp2 := lt_of_get h2
  have hp3 := lt_of_get h3
  generalize hpb : Hm.size = pb at *
  have hn2 : p2 ≠ pb := by omega
  have hn3 : p3 ≠ pb := by omega
  have hP : ∀ {H' : Heap} {L : List (Nat × Obj)} {k i nd : Nat}, St (M2 p2 p3) Hm H' L → nthO L k = some (pb, psO la toks.length lc (s.size : Int) i nd) → i ≤ toks.length → PIn la lc toks (s.size : Int) pb H' i nd := fun {H' L k i nd} hS hk hi =>
    ⟨hS.obj hk, hrow.ext hS.ext fun p hp hm => by have := hla p hp; rcases hm with h | h <;> omega, fun p hp => by have := hla p hp; omega, hi, hl⟩
  have hlose : ∀ {H1 H' : Heap} {L : List (Nat × Obj)} {k : Nat} {o : Obj} {a : Option Addr} {n c : Nat}, St (M2 p2 p3) Hm H1 L → nthO L k = some (pb, o) → Ext (· = pb) H1 H' → [(p3, o3), (p2, o2 a n c)].Sublist L → St (M2 p2 p3) Hm H' [(p3, o3), (p2, o2 a n c)] := fun hS hk hx hs =>
    hS.lose hk hx hs fun e he => by
      simp only [List.mem_cons, List.not_mem_nil, or_false] at he
      rcases he with rfl | rfl
      · exact hn3
      · exact hn2
  have ebA : newA Hm = bA pb := by rw [← hpb]; rfl
  have hsz : Hm.size = pb := hpb
  intro H1
  replace hS : St _ _ H1 _ := St.push hS _
  clear_value H1
  rw [hsz] at hS
  rw [ebA]
  refine ⟨fun H' => ∃ F E a n c i nd m, ∃ rs : List (Ru × List Value), St (M2 p2 p3) Hm H' ([(pb, psO la toks.length lc (s.size : Int) i nd), (p3, o3), (p2, o2 a n c)] ++ F ++ E) ∧ RowE E a n c 6 (rs.map ruC).flatten 43 ∧ (∀ x ∈ rs, ExF F x.1.e x.2) ∧ n = rs.length ∧ n ≤ 40 ∧ toks.length ≤ i + m ∧ i ≤ toks.length ∧ nd ≤ 600 ∧ parseL toks (s.size : Int) m i nd (rs.map (·.1)) = parseL toks (s.size : Int) toks.length 0 0 [],
    fun H' => leftH pb toks.length H', ⟨[], [], none, 0, 0, 0, 0, toks.length, [], hS, RowE.nil, by simp, rfl, by omega, by omega, by omega, by omega, rfl⟩, ?_⟩
  clear hS
  rintro H2 ⟨F, E, a, n, c, i, nd, m, rs, hS, hr, hrs, hnl, hn40, hm, hi, hnd, hg⟩
  simp only [List.cons_append, List.nil_append] at hS
  have hleft := left_of (k := 0) toks.length hS rfl
  generalize hG : parseL toks (s.size : Int) toks.length 0 0 [] = G at hg
  have hsub2 : ∀ {o : Obj} {F' : List (Nat × Obj)}, [(p3, o3), (p2, o2 a n c)].Sublist ((pb, o) :: (p3, o3) :: (p2, o2 a n c) :: F') := fun {o F'} => ((List.prefix_append [(p3, o3), (p2, o2 a n c)] F').sublist).cons _
  refine ⟨_, St.cell (k := 0) hS rfl rfl rfl, ?_⟩
  refine ifB_mk (fun hc => ?_) (fun hc => ?_)
  rotate_left
  · have hc : ¬ i < toks.length := by simp at hc; omega
    have hg2 : G = .ok (rs.map (·.1)) := by
      rw [← hg]
      cases m with
      | zero => rfl
      | succ m => simp only [parseL, if_neg hc]
    refine ⟨rfl, rfl, rs.map (·.1), a, c, F ++ E, hG.trans hg2, ?_, hr.rules hrs⟩
    rw [List.length_map, ← hnl]
    exact hS.sub (List.Sublist.cons _ (List.Sublist.refl _))
  have hc : i < toks.length := by simp at hc; omega
  obtain ⟨m, rfl⟩ : ∃ m', m = m' + 1 := ⟨m - 1, by omega⟩
  simp only [parseL] at hg
  rw [if_pos hc] at hg
  refine eat_go (hP (k := 0) hS rfl hi) 2 _ (fun hb hlt H3 hT => ⟨_, rfl, ifB_mk (fun hc => by cases hc) (fun _ => ?_)⟩) (fun hb H3 hT => ⟨_, rfl, ifB_mk (fun _ => ?_) (fun hc => by cases hc)⟩)
  rotate_left
  · rw [if_neg (by rw [hb]; simp)] at hg
    subst hg
    replace hS := St.call (k := 0) hS rfl hT
    simp only [setN, List.cons_append, List.nil_append, List.append_nil] at hS
    refine fail_go (hP (k := 0) hS rfl hi) 2 ?_
    exact ⟨2, _, a, n, c, hG, rfl, hS.sub hsub2⟩
  rw [if_pos hb] at hg
  replace hS := St.call (k := 0) hS rfl hT
  simp only [setN, List.cons_append, List.nil_append, List.append_nil] at hS
  unfold parse_Parse_b_k1
  rw [ebA]
  refine ⟨_, _, _, St.cell (k := 2) hS rfl rfl rfl, ifB_mk (fun h40 => ?_) (fun h40 => ?_)⟩
  · have h40 : n = 40 := by simp at h40; omega
    rw [if_pos (by rw [List.length_map]; omega)] at hg
    subst hg
    refine fail_go (hP (k := 0) hS rfl (by omega)) 5 ?_
    exact ⟨5, _, a, n, c, hG, rfl, hS.sub hsub2⟩
  have h40 : n ≠ 40 := by simp at h40; omega
  rw [if_neg (by rw [List.length_map]; omega)] at hg
  unfold parse_Parse_b_k2
  rw [ebA]
  generalize hrf : ruleF toks (s.size : Int) (i + 1) nd = rf at hg
  rw [ruleF] at hrf
  have hE : Con la lc toks (s.size : Int) pb 61 1 (exprR toks (s.size : Int) 40) := exprR_is 40 1 (by omega) (by omega)
  generalize exprR toks (s.size : Int) 40 = ef at hE hrf
  -- name
  refine pcall (take_is (hP (k := 0) hS rfl (by omega)) hnd 1) (fun x2 i2 nd2 F2 v H8 he hT hv hi3 hi4 hn2 => ?_) (fun er x H8 he hx => ?_)
  rotate_left
  · rw [he] at hrf
    subst hrf
    subst hg
    exact ⟨er, x, a, n, c, hG, rfl, hlose (k := 0) hS rfl hx hsub2⟩
  rw [he] at hrf
  simp only [bindP_ok] at hrf
  have hv : v = .agg ⟨x2.c⟩ := hv
  subst hv
  refine ⟨_, _, _, _, rfl, ?_⟩
  replace hS := St.call (k := 0) hS rfl hT
  simp only [setN, List.cons_append, List.nil_append, List.append_nil] at hS
  -- =
  refine pcall (must_is (hP (k := 0) hS rfl hi4) hn2 _) (fun x3 i3 nd3 F3 v H9 he hT hv hi5 hi6 hn3 => ?_) (fun er x H9 he hx => ?_)
  rotate_left
  · rw [he] at hrf
    subst hrf
    subst hg
    exact ⟨er, x, a, n, c, hG, rfl, hlose (k := 0) hS rfl hx hsub2⟩
  rw [he] at hrf
  simp only [bindP_ok] at hrf
  replace hS := St.call (k := 0) hS rfl hT
  simp only [setN, List.cons_append, List.nil_append, List.append_nil] at hS
  refine ⟨St.may (k := 0) hS rfl rfl (by simp [newA, bA, add_off]), ?_⟩
  intro H10
  replace hS : St _ _ H10 _ := St.put (k := 0) hS rfl rfl _
  clear_value H10
  simp only [setN, splice, newA, bA, add_off, add_block, Nat.add_zero, Nat.zero_add, Nat.reduceAdd] at hS
  -- the expression
  refine pcall (hE H10 i3 0 (hP (k := 0) (nd := 0) hS rfl hi6) (by omega)) (fun x4 i4 nd4 F4 v H11 he hT hv hi7 hi8 hn4 => ?_) (fun er x H9 he hx => ?_)
  rotate_left
  · rw [he] at hrf
    subst hrf
    subst hg
    exact ⟨er, x, a, n, c, hG, rfl, hlose (k := 0) (o := psO la toks.length lc (s.size : Int) i3 0) hS rfl hx hsub2⟩
  rw [he] at hrf
  simp only [bindP_ok] at hrf
  obtain ⟨kd, xa, xb, xn, ad, kl, cap, rfl, hex⟩ := hv
  refine ⟨_, _, _, _, _, _, _, rfl, ?_⟩
  replace hS := St.call (k := 0) (o := psO la toks.length lc (s.size : Int) i3 0) hS rfl hT
  simp only [setN, List.cons_append, List.nil_append, List.append_nil] at hS
  intro H12
  replace hS : St _ _ H12 _ := St.push hS _
  clear_value H12
  refine ⟨St.may (k := 0) hS rfl rfl (by simp [newA, bA, add_off]), ?_⟩
  intro H13
  replace hS : St _ _ H13 _ := St.put (k := 0) hS rfl rfl _
  clear_value H13
  simp only [setN, splice, newA, bA, add_off, add_block, Nat.add_zero, Nat.zero_add, Nat.reduceAdd] at hS
  have hS13 := hS
  intro H14
  have hx14 : Ext0 H13 H14 := ext0_push _ _
  replace hS : St _ _ H14 _ := St.push hS _
  clear_value H14
  have hat : At H13 (newA H11) (exC kd xa xb xn ad kl cap) := St.atAll (k := 0) hS13 rfl rfl rfl
  have hexat : ExAt H13 x4 (exC kd xa xb xn ad kl cap) := hex H13 (hS13.held fun y hy => by simp [hy])
  refine (sh_ex x4 H13 H14 H13.size (newA H11) _ 1 0 hx14 (Nat.le_refl _) (hS.obj (k := 0) rfl) hat hexat (by omega) (by omega) (by omega) (by omega)).call (fun v H15 hr5 => ?_) (fun ch H5 hr5 => by obtain ⟨hr5, _⟩ := hr5; cases hr5) (fun H5 hr5 => by obtain ⟨hr5, _⟩ := hr5; cases hr5)
  obtain ⟨hv, hT, hnd5⟩ := hr5
  simp only [Ending.returned.injEq] at hv
  subst hv
  refine ⟨_, rfl, ?_⟩
  replace hS := St.call (k := 0) hS rfl hT
  simp only [setN, List.cons_append, List.nil_append, List.append_nil] at hS
  refine ifB_mk (fun h5 => ?_) (fun h5 => ?_)
  · have h5 : (shEx x4 1 0).1 ≠ 0 := by simpa using h5
    rw [if_pos h5] at hrf
    subst hrf
    subst hg
    refine fail_go (hP (k := 2) hS rfl hi8) 4 ?_
    exact ⟨4, _, a, n, c, hG, rfl, hS.sub ((hsub2.cons _).cons _)⟩
  have h5 : (shEx x4 1 0).1 = 0 := by simpa using h5
  rw [if_neg (by simp [h5])] at hrf
  unfold parse_Parse_b_k3
  rw [ebA]
  refine pcall (must_is (hP (k := 2) hS rfl hi8) hn4 _) (fun x5 i5 nd5 F5 v H18 he hT hv hi9 hi10 hn5 => ?_) (fun er x H9 he hx => ?_)
  rotate_left
  · rw [he] at hrf
    subst hrf
    subst hg
    exact ⟨er, x, a, n, c, hG, rfl, hlose (k := 2) hS rfl hx ((hsub2.cons _).cons _)⟩
  rw [he] at hrf
  simp only [bindP_ok] at hrf
  subst hrf
  simp only at hg
  replace hS := St.call (k := 2) hS rfl hT
  simp only [setN, List.cons_append, List.nil_append, List.append_nil] at hS
  refine ⟨_, _, _, St.cell (k := 4) hS rfl rfl rfl, ?_⟩
  refine ⟨_, _, _, _, _, _, _, St.atp (k := 1) hS rfl rfl rfl, ?_⟩
  have hrs' : ∀ x ∈ rs, plainL (ruC x) ∧ (ruC x).length = 6 := fun x hx => by
    have hh := hrs x hx H18 (hS.held fun y hy => by simp [hy])
    refine ⟨fun v hv => ?_, by simp [ruC, hh.len]⟩
    rcases List.mem_cons.1 hv with rfl | hv
    · rfl
    · exact hh.plain v hv
  intro H19
  replace hS : St _ _ H19 _ := St.push hS _
  clear_value H19
  simp only [List.append_assoc] at hS
  have hend : ∀ {A F E G : List (Nat × Obj)} {H : Heap}, St (M2 p2 p3) Hm H (A ++ (F ++ (E ++ G))) → St (M2 p2 p3) Hm H ((A ++ (F ++ G)) ++ E) := fun {A F E G H} hS => hS.perm (by
    rw [List.append_assoc, List.append_assoc]
    exact List.Perm.append_left A (List.Perm.append_left F List.perm_append_comm))
  replace hS := hend (A := [_, _, _, _, _, _]) hS
  refine append_row (L := [_, _, _, _, _, _] ++ _) (by kernel_rfl : appB Try.prog 22 43 6 80 = true) hS hr (St.atAll (k := 0) hS rfl rfl rfl) rfl (by simp [plainL, Value.oneCell']) ?_ (by omega) (by omega) (by omega) ?_
  · intro v hv
    obtain ⟨r, hr, hv⟩ := List.mem_flatten.1 hv
    obtain ⟨x, hx, rfl⟩ := List.mem_map.1 hr
    exact (hrs' x hx).1 v hv
  intro a' c' H20 E' hS hr _
  simp only [List.cons_append, List.nil_append] at hS
  refine ⟨_, _, _, rfl, ?_⟩
  refine ⟨St.may (k := 5) hS rfl rfl (by simp [newA, bA, add_off]), ?_⟩
  intro H21
  replace hS : St _ _ H21 _ := St.put (k := 5) hS rfl rfl _
  clear_value H21
  simp only [setN, splice, newA, bA, add_off, add_block, Nat.add_zero, Nat.zero_add, Nat.reduceAdd] at hS
  refine ⟨⟨F ++ (F2 ++ (F3 ++ (F4 ++ F5))), E', a', n + 1, c', i5, nd5, m, rs ++ [(⟨x2.t, x4⟩, exC kd xa xb xn ad kl cap)], ?_, ?_, ?_, by simp [hnl], by omega, by omega, hi10, hn5, ?_⟩, ?_⟩
  · exact hS.sub (((List.Sublist.refl _).cons _).cons _ |>.cons _)
  · simpa [ruC] using hr
  · intro x hx
    rcases List.mem_append.1 hx with hx | hx
    · exact (hrs x hx).more fun y hy => by simp [hy]
    · simp only [List.mem_singleton] at hx
      subst hx
      exact hex.more fun y hy => by simp [hy]
  · rw [← hg, List.map_append]; rfl
  show leftH pb toks.length _ < leftH pb toks.length _
  rw [hleft, left_of (k := 3) toks.length hS rfl]
  omega
theorem Parse_d_is {p2 p3 : Nat} {Hm H : Heap} {a : Option Addr} {n c : Nat} {G : List (Nat × Obj)} (hS : St (M2 p2 p3) Hm H ((p3, o3) :: (p2, o2 a n c) :: G)) :
    parse_Parse_d (bA p2) (bA p3) H fun e H' => match e with
      | .returned _ => St (M2 p2 p3) Hm H' ((p3, o3) :: (p2, o2 a n c) :: G)
      | _ => False := by
  unfold parse_Parse_d
  refine ⟨_, _, _, St.cell (k := 1) hS rfl rfl rfl, ?_⟩
  refine ⟨_, _, St.atp (k := 0) hS rfl rfl rfl, ?_⟩
  refine ⟨St.may (k := 1) hS rfl rfl (by simp [newA, bA, add_off]), ?_⟩
  intro H1
  replace hS : St _ _ H1 _ := St.put (k := 1) hS rfl rfl _
  clear_value H1
  simp only [setN, splice, newA, bA, add_off, add_block, Nat.add_zero, Nat.zero_add, Nat.reduceAdd] at hS
  refine ⟨⟨_, _, St.atp (k := 0) hS rfl rfl rfl, rfl⟩, ?_⟩
  refine ⟨St.may (k := 0) hS rfl rfl (by simp [newA, bA, add_off]), ?_⟩
  intro H2
  replace hS : St _ _ H2 _ := St.put (k := 0) hS rfl rfl _
  clear_value H2
  simp only [setN, splice, newA, bA, add_off, add_block, Nat.add_zero, Nat.zero_add, Nat.reduceAdd] at hS
  exact hS
theorem Parse_c_is {p2 p3 : Nat} {Hm H : Heap} {a : Option Addr} {n c : Nat} {er x : Int} (hS : St (M2 p2 p3) Hm H [(p3, o3), (p2, o2 a n c)]) :
    parse_Parse_c (bA p2) (bA p3) er x H fun e H' => match e with
      | .returned _ => St (M2 p2 p3) Hm H' [(p3, C [.int .i64 er, .int .i64 x] 39), (p2, o2 none 0 0)]
      | _ => False := by
  unfold parse_Parse_c
  intro H1
  replace hS : St _ _ H1 _ := St.push hS _
  clear_value H1
  refine ⟨St.may (k := 0) hS rfl rfl (by simp [newA, bA, add_off]), ?_⟩
  intro H2
  replace hS : St _ _ H2 _ := St.put (k := 0) hS rfl rfl _
  clear_value H2
  simp only [setN, splice, newA, bA, add_off, add_block, Nat.add_zero, Nat.zero_add, Nat.reduceAdd] at hS
  refine ⟨_, _, St.atp (k := 0) hS rfl rfl rfl, ?_⟩
  refine ⟨St.may (k := 2) hS rfl rfl (by simp [newA, bA, add_off]), ?_⟩
  intro H3
  replace hS : St _ _ H3 _ := St.put (k := 2) hS rfl rfl _
  clear_value H3
  simp only [setN, splice, newA, bA, add_off, add_block, Nat.add_zero, Nat.zero_add, Nat.reduceAdd] at hS
  refine ⟨⟨_, _, St.atp (k := 0) hS rfl rfl rfl, rfl⟩, rfl, ?_⟩
  refine ⟨St.may (k := 1) hS rfl rfl (by simp [newA, bA, add_off]), ?_⟩
  intro H4
  replace hS : St _ _ H4 _ := St.put (k := 1) hS rfl rfl _
  clear_value H4
  simp only [setN, splice, newA, bA, add_off, add_block, Nat.add_zero, Nat.zero_add, Nat.reduceAdd] at hS
  exact hS.sub (List.Sublist.cons _ (List.Sublist.refl _))
end
end Go.Vc
set_option linter.unusedVariables false
set_option linter.unusedSimpArgs false
set_option maxRecDepth 100000
namespace Go.Vc
open Go.Proofs

/-! parse.Parse: its edge -/
theorem body56 : ∃ i0 i3 i4 i5 bl pos0 pos3 pos4 af4 pos5a pos5b pos5c ty5a ty5b ty5c af5a af5b af5c b1 ty7, bodyC Try.f56 = .seq (.region i0 #[⟨some 5, .call ⟨.builtin .recover, #[], #[]⟩, 20, pos0, #[], none⟩] false)
    (.block bl (.seq (.region i3 #[⟨some 7, .binOp .eql 20 (.tmp 5) (.const .nilIface) ty7, 4, pos3, #[], none⟩] false) (.cond (.tmp 7) (.region i4 #[⟨some 2, .assign (.tmp 5), 20, pos4, af4, none⟩] false)
      (.seq (.region i5 #[⟨some 8, .typeAssert (.tmp 5) 20 104 true, ty5a, pos5a, af5a, none⟩, ⟨some 9, .extract (.tmp 8) 1, ty5b, pos5b, af5b, none⟩, ⟨some 10, .extract (.tmp 8) 0, ty5c, pos5c, af5c, none⟩] false) (.cond (.tmp 9) (caughtC Try.f56) b1))))) :=
  ⟨_, _, _, _, _, _, _, _, _, _, _, _, _, _, _, _, _, _, _, _, rfl⟩
theorem Fits.start (args : List Value) (n : Nat) (hn : args.length ≤ n) : Fits n (argsE 0 args) [] { tmps := (⟨args⟩ : Array Value) ++ Array.replicate (n - args.length) undef, defers := [] } :=
  ⟨by simp; omega, fun t v hv => by
    obtain ⟨j, rfl, hj⟩ := get_argsE args 0 t v hv
    have hlt : j < args.length := (List.getElem?_eq_some_iff.1 hj).1
    rw [Nat.zero_add, Array.getElem?_append_left (by simpa using hlt)]
    simpa using hj, rfl⟩
theorem recover_wps {P : Program} {Q : Exit → Act → List Frame → World → Prop} {a : Act} {cs : List Frame} {w : World} {i0 : Nat} {dst : Option Tmp} {ty : TypeId} {pos : String}
    (h : match recoverD cs with
      | some (v, cs') => Q .normal (a.put dst v) cs' w
      | none => Q .normal (a.put dst .nilIface) cs w) :
    (Code.region i0 #[⟨dst, .call ⟨.builtin .recover, #[], #[]⟩, ty, pos, #[], none⟩] false).wpS P Q a cs w := by
  refine wpS_region ?_
  show wpOpsS P _ Q [0] a cs w
  simp only [wpOpsS]
  have h0 : (#[⟨dst, .call ⟨.builtin .recover, #[], #[]⟩, ty, pos, #[], none⟩] : Array Oper)[0]? = some ⟨dst, .call ⟨.builtin .recover, #[], #[]⟩, ty, pos, #[], none⟩ := rfl
  rw [h0]
  simp only
  have hw : Region.wanted ⟨dst, .call ⟨.builtin .recover, #[], #[]⟩, ty, pos, #[], none⟩ (yielded #[⟨dst, .call ⟨.builtin .recover, #[], #[]⟩, ty, pos, #[], none⟩] a.tmps) = true := rfl
  rw [if_pos hw]
  have hr : (execOp a.eval ⟨dst, .call ⟨.builtin .recover, #[], #[]⟩, ty, pos, #[], none⟩).run P w = .ok .recover w := rfl
  rw [hr]
  simp only
  split at h <;> rename_i he <;> simp only [he] <;> exact h
theorem results56 (tmps : Array Value) (w : World) : (results Try.f56 tmps).run Try.prog w = .ok (.tuple ⟨[]⟩) w := by
  have : Try.f56.results = #[] := by kernel_rfl
  unfold results
  rw [this, Array.mapM_eq_mapM_toList]
  rfl
/-- Nothing to catch: nothing is turned. -/
theorem closure_back {p2 p3 : Nat} {w0 : World} {H : Heap} {d : Nat} : CallsD Try.prog 56 ⟨[.pointer (some (bA p2)), .pointer (some (bA p3))]⟩ .returning (wk w0 H d) fun e u' w' => e = .returned (.tuple ⟨[]⟩) ∧ u' = .returning ∧ w' = wk w0 H d := by
  obtain ⟨i0, i3, i4, i5, bl, pos0, pos3, pos4, af4, pos5a, pos5b, pos5c, ty5a, ty5b, ty5c, af5a, af5b, af5c, b1, ty7, hb⟩ := body56
  refine callsD_of_wpS Try.func56 (c := bodyC Try.f56) (by kernel_rfl) fun c₀ cs hu => ?_
  have hf := Fits.start [.pointer (some (bA p2)), .pointer (some (bA p3))] Try.f56.ntmps (Nat.le_of_ble_eq_true (by kernel_rfl))
  generalize ({ tmps := (⟨[.pointer (some (bA p2)), .pointer (some (bA p3))]⟩ : Array Value) ++ Array.replicate (Try.f56.ntmps - (⟨[.pointer (some (bA p2)), .pointer (some (bA p3))]⟩ : Array Value).size) undef, defers := [] } : Act) = a at hf ⊢
  rw [hb]
  refine wpS_seq (recover_wps ?_)
  have hrec : recoverD (c₀ :: cs) = none := by simp [recoverD, hu]
  rw [hrec]
  simp only [Exit.thenS]
  refine wpS_of_wp (wp_block (wp_seq (wp_region_list ?_)))
  have hf1 := hf.put (t := 5) (of_decide_eq_true (by kernel_rfl)) .nilIface
  have he5 : (a.put (some 5) .nilIface).tmps.getD 5 undef = .nilIface := hf1.ev (.tmp 5) _ rfl
  refine wl_val (v := .bool true) (w' := wk w0 H d) rfl ?_ ?_
  · simp only [execOp, Act.eval, he5]
    rfl
  have hf2 := hf1.put (t := 7) (of_decide_eq_true (by kernel_rfl)) (.bool true)
  refine wpList_nil ?_
  refine wp_cond_true (hf2.ev (.tmp 7) _ rfl) (wp_region_list (wl_val (w' := wk w0 H d) rfl rfl (wpList_nil ?_)))
  refine ⟨?_, .returning, ?_, .tuple ⟨[]⟩, ?_, rfl, rfl, rfl⟩
  · exact hf.ds
  · rw [← hu]
  · exact results56 _ _
set_option maxHeartbeats 4000000 in
/-- Caught: the results are what was thrown. -/
theorem closure_caught {p2 p3 : Nat} {w0 : World} {Hm H : Heap} {d : Nat} {a2 : Option Addr} {n c : Nat} {er x : Int} (hS : St (M2 p2 p3) Hm H [(p3, o3), (p2, o2 a2 n c)]) :
    CallsD Try.prog 56 ⟨[.pointer (some (bA p2)), .pointer (some (bA p3))]⟩ (.panicking (oopsV er x)) (wk w0 H d) fun e u' w' =>
      e = .returned (.tuple ⟨[]⟩) ∧ u' = .panicking [{ v := .iface 104 (.agg ⟨[.int .i64 er, .int .i64 x]⟩), recovered := true }] ∧ ∃ H' d', w' = wk w0 H' d' ∧ St (M2 p2 p3) Hm H' [(p3, C [.int .i64 er, .int .i64 x] 39), (p2, o2 none 0 0)] := by
  obtain ⟨i0, i3, i4, i5, bl, pos0, pos3, pos4, af4, pos5a, pos5b, pos5c, ty5a, ty5b, ty5c, af5a, af5b, af5c, b1, ty7, hb⟩ := body56
  refine callsD_of_wpS Try.func56 (c := bodyC Try.f56) (by kernel_rfl) fun c₀ cs hu => ?_
  have hf := Fits.start [.pointer (some (bA p2)), .pointer (some (bA p3))] Try.f56.ntmps (Nat.le_of_ble_eq_true (by kernel_rfl))
  generalize ({ tmps := (⟨[.pointer (some (bA p2)), .pointer (some (bA p3))]⟩ : Array Value) ++ Array.replicate (Try.f56.ntmps - (⟨[.pointer (some (bA p2)), .pointer (some (bA p3))]⟩ : Array Value).size) undef, defers := [] } : Act) = a at hf ⊢
  rw [hb]
  refine wpS_seq (recover_wps ?_)
  have hrec : recoverD (c₀ :: cs) = some (.iface 104 (.agg ⟨[.int .i64 er, .int .i64 x]⟩), { c₀ with mode := .panicking [{ v := .iface 104 (.agg ⟨[.int .i64 er, .int .i64 x]⟩), recovered := true }] } :: cs) := by simp [recoverD, hu, oopsV]
  rw [hrec]
  simp only [Exit.thenS]
  generalize hv5 : (Value.iface 104 (.agg ⟨[.int .i64 er, .int .i64 x]⟩)) = v5
  refine wpS_of_wp (wp_block (wp_seq (wp_region_list ?_)))
  have hf1 := hf.put (t := 5) (of_decide_eq_true (by kernel_rfl)) v5
  have he5 : (a.put (some 5) v5).tmps.getD 5 undef = v5 := hf1.ev (.tmp 5) _ rfl
  refine wl_val (v := .bool false) (w' := wk w0 H d) rfl ?_ ?_
  · simp only [execOp, Act.eval, he5]
    rw [← hv5]
    rfl
  have hf2 := hf1.put (t := 7) (of_decide_eq_true (by kernel_rfl)) (.bool false)
  refine wpList_nil ?_
  refine wp_cond_false (hf2.ev (.tmp 7) _ rfl) (wp_seq (wp_region_list ?_))
  have he5 : ((a.put (some 5) v5).put (some 7) (.bool false)).tmps.getD 5 undef = v5 := hf2.ev (.tmp 5) _ rfl
  refine wl_val (v := .tuple #[.agg ⟨[.int .i64 er, .int .i64 x]⟩, .bool true]) (w' := wk w0 H d) rfl ?_ ?_
  · simp only [execOp, Act.eval, he5]
    rw [← hv5]
    rfl
  have hf3 := hf2.put (t := 8) (of_decide_eq_true (by kernel_rfl)) (.tuple #[.agg ⟨[.int .i64 er, .int .i64 x]⟩, .bool true])
  have he8 : (((a.put (some 5) v5).put (some 7) (.bool false)).put (some 8) (.tuple #[.agg ⟨[.int .i64 er, .int .i64 x]⟩, .bool true])).tmps.getD 8 undef = .tuple #[.agg ⟨[.int .i64 er, .int .i64 x]⟩, .bool true] := hf3.ev (.tmp 8) _ rfl
  refine wl_val (v := .bool true) (w' := wk w0 H d) rfl ?_ ?_
  · simp only [execOp, Act.eval, he8]
    rfl
  have hf4 := hf3.put (t := 9) (of_decide_eq_true (by kernel_rfl)) (.bool true)
  have he8 : ((((a.put (some 5) v5).put (some 7) (.bool false)).put (some 8) (.tuple #[.agg ⟨[.int .i64 er, .int .i64 x]⟩, .bool true])).put (some 9) (.bool true)).tmps.getD 8 undef = .tuple #[.agg ⟨[.int .i64 er, .int .i64 x]⟩, .bool true] := hf4.ev (.tmp 8) _ rfl
  refine wl_val (v := .agg ⟨[.int .i64 er, .int .i64 x]⟩) (w' := wk w0 H d) rfl ?_ ?_
  · simp only [execOp, Act.eval, he8]
    rfl
  have hf5 := hf4.put (t := 10) (of_decide_eq_true (by kernel_rfl)) (.agg ⟨[.int .i64 er, .int .i64 x]⟩)
  refine wpList_nil ?_
  refine wp_cond_true (hf5.ev (.tmp 9) _ rfl) ?_
  have hden : den Try.prog Try.f56.ntmps parse_Parse_c_ann (caughtC Try.f56) (endPost fun e H' => match e with
      | .returned _ => St (M2 p2 p3) Hm H' [(p3, C [.int .i64 er, .int .i64 x] 39), (p2, o2 none 0 0)]
      | _ => False) [(0, .pointer (some (bA p2))), (1, .pointer (some (bA p3))), (10, .agg ⟨[.int .i64 er, .int .i64 x]⟩)] H := by
    rw [parse_Parse_c_den]
    exact Parse_c_is hS
  have hf6 : Fits Try.f56.ntmps [(0, .pointer (some (bA p2))), (1, .pointer (some (bA p3))), (10, .agg ⟨[.int .i64 er, .int .i64 x]⟩)] [] (((((a.put (some 5) v5).put (some 7) (.bool false)).put (some 8) (.tuple #[.agg ⟨[.int .i64 er, .int .i64 x]⟩, .bool true])).put (some 9) (.bool true)).put (some 10) (.agg ⟨[.int .i64 er, .int .i64 x]⟩)) :=
    hf5.sub fun t v hv => by
      simp only [get_cons] at hv
      split at hv
      · rename_i e; subst e; simp only [Option.some.injEq] at hv; subst hv; rfl
      · split at hv
        · rename_i e; subst e; simp only [Option.some.injEq] at hv; subst hv; rfl
        · split at hv
          · rename_i e; subst e; simp only [Option.some.injEq] at hv; subst hv; rfl
          · simp [get] at hv
  refine wp_mono (den_sound (w0 := w0) namesOk mixedOk _ _ _ _ _ hden hf6 d) fun e a' w' hq => ?_
  obtain ⟨env', H', d', rfl, hf', _, hq⟩ := hq
  cases e with
  | normal => exact ⟨hf'.ds, _, rfl, .tuple ⟨[]⟩, results56 _ _, rfl, rfl, H', d', rfl, hq⟩
  | ret => exact ⟨hf'.ds, _, rfl, .tuple ⟨[]⟩, results56 _ _, rfl, rfl, H', d', rfl, hq⟩
  | _ => exact hq.elim
end Go.Vc
set_option linter.unusedVariables false
set_option linter.unusedSimpArgs false
set_option maxRecDepth 100000
namespace Go.Vc
open Go.Proofs

/-! parse.Parse, whole -/
theorem inv56 (cap : Array Value) (w : World) : (invoke (.fn (.func 56) cap) #[]).run Try.prog w = .ok (.enter 56 cap) w := by
  have hf := Try.func56
  have hn : (Try.f56.name == "runtime.NumGoroutine") = false := by kernel_rfl
  have hb : Try.f56.body.isNone = false := by kernel_rfl
  have hn' : ¬ Try.f56.name = "runtime.NumGoroutine" := by simpa using hn
  have hb' : ¬ Try.f56.body = none := fun e => by rw [e] at hb; cases hb
  simp [invoke, callFunc, hf]
  rw [if_neg hn', if_neg hb']
theorem body32 : ∃ i4 ty1 pos1 af1 ty2 pos2 af2 at2, sufC 3 (bodyC Try.f32) = .seq (.region i4 #[⟨some 17, .makeFunc (.func 56) #[] #[.tmp 2, .tmp 3], ty1, pos1, af1, none⟩, ⟨none, .defer ⟨.value (.tmp 17), #[], at2⟩, ty2, pos2, af2, none⟩] false) (sufC 4 (bodyC Try.f32)) :=
  ⟨_, _, _, _, _, _, _, _, rfl⟩
/-- What the answer is, said of a heap. -/
def parsePost (s : ByteArray) (H : Heap) (e : Ending) (H' : Heap) : Prop := ∃ a c, e = .returned (.tuple ⟨[.slice a (parseF s).1.length c, .agg ⟨[.int .i64 (parseF s).2.1, .int .i64 (parseF s).2.2]⟩]⟩) ∧ Ext0 H H' ∧ RulesAt H' a (parseF s).1
def aKA (s : ByteArray) (H : Heap) (s' : ByteArray) (p q : Addr) (la : Option Addr) (ln lc : Nat) (Hm : Heap) : Prop := s' = s ∧ ∃ b2 b3, p = bA b2 ∧ q = bA b3 ∧ Hm[b2]? = some (o2 none 0 0) ∧ Hm[b3]? = some o3 ∧ b3 ≠ b2 ∧ H.size ≤ b2 ∧ H.size ≤ b3 ∧ Ext0 H Hm ∧ (lexF s).2.1 = 0 ∧ ln = (lexF s).1.length ∧ RowAt Hm la 4 ((lexF s).1.map Tok.c) ∧ ∀ p, la = some p → p.block < Hm.size ∧ p.block ≠ b2 ∧ p.block ≠ b3
theorem St.put_ext {M : Nat → Prop} {H0 H : Heap} {L : List (Nat × Obj)} {a : Addr} {l : List Value} {T : TypeId} {k : Nat} (h : St M H0 H L) (hk : nthO L k = some (a.block, C l T)) (hs : a.spot = none) (m : List Value) : Ext (· = a.block) H (putH H a m) := by
  obtain ⟨h1, h2, h3⟩ := storeFrom_spec hs (i := 0) (m := m) (h.obj hk)
  exact ⟨by show H.size ≤ (storeFrom H a 0 m).size; omega, fun b _ hb => h2 b hb⟩
theorem Parse_a_is (s : ByteArray) (hs : s.size ≤ 4611686018427387904) (H : Heap) : parse_Parse_a s H (parsePost s H) (aKA s H) := by
  unfold parse_Parse_a
  have hS := St.start none0 H
  intro H1
  replace hS : St _ _ H1 _ := St.push hS _
  clear_value H1
  have hS1 := hS
  intro H2
  have hsz : H1.size < (H1.push (.cells ⟨[.int .i64 0, .int .i64 0]⟩ 39)).size := by simp
  replace hS : St _ _ H2 _ := St.push hS _
  have hsz : H1.size < H2.size := hsz
  clear_value H2
  refine (Lex_is s hs H2).call (fun v H3 hr => ?_) (fun ch H5 hr5 => by obtain ⟨_, _, _, hr5, _⟩ := hr5; cases hr5) (fun H5 hr5 => by obtain ⟨_, _, _, hr5, _⟩ := hr5; cases hr5)
  obtain ⟨a, n, c, hv, hx, hn, hrow, hbl⟩ := hr
  simp only [Ending.returned.injEq] at hv
  subst hv
  refine ⟨_, _, _, _, _, rfl, ?_⟩
  have h1 := lt_of_get (hS.obj (k := 0) rfl)
  have h2 := lt_of_get (hS.obj (k := 1) rfl)
  replace hS := hS.grow hx
  have hsz3 := hx.size
  refine ⟨St.may (k := 0) hS rfl rfl (by simp [newA, bA, add_off]), ?_⟩
  intro H4
  have hx4 : Ext (· = H1.size) H3 H4 := St.put_ext (k := 0) (a := newA H1) hS rfl rfl _
  replace hS : St _ _ H4 _ := St.put (k := 0) hS rfl rfl _
  clear_value H4
  simp only [setN, splice, newA, bA, add_off, add_block, Nat.add_zero, Nat.zero_add, Nat.reduceAdd] at hS
  refine ⟨_, St.cell (k := 0) hS rfl rfl rfl, ?_⟩
  refine ifB_mk (fun h => ?_) (fun h => ?_)
  · have h : (lexF s).2.1 ≠ 0 := by simpa using h
    have hp : parseF s = ([], (lexF s).2.1, (lexF s).2.2) := by rw [parseF, if_pos h]
    refine ⟨_, _, St.atp (k := 0) hS rfl rfl rfl, ?_⟩
    refine ⟨St.may (k := 1) hS rfl rfl (by simp [newA, bA, add_off]), ?_⟩
    intro H5
    replace hS : St _ _ H5 _ := St.put (k := 1) hS rfl rfl _
    clear_value H5
    simp only [setN, splice, newA, bA, add_off, add_block, Nat.add_zero, Nat.zero_add, Nat.reduceAdd] at hS
    refine ⟨⟨_, _, St.atp (k := 0) hS rfl rfl rfl, rfl⟩, ?_⟩
    refine ⟨St.may (k := 0) hS rfl rfl (by simp [newA, bA, add_off]), ?_⟩
    intro H6
    replace hS : St _ _ H6 _ := St.put (k := 0) hS rfl rfl _
    clear_value H6
    simp only [setN, splice, newA, bA, add_off, add_block, Nat.add_zero, Nat.zero_add, Nat.reduceAdd] at hS
    refine ⟨_, _, _, St.cell (k := 1) hS rfl rfl rfl, ?_⟩
    refine ⟨_, _, St.atp (k := 0) hS rfl rfl rfl, ?_⟩
    exact ⟨none, 0, by rw [hp]; rfl, hS.ext0, by rw [hp]; exact RulesAt.nil⟩
  · have h : (lexF s).2.1 = 0 := by simpa using h
    have h0 := lexF_ok h
    rw [h, h0] at hS
    refine ⟨rfl, H.size, H1.size, rfl, rfl, hS.obj (k := 1) rfl, hS.obj (k := 0) rfl, ?_, Nat.le_refl _, hS1.ext.size, hS.ext0, h, hn, hrow.ext hx4 fun p hp hm => ?_, fun p hp => ?_⟩
    · have := hS.nd
      simp only [List.map_cons, List.map_nil, List.nodup_cons, List.mem_singleton] at this
      exact this.1
    · have := hbl p hp
      omega
    · have := hbl p hp
      have := hx4.size
      have := hS1.ext.size
      exact ⟨by omega, by omega, by omega⟩
theorem HeldA.fits {n : Nat} {ds ds' : List Deferred} {env0 env' e2 : Env} {D : List Nat} {a : Act} (h : HeldA env0 D a) (hf : Fits n env' ds a) (hd : a.defers = ds') (hsub : ∀ t v, get e2 t = some v → get env0 t = some v ∧ t ∉ D ∧ t < n) : Fits n e2 ds' a :=
  ⟨hf.size, fun t v hv => by
    obtain ⟨h1, h2, h3⟩ := hsub t v hv
    have := h t v h1 h2
    have hlt : t < a.tmps.size := by rw [hf.size]; exact h3
    rw [Array.getD_eq_getD_getElem?, Array.getElem?_eq_getElem hlt] at this
    rw [Array.getElem?_eq_getElem hlt]
    simpa using this, hd⟩
abbrev dfV (b2 b3 : Nat) : Deferred := ⟨.fn (.func 56) #[.pointer (some (bA b2)), .pointer (some (bA b3))], #[]⟩
/-- The results, off their two cells. -/
theorem results32 {M : Nat → Prop} {H0 H : Heap} {L : List (Nat × Obj)} {b2 b3 : Nat} {a2 : Option Addr} {n c : Nat} {er x : Int} {env : Env} {ds : List Deferred} {a : Act} {w0 : World} {d : Nat} (hS : St M H0 H ((b3, C [.int .i64 er, .int .i64 x] 39) :: (b2, o2 a2 n c) :: L)) (hf : Fits Try.f32.ntmps env ds a) (h2 : get env 2 = some (.pointer (some (bA b2)))) (h3 : get env 3 = some (.pointer (some (bA b3)))) :
    (results Try.f32 a.tmps).run Try.prog (wk w0 H d) = .ok (.tuple ⟨[.slice a2 n c, .agg ⟨[.int .i64 er, .int .i64 x]⟩]⟩) (wk w0 H d) := by
  have hr : resL Try.prog env H Try.f32.results.toList fun l => l = [.slice a2 n c, .agg ⟨[.int .i64 er, .int .i64 x]⟩] := by
    have : Try.f32.results.toList = [.cell 2 22, .cell 3 39] := by kernel_rfl
    rw [this]
    simp only [resL, h2, h3]
    refine ⟨_, _, _, St.cell (a := bA b2) (k := 1) hS rfl rfl rfl, ?_⟩
    exact ⟨_, _, St.atp (a := bA b3) (k := 0) hS rfl rfl rfl, rfl⟩
  obtain ⟨l, h1, rfl⟩ := results_run hf hr
  exact h1
set_option maxHeartbeats 4000000 in
theorem Parse_is (s : ByteArray) (hs : s.size ≤ 4611686018427387904) (H : Heap) : CallsH Try.prog 32 ⟨[.string s]⟩ H (parsePost s H) := by
  intro w d
  refine calls_of_wp_defers Try.func32 (c := bodyC Try.f32) (by kernel_rfl) ?_
  have hf := Fits.start [.string s] Try.f32.ntmps (Nat.le_of_ble_eq_true (by kernel_rfl))
  generalize ({ tmps := (⟨[.string s]⟩ : Array Value) ++ Array.replicate (Try.f32.ntmps - (⟨[.string s]⟩ : Array Value).size) undef, defers := [] } : Act) = a at hf ⊢
  have hb : bodyC Try.f32 = (preC 3 (bodyC Try.f32)).foldr Code.seq (sufC 3 (bodyC Try.f32)) := by kernel_rfl
  rw [congrArg (fun c => Code.wp Try.prog c _ a (wk w H d)) hb]
  refine denL_sound namesOk mixedOk (K := kA (aKA s H)) (Q := fnPost Try.prog Try.f32.results.toList (parsePost s H)) (ann := parse_Parse_a_ann) (preC 3 (bodyC Try.f32)) [(0, .string s)] H a d (by rw [parse_Parse_a_den]; exact Parse_a_is s hs H) hf ?_ ?_
  rotate_left
  · -- lex fails
    intro e env' H' a' d' hne hq hf'
    cases e with
    | normal => exact absurd rfl hne
    | ret =>
      obtain ⟨l, h1, h2⟩ := results_run (w0 := w) (d := d') hf' hq
      show Leaves _ _ _ _ a'.defers .returning _
      rw [hf'.ds]
      exact ⟨_, h1, H', d', rfl, h2⟩
    | panic ch =>
      obtain ⟨_, _, hq, _⟩ := hq
      cases hq
    | _ => exact hq.elim
  intro env' Hm a' d' hK hf'
  unfold kA at hK
  split at hK
  · rename_i s' p q la ln lc g0 g2 g3 g4
    obtain ⟨rfl, b2, b3, rfl, rfl, hb2, hb3, h23, hs2, hs3, hx, hlex, rfl, hrow, hla⟩ := hK
    obtain ⟨i4, ty1, pos1, af1, ty2, pos2, af2, at2, hb4⟩ := body32
    rw [congrArg (fun c => Code.wp Try.prog c _ a' (wk w Hm d')) hb4]
    refine wp_seq (wp_region_list ?_)
    have he2 : a'.tmps.getD 2 undef = .pointer (some (bA b2)) := hf'.ev (.tmp 2) _ g2
    have he3 : a'.tmps.getD 3 undef = .pointer (some (bA b3)) := hf'.ev (.tmp 3) _ g3
    refine wl_val (v := .func (.func 56) #[] #[.pointer (some (bA b2)), .pointer (some (bA b3))]) (w' := wk w Hm d') rfl ?_ ?_
    · simp only [execOp, Act.eval, he2, he3, List.map_toArray, List.map_cons, List.map_nil]
      rfl
    have hf1 := hf'.put (t := 17) (of_decide_eq_true (by kernel_rfl)) (.func (.func 56) #[] #[.pointer (some (bA b2)), .pointer (some (bA b3))])
    have he17 : (a'.put (some 17) (.func (.func 56) #[] #[.pointer (some (bA b2)), .pointer (some (bA b3))])).tmps.getD 17 undef = .func (.func 56) #[] #[.pointer (some (bA b2)), .pointer (some (bA b3))] := hf1.ev (.tmp 17) _ rfl
    refine wl_defer (df := dfV b2 b3) (w' := wk w Hm d') rfl ?_ ?_
    · simp only [execOp, resolve, Act.eval, he17, List.map_toArray, List.map_nil]
      rfl
    refine wpList_nil ?_
    have hfB : Fits Try.f32.ntmps [(0, .string s'), (2, .pointer (some (bA b2))), (3, .pointer (some (bA b3))), (4, .slice la (lexF s').1.length lc)] [dfV b2 b3] ({ (a'.put (some 17) (.func (.func 56) #[] #[.pointer (some (bA b2)), .pointer (some (bA b3))])) with defers := dfV b2 b3 :: (a'.put (some 17) (.func (.func 56) #[] #[.pointer (some (bA b2)), .pointer (some (bA b3))])).defers }.put none undef) := by
      refine ⟨hf1.size, fun t v hv => hf1.at_ t v ?_, by show _ :: _ = _; rw [hf1.ds]⟩
      simp only [get_cons] at hv
      split at hv
      · rename_i e; subst e; simp only [Option.some.injEq] at hv; subst hv; rw [get_cons, if_neg (by decide)]; exact g0
      · split at hv
        · rename_i e; subst e; simp only [Option.some.injEq] at hv; subst hv; rw [get_cons, if_neg (by decide)]; exact g2
        · split at hv
          · rename_i e; subst e; simp only [Option.some.injEq] at hv; subst hv; rw [get_cons, if_neg (by decide)]; exact g3
          · split at hv
            · rename_i e; subst e; simp only [Option.some.injEq] at hv; subst hv; rw [get_cons, if_neg (by decide)]; exact g4
            · simp [get] at hv
    generalize ({ (a'.put (some 17) (.func (.func 56) #[] #[.pointer (some (bA b2)), .pointer (some (bA b3))])) with defers := dfV b2 b3 :: (a'.put (some 17) (.func (.func 56) #[] #[.pointer (some (bA b2)), .pointer (some (bA b3))])).defers }.put none undef : Act) = aB at hfB
    show Code.wp Try.prog (sufC 4 (bodyC Try.f32)) _ aB (wk w Hm d')
    have hb6 : sufC 4 (bodyC Try.f32) = (preC 2 (sufC 4 (bodyC Try.f32))).foldr Code.seq (sufC 6 (bodyC Try.f32)) := by kernel_rfl
    rw [congrArg (fun c => Code.wp Try.prog c _ aB (wk w Hm d')) hb6]
    have hnlex : ¬ (lexF s').2.1 ≠ 0 := by simp [hlex]
    have over : ∀ {H3 : Heap}, Ext (M2 b2 b3) Hm H3 → Ext0 H H3 := fun {H3} h => ⟨Nat.le_trans hx.size h.size, fun b hb' _ => by
      rw [h.block b (Nat.lt_of_lt_of_le hb' hx.size) (fun hm => by rcases hm with h | h <;> omega)]
      exact hx.block b hb' fun h => h⟩
    refine denL_soundK namesOk (K := kB (bKB (lexF s').1 (s'.size : Int) b2 b3 Hm)) (Q := endPost (bPost (lexF s').1 (s'.size : Int) b2 b3 Hm)) (ann := parse_Parse_b_ann) (preC 2 (sufC 4 (bodyC Try.f32))) [(0, .string s'), (2, .pointer (some (bA b2))), (3, .pointer (some (bA b3))), (4, .slice la (lexF s').1.length lc)] Hm aB d' (by kernel_rfl) (by rw [parse_Parse_b_den]; exact Parse_b_is hb2 hb3 h23 hrow hla (lexF_len s')) hfB ?_ ?_
    · intro env2 H2 a2 d2 hK2 hf2
      unfold kB at hK2
      split at hK2
      · rename_i p q k2 k3
        obtain ⟨rfl, rfl, rs, ar, cr, G, hok, hS, hru⟩ := hK2
        have hden : den Try.prog Try.f32.ntmps parse_Parse_d_ann (sufC 6 (bodyC Try.f32)) (endPost fun e H' => match e with
            | .returned _ => St (M2 b2 b3) Hm H' ((b3, o3) :: (b2, o2 ar rs.length cr) :: G)
            | _ => False) [(2, .pointer (some (bA b2))), (3, .pointer (some (bA b3)))] H2 := by
          rw [parse_Parse_d_den]
          exact Parse_d_is hS
        have hf3 : Fits Try.f32.ntmps [(2, .pointer (some (bA b2))), (3, .pointer (some (bA b3)))] [dfV b2 b3] a2 := hf2.sub fun t v hv => by
          simp only [get_cons] at hv
          split at hv
          · rename_i e; subst e; simp only [Option.some.injEq] at hv; subst hv; exact k2
          · split at hv
            · rename_i e; subst e; simp only [Option.some.injEq] at hv; subst hv; exact k3
            · simp [get] at hv
        have hout : ∀ t, t = 2 ∨ t = 3 → t ∉ dstsC (sufC 6 (bodyC Try.f32)) := by
          have h2 : inN 2 (dstsC (sufC 6 (bodyC Try.f32))) = false := by kernel_rfl
          have h3 : inN 3 (dstsC (sufC 6 (bodyC Try.f32))) = false := by kernel_rfl
          rintro t (rfl | rfl) hm
          · rw [inN_iff.2 hm] at h2; cases h2
          · rw [inN_iff.2 hm] at h3; cases h3
        have fin : ∀ {env4 : Env} {H4 : Heap} {a4 : Act} {d4 : Nat}, Fits Try.f32.ntmps env4 [dfV b2 b3] a4 → Keeps [(2, .pointer (some (bA b2))), (3, .pointer (some (bA b3)))] (dstsC (sufC 6 (bodyC Try.f32))) env4 → St (M2 b2 b3) Hm H4 ((b3, o3) :: (b2, o2 ar rs.length cr) :: G) → Leaves Try.prog Try.f32 a4.tmps (fun e w' => ∃ H' d', w' = wk w H' d' ∧ parsePost s' H e H') a4.defers .returning (wk w H4 d4) := by
          intro env4 H4 a4 d4 hf4 hk4 hS4
          rw [hf4.ds]
          refine ⟨by simp, _, _, _, _, rfl, inv56 _ _, closure_back.mono fun e u' w' h => ?_⟩
          obtain ⟨rfl, rfl, rfl⟩ := h
          refine ⟨_, results32 hS4 hf4 (hk4 2 _ rfl (hout 2 (.inl rfl))) (hk4 3 _ rfl (hout 3 (.inr rfl))), H4, d4, rfl, ar, cr, ?_, over hS4.ext, ?_⟩
          · rw [parseF, if_neg hnlex, hok]
          · rw [parseF, if_neg hnlex, hok]
            exact hru H4 (hS4.held fun y hy => by simp [hy])
        refine wp_mono (den_sound (w0 := w) namesOk mixedOk _ _ _ _ _ hden hf3 d2) fun e a4 w4 hq => ?_
        obtain ⟨env4, H4, d4, rfl, hf4, hk4, hq⟩ := hq
        cases e with
        | normal => exact fin hf4 (hk4 (by simp)) hq
        | ret => exact fin hf4 (hk4 (by simp)) hq
        | _ => exact hq.elim
      · exact hK2.elim
    · intro e env2 H2 a2 d2 hne hq hf2 hA
      cases e with
      | normal => exact absurd rfl hne
      | panic ch =>
        obtain ⟨er, x, ar, nr, cr, herr, rfl, hS⟩ := hq
        show Leaves _ _ _ _ a2.defers (.panicking _) _
        rw [hf2.ds]
        refine ⟨by simp, _, _, _, _, rfl, inv56 _ _, (closure_caught hS).mono fun e u' w' h => ?_⟩
        obtain ⟨rfl, rfl, H4, d4, rfl, hS4⟩ := h
        have hout : ∀ t, t = 2 ∨ t = 3 → t ∉ ((preC 2 (sufC 4 (bodyC Try.f32))).map dstsC).flatten := by
          have h2 : inN 2 (((preC 2 (sufC 4 (bodyC Try.f32))).map dstsC).flatten) = false := by kernel_rfl
          have h3 : inN 3 (((preC 2 (sufC 4 (bodyC Try.f32))).map dstsC).flatten) = false := by kernel_rfl
          rintro t (rfl | rfl) hm
          · rw [inN_iff.2 hm] at h2; cases h2
          · rw [inN_iff.2 hm] at h3; cases h3
        have hf3 : Fits Try.f32.ntmps [(2, .pointer (some (bA b2))), (3, .pointer (some (bA b3)))] [dfV b2 b3] a2 := hA.fits hf2 hf2.ds fun t v hv => by
          simp only [get_cons] at hv
          split at hv
          · rename_i e; subst e; simp only [Option.some.injEq] at hv; subst hv; exact ⟨rfl, hout 2 (.inl rfl), of_decide_eq_true (by kernel_rfl)⟩
          · split at hv
            · rename_i e; subst e; simp only [Option.some.injEq] at hv; subst hv; exact ⟨rfl, hout 3 (.inr rfl), of_decide_eq_true (by kernel_rfl)⟩
            · simp [get] at hv
        refine ⟨_, results32 hS4 hf3 rfl rfl, H4, d4, rfl, none, 0, ?_, over hS4.ext, ?_⟩
        · rw [parseF, if_neg hnlex, herr]; rfl
        · rw [parseF, if_neg hnlex, herr]; exact RulesAt.nil
      | _ => exact hq.elim
  · exact hK.elim
end Go.Vc
set_option linter.unusedVariables false
set_option maxRecDepth 100000
namespace Go.Vc
open Go.Proofs
/-! closed texts -/
def text1 : ByteArray := ⟨#[114, 117, 108, 101, 32, 97, 32, 61, 32, 98, 32, 43, 32, 99, 59, 32, 114, 117, 108, 101, 32, 98, 32, 61, 32, 99, 59, 32, 114, 117, 108, 101, 32, 99, 32, 61, 32, 97, 108, 119, 97, 121, 115, 59]⟩
def text2 : ByteArray := ⟨#[114, 117, 108, 101, 32, 97, 32, 61, 32, 97, 59]⟩
def text3 : ByteArray := ⟨#[114, 117, 108, 101, 32, 97, 32, 61, 32, 119, 101, 101, 107, 108, 121, 32, 115, 97, 116, 58, 32, 48, 57, 58, 48, 48, 45, 49, 48, 58, 48, 48, 59, 32, 114, 117, 108, 101, 32, 98, 32, 61, 32, 97, 32, 115, 104, 105, 102, 116, 32, 54, 48, 59]⟩
def nA : ByteArray := ⟨#[97]⟩
def nB : ByteArray := ⟨#[98]⟩
def nC : ByteArray := ⟨#[99]⟩
def rules1 : List Ru := [⟨nA, .mk 6 0 0 noT [.mk 10 0 0 nB [], .mk 10 0 0 nC []]⟩, ⟨nB, .mk 10 0 0 nC []⟩, ⟨nC, .mk 2 0 0 noT []⟩]
def rules2 : List Ru := [⟨nA, .mk 10 0 0 nA []⟩]
def rules3 : List Ru := [⟨nA, .mk 4 32 0 noT [.mk 3 540 600 noT []]⟩, ⟨nB, .mk 9 60 0 noT [.mk 10 0 0 nA []]⟩]
theorem parse1 : parseF text1 = (rules1, 0, 0) := by kernel_rfl
theorem parse2 : parseF text2 = (rules2, 0, 0) := by kernel_rfl
theorem parse3 : parseF text3 = (rules3, 0, 0) := by kernel_rfl
end Go.Vc
