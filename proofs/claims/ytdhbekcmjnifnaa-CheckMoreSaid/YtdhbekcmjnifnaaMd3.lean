/- CheckMore is proved: a rule more that nobody speaks of, of a new name, and that speaks of none, leaves rules as they were; for every input, with no condition. This text is a part of the way there. -/
import Derived.Test.YtdhbekcmjnifnaaMd2
namespace Go.Vc

/-! ## 8b. Draws whose effects stand in one order, and whose fresh memory floats -/
def inN (t : Nat) : List Nat → Bool
  | [] => false
  | s :: r => match Nat.beq t s with
    | true => true
    | false => inN t r
theorem inN_iff {t : Nat} : ∀ {l : List Nat}, inN t l = true ↔ t ∈ l
  | [] => by simp [inN]
  | s :: r => by
    simp only [inN]
    by_cases h : t = s
    · subst h; simp
    · simp [nbeqN h, inN_iff (l := r), h]
def subN : List Nat → List Nat → Bool
  | [], _ => true
  | a :: r, b => match inN a b with
    | true => subN r b
    | false => false
theorem subN_iff : ∀ {a b : List Nat}, subN a b = true ↔ ∀ x ∈ a, x ∈ b
  | [], b => by simp [subN]
  | a :: r, b => by
    simp only [subN]
    cases h : inN a b with
    | true => simp [subN_iff (a := r), inN_iff.1 h]
    | false =>
      have : a ∉ b := fun hm => by rw [inN_iff.2 hm] at h; cases h
      simp [this]
/-- What an operation waits for. -/
def depL (o : Oper) : List Nat := go o.after.toList where
  go : List Edge → List Nat
  | [] => []
  | e :: r => match Region.binds .any e with
    | true => e.on :: go r
    | false => go r
theorem mem_depL {o : Oper} {i : Nat} : i ∈ depL o ↔ ∃ e ∈ o.after, Region.binds .any e = true ∧ e.on = i := by
  have : ∀ l : List Edge, i ∈ depL.go l ↔ ∃ e ∈ l, Region.binds .any e = true ∧ e.on = i := by
    intro l
    induction l with
    | nil => simp [depL.go]
    | cons e r ih =>
      simp only [depL.go]
      split
      · rename_i h
        simp only [List.mem_cons, ih]
        constructor
        · rintro (rfl | ⟨e', h1, h2⟩)
          · exact ⟨e, .inl rfl, h, rfl⟩
          · exact ⟨e', .inr h1, h2⟩
        · rintro ⟨e', rfl | h1, h2, h3⟩
          · exact .inl h3.symm
          · exact .inr ⟨e', h1, h2, h3⟩
      · rename_i h
        simp only [List.mem_cons, ih]
        constructor
        · rintro ⟨e', h1, h2⟩; exact ⟨e', .inr h1, h2⟩
        · rintro ⟨e', rfl | h1, h2, h3⟩
          · rw [h] at h2; cases h2
          · exact ⟨e', h1, h2, h3⟩
  rw [depL, this]
  simp
def addN : List Nat → List Nat → List Nat
  | [], b => b
  | a :: r, b => match inN a b with
    | true => addN r b
    | false => a :: addN r b
theorem mem_addN {x : Nat} : ∀ {a b : List Nat}, x ∈ addN a b → x ∈ a ∨ x ∈ b
  | [], b, h => .inr h
  | a :: r, b, h => by
    simp only [addN] at h
    split at h
    · exact (mem_addN h).imp (List.mem_cons_of_mem _) id
    · rcases List.mem_cons.1 h with rfl | h
      · exact .inl (by simp)
      · exact (mem_addN h).imp (List.mem_cons_of_mem _) id
def nthL : List (List Nat) → Nat → List Nat
  | [], _ => []
  | a :: _, 0 => a
  | _ :: r, k + 1 => nthL r k
def closD (acc : List (List Nat)) : List Nat → List Nat
  | [] => []
  | d :: r => addN (d :: nthL acc d) (closD acc r)
theorem mem_closD {acc : List (List Nat)} {x : Nat} : ∀ {l : List Nat}, x ∈ closD acc l → ∃ d ∈ l, x = d ∨ x ∈ nthL acc d
  | [], h => by simp [closD] at h
  | d :: r, h => by
    rcases mem_addN h with h | h
    · exact ⟨d, by simp, List.mem_cons.1 h⟩
    · obtain ⟨d', h1, h2⟩ := mem_closD h; exact ⟨d', List.mem_cons_of_mem _ h1, h2⟩
/-- What each operation waits for, through others too. -/
def closGo : List Oper → List (List Nat) → List (List Nat)
  | [], acc => acc
  | o :: r, acc => closGo r (acc ++ [closD acc (depL o)])
theorem nthL_append_left : ∀ {a b : List (List Nat)} {k : Nat}, k < a.length → nthL (a ++ b) k = nthL a k
  | [], _, _, h => by simp at h
  | x :: r, b, 0, _ => rfl
  | x :: r, b, k + 1, h => by simp only [List.cons_append, nthL]; exact nthL_append_left (by simpa using h)
theorem nthL_append_end : ∀ {a : List (List Nat)} {x : List Nat}, nthL (a ++ [x]) a.length = x
  | [], _ => rfl
  | _ :: r, x => by simp only [List.cons_append, nthL, List.length_cons]; exact nthL_append_end
theorem nthL_out : ∀ {a : List (List Nat)} {k : Nat}, a.length ≤ k → nthL a k = []
  | [], k, _ => by cases k <;> rfl
  | _ :: r, 0, h => by simp at h
  | _ :: r, k + 1, h => by simp only [nthL]; exact nthL_out (by simpa using h)
section
variable {ops : Array Oper} {Lst : Nat → Prop}
theorem clos_go (hL : ∀ j o, Lst j → ops[j]? = some o → ∀ d ∈ depL o, Lst d) : ∀ (r : List Oper) (acc : List (List Nat)), (∀ k, r[k]? = ops[acc.length + k]?) →
    (∀ j, (∀ o, ops[j]? = some o → ∀ d ∈ depL o, Lst d) → ∀ i ∈ nthL acc j, Lst i) → ∀ j, (∀ o, ops[j]? = some o → ∀ d ∈ depL o, Lst d) → ∀ i ∈ nthL (closGo r acc) j, Lst i
  | [], acc, _, h => h
  | o :: r, acc, hr, h => clos_go hL r _ (fun k => by
      have := hr (k + 1)
      simp only [List.getElem?_cons_succ] at this
      rw [this, List.length_append]; congr 1; simp; omega) (by
    intro j hj i hi
    have ho : ops[acc.length]? = some o := by have := hr 0; simpa using this.symm
    rcases Nat.lt_trichotomy j acc.length with hlt | heq | hgt
    · rw [nthL_append_left hlt] at hi; exact h j hj i hi
    · subst heq
      rw [nthL_append_end] at hi
      obtain ⟨d, hd, h1 | h1⟩ := mem_closD hi
      · subst h1; exact hj o ho i hd
      · exact h d (fun o' ho' d' hd' => hL d o' (hj o ho d hd) ho' d' hd') i h1
    · rw [nthL_out (by simp; omega)] at hi; simp at hi)
def closL (ops : Array Oper) : List (List Nat) := closGo ops.toList []
theorem closL_spec (hL : ∀ j o, Lst j → ops[j]? = some o → ∀ d ∈ depL o, Lst d) {j : Nat} (hj : ∀ o, ops[j]? = some o → ∀ d ∈ depL o, Lst d) : ∀ i ∈ nthL (closL ops) j, Lst i :=
  clos_go hL ops.toList [] (by simp) (fun j _ i hi => by simp [nthL] at hi) j hj
end

/-- One step of the plan: a still operation; fresh memory made ready, and taken; an effect. -/
inductive Step where
  | s (i : Nat) | p (i : Nat) | t (i : Nat) | e (i : Nat)
structure Got where
  mkV : Addr → Value
  c : List Value
  T : TypeId
def findG : List (Nat × Got) → Nat → Option Got
  | [], _ => none
  | (i, g) :: r, j => match Nat.beq i j with
    | true => some g
    | false => findG r j
/-- Fresh memory: what will lie in it. -/
def allocD (P : Program) (o : Op) (e : Operand → Option Value) (K : (Addr → Value) → List Value → TypeId → Prop) : Prop := match o with
  | .alloc t => match zeroIs P t (zeroL (tleaves P t)) with
    | true => K (fun a => .pointer (some a)) (zeroL (tleaves P t)) t
    | false => False
  | .box t x => onSome (e x) fun v => K (fun a => .pointer (some a)) v.cells.toList t
  | .buildSlice t n ps => onSome (evp e ps.toList) fun l => onSome (match P.underlying t with
      | some (.slice el) => some el
      | _ => none) fun el => onSome (P.info? el) fun i => match i.zero, Nat.beq l.length n, Nat.ble (n * i.size) 16777216 with
    | some _, true, true => rowSz i.size (K (fun a => .slice (some a) n n) (rowL l) el) l 0
    | _, _, _ => False
  | _ => False
def allocOp : Op → Bool
  | .alloc _ | .box _ _ | .buildSlice _ _ _ => true
  | _ => false
theorem okL_map {K K' : Prop} (hk : K → K') : ∀ {l : List Value} {n : Nat}, okL K l n → okL K' l n
  | [], n, h => by
    cases n with
    | zero => exact hk h
    | succ n => exact h
  | v :: r, n, h => by
    cases n with
    | zero => exact h
    | succ m =>
      simp only [okL] at h ⊢
      split at h
      · exact h
      · exact h
      · rename_i h1 h2
        exact okL_map hk h
theorem rowSz_map {n : Nat} {K K' : Prop} (hk : K → K') : ∀ {l : List (Nat × Value)} {k : Nat}, rowSz n K l k → rowSz n K' l k
  | [], k, h => hk h
  | (j, v) :: r, k, h => by
    simp only [rowSz] at h ⊢
    split at h
    · exact okL_map (rowSz_map hk) h
    · exact h
theorem onSome_mk {α : Type} {x : Option α} {K : α → Prop} {a : α} (h : x = some a) (hk : K a) : onSome x K := by subst h; exact hk
theorem allocD_use {P : Program} {o : Op} {e : Operand → Option Value} {K : (Addr → Value) → List Value → TypeId → Prop} (h : allocD P o e K) :
    ∃ g : Got, K g.mkV g.c g.T ∧ allocOp o = true ∧ ∀ (T : TypeId) (H : Heap) (K' : Value → Heap → Prop) X, K' (g.mkV ⟨H.size, 0, none⟩) (H.push (.cells ⟨g.c⟩ g.T)) → opd P o T e H K' X := by
  unfold allocD at h
  split at h
  · split at h
    · rename_i hz
      refine ⟨⟨_, _, _⟩, h, rfl, fun T H K' X hk => ?_⟩
      simp only [opd, hz]
      exact hk
    · exact h.elim
  · obtain ⟨v, hv, h⟩ := onSome_use h
    refine ⟨⟨_, _, _⟩, h, rfl, fun T H K' X hk => ?_⟩
    simp only [opd, hv, onSome]
    exact hk
  · obtain ⟨l, hl, h⟩ := onSome_use h
    obtain ⟨el, hel, h⟩ := onSome_use h
    obtain ⟨i, hi, h⟩ := onSome_use h
    split at h
    · rename_i z h1 h2 h3
      refine ⟨⟨_, _, _⟩, (rowSz_use h).1, rfl, fun T H K' X hk => ?_⟩
      refine onSome_mk hl (onSome_mk hel (onSome_mk hi ?_))
      simp only [h1, h2, h3]
      exact rowSz_map (fun _ => hk) h
    · exact h.elim
  · exact h.elim
/-- Outside of what effects made. -/
def outL : List (Nat × Nat) → Nat → Prop
  | [], _ => True
  | (l, r) :: m, b => (b < l ∨ r ≤ b) ∧ outL m b
def notB : List Nat → Nat → Prop
  | [], _ => True
  | x :: r, b => b ≠ x ∧ notB r b
theorem notB_iff : ∀ {B : List Nat} {b : Nat}, notB B b ↔ b ∉ B
  | [], b => by simp [notB]
  | x :: r, b => by simp [notB, notB_iff (B := r)]
/-- A block that floated in. -/
def Fresh (L : List (Nat × Nat)) (B : List Nat) (H0 H : Heap) (b : Nat) (c : List Value) (T : TypeId) : Prop :=
  H0.size ≤ b ∧ b < H.size ∧ H[b]? = some (.cells ⟨c⟩ T) ∧ outL L b ∧ notB B b
/-- What floats is left as it is. -/
def Keep (L : List (Nat × Nat)) (H0 H H' : Heap) : Prop := H.size ≤ H'.size ∧ ∀ b, H0.size ≤ b → b < H.size → outL L b → H'[b]? = H[b]?
def anyT : List Step → Bool
  | [] => false
  | .t _ :: _ => true
  | _ :: r => anyT r
/-- Those that an effect need not wait for. -/
def lateN (cl : List Nat) : List Nat → List Nat
  | [] => []
  | i :: r => match inN i cl with
    | true => lateN cl r
    | false => i :: lateN cl r
theorem mem_lateN {cl : List Nat} {x : Nat} : ∀ {l : List Nat}, x ∈ lateN cl l ↔ x ∈ l ∧ x ∉ cl
  | [] => by simp [lateN]
  | i :: r => by
    simp only [lateN]
    cases h : inN i cl with
    | true =>
      have := inN_iff.1 h
      simp only [mem_lateN (l := r), List.mem_cons]
      constructor
      · rintro ⟨a, b⟩; exact ⟨.inr a, b⟩
      · rintro ⟨rfl | a, b⟩
        · exact (b this).elim
        · exact ⟨a, b⟩
    | false =>
      have : i ∉ cl := fun hm => by rw [inN_iff.2 hm] at h; cases h
      simp only [mem_lateN (l := r), List.mem_cons]
      constructor
      · rintro (rfl | ⟨a, b⟩)
        · exact ⟨.inl rfl, this⟩
        · exact ⟨.inr a, b⟩
      · rintro ⟨rfl | a, b⟩
        · exact .inl rfl
        · exact .inr ⟨a, b⟩
/-- What was read is as it was. -/
def reckD (P : Program) (ops : Array Oper) (env : Env) (H : Heap) (K : Prop) : List Nat → Prop
  | [] => K
  | i :: r => match ops[i]? with
    | some o => match o.dst with
      | some t => onSome (get env t) fun v => opd P o.op o.type (ev env) H (fun v' _ => v' = v) (fun _ _ => False) ∧ reckD P ops env H K r
      | none => False
    | none => False
section
variable (P : Program) (n : Nat) (ops : Array Oper) (cl : List (List Nat)) (X : List PanicEntry → Heap → Prop) (H0 : Heap) (tail : Env → Heap → Prop)
def relD : List Step → List Nat → List (Nat × Got) → List (Nat × Nat) → List Nat → Env → Heap → Prop
  | [], _, _, _, _, env, H => tail env H
  | .s i :: r, pd, gs, L, B, env, H => match ops[i]? with
    | some o => opd P o.op o.type (ev env) H (fun v _ => putE n o.dst v env fun env' => relD r (i :: pd) gs L B env' H) (fun _ _ => False)
    | none => False
  | .p i :: r, pd, gs, L, B, env, H => match ops[i]? with
    | some o => allocD P o.op (ev env) fun mk c T => relD r pd ((i, ⟨mk, c, T⟩) :: gs) L B env H
    | none => False
  | .t i :: r, pd, gs, L, B, env, H => match ops[i]? with
    | some o => onSome (findG gs i) fun g => ∀ H1, Ext0 H H1 → ∀ b, Fresh L B H0 H1 b g.c g.T → putE n o.dst (g.mkV ⟨b, 0, none⟩) env fun env' => relD r pd gs L (b :: B) env' H1
    | none => False
  | .e i :: r, pd, gs, L, B, env, H => match ops[i]? with
    | some o => match anyT r with
      | true => ∀ H1, Ext0 H H1 → opd P o.op o.type (ev env) H1 (fun v H' => Keep L H0 H1 H' ∧ reckD P ops env H' (putE n o.dst v env fun env' => relD r pd gs ((H1.size, H'.size) :: L) B env' H') (lateN (nthL cl i) pd)) X
      | false => opd P o.op o.type (ev env) H (fun v H' => reckD P ops env H' (putE n o.dst v env fun env' => relD r pd gs L B env' H') (lateN (nthL cl i) pd)) X
    | none => False
end
/-- The plan is one. -/
def planB (ops : Array Oper) (cl : List (List Nat)) : List Step → List Nat → List Nat → List Nat → Bool
  | [], _, _, _ => true
  | .s i :: r, done, prep, te => match ops[i]? with
    | some o => stillOp o.op && (subN (depL o) done && (subN te (nthL cl i) && (!inN i done && (!inN i prep && planB ops cl r (i :: done) prep te))))
    | none => false
  | .p i :: r, done, prep, te => match ops[i]? with
    | some o => allocOp o.op && (subN (depL o) done && (subN te (nthL cl i) && (!inN i done && (!inN i prep && planB ops cl r done (i :: prep) te))))
    | none => false
  | .t i :: r, done, prep, te => inN i prep && (!inN i done && planB ops cl r (i :: done) prep (i :: te))
  | .e i :: r, done, prep, te => match ops[i]? with
    | some o => !stillOp o.op && (!allocOp o.op && (subN (depL o) done && (subN te (nthL cl i) && (!inN i done && (!inN i prep && planB ops cl r (i :: done) prep (i :: te))))))
    | none => false
def runsL : List Step → List Nat
  | [] => []
  | .s i :: r => i :: runsL r
  | .p _ :: r => runsL r
  | .t i :: r => i :: runsL r
  | .e i :: r => i :: runsL r
def idxL : List Step → List Nat
  | [] => []
  | .s i :: r => i :: idxL r
  | .p i :: r => i :: idxL r
  | .t i :: r => i :: idxL r
  | .e i :: r => i :: idxL r
theorem runs_idx : ∀ {l : List Step} {i : Nat}, i ∈ runsL l → i ∈ idxL l
  | [], i, h => by simp [runsL] at h
  | .s k :: r, i, h => by
    rcases List.mem_cons.1 h with rfl | h
    · simp [idxL]
    · exact List.mem_cons_of_mem _ (runs_idx h)
  | .p k :: r, i, h => List.mem_cons_of_mem _ (runs_idx (l := r) h)
  | .t k :: r, i, h => by
    rcases List.mem_cons.1 h with rfl | h
    · simp [idxL]
    · exact List.mem_cons_of_mem _ (runs_idx h)
  | .e k :: r, i, h => by
    rcases List.mem_cons.1 h with rfl | h
    · simp [idxL]
    · exact List.mem_cons_of_mem _ (runs_idx h)
/-- All that there are, and no guard. -/
def coverB (ops : Array Oper) (N : Nat) (pl : List Step) : Bool := (List.range N).all (fun i => inN i (runsL pl) && match ops[i]? with
  | some o => o.guard.isNone
  | none => false) && (idxL pl).all fun i => Nat.blt i N

/-! ### sound -/
section
variable {P : Program} {n N : Nat} {ops : Array Oper} {ds : List Deferred} {w0 : World} {H0 : Heap} {X : List PanicEntry → Heap → Prop} {tail : Env → Heap → Prop} {env0 : Env} {a : Act}

def noW (ops : Array Oper) (N : Nat) (t : Nat) : Prop := ∀ j o, j < N → ops[j]? = some o → o.dst ≠ some t
structure EnvOk (ops : Array Oper) (N n : Nat) (env0 : Env) (σ : Nat → Value) (D : List Nat) (env : Env) : Prop where
  on : ∀ i ∈ D, ∀ o t, ops[i]? = some o → o.dst = some t → get env t = some (σ i) ∧ t < n
  off : ∀ t, noW ops N t → get env t = get env0 t
def upd (σ : Nat → Value) (i : Nat) (v : Value) : Nat → Value := fun k => if k = i then v else σ k
theorem upd_ne {σ : Nat → Value} {i k : Nat} {v : Value} (h : k ≠ i) : upd σ i v k = σ k := by simp [upd, h]
theorem upd_eq {σ : Nat → Value} {i : Nat} {v : Value} : upd σ i v i = v := by simp [upd]
theorem EnvOk.congr {σ σ' : Nat → Value} {D : List Nat} {env : Env} (h : EnvOk ops N n env0 σ D env) (hs : ∀ i ∈ D, σ' i = σ i) : EnvOk ops N n env0 σ' D env :=
  ⟨fun i hi o t ho ht => by rw [hs i hi]; exact h.on i hi o t ho ht, h.off⟩
theorem Holds.congr {σ σ' : Nat → Value} {f : Nat → Bool} {a' : Act} (h : Holds ops σ a N f a') (hs : ∀ i, i < N → f i = true → σ' i = σ i) : Holds ops σ' a N f a' :=
  ⟨h.1, h.2.1, fun t => ⟨fun j o hj ho ht hf => by rw [hs j hj hf]; exact (h.2.2 t).1 j o hj ho ht hf, (h.2.2 t).2⟩⟩
theorem he_of (hd : depB ops N = true) (hfit : Fits n env0 ds a) {σ : Nat → Value} {D : List Nat} {env : Env} (he : EnvOk ops N n env0 σ D env) {f : Nat → Bool} {a' : Act} (hh : Holds ops σ a N f a') {j : Nat} {o : Oper} (hj : j < N) (ho : ops[j]? = some o)
    (hD : ∀ d ∈ depL o, d ∈ D) (hf : ∀ d ∈ depL o, f d = true) : ∀ x ∈ o.op.operands.toList, ∀ v, ev env x = some v → a'.eval x = v := by
  intro x hx v hv
  cases x with
  | tmp t =>
    have hm : t ∈ o.looksAt ops := List.mem_append_left _ (List.mem_filterMap.2 ⟨.tmp t, hx, rfl⟩)
    simp only [ev] at hv
    by_cases hex : ∃ i oi, i < N ∧ ops[i]? = some oi ∧ oi.dst = some t
    · obtain ⟨i, oi, hi, hoi, hti⟩ := hex
      obtain ⟨_, e, hea, hb, hon⟩ := (depB_spec hd hi hj ho hoi hti).1 hm
      have hdep : i ∈ depL o := mem_depL.2 ⟨e, hea, hb, hon⟩
      obtain ⟨h1, h2⟩ := he.on i (hD i hdep) oi t hoi hti
      rw [h1] at hv
      simp only [Option.some.injEq] at hv
      have h3 := (hh.2.2 t).1 i oi hi hoi hti (hf i hdep)
      rw [hfit.size, if_pos h2] at h3
      simp [Act.eval, h3, hv]
    · have h3 := (hh.2.2 t).2 fun i oi hi hoi hti => (hex ⟨i, oi, hi, hoi, hti⟩).elim
      rw [he.off t fun i oi hi hoi hti => hex ⟨i, oi, hi, hoi, hti⟩] at hv
      rw [hfit.at_ t v hv] at h3
      simp [Act.eval, h3]
  | const u => simpa [ev, Act.eval] using hv
  | global g => simpa [ev, Act.eval] using hv
  | func g => simpa [ev, Act.eval] using hv
theorem putE_env {dst : Option Tmp} {v : Value} {env : Env} {K : Env → Prop} (h : putE n dst v env K) : ∃ env', K env' ∧ ((dst = none ∧ env' = env) ∨ ∃ t, dst = some t ∧ t < n ∧ env' = (t, v) :: env) := by
  cases dst with
  | none => exact ⟨env, h, .inl ⟨rfl, rfl⟩⟩
  | some t =>
    simp only [putE] at h
    split at h
    · rename_i hb
      exact ⟨_, h, .inr ⟨t, rfl, Nat.lt_of_succ_le (Nat.le_of_ble_eq_true hb), rfl⟩⟩
    · exact h.elim
theorem EnvOk.put (hd : depB ops N = true) {σ : Nat → Value} {D : List Nat} {env env' : Env} (h : EnvOk ops N n env0 σ D env) (hDN : ∀ i ∈ D, i < N) {i : Nat} {o : Oper} (hi : i < N) (ho : ops[i]? = some o) (hiD : i ∉ D) {v : Value}
    (he : (o.dst = none ∧ env' = env) ∨ ∃ t, o.dst = some t ∧ t < n ∧ env' = (t, v) :: env) : EnvOk ops N n env0 (upd σ i v) (i :: D) env' where
  on k hk ok t hok ht := by
    by_cases hki : k = i
    · subst hki
      rw [ho] at hok
      simp only [Option.some.injEq] at hok
      subst hok
      rcases he with ⟨h1, _⟩ | ⟨t', h1, h2, h3⟩
      · rw [h1] at ht; cases ht
      · rw [h1] at ht
        simp only [Option.some.injEq] at ht
        subst ht
        rw [h3, get_cons, if_pos rfl, upd_eq]
        exact ⟨rfl, h2⟩
    · have hkD : k ∈ D := (List.mem_cons.1 hk).resolve_left hki
      obtain ⟨h1, h2⟩ := h.on k hkD ok t hok ht
      rw [upd_ne hki]
      refine ⟨?_, h2⟩
      rcases he with ⟨_, h3⟩ | ⟨t', h3, _, h4⟩
      · rw [h3]; exact h1
      · have : t' ≠ t := fun e => (depB_spec hd (hDN k hkD) hi ho hok ht).2 hki (by rw [h3, e])
        rw [h4, get_cons, if_neg this]; exact h1
  off t ht := by
    rw [← h.off t ht]
    rcases he with ⟨_, h3⟩ | ⟨t', h3, _, h4⟩
    · rw [h3]
    · rw [h4, get_cons, if_neg (fun e => ht i o hi ho (by rw [h3, e]))]
theorem canon (hd : depB ops N = true) (hN : N ≤ ops.size) (σ : Nat → Value) : ∀ (D : List Nat), (∀ i ∈ D, i < N) → ∃ aj, Holds ops σ a N (fun i => inN i D) aj
  | [], _ => ⟨a, rfl, rfl, fun t => ⟨fun j o _ _ _ h => by simp [inN] at h, fun _ => rfl⟩⟩
  | i :: r, h => by
    obtain ⟨aj, hj⟩ := canon hd hN σ r fun k hk => h k (List.mem_cons_of_mem _ hk)
    have hi : i < N := h i (by simp)
    have ho : ops[i]? = some (ops[i]'(by omega)) := by simp [show i < ops.size by omega]
    exact ⟨_, hj.put hd hi ho fun k => by simp only [inN_iff, List.mem_cons]⟩

/-- Where the plan stands. -/
structure RSt where
  suf : List Step
  done : List Nat
  prep : List Nat
  te : List Nat
  pd : List Nat
  gs : List (Nat × Got)
  L : List (Nat × Nat)
  B : List Nat
  env : Env
  Hc : Heap
  σ : Nat → Value
  bl : Nat → Nat
def PendS (P : Program) (ops : Array Oper) (N : Nat) (a : Act) (s : RSt) (j : Nat) (H : Heap) : Prop := ∃ D aj o, ops[j]? = some o ∧ (∀ d ∈ depL o, d ∈ D) ∧ (∀ i ∈ D, i ∈ s.done) ∧ Holds ops s.σ a N (fun i => inN i D) aj ∧
  ∀ H', Ext0 H H' → ∀ w d, (execOp aj.eval o).run P (wk w H' d) = .ok (.value (s.σ j)) (wk w H' d)
def PrepS (P : Program) (ops : Array Oper) (N n : Nat) (env0 : Env) (s : RSt) (j : Nat) (g : Got) : Prop := ∃ D env o, ops[j]? = some o ∧ (∀ d ∈ depL o, d ∈ D) ∧ (∀ i ∈ D, i ∈ s.done) ∧ EnvOk ops N n env0 s.σ D env ∧
  ∀ (H : Heap) (K : Value → Heap → Prop) X, K (g.mkV ⟨H.size, 0, none⟩) (H.push (.cells ⟨g.c⟩ g.T)) → opd P o.op o.type (ev env) H K X
def Flt (s : RSt) (H0 H : Heap) (j : Nat) : Prop := ∃ g, findG s.gs j = some g ∧ s.σ j = g.mkV ⟨s.bl j, 0, none⟩ ∧ Fresh s.L s.B H0 H (s.bl j) g.c g.T
structure Good (P : Program) (n N : Nat) (ops : Array Oper) (X : List PanicEntry → Heap → Prop) (H0 : Heap) (tail : Env → Heap → Prop) (env0 : Env) (a : Act) (s : RSt) (f : Nat → Bool) (a' : Act) (H : Heap) : Prop where
  vc : relD P n ops (closL ops) X H0 tail s.suf s.pd s.gs s.L s.B s.env s.Hc
  plan : planB ops (closL ops) s.suf s.done s.prep s.te = true
  cover : ∀ i, i < N → i ∈ s.done ∨ i ∈ runsL s.suf
  sufN : ∀ i ∈ idxL s.suf, i < N
  doneN : ∀ i ∈ s.done, i < N
  prepA : ∀ i ∈ s.prep, i < N ∧ ∃ o, ops[i]? = some o ∧ allocOp o.op = true
  slots : Holds ops s.σ a N f a'
  envOk : EnvOk ops N n env0 s.σ s.done s.env
  teL : ∀ i ∈ s.te, f i = true
  unl : ∀ i, (Step.s i ∈ s.suf ∨ Step.p i ∈ s.suf ∨ Step.e i ∈ s.suf) → f i = false
  pdIn : ∀ j ∈ s.done, j ∈ s.te ∨ j ∈ s.pd
  pdD : ∀ j ∈ s.pd, j ∈ s.done
  pend : ∀ j ∈ s.done, f j = false → PendS P ops N a s j H
  prp : ∀ j ∈ s.prep, ∃ g, findG s.gs j = some g ∧ PrepS P ops N n env0 s j g
  flt : ∀ j ∈ s.prep, j ∉ s.done → f j = true → Flt s H0 H j
  dist : ∀ j ∈ s.prep, ∀ k ∈ s.prep, j ∉ s.done → k ∉ s.done → f j = true → f k = true → s.bl j = s.bl k → j = k
  Bl : anyT s.suf = true → ∀ b ∈ s.B, b < H.size
  Ll : anyT s.suf = true → ∀ p ∈ s.L, p.2 ≤ H.size
  H0l : anyT s.suf = true → H0.size ≤ H.size
  ext : Ext0 s.Hc H
  same : (∀ j ∈ s.prep, j ∉ s.done → f j = false) → s.Hc = H
  pdS : ∀ k ∈ s.pd, ∀ o, ops[k]? = some o → stillOp o.op = true
  depD : ∀ k, k ∈ s.done ∨ k ∈ s.prep → ∀ o, ops[k]? = some o → ∀ d ∈ depL o, d ∈ s.done
def NF (s : RSt) (f : Nat → Bool) : Prop := s.suf = [] ∨ (∃ i r, s.suf = .t i :: r ∧ f i = false) ∨ (∃ i r, s.suf = .e i :: r ∧ f i = false)
theorem subN_spec {a b : List Nat} (h : subN a b = true) : ∀ x ∈ a, x ∈ b := subN_iff.1 h
theorem ninN {t : Nat} {l : List Nat} (h : (!inN t l) = true) : t ∉ l := fun hm => by rw [inN_iff.2 hm] at h; cases h
/-- What the plan's check says of its first step. -/
theorem plan_s {cl : List (List Nat)} {i : Nat} {r : List Step} {done prep te : List Nat} (h : planB ops cl (.s i :: r) done prep te = true) :
    ∃ o, ops[i]? = some o ∧ stillOp o.op = true ∧ (∀ d ∈ depL o, d ∈ done) ∧ (∀ x ∈ te, x ∈ nthL cl i) ∧ i ∉ done ∧ i ∉ prep ∧ planB ops cl r (i :: done) prep te = true := by
  simp only [planB] at h
  split at h
  · rename_i o ho
    simp only [Bool.and_eq_true] at h
    exact ⟨o, ho, h.1, subN_spec h.2.1, subN_spec h.2.2.1, ninN h.2.2.2.1, ninN h.2.2.2.2.1, h.2.2.2.2.2⟩
  · cases h
theorem plan_p {cl : List (List Nat)} {i : Nat} {r : List Step} {done prep te : List Nat} (h : planB ops cl (.p i :: r) done prep te = true) :
    ∃ o, ops[i]? = some o ∧ allocOp o.op = true ∧ (∀ d ∈ depL o, d ∈ done) ∧ (∀ x ∈ te, x ∈ nthL cl i) ∧ i ∉ done ∧ i ∉ prep ∧ planB ops cl r done (i :: prep) te = true := by
  simp only [planB] at h
  split at h
  · rename_i o ho
    simp only [Bool.and_eq_true] at h
    exact ⟨o, ho, h.1, subN_spec h.2.1, subN_spec h.2.2.1, ninN h.2.2.2.1, ninN h.2.2.2.2.1, h.2.2.2.2.2⟩
  · cases h
theorem plan_t {cl : List (List Nat)} {i : Nat} {r : List Step} {done prep te : List Nat} (h : planB ops cl (.t i :: r) done prep te = true) :
    i ∈ prep ∧ i ∉ done ∧ planB ops cl r (i :: done) prep (i :: te) = true := by
  simp only [planB, Bool.and_eq_true] at h
  exact ⟨inN_iff.1 h.1, ninN h.2.1, h.2.2⟩
theorem plan_e {cl : List (List Nat)} {i : Nat} {r : List Step} {done prep te : List Nat} (h : planB ops cl (.e i :: r) done prep te = true) :
    ∃ o, ops[i]? = some o ∧ stillOp o.op = false ∧ allocOp o.op = false ∧ (∀ d ∈ depL o, d ∈ done) ∧ (∀ x ∈ te, x ∈ nthL cl i) ∧ i ∉ done ∧ i ∉ prep ∧ planB ops cl r (i :: done) prep (i :: te) = true := by
  simp only [planB] at h
  split at h
  · rename_i o ho
    simp only [Bool.and_eq_true] at h
    exact ⟨o, ho, by simpa using h.1, by simpa using h.2.1, subN_spec h.2.2.1, subN_spec h.2.2.2.1, ninN h.2.2.2.2.1, ninN h.2.2.2.2.2.1, h.2.2.2.2.2.2⟩
  · cases h
/-- Whatever is still to come waits for what was taken or done. -/
theorem plan_te {cl : List (List Nat)} : ∀ {suf : List Step} {done prep te : List Nat}, planB ops cl suf done prep te = true → ∀ i, (Step.s i ∈ suf ∨ Step.p i ∈ suf ∨ Step.e i ∈ suf) → ∀ x ∈ te, x ∈ nthL cl i
  | [], _, _, _, _, i, hi, x, hx => by simp at hi
  | .s k :: r, done, prep, te, h, i, hi, x, hx => by
    obtain ⟨o, _, _, _, h1, _, _, h2⟩ := plan_s h
    simp only [List.mem_cons, Step.s.injEq, reduceCtorEq, false_or] at hi
    rcases hi with (rfl | hi) | hi | hi
    · exact h1 x hx
    · exact plan_te h2 i (.inl hi) x hx
    · exact plan_te h2 i (.inr (.inl hi)) x hx
    · exact plan_te h2 i (.inr (.inr hi)) x hx
  | .p k :: r, done, prep, te, h, i, hi, x, hx => by
    obtain ⟨o, _, _, _, h1, _, _, h2⟩ := plan_p h
    simp only [List.mem_cons, Step.p.injEq, reduceCtorEq, false_or] at hi
    rcases hi with hi | (rfl | hi) | hi
    · exact plan_te h2 i (.inl hi) x hx
    · exact h1 x hx
    · exact plan_te h2 i (.inr (.inl hi)) x hx
    · exact plan_te h2 i (.inr (.inr hi)) x hx
  | .t k :: r, done, prep, te, h, i, hi, x, hx => by
    obtain ⟨_, _, h2⟩ := plan_t h
    simp only [List.mem_cons, reduceCtorEq, false_or] at hi
    exact plan_te h2 i hi x (List.mem_cons_of_mem _ hx)
  | .e k :: r, done, prep, te, h, i, hi, x, hx => by
    obtain ⟨o, _, _, _, _, h1, _, _, h2⟩ := plan_e h
    simp only [List.mem_cons, Step.e.injEq, reduceCtorEq, false_or] at hi
    rcases hi with hi | hi | (rfl | hi)
    · exact plan_te h2 i (.inl hi) x (List.mem_cons_of_mem _ hx)
    · exact plan_te h2 i (.inr (.inl hi)) x (List.mem_cons_of_mem _ hx)
    · exact h1 x hx
    · exact plan_te h2 i (.inr (.inr hi)) x (List.mem_cons_of_mem _ hx)
/-- Of what kind the steps are. -/
theorem plan_kind {cl : List (List Nat)} : ∀ {suf : List Step} {done prep te : List Nat}, planB ops cl suf done prep te = true → ∀ i,
    (Step.s i ∈ suf → ∃ o, ops[i]? = some o ∧ stillOp o.op = true ∧ i ∉ prep) ∧ (Step.e i ∈ suf → ∃ o, ops[i]? = some o ∧ stillOp o.op = false ∧ i ∉ prep) ∧ (Step.t i ∈ suf → i ∈ prep ∨ Step.p i ∈ suf) ∧ (i ∈ runsL suf → i ∉ done) ∧ (Step.p i ∈ suf → i ∉ done ∧ i ∉ prep)
  | [], _, _, _, _, i => by simp [runsL]
  | .s k :: r, done, prep, te, h, i => by
    obtain ⟨o, ho, hs, _, _, hd, hp, h2⟩ := plan_s h
    obtain ⟨i1, i2, i3, i4, i5⟩ := plan_kind h2 i
    simp only [List.mem_cons, Step.s.injEq, reduceCtorEq, false_or, runsL]
    refine ⟨?_, i2, i3, ?_, fun hi => ⟨fun hm => (i5 hi).1 (List.mem_cons_of_mem _ hm), (i5 hi).2⟩⟩
    · rintro (rfl | hi)
      · exact ⟨o, ho, hs, hp⟩
      · exact i1 hi
    · rintro (rfl | hi)
      · exact hd
      · exact fun hm => i4 hi (List.mem_cons_of_mem _ hm)
  | .p k :: r, done, prep, te, h, i => by
    obtain ⟨o, ho, hs, _, _, hd, hp, h2⟩ := plan_p h
    obtain ⟨i1, i2, i3, i4, i5⟩ := plan_kind h2 i
    simp only [List.mem_cons, Step.p.injEq, reduceCtorEq, false_or, runsL]
    refine ⟨fun hi => ?_, fun hi => ?_, fun hi => ?_, i4, ?_⟩
    · obtain ⟨o', h3, h4, h5⟩ := i1 hi; exact ⟨o', h3, h4, fun hm => h5 (List.mem_cons_of_mem _ hm)⟩
    · obtain ⟨o', h3, h4, h5⟩ := i2 hi; exact ⟨o', h3, h4, fun hm => h5 (List.mem_cons_of_mem _ hm)⟩
    · rcases i3 hi with h3 | h3
      · rcases List.mem_cons.1 h3 with rfl | h3
        · exact .inr (.inl rfl)
        · exact .inl h3
      · exact .inr (.inr h3)
    · rintro (rfl | hi)
      · exact ⟨hd, hp⟩
      · exact ⟨(i5 hi).1, fun hm => (i5 hi).2 (List.mem_cons_of_mem _ hm)⟩
  | .t k :: r, done, prep, te, h, i => by
    obtain ⟨hk, hd, h2⟩ := plan_t h
    obtain ⟨i1, i2, i3, i4, i5⟩ := plan_kind h2 i
    simp only [List.mem_cons, Step.t.injEq, reduceCtorEq, false_or, runsL]
    refine ⟨i1, i2, ?_, ?_, fun hi => ⟨fun hm => (i5 hi).1 (List.mem_cons_of_mem _ hm), (i5 hi).2⟩⟩
    · rintro (rfl | hi)
      · exact .inl hk
      · exact i3 hi
    · rintro (rfl | hi)
      · exact hd
      · exact fun hm => i4 hi (List.mem_cons_of_mem _ hm)
  | .e k :: r, done, prep, te, h, i => by
    obtain ⟨o, ho, hs, _, _, _, hd, hp, h2⟩ := plan_e h
    obtain ⟨i1, i2, i3, i4, i5⟩ := plan_kind h2 i
    simp only [List.mem_cons, Step.e.injEq, reduceCtorEq, false_or, runsL]
    refine ⟨i1, ?_, i3, ?_, fun hi => ⟨fun hm => (i5 hi).1 (List.mem_cons_of_mem _ hm), (i5 hi).2⟩⟩
    · rintro (rfl | hi)
      · exact ⟨o, ho, hs, hp⟩
      · exact i2 hi
    · rintro (rfl | hi)
      · exact hd
      · exact fun hm => i4 hi (List.mem_cons_of_mem _ hm)
theorem runsL_mem : ∀ {suf : List Step} {i : Nat}, i ∈ runsL suf ↔ Step.s i ∈ suf ∨ Step.t i ∈ suf ∨ Step.e i ∈ suf
  | [], i => by simp [runsL]
  | .s k :: r, i => by simp [runsL, runsL_mem (suf := r), or_assoc]
  | .p k :: r, i => by simp [runsL, runsL_mem (suf := r)]
  | .t k :: r, i => by simp [runsL, runsL_mem (suf := r)]; grind
  | .e k :: r, i => by simp [runsL, runsL_mem (suf := r)]; grind
theorem PendS.mono {s s' : RSt} {j : Nat} {H H' : Heap} (h : PendS P ops N a s j H) (hD : ∀ i ∈ s.done, i ∈ s'.done) (hσ : ∀ i ∈ s.done, s'.σ i = s.σ i) (hj : s'.σ j = s.σ j) (hx : Ext0 H H') : PendS P ops N a s' j H' := by
  obtain ⟨D, aj, o, h1, h2, h3, h4, h5⟩ := h
  exact ⟨D, aj, o, h1, h2, fun i hi => hD i (h3 i hi), h4.congr fun i _ hi => hσ i (h3 i (inN_iff.1 hi)), fun H'' hH w d => by rw [hj]; exact h5 H'' (hx.trans hH) w d⟩
theorem PrepS.mono {s s' : RSt} {j : Nat} {g : Got} (h : PrepS P ops N n env0 s j g) (hD : ∀ i ∈ s.done, i ∈ s'.done) (hσ : ∀ i ∈ s.done, s'.σ i = s.σ i) : PrepS P ops N n env0 s' j g := by
  obtain ⟨D, env, o, h1, h2, h3, h4, h5⟩ := h
  exact ⟨D, env, o, h1, h2, fun i hi => hD i (h3 i hi), h4.congr fun i hi => hσ i (h3 i hi), h5⟩
theorem findG_cons {i j : Nat} {g : Got} {l : List (Nat × Got)} : findG ((i, g) :: l) j = if i = j then some g else findG l j := by
  simp only [findG]
  by_cases h : i = j
  · rw [if_pos h, h, show Nat.beq j j = true from Nat.beq_refl j]
  · rw [if_neg h, nbeqN h]

/-- On to where the plan waits for a listing. -/
theorem advance (hd : depB ops N = true) (hN : N ≤ ops.size) (hfit : Fits n env0 ds a) {f : Nat → Bool} {a' : Act} {H : Heap} : ∀ (suf : List Step) (s : RSt), s.suf = suf → Good P n N ops X H0 tail env0 a s f a' H →
    ∃ s', Good P n N ops X H0 tail env0 a s' f a' H ∧ NF s' f
  | [], s, hs, h => ⟨s, h, .inl hs⟩
  | .e i :: r, s, hs, h => ⟨s, h, .inr (.inr ⟨i, r, hs, h.unl i (.inr (.inr (by rw [hs]; simp)))⟩)⟩
  | .t i :: r, s, hs, h => by
    cases hl : f i with
    | false => exact ⟨s, h, .inr (.inl ⟨i, r, hs, hl⟩)⟩
    | true =>
      have hpl := h.plan
      rw [hs] at hpl
      obtain ⟨hp, hdn, hpl⟩ := plan_t hpl
      have hvc := h.vc
      rw [hs] at hvc
      simp only [relD] at hvc
      split at hvc
      · rename_i o ho
        obtain ⟨g, hg, hvc⟩ := onSome_use hvc
        obtain ⟨g', hg', hσ, hfr⟩ := h.flt i hp hdn hl
        rw [hg] at hg'
        simp only [Option.some.injEq] at hg'
        subst hg'
        obtain ⟨env', hK, henv⟩ := putE_env (hvc H h.ext (s.bl i) hfr)
        have hiN : i < N := (h.prepA i hp).1
        have hT : anyT s.suf = true := by rw [hs]; rfl
        have hupd : upd s.σ i (s.σ i) = s.σ := by funext k; by_cases hk : k = i <;> simp [upd, hk]
        refine advance hd hN hfit r { s with suf := r, done := i :: s.done, te := i :: s.te, B := s.bl i :: s.B, env := env', Hc := H } rfl ?_
        refine { vc := hK, plan := hpl, cover := ?_, sufN := ?_, doneN := ?_, prepA := h.prepA, slots := h.slots, envOk := ?_, teL := ?_, unl := ?_, pdIn := ?_, pdD := ?_, pend := ?_, prp := ?_, flt := ?_, dist := ?_, Bl := ?_, Ll := fun _ => h.Ll hT, H0l := fun _ => h.H0l hT, ext := Ext0.refl H, same := fun _ => rfl, pdS := h.pdS, depD := ?_ }
        · intro k hk
          rcases h.cover k hk with h1 | h1
          · exact .inl (List.mem_cons_of_mem _ h1)
          · rw [hs] at h1
            rcases List.mem_cons.1 h1 with rfl | h1
            · exact .inl (by simp)
            · exact .inr h1
        · exact fun k hk => h.sufN k (by rw [hs]; exact List.mem_cons_of_mem _ hk)
        · rintro k hk
          rcases List.mem_cons.1 hk with rfl | hk
          · exact hiN
          · exact h.doneN k hk
        · have := h.envOk.put hd h.doneN hiN ho hdn (v := s.σ i) (by rw [hσ]; exact henv)
          rw [hupd] at this
          exact this
        · rintro k hk
          rcases List.mem_cons.1 hk with rfl | hk
          · exact hl
          · exact h.teL k hk
        · intro k hk
          refine h.unl k ?_
          rw [hs]
          exact hk.imp (List.mem_cons_of_mem _) (Or.imp (List.mem_cons_of_mem _) (List.mem_cons_of_mem _))
        · rintro k hk
          rcases List.mem_cons.1 hk with rfl | hk
          · exact .inl (by simp)
          · exact (h.pdIn k hk).imp (List.mem_cons_of_mem _) id
        · exact fun k hk => List.mem_cons_of_mem _ (h.pdD k hk)
        · rintro k hk hf
          rcases List.mem_cons.1 hk with rfl | hk
          · rw [hl] at hf; cases hf
          · exact (h.pend k hk hf).mono (fun _ hm => List.mem_cons_of_mem _ hm) (fun _ _ => rfl) rfl (Ext0.refl H)
        · intro k hk
          obtain ⟨g', h1, h2⟩ := h.prp k hk
          exact ⟨g', h1, h2.mono (fun _ hm => List.mem_cons_of_mem _ hm) fun _ _ => rfl⟩
        · intro k hk hkd hkf
          have hkd' : k ∉ s.done := fun hm => hkd (List.mem_cons_of_mem _ hm)
          have hki : k ≠ i := fun e => hkd (by rw [e]; simp)
          obtain ⟨g', h1, h2, h3, h4, h5, h6, h7⟩ := h.flt k hk hkd' hkf
          exact ⟨g', h1, h2, h3, h4, h5, h6, fun e => hki (h.dist k hk i hp hkd' hdn hkf hl e), h7⟩
        · intro j hj k hk hjd hkd
          exact h.dist j hj k hk (fun hm => hjd (List.mem_cons_of_mem _ hm)) (fun hm => hkd (List.mem_cons_of_mem _ hm))
        · rintro _ b hb
          rcases List.mem_cons.1 hb with rfl | hb
          · exact hfr.2.1
          · exact h.Bl hT b hb
        · rintro k hk ok hok dd hdd
          refine List.mem_cons_of_mem _ (h.depD k ?_ ok hok dd hdd)
          rcases hk with hk | hk
          · rcases List.mem_cons.1 hk with rfl | hk
            · exact .inr hp
            · exact .inl hk
          · exact .inr hk
      · exact hvc.elim
  | .p i :: r, s, hs, h => by
    have hpl := h.plan
    rw [hs] at hpl
    obtain ⟨o, ho, hal, hdep, _, hdn, hnp, hpl⟩ := plan_p hpl
    have hvc := h.vc
    rw [hs] at hvc
    simp only [relD, ho] at hvc
    obtain ⟨g, hK, _, hrun⟩ := allocD_use hvc
    have hfi : f i = false := h.unl i (.inr (.inl (by rw [hs]; simp)))
    have hiN : i < N := h.sufN i (by rw [hs]; simp [idxL])
    refine advance hd hN hfit r { s with suf := r, prep := i :: s.prep, gs := (i, ⟨g.mkV, g.c, g.T⟩) :: s.gs } rfl ?_
    refine { vc := hK, plan := hpl, cover := ?_, sufN := ?_, doneN := h.doneN, prepA := ?_, slots := h.slots, envOk := h.envOk, teL := h.teL, unl := ?_, pdIn := h.pdIn, pdD := h.pdD, pend := h.pend, prp := ?_, flt := ?_, dist := ?_, Bl := fun hT => h.Bl (by rw [hs]; exact hT), Ll := fun hT => h.Ll (by rw [hs]; exact hT), H0l := fun hT => h.H0l (by rw [hs]; exact hT), ext := h.ext, same := ?_, pdS := h.pdS, depD := ?_ }
    · intro k hk
      have := h.cover k hk
      rw [hs] at this
      exact this
    · exact fun k hk => h.sufN k (by rw [hs]; exact List.mem_cons_of_mem _ hk)
    · rintro k hk
      rcases List.mem_cons.1 hk with rfl | hk
      · exact ⟨hiN, o, ho, hal⟩
      · exact h.prepA k hk
    · intro k hk
      refine h.unl k ?_
      rw [hs]
      exact hk.imp (List.mem_cons_of_mem _) (Or.imp (List.mem_cons_of_mem _) (List.mem_cons_of_mem _))
    · intro k hk
      by_cases hki : i = k
      · subst hki
        exact ⟨g, by rw [findG_cons, if_pos rfl], s.done, s.env, o, ho, hdep, fun _ h => h, h.envOk, hrun o.type⟩
      · obtain ⟨g', h1, h2⟩ := h.prp k ((List.mem_cons.1 hk).resolve_left fun e => hki e.symm)
        exact ⟨g', by rw [findG_cons, if_neg hki]; exact h1, h2⟩
    · intro k hk hkd hkf
      by_cases hki : i = k
      · subst hki; rw [hfi] at hkf; cases hkf
      · obtain ⟨g', h1, h2⟩ := h.flt k ((List.mem_cons.1 hk).resolve_left fun e => hki e.symm) hkd hkf
        exact ⟨g', by rw [findG_cons, if_neg hki]; exact h1, h2⟩
    · intro j hj k hk hjd hkd hjf hkf
      have hij : j ≠ i := fun e => by subst e; rw [hfi] at hjf; cases hjf
      have hik : k ≠ i := fun e => by subst e; rw [hfi] at hkf; cases hkf
      exact h.dist j ((List.mem_cons.1 hj).resolve_left hij) k ((List.mem_cons.1 hk).resolve_left hik) hjd hkd hjf hkf
    · intro hno
      exact h.same fun j hj => hno j (List.mem_cons_of_mem _ hj)
    · rintro k hk ok hok dd hdd
      rcases hk with hk | hk
      · exact h.depD k (.inl hk) ok hok dd hdd
      · rcases List.mem_cons.1 hk with rfl | hk
        · rw [ho] at hok
          simp only [Option.some.injEq] at hok
          subst hok
          exact hdep dd hdd
        · exact h.depD k (.inr hk) ok hok dd hdd
  | .s i :: r, s, hs, h => by
    have hpl := h.plan
    rw [hs] at hpl
    obtain ⟨o, ho, hst, hdep, _, hdn, hnp, hpl⟩ := plan_s hpl
    have hvc := h.vc
    rw [hs] at hvc
    simp only [relD, ho] at hvc
    have hiN : i < N := h.sufN i (by rw [hs]; simp [idxL])
    have hfi : f i = false := h.unl i (.inl (by rw [hs]; simp))
    obtain ⟨aj, haj⟩ := canon (a := a) hd hN s.σ s.done h.doneN
    have hf' : ∀ d ∈ depL o, inN d s.done = true := fun d hd' => inN_iff.2 (hdep d hd')
    obtain ⟨v, hK, hrun⟩ := opd_still hst (he_of hd hfit h.envOk haj hiN ho hdep hf') hvc
    obtain ⟨env', hK, henv⟩ := putE_env hK
    have hσ : ∀ k ∈ s.done, upd s.σ i v k = s.σ k := fun k hk => upd_ne fun e => hdn (by rw [← e]; exact hk)
    refine advance hd hN hfit r { s with suf := r, done := i :: s.done, pd := i :: s.pd, env := env', σ := upd s.σ i v } rfl ?_
    refine { vc := hK, plan := hpl, cover := ?_, sufN := ?_, doneN := ?_, prepA := h.prepA, slots := ?_, envOk := h.envOk.put hd h.doneN hiN ho hdn henv, teL := h.teL, unl := ?_, pdIn := ?_, pdD := ?_, pend := ?_, prp := ?_, flt := ?_, dist := ?_, Bl := fun hT => h.Bl (by rw [hs]; exact hT), Ll := fun hT => h.Ll (by rw [hs]; exact hT), H0l := fun hT => h.H0l (by rw [hs]; exact hT), ext := h.ext, same := ?_, pdS := ?_, depD := ?_ }
    · intro k hk
      rcases h.cover k hk with h1 | h1
      · exact .inl (List.mem_cons_of_mem _ h1)
      · rw [hs] at h1
        rcases List.mem_cons.1 h1 with rfl | h1
        · exact .inl (by simp)
        · exact .inr h1
    · exact fun k hk => h.sufN k (by rw [hs]; exact List.mem_cons_of_mem _ hk)
    · rintro k hk
      rcases List.mem_cons.1 hk with rfl | hk
      · exact hiN
      · exact h.doneN k hk
    · exact h.slots.congr fun k _ hk => upd_ne fun e => by rw [e, hfi] at hk; cases hk
    · intro k hk
      refine h.unl k ?_
      rw [hs]
      exact hk.imp (List.mem_cons_of_mem _) (Or.imp (List.mem_cons_of_mem _) (List.mem_cons_of_mem _))
    · rintro k hk
      rcases List.mem_cons.1 hk with rfl | hk
      · exact .inr (by simp)
      · exact (h.pdIn k hk).imp id (List.mem_cons_of_mem _)
    · rintro k hk
      rcases List.mem_cons.1 hk with rfl | hk
      · simp
      · exact List.mem_cons_of_mem _ (h.pdD k hk)
    · rintro k hk hf
      by_cases hki : k = i
      · subst hki
        refine ⟨s.done, aj, o, ho, hdep, fun _ h => List.mem_cons_of_mem _ h, haj.congr fun k _ hk => hσ k (inN_iff.1 hk), fun H' hH w d => ?_⟩
        simp only [upd_eq]
        exact hrun H' (h.ext.trans hH) w d
      · have hk' := (List.mem_cons.1 hk).resolve_left hki
        exact (h.pend k hk' hf).mono (fun _ hm => List.mem_cons_of_mem _ hm) hσ (hσ k hk') (Ext0.refl H)
    · intro k hk
      obtain ⟨g', h1, h2⟩ := h.prp k hk
      exact ⟨g', h1, h2.mono (fun _ hm => List.mem_cons_of_mem _ hm) hσ⟩
    · intro k hk hkd hkf
      have hki : k ≠ i := fun e => hkd (by rw [e]; simp)
      obtain ⟨g', h1, h2, h3⟩ := h.flt k hk (fun hm => hkd (List.mem_cons_of_mem _ hm)) hkf
      exact ⟨g', h1, (upd_ne hki).trans h2, h3⟩
    · intro j hj k hk hjd hkd
      exact h.dist j hj k hk (fun hm => hjd (List.mem_cons_of_mem _ hm)) (fun hm => hkd (List.mem_cons_of_mem _ hm))
    · intro hno
      refine h.same fun j hj hjd => ?_
      by_cases hji : j = i
      · rw [hji]; exact hfi
      · exact hno j hj fun hm => hjd ((List.mem_cons.1 hm).resolve_left hji)
    · rintro k hk ok hok
      rcases List.mem_cons.1 hk with rfl | hk
      · rw [ho] at hok
        simp only [Option.some.injEq] at hok
        subst hok
        exact hst
      · exact h.pdS k hk ok hok
    · rintro k hk ok hok dd hdd
      refine List.mem_cons_of_mem _ ?_
      rcases hk with hk | hk
      · rcases List.mem_cons.1 hk with rfl | hk
        · rw [ho] at hok
          simp only [Option.some.injEq] at hok
          subst hok
          exact hdep dd hdd
        · exact h.depD k (.inl hk) ok hok dd hdd
      · exact h.depD k (.inr hk) ok hok dd hdd
theorem outL_of {b : Nat} : ∀ {L : List (Nat × Nat)}, (∀ p ∈ L, p.2 ≤ b) → outL L b
  | [], _ => trivial
  | (l, r) :: m, h => ⟨.inr (h (l, r) (by simp)), outL_of fun p hp => h p (List.mem_cons_of_mem _ hp)⟩
theorem reckD_use {env : Env} {H : Heap} {K : Prop} : ∀ {l : List Nat}, reckD P ops env H K l → K ∧ ∀ i ∈ l, ∃ o t v, ops[i]? = some o ∧ o.dst = some t ∧ get env t = some v ∧ opd P o.op o.type (ev env) H (fun v' _ => v' = v) (fun _ _ => False)
  | [], h => ⟨h, by simp⟩
  | i :: r, h => by
    simp only [reckD] at h
    split at h
    · rename_i o ho
      split at h
      · rename_i t ht
        obtain ⟨v, hv, h1, h2⟩ := onSome_use h
        obtain ⟨h3, h4⟩ := reckD_use h2
        refine ⟨h3, fun k hk => ?_⟩
        rcases List.mem_cons.1 hk with rfl | hk
        · exact ⟨o, t, v, ho, ht, hv, h1⟩
        · exact h4 k hk
      · exact h.elim
    · exact h.elim
theorem ext0_push (H : Heap) (o : Obj) : Ext0 H (H.push o) := ⟨by simp, fun b hb _ => by rw [Array.getElem?_push, if_neg (by omega)]⟩

theorem rel_step (hP : NamesOk P) (hd : depB ops N = true) (hN : N ≤ ops.size) (hfit : Fits n env0 ds a) (hsel : Region.noSelect ops = true) (hg : ∀ i o, i < N → ops[i]? = some o → o.guard = none) {Q : Exit → Act → World → Prop}
    (hx : ∀ a' ch H' d', a'.tmps.size = n → a'.defers = ds → X ch H' → Q (.panic ch) a' (wk w0 H' d')) {f : Nat → Bool} {a' : Act} {H : Heap} {d : Nat} {s : RSt}
    (hdc : ∀ j o, f j = true → ops[j]? = some o → ∀ d ∈ depL o, f d = true) (h : Good P n N ops X H0 tail env0 a s f a' H) (hNF : NF s f) {j : Nat} (hj : j < N) (hun : f j = false)
    (hdeps : ∀ o, ops[j]? = some o → ∀ d ∈ depL o, f d = true) {f' : Nat → Bool} (hf' : ∀ i, f' i = true ↔ i = j ∨ f i = true) :
    wpOp P ops Q j (fun a'' w'' => ∃ H'' d'' s'', w'' = wk w0 H'' d'' ∧ Good P n N ops X H0 tail env0 a s'' f' a'' H'' ∧ NF s'' f') a' (wk w0 H d) := by
  have hff : ∀ i, f' i = false → f i = false ∧ i ≠ j := by
    intro i hi
    have := hf' i
    cases hfi : f i with
    | false => exact ⟨rfl, fun e => by rw [hi] at this; simp [e] at this⟩
    | true => rw [hi, hfi] at this; simp at this
  have hfn : ∀ i, f i = false → i ≠ j → f' i = false := by
    intro i hi hne
    have := hf' i
    cases hfi : f' i with
    | false => rfl
    | true => rw [hfi, hi] at this; simp [hne] at this
  obtain ⟨o, ho⟩ : ∃ o, ops[j]? = some o := ⟨ops[j]'(by omega), by simp [show j < ops.size by omega]⟩
  have hcl : ∀ i ∈ nthL (closL ops) j, f i = true := closL_spec (Lst := fun i => f i = true) hdc hdeps
  unfold wpOp
  rw [ho]
  simp only
  rw [if_pos (show Region.wanted o (yielded ops a'.tmps) = true by simp [Region.wanted, hg j o hj ho])]
  left
  have kind := plan_kind h.plan
  -- what is to come is no j that is done
  by_cases hjd : j ∈ s.done
  · -- it was read ahead
    obtain ⟨D, aj, o', h1, h2, h3, h4, h5⟩ := h.pend j hjd hun
    rw [ho] at h1
    simp only [Option.some.injEq] at h1
    subst h1
    have hsame : ∀ t, t ∈ o.looksAt ops → a'.tmps[t]? = aj.tmps[t]? := by
      intro t ht
      refine h.slots.same h4 t fun i oi hi hoi hdi => ?_
      obtain ⟨_, e, he, hb, hon⟩ := (depB_spec hd hi hj ho hoi hdi).1 ht
      have hdep : i ∈ depL o := mem_depL.2 ⟨e, he, hb, hon⟩
      exact ⟨hdeps o ho i hdep, inN_iff.2 (h2 i hdep)⟩
    have hc : execOp a'.eval o = execOp aj.eval o := execOp_congr _ (fun cs b => Region.noSelect_spec hsel j _ cs b ho) fun y hy => by
      cases y with
      | tmp t =>
        have := hsame t (List.mem_append_left _ (List.mem_filterMap.2 ⟨.tmp t, by simpa using hy, rfl⟩))
        simp [Act.eval, this]
      | _ => rfl
    unfold Oper.wp
    rw [hc, h5 H (Ext0.refl H) w0 d, Oper.upon_value]
    refine ⟨H, d, s, rfl, ?_, ?_⟩
    · refine { h with slots := h.slots.put hd hj ho hf', teL := fun i hi => (hf' i).2 (.inr (h.teL i hi)), unl := ?_, pend := ?_, flt := ?_, dist := ?_, same := ?_ }
      · intro i hi
        refine hfn i (h.unl i hi) fun e => ?_
        subst e
        rcases hi with hi | hi | hi
        · exact (kind i).2.2.2.1 (runsL_mem.2 (.inl hi)) hjd
        · exact ((kind i).2.2.2.2 hi).1 hjd
        · exact (kind i).2.2.2.1 (runsL_mem.2 (.inr (.inr hi))) hjd
      · exact fun k hk hkf => h.pend k hk (hff k hkf).1
      · exact fun k hk hkd hkf => h.flt k hk hkd (((hf' k).1 hkf).resolve_left fun e => hkd (by rw [e]; exact hjd))
      · exact fun k hk m hm hkd hmd hkf hmf => h.dist k hk m hm hkd hmd (((hf' k).1 hkf).resolve_left fun e => hkd (by rw [e]; exact hjd)) (((hf' m).1 hmf).resolve_left fun e => hmd (by rw [e]; exact hjd))
      · exact fun hno => h.same fun k hk hkd => (hff k (hno k hk hkd)).1
    · rcases hNF with h6 | ⟨i, r, h6, h7⟩ | ⟨i, r, h6, h7⟩
      · exact .inl h6
      · exact .inr (.inl ⟨i, r, h6, hfn i h7 fun e => (kind i).2.2.2.1 (by rw [h6]; simp [runsL]) (by rw [e]; exact hjd)⟩)
      · exact .inr (.inr ⟨i, r, h6, hfn i h7 fun e => (kind i).2.2.2.1 (by rw [h6]; simp [runsL]) (by rw [e]; exact hjd)⟩)
  · have hrun : j ∈ runsL s.suf := (h.cover j hj).resolve_left hjd
    -- fresh memory
    have alloc : Step.t j ∈ s.suf → (Step.p j ∈ s.suf → False) → o.wp P a' (wk w0 H d) (fun a'' w'' => ∃ H'' d'' s'', w'' = wk w0 H'' d'' ∧ Good P n N ops X H0 tail env0 a s'' f' a'' H'' ∧ NF s'' f') Q := by
      intro ht hnp
      have hT : anyT s.suf = true := by
        have : ∀ l : List Step, Step.t j ∈ l → anyT l = true := by
          intro l
          induction l with
          | nil => simp
          | cons x r ih =>
            intro hm
            cases x <;> simp only [anyT, List.mem_cons, reduceCtorEq, false_or] at hm ⊢ <;> first | exact ih hm | skip
        exact this _ ht
      have hprep : j ∈ s.prep := ((kind j).2.2.1 ht).resolve_right hnp
      obtain ⟨g, hg1, D, env, o', h1, h2, h3, h4, h5⟩ := h.prp j hprep
      rw [ho] at h1
      simp only [Option.some.injEq] at h1
      subst h1
      have hop := h5 H (fun v H' => v = g.mkV ⟨H.size, 0, none⟩ ∧ H' = H.push (.cells ⟨g.c⟩ g.T)) (fun _ _ => False) ⟨rfl, rfl⟩
      refine opd_sound hP (he_of hd hfit h4 h.slots hj ho h2 (hdeps o ho)) hop ?_ (fun _ _ _ hf => hf.elim)
      rintro v H' d' ⟨rfl, rfl⟩
      have hx0 : Ext0 H (H.push (.cells ⟨g.c⟩ g.T)) := ext0_push H _
      have hσ : ∀ k ∈ s.done, upd s.σ j (g.mkV ⟨H.size, 0, none⟩) k = s.σ k := fun k hk => upd_ne fun e => hjd (by rw [← e]; exact hk)
      have hG : Good P n N ops X H0 tail env0 a { s with σ := upd s.σ j (g.mkV ⟨H.size, 0, none⟩), bl := fun k => if k = j then H.size else s.bl k } f' (a'.put o.dst (g.mkV ⟨H.size, 0, none⟩)) (H.push (.cells ⟨g.c⟩ g.T)) := by
        have hflt : ∀ k, k ∈ s.prep → k ∉ s.done → f' k = true → k ≠ j → f k = true := fun k _ _ hkf hne => ((hf' k).1 hkf).resolve_left hne
        refine { vc := h.vc, plan := h.plan, cover := h.cover, sufN := h.sufN, doneN := h.doneN, prepA := h.prepA, slots := ?_, envOk := h.envOk.congr hσ, teL := fun i hi => (hf' i).2 (.inr (h.teL i hi)), unl := ?_, pdIn := h.pdIn, pdD := h.pdD, pend := ?_, prp := ?_, flt := ?_, dist := ?_, Bl := ?_, Ll := ?_, H0l := ?_, ext := h.ext.trans hx0, same := ?_, pdS := h.pdS, depD := h.depD }
        · have := (h.slots.congr (σ' := upd s.σ j (g.mkV ⟨H.size, 0, none⟩)) fun k _ hk => upd_ne fun e => by rw [e, hun] at hk; cases hk).put hd hj ho hf'
          rw [upd_eq] at this
          exact this
        · intro i hi
          refine hfn i (h.unl i hi) fun e => ?_
          subst e
          rcases hi with hi | hi | hi
          · obtain ⟨_, _, _, h6⟩ := (kind i).1 hi; exact h6 hprep
          · exact hnp hi
          · obtain ⟨_, _, _, h6⟩ := (kind i).2.1 hi; exact h6 hprep
        · exact fun k hk hkf => (h.pend k hk (hff k hkf).1).mono (fun _ h => h) hσ (hσ k hk) hx0
        · intro k hk
          obtain ⟨g', h6, h7⟩ := h.prp k hk
          exact ⟨g', h6, h7.mono (fun _ h => h) hσ⟩
        · intro k hk hkd hkf
          by_cases hkj : k = j
          · subst hkj
            refine ⟨g, hg1, by simp [upd], ?_⟩
            simp only [if_pos]
            exact ⟨h.H0l hT, by simp, by simp, outL_of (h.Ll hT), notB_iff.2 fun hm => by have := h.Bl hT _ hm; omega⟩
          · obtain ⟨g', h6, h7, h8, h9, h10, h11, h12⟩ := h.flt k hk hkd (hflt k hk hkd hkf hkj)
            refine ⟨g', h6, ?_, ?_⟩
            · simp only [if_neg hkj]
              exact (upd_ne hkj).trans h7
            · simp only [if_neg hkj]
              exact ⟨h8, by simp; omega, by rw [hx0.block _ h9 (fun h => h)]; exact h10, h11, h12⟩
        · intro k hk m hm hkd hmd hkf hmf he
          by_cases hkj : k = j
          · by_cases hmj : m = j
            · rw [hkj, hmj]
            · simp only [if_pos hkj, if_neg hmj] at he
              obtain ⟨_, _, _, _, h9, _⟩ := h.flt m hm hmd (hflt m hm hmd hmf hmj)
              omega
          · by_cases hmj : m = j
            · simp only [if_neg hkj, if_pos hmj] at he
              obtain ⟨_, _, _, _, h9, _⟩ := h.flt k hk hkd (hflt k hk hkd hkf hkj)
              omega
            · simp only [if_neg hkj, if_neg hmj] at he
              exact h.dist k hk m hm hkd hmd (hflt k hk hkd hkf hkj) (hflt m hm hmd hmf hmj) he
        · exact fun _ b hb => Nat.lt_of_lt_of_le (h.Bl hT b hb) hx0.size
        · exact fun _ p hp => Nat.le_trans (h.Ll hT p hp) hx0.size
        · exact fun _ => Nat.le_trans (h.H0l hT) hx0.size
        · intro hno
          have h6 := hno j hprep hjd
          rw [(hf' j).2 (.inl rfl)] at h6
          cases h6
      obtain ⟨s', h6, h7⟩ := advance hd hN hfit _ _ rfl hG
      exact ⟨_, d', s', rfl, h6, h7⟩
    rcases hNF with h6 | ⟨i, r, h6, h7⟩ | ⟨i, r, h6, h7⟩
    · rw [h6] at hrun; simp [runsL] at hrun
    · -- memory is waited for
      have hpl := h.plan
      rw [h6] at hpl
      obtain ⟨_, _, hpl⟩ := plan_t hpl
      have behind : ∀ k, (Step.s k ∈ r ∨ Step.p k ∈ r ∨ Step.e k ∈ r) → k ≠ j := by
        intro k hk e
        subst e
        have := hcl i (plan_te hpl k hk i (by simp))
        rw [h7] at this
        cases this
      rcases runsL_mem.1 hrun with h8 | h8 | h8
      · rw [h6] at h8
        simp only [List.mem_cons, reduceCtorEq, false_or] at h8
        exact (behind j (.inl h8) rfl).elim
      · refine alloc h8 fun h9 => ?_
        rw [h6] at h9
        simp only [List.mem_cons, reduceCtorEq, false_or] at h9
        exact behind j (.inr (.inl h9)) rfl
      · rw [h6] at h8
        simp only [List.mem_cons, reduceCtorEq, false_or] at h8
        exact (behind j (.inr (.inr h8)) rfl).elim
    · -- an effect is waited for
      have hpl := h.plan
      rw [h6] at hpl
      obtain ⟨oi, hoi, hst, hna, hdep, _, hid, hip, hpl⟩ := plan_e hpl
      have behind : ∀ k, (Step.s k ∈ r ∨ Step.p k ∈ r ∨ Step.e k ∈ r) → k ≠ j := by
        intro k hk e
        subst e
        have := hcl i (plan_te hpl k hk i (by simp))
        rw [h7] at this
        cases this
      have eff : i = j → o.wp P a' (wk w0 H d) (fun a'' w'' => ∃ H'' d'' s'', w'' = wk w0 H'' d'' ∧ Good P n N ops X H0 tail env0 a s'' f' a'' H'' ∧ NF s'' f') Q := by
        intro hij
        subst hij
        rw [ho] at hoi
        simp only [Option.some.injEq] at hoi
        subst hoi
        have hvc := h.vc
        rw [h6] at hvc
        simp only [relD, ho] at hvc
        -- whichever way, it is met here
        have main : ∀ (K2 : Heap → Prop) (L' : List (Nat × Nat)), (∀ H', K2 H' → (anyT r = true → Keep s.L H0 H H' ∧ L' = (H.size, H'.size) :: s.L)) →
            ∀ (v : Value) (H' : Heap) (d' : Nat), K2 H' → reckD P ops s.env H' (putE n o.dst v s.env fun env' => relD P n ops (closL ops) X H0 tail r s.pd s.gs L' s.B env' H') (lateN (nthL (closL ops) i) s.pd) →
            ∃ H'' d'' s'', wk w0 H' d' = wk w0 H'' d'' ∧ Good P n N ops X H0 tail env0 a s'' f' (a'.put o.dst v) H'' ∧ NF s'' f' := by
          intro K2 L' hK2 v H' d' hk2 hreck
          obtain ⟨hput, hrec⟩ := reckD_use hreck
          obtain ⟨env', hK, henv⟩ := putE_env hput
          have hσ : ∀ k ∈ s.done, upd s.σ i v k = s.σ k := fun k hk => upd_ne fun e => hid (by rw [← e]; exact hk)
          have hT : anyT r = true → anyT s.suf = true := fun e => by rw [h6]; exact e
          have hprj : ∀ k, k ∈ s.prep → k ≠ i := fun k hk e => hip (by rw [← e]; exact hk)
          have hG : Good P n N ops X H0 tail env0 a { s with suf := r, done := i :: s.done, te := i :: s.te, L := L', env := env', Hc := H', σ := upd s.σ i v } f' (a'.put o.dst v) H' := by
            refine { vc := hK, plan := hpl, cover := ?_, sufN := ?_, doneN := ?_, prepA := h.prepA, slots := ?_, envOk := h.envOk.put hd h.doneN hj ho hid henv, teL := ?_, unl := ?_, pdIn := ?_, pdD := fun k hk => List.mem_cons_of_mem _ (h.pdD k hk), pend := ?_, prp := ?_, flt := ?_, dist := ?_, Bl := ?_, Ll := ?_, H0l := ?_, ext := Ext0.refl H', same := fun _ => rfl, pdS := h.pdS, depD := ?_ }
            · intro k hk
              rcases h.cover k hk with h1 | h1
              · exact .inl (List.mem_cons_of_mem _ h1)
              · rw [h6] at h1
                rcases List.mem_cons.1 h1 with rfl | h1
                · exact .inl (by simp)
                · exact .inr h1
            · exact fun k hk => h.sufN k (by rw [h6]; exact List.mem_cons_of_mem _ hk)
            · rintro k hk
              rcases List.mem_cons.1 hk with rfl | hk
              · exact hj
              · exact h.doneN k hk
            · have := (h.slots.congr (σ' := upd s.σ i v) fun k _ hk => upd_ne fun e => by rw [e, hun] at hk; cases hk).put hd hj ho hf'
              rw [upd_eq] at this
              exact this
            · rintro k hk
              rcases List.mem_cons.1 hk with rfl | hk
              · exact (hf' k).2 (.inl rfl)
              · exact (hf' k).2 (.inr (h.teL k hk))
            · intro k hk
              exact hfn k (h.unl k (by rw [h6]; exact hk.imp (List.mem_cons_of_mem _) (Or.imp (List.mem_cons_of_mem _) (List.mem_cons_of_mem _)))) (behind k hk)
            · rintro k hk
              rcases List.mem_cons.1 hk with rfl | hk
              · exact .inl (by simp)
              · exact (h.pdIn k hk).imp (List.mem_cons_of_mem _) id
            · rintro k hk hkf
              obtain ⟨hkf1, hki⟩ := hff k hkf
              have hkd := (List.mem_cons.1 hk).resolve_left hki
              have hkp : k ∈ s.pd := (h.pdIn k hkd).resolve_left fun e => by rw [h.teL k e] at hkf1; cases hkf1
              have hkc : k ∉ nthL (closL ops) i := fun e => by rw [hcl k e] at hkf1; cases hkf1
              obtain ⟨ok, t, vk, h1, h2, h3, h4⟩ := hrec k (mem_lateN.2 ⟨hkp, hkc⟩)
              obtain ⟨aj, haj⟩ := canon (a := a) hd hN s.σ s.done h.doneN
              have hdk := h.depD k (.inl hkd) ok h1
              obtain ⟨v', hv', hrun'⟩ := opd_still (h.pdS k hkp ok h1) (he_of hd hfit h.envOk haj (h.doneN k hkd) h1 hdk fun d hd' => inN_iff.2 (hdk d hd')) h4
              have hvk := (h.envOk.on k hkd ok t h1 h2).1
              rw [h3] at hvk
              simp only [Option.some.injEq] at hvk
              refine ⟨s.done, aj, ok, h1, hdk, fun _ h => List.mem_cons_of_mem _ h, haj.congr fun m _ hm => hσ m (inN_iff.1 hm), fun H'' hH w d => ?_⟩
              simp only [upd_ne hki]
              rw [← hvk, ← hv']
              exact hrun' H'' hH w d
            · intro k hk
              obtain ⟨g', h1, h2⟩ := h.prp k hk
              exact ⟨g', h1, h2.mono (fun _ hm => List.mem_cons_of_mem _ hm) hσ⟩
            · intro k hk hkd hkf
              have hki := hprj k hk
              have hkd' : k ∉ s.done := fun hm => hkd (List.mem_cons_of_mem _ hm)
              obtain ⟨g', h1, h2, h3, h4, h5, h8, h9⟩ := h.flt k hk hkd' (((hf' k).1 hkf).resolve_left hki)
              have hTk : anyT r = true := by
                have h10 := (h.cover k (h.prepA k hk).1).resolve_left hkd'
                rcases runsL_mem.1 h10 with h11 | h11 | h11
                · obtain ⟨_, _, _, h12⟩ := (kind k).1 h11; exact (h12 hk).elim
                · rw [h6] at h11
                  simp only [List.mem_cons, reduceCtorEq, false_or] at h11
                  have : ∀ l : List Step, Step.t k ∈ l → anyT l = true := by
                    intro l
                    induction l with
                    | nil => simp
                    | cons x r ih =>
                      intro hm
                      cases x <;> simp only [anyT, List.mem_cons, reduceCtorEq, false_or] at hm ⊢ <;> first | exact ih hm | skip
                  exact this _ h11
                · obtain ⟨_, _, _, h12⟩ := (kind k).2.1 h11; exact (h12 hk).elim
              obtain ⟨⟨hk1, hk2⟩, hL'⟩ := hK2 H' hk2 hTk
              refine ⟨g', h1, (upd_ne hki).trans h2, h3, Nat.lt_of_lt_of_le h4 hk1, ?_, ?_, h9⟩
              · rw [hk2 _ h3 h4 h8]; exact h5
              · show outL L' _
                rw [hL']
                exact ⟨.inl h4, h8⟩
            · intro k hk m hm hkd hmd hkf hmf he
              exact h.dist k hk m hm (fun hx => hkd (List.mem_cons_of_mem _ hx)) (fun hx => hmd (List.mem_cons_of_mem _ hx)) (((hf' k).1 hkf).resolve_left (hprj k hk)) (((hf' m).1 hmf).resolve_left (hprj m hm)) he
            · intro hTr b hb
              exact Nat.lt_of_lt_of_le (h.Bl (hT hTr) b hb) (hK2 H' hk2 hTr).1.1
            · intro hTr p hp
              have h1 := hK2 H' hk2 hTr
              have hp' : p ∈ L' := hp
              rw [h1.2] at hp'
              rcases List.mem_cons.1 hp' with rfl | hp'
              · exact Nat.le_refl _
              · exact Nat.le_trans (h.Ll (hT hTr) p hp') h1.1.1
            · exact fun hTr => Nat.le_trans (h.H0l (hT hTr)) (hK2 H' hk2 hTr).1.1
            · rintro k hk ok hok dd hdd
              refine List.mem_cons_of_mem _ ?_
              rcases hk with hk | hk
              · rcases List.mem_cons.1 hk with rfl | hk
                · rw [ho] at hok
                  simp only [Option.some.injEq] at hok
                  subst hok
                  exact hdep dd hdd
                · exact h.depD k (.inl hk) ok hok dd hdd
              · exact h.depD k (.inr hk) ok hok dd hdd
          obtain ⟨s', h1, h2⟩ := advance hd hN hfit _ _ rfl hG
          exact ⟨H', d', s', rfl, h1, h2⟩
        have he := he_of hd hfit h.envOk h.slots hj ho hdep (hdeps o ho)
        have hxx : ∀ ch H' d', X ch H' → Q (.panic ch) a' (wk w0 H' d') := fun ch H' d' hX => hx a' ch H' d' (h.slots.1.trans hfit.size) (h.slots.2.1.trans hfit.ds) hX
        cases hTr : anyT r with
        | true =>
          rw [hTr] at hvc
          refine opd_sound hP he (hvc H h.ext) (fun v H' d' hk => ?_) hxx
          exact main (fun H1 => H1 = H' ∧ Keep s.L H0 H H') ((H.size, H'.size) :: s.L) (fun H1 hH1 _ => by obtain ⟨rfl, hk⟩ := hH1; exact ⟨hk, rfl⟩) v H' d' ⟨rfl, hk.1⟩ hk.2
        | false =>
          rw [hTr] at hvc
          have hHc : s.Hc = H := h.same fun k hk hkd => by
            cases hfk : f k with
            | false => rfl
            | true =>
              have h10 := (h.cover k (h.prepA k hk).1).resolve_left hkd
              rcases runsL_mem.1 h10 with h11 | h11 | h11
              · obtain ⟨_, _, _, h12⟩ := (kind k).1 h11; exact (h12 hk).elim
              · rw [h6] at h11
                simp only [List.mem_cons, reduceCtorEq, false_or] at h11
                have : ∀ l : List Step, Step.t k ∈ l → anyT l = true := by
                  intro l
                  induction l with
                  | nil => simp
                  | cons x r ih =>
                    intro hm
                    cases x <;> simp only [anyT, List.mem_cons, reduceCtorEq, false_or] at hm ⊢ <;> first | exact ih hm | skip
                rw [this _ h11] at hTr
                cases hTr
              · obtain ⟨_, _, _, h12⟩ := (kind k).2.1 h11; exact (h12 hk).elim
          rw [hHc] at hvc
          refine opd_sound hP he hvc (fun v H' d' hk => ?_) hxx
          exact main (fun _ => True) s.L (fun _ _ e => by cases e.symm.trans hTr) v H' d' trivial hk
      rcases runsL_mem.1 hrun with h8 | h8 | h8
      · rw [h6] at h8
        simp only [List.mem_cons, reduceCtorEq, false_or] at h8
        exact (behind j (.inl h8) rfl).elim
      · refine alloc h8 fun h9 => ?_
        rw [h6] at h9
        simp only [List.mem_cons, reduceCtorEq, false_or] at h9
        exact behind j (.inr (.inl h9)) rfl
      · rw [h6] at h8
        simp only [List.mem_cons, Step.e.injEq] at h8
        rcases h8 with h8 | h8
        · exact eff h8.symm
        · exact (behind j (.inr (.inr h8)) rfl).elim
theorem cover_spec {pl : List Step} (h : coverB ops N pl = true) : (∀ i, i < N → i ∈ runsL pl ∧ ∃ o, ops[i]? = some o ∧ o.guard = none) ∧ ∀ i ∈ idxL pl, i < N := by
  simp only [coverB, Bool.and_eq_true] at h
  refine ⟨fun i hi => ?_, fun i hi => ?_⟩
  · have h1 := List.all_eq_true.1 h.1 i (List.mem_range.2 hi)
    simp only [Bool.and_eq_true] at h1
    refine ⟨inN_iff.1 h1.1, ?_⟩
    have h2 := h1.2
    split at h2
    · rename_i o ho; exact ⟨o, ho, by simpa using h2⟩
    · cases h2
  · exact Nat.le_of_ble_eq_true (List.all_eq_true.1 h.2 i hi)
theorem rel_any (hP : NamesOk P) {Q : Exit → Act → World → Prop} (hN : N ≤ ops.size) (hsel : Region.noSelect ops = true) (hback : backB .any ops = true) (htail : tailB .any ops N = true)
    (hseq : Region.seqB .any ops (ops.size - N) N (lstN N ops.size) = true) (hd : depB ops N = true) {pl : List Step} (hpl : planB ops (closL ops) pl [] [] [] = true) (hcov : coverB ops N pl = true)
    {H : Heap} {d : Nat} (h : relD P n ops (closL ops) X H tail pl [] [] [] [] env0 H) (hfit : Fits n env0 ds a)
    (hx : ∀ a' ch H' d', a'.tmps.size = n → a'.defers = ds → X ch H' → Q (.panic ch) a' (wk w0 H' d'))
    (hk : ∀ env' a' H' d', tail env' H' → Fits n env' ds a' → Grew env0 env' (ops.toList.take N) → wpList P ops Q (ops.toList.drop N) a' (wk w0 H' d')) :
    wpAny P .any ops Q ops.size (Array.replicate ops.size false) a (wk w0 H d) := by
  obtain ⟨c1, c2⟩ := cover_spec hcov
  refine any_of_plan (N := N) (Inv := fun listed a' w => listed.size = ops.size ∧ (∀ j o, listed.getD j false = true → ops[j]? = some o → ∀ d ∈ depL o, listed.getD d false = true) ∧
    ∃ H' d' s, w = wk w0 H' d' ∧ Good P n N ops X H tail env0 a s (fun j => listed.getD j false) a' H' ∧ NF s (fun j => listed.getD j false)) hN hback htail hseq ?_ ?_ ops.size _ a _ (by simp) (fun t _ ht => by simp [ht]) (by simp) ?_
  · rintro listed a' w j ⟨hsz, hdc, H', d', s, rfl, hG, hNF⟩ hj hun hdeps
    have hjs : j < listed.size := by omega
    have hun' : listed.getD j false = false := by simp [hjs] at hun ⊢; exact hun
    have hget : ∀ i, (listed.setIfInBounds j true).getD i false = true ↔ i = j ∨ listed.getD i false = true := by
      intro i
      simp only [Array.getD_eq_getD_getElem?, Array.getElem?_setIfInBounds]
      by_cases hij : j = i
      · subst hij; simp [hjs]
      · rw [if_neg hij]; constructor
        · exact fun h => .inr h
        · rintro (h | h)
          · exact (hij h.symm).elim
          · exact h
    have hdj : ∀ o, ops[j]? = some o → ∀ d ∈ depL o, listed.getD d false = true := fun o ho d hd => by
      obtain ⟨e, h1, h2, h3⟩ := mem_depL.1 hd
      rw [← h3]
      exact hdeps o ho e h1 h2
    refine wpOp_mono ?_ (rel_step (f' := fun i => (listed.setIfInBounds j true).getD i false) hP hd hN hfit hsel (fun i o hi ho => ?_) hx hdc hG hNF hj hun' hdj hget)
    · rintro a'' w'' ⟨H'', d'', s'', rfl, h1, h2⟩
      refine ⟨by simpa using hsz, fun k o hk ho dd hdd => ?_, H'', d'', s'', rfl, h1, h2⟩
      rw [hget] at hk ⊢
      right
      rcases hk with rfl | hk
      · exact hdj o ho dd hdd
      · exact hdc k o hk ho dd hdd
    · obtain ⟨o', h1, h2⟩ := (c1 i hi).2
      rw [ho] at h1
      simp only [Option.some.injEq] at h1
      subst h1
      exact h2
  · rintro listed a' w ⟨hsz, hdc, H', d', s, rfl, hG, hNF⟩ hall
    have hsuf : s.suf = [] := by
      rcases hNF with h1 | ⟨i, r, h1, h2⟩ | ⟨i, r, h1, h2⟩
      · exact h1
      · have := hall i (hG.sufN i (by rw [h1]; simp [idxL]))
        exact absurd (this.symm.trans h2) (by simp)
      · have := hall i (hG.sufN i (by rw [h1]; simp [idxL]))
        exact absurd (this.symm.trans h2) (by simp)
    have hdone : ∀ i, i < N → i ∈ s.done := fun i hi => (hG.cover i hi).resolve_right (by rw [hsuf]; simp [runsL])
    have hvc := hG.vc
    rw [hsuf] at hvc
    simp only [relD] at hvc
    rw [hG.same fun k hk hkd => (hkd (hdone k (hG.prepA k hk).1)).elim] at hvc
    refine hk _ _ _ _ hvc ⟨hG.slots.1.trans hfit.size, fun t v hv => ?_, hG.slots.2.1.trans hfit.ds⟩ fun t v hv hno => ?_
    · by_cases hex : ∃ i oi, i < N ∧ ops[i]? = some oi ∧ oi.dst = some t
      · obtain ⟨i, oi, hi, hoi, hti⟩ := hex
        obtain ⟨h1, h2⟩ := hG.envOk.on i (hdone i hi) oi t hoi hti
        rw [h1] at hv
        simp only [Option.some.injEq] at hv
        rw [(hG.slots.2.2 t).1 i oi hi hoi hti (hall i hi), hfit.size, if_pos h2, hv]
      · rw [(hG.slots.2.2 t).2 fun i oi hi hoi hti => (hex ⟨i, oi, hi, hoi, hti⟩).elim]
        rw [hG.envOk.off t fun i oi hi hoi hti => hex ⟨i, oi, hi, hoi, hti⟩] at hv
        exact hfit.at_ t v hv
    · rw [hG.envOk.off t fun i oi hi hoi => hno oi ?_]
      · exact hv
      · have : (ops.toList.take N)[i]? = some oi := by rw [List.getElem?_take_of_lt hi]; simpa using hoi
        exact List.mem_of_getElem? this
  · refine ⟨by simp, fun j o hj => ?_, ?_⟩
    · simp only [Array.getD_eq_getD_getElem?, Array.getElem?_replicate] at hj
      split at hj <;> simp at hj
    · have h0 : ∀ i, (Array.replicate ops.size false).getD i false = false := by
        intro i
        simp only [Array.getD_eq_getD_getElem?, Array.getElem?_replicate]
        split <;> rfl
      have hG : Good P n N ops X H tail env0 a { suf := pl, done := [], prep := [], te := [], pd := [], gs := [], L := [], B := [], env := env0, Hc := H, σ := fun _ => undef, bl := fun _ => 0 } (fun j => (Array.replicate ops.size false).getD j false) a H :=
        { vc := h, plan := hpl, cover := fun i hi => .inr (c1 i hi).1, sufN := c2, doneN := by simp, prepA := by simp, slots := ⟨rfl, rfl, fun t => ⟨fun j o _ _ _ hj => absurd ((h0 j).symm.trans hj) (by simp), fun _ => rfl⟩⟩, envOk := ⟨fun _ hi => absurd hi (by simp), fun _ _ => rfl⟩, teL := by simp, unl := fun i _ => h0 i, pdIn := by simp, pdD := by simp, pend := by simp, prp := by simp, flt := by simp, dist := by simp, Bl := by simp, Ll := by simp, H0l := fun _ => Nat.le_refl _, ext := Ext0.refl H, same := fun _ => rfl, pdS := by simp, depD := by simp }
      obtain ⟨s', h1, h2⟩ := advance hd hN hfit _ _ rfl hG
      exact ⟨H, d, s', rfl, h1, h2⟩
end
end Go.Vc
namespace Go.Vc

/-! ## 9. Loops: what is carried from round to round -/
def CurT : List Lk → Type → Type
  | [], T => T
  | .int _ :: r, T => Int → CurT r T
  | .bool :: r, T => Bool → CurT r T
  | .str :: r, T => ByteArray → CurT r T
  | .ptr :: r, T => Addr → CurT r T
  | .slc :: r, T => Option Addr → Nat → Nat → CurT r T
  | .map :: r, T => Option Nat → CurT r T
  | .val :: r, T => Value → CurT r T
  | .ints _ _ :: r, T => CurT r T
/-- At these values. -/
def ap2 {A B : Type} : (ls : List Lk) → CurT ls A → CurT ls B → List Value → (A → B → Prop) → Prop
  | [], F, G, vs, K => match vs with
    | [] => K F G
    | _ => False
  | .int k :: r, F, G, vs, K => match vs with
    | .int k' x :: vs => sameK k k' (ap2 r (F x) (G x) vs K)
    | _ => False
  | .bool :: r, F, G, vs, K => match vs with
    | .bool x :: vs => ap2 r (F x) (G x) vs K
    | _ => False
  | .str :: r, F, G, vs, K => match vs with
    | .string x :: vs => ap2 r (F x) (G x) vs K
    | _ => False
  | .ptr :: r, F, G, vs, K => match vs with
    | .pointer (some x) :: vs => ap2 r (F x) (G x) vs K
    | _ => False
  | .slc :: r, F, G, vs, K => match vs with
    | .slice a n c :: vs => ap2 r (F a n c) (G a n c) vs K
    | _ => False
  | .map :: r, F, G, vs, K => match vs with
    | .map x :: vs => ap2 r (F x) (G x) vs K
    | _ => False
  | .val :: r, F, G, vs, K => match vs with
    | x :: vs => ap2 r (F x) (G x) vs K
    | _ => False
  | .ints _ _ :: _, _, _, _, _ => False
/-- At all values of these kinds. -/
def all2 {A B : Type} : (ls : List Lk) → CurT ls A → CurT ls B → (List Value → A → B → Prop) → Prop
  | [], F, G, K => K [] F G
  | .int k :: r, F, G, K => ∀ x : Int, all2 r (F x) (G x) fun vs f g => K (.int k x :: vs) f g
  | .bool :: r, F, G, K => ∀ x : Bool, all2 r (F x) (G x) fun vs f g => K (.bool x :: vs) f g
  | .str :: r, F, G, K => ∀ x : ByteArray, all2 r (F x) (G x) fun vs f g => K (.string x :: vs) f g
  | .ptr :: r, F, G, K => ∀ x : Addr, all2 r (F x) (G x) fun vs f g => K (.pointer (some x) :: vs) f g
  | .slc :: r, F, G, K => ∀ (a : Option Addr) (n c : Nat), all2 r (F a n c) (G a n c) fun vs f g => K (.slice a n c :: vs) f g
  | .map :: r, F, G, K => ∀ x : Option Nat, all2 r (F x) (G x) fun vs f g => K (.map x :: vs) f g
  | .val :: r, F, G, K => ∀ x : Value, all2 r (F x) (G x) fun vs f g => K (x :: vs) f g
  | .ints _ _ :: _, _, _, _ => True
/-- The same by a function: for the measure. -/
def apF {A : Type} (d : A) : (ls : List Lk) → CurT ls A → List Value → A
  | [], F, _ => F
  | .int _ :: r, F, vs => match vs with
    | .int _ x :: vs => apF d r (F x) vs
    | _ => d
  | .bool :: r, F, vs => match vs with
    | .bool x :: vs => apF d r (F x) vs
    | _ => d
  | .str :: r, F, vs => match vs with
    | .string x :: vs => apF d r (F x) vs
    | _ => d
  | .ptr :: r, F, vs => match vs with
    | .pointer (some x) :: vs => apF d r (F x) vs
    | _ => d
  | .slc :: r, F, vs => match vs with
    | .slice a n c :: vs => apF d r (F a n c) vs
    | _ => d
  | .map :: r, F, vs => match vs with
    | .map x :: vs => apF d r (F x) vs
    | _ => d
  | .val :: r, F, vs => match vs with
    | x :: vs => apF d r (F x) vs
    | _ => d
  | .ints _ _ :: _, _, _ => d
theorem ap2_apF {A B : Type} {db : B} : ∀ {ls : List Lk} {F : CurT ls A} {G : CurT ls B} {vs : List Value} {K : A → B → Prop}, ap2 ls F G vs K → ∃ f, K f (apF db ls G vs) ∧ (∀ {K' : List Value → A → B → Prop}, all2 ls F G K' → K' vs f (apF db ls G vs)) ∧ vs.length = ls.length := by
  intro ls
  induction ls with
  | nil =>
    intro F G vs K h
    cases vs with
    | nil => exact ⟨F, h, fun h' => h', rfl⟩
    | cons v vs => exact h.elim
  | cons l r ih =>
    intro F G vs K h
    cases l
    case int k =>
      cases vs with
      | nil => exact h.elim
      | cons v vs =>
        cases v <;> first | exact h.elim | skip
        rename_i k' x
        obtain ⟨hk, h'⟩ := sameK_use h
        subst hk
        obtain ⟨f, h1, h2, h3⟩ := ih h'
        exact ⟨f, h1, fun {K'} h' => h2 (K' := fun vs f g => K' (.int k x :: vs) f g) (h' x), by simp [h3]⟩
    case bool =>
      cases vs with
      | nil => exact h.elim
      | cons v vs =>
        cases v <;> first | exact h.elim | skip
        rename_i x
        obtain ⟨f, h1, h2, h3⟩ := ih h
        exact ⟨f, h1, fun {K'} h' => h2 (K' := fun vs f g => K' (.bool x :: vs) f g) (h' x), by simp [h3]⟩
    case str =>
      cases vs with
      | nil => exact h.elim
      | cons v vs =>
        cases v <;> first | exact h.elim | skip
        rename_i x
        obtain ⟨f, h1, h2, h3⟩ := ih h
        exact ⟨f, h1, fun {K'} h' => h2 (K' := fun vs f g => K' (.string x :: vs) f g) (h' x), by simp [h3]⟩
    case ptr =>
      cases vs with
      | nil => exact h.elim
      | cons v vs =>
        cases v <;> first | exact h.elim | skip
        rename_i x
        cases x with
        | none => exact h.elim
        | some x =>
          obtain ⟨f, h1, h2, h3⟩ := ih h
          exact ⟨f, h1, fun {K'} h' => h2 (K' := fun vs f g => K' (.pointer (some x) :: vs) f g) (h' x), by simp [h3]⟩
    case slc =>
      cases vs with
      | nil => exact h.elim
      | cons v vs =>
        cases v <;> first | exact h.elim | skip
        rename_i a n c
        obtain ⟨f, h1, h2, h3⟩ := ih h
        exact ⟨f, h1, fun {K'} h' => h2 (K' := fun vs f g => K' (.slice a n c :: vs) f g) (h' a n c), by simp [h3]⟩
    case map =>
      cases vs with
      | nil => exact h.elim
      | cons v vs =>
        cases v <;> first | exact h.elim | skip
        rename_i x
        obtain ⟨f, h1, h2, h3⟩ := ih h
        exact ⟨f, h1, fun {K'} h' => h2 (K' := fun vs f g => K' (.map x :: vs) f g) (h' x), by simp [h3]⟩
    case val =>
      cases vs with
      | nil => exact h.elim
      | cons x vs =>
        obtain ⟨f, h1, h2, h3⟩ := ih h
        exact ⟨f, h1, fun {K'} h' => h2 (K' := fun vs f g => K' (x :: vs) f g) (h' x), by simp [h3]⟩
    case ints => exact h.elim

/-- The slots that a piece of code writes. -/
def dstsL : List Oper → List Nat
  | [] => []
  | o :: r => match o.dst with
    | some t => t :: dstsL r
    | none => dstsL r
def dstsC : Code → List Nat
  | .region _ ops _ => dstsL ops.toList
  | .seq a b => dstsC a ++ dstsC b
  | .cond _ a b => dstsC a ++ dstsC b
  | .block _ c => dstsC c
  | .loop c => dstsC c
  | .scope c => dstsC c
  | _ => []
def dropE (l : List Nat) : Env → Env
  | [] => []
  | (t, v) :: r => match inN t l with
    | true => dropE l r
    | false => (t, v) :: dropE l r
theorem get_dropE {l : List Nat} : ∀ {env : Env} {t : Nat} {v : Value}, get (dropE l env) t = some v → t ∉ l ∧ get env t = some v
  | [], t, v, h => by simp [dropE, get] at h
  | (s, u) :: r, t, v, h => by
    simp only [dropE] at h
    split at h
    · rename_i hs
      obtain ⟨h1, h2⟩ := get_dropE h
      have hne : s ≠ t := fun e => h1 (by rw [← e]; exact inN_iff.1 hs)
      exact ⟨h1, by rw [get_cons, if_neg hne]; exact h2⟩
    · rename_i hs
      rw [get_cons] at h ⊢
      split at h
      · rename_i e
        rw [if_pos e]
        refine ⟨fun hm => ?_, h⟩
        rw [← e] at hm
        rw [inN_iff.2 hm] at hs
        cases hs
      · rename_i e
        obtain ⟨h1, h2⟩ := get_dropE h
        exact ⟨h1, by rw [if_neg e]; exact h2⟩
def zipE : List Nat → List Value → Env → Env
  | t :: ts, v :: vs, env => (t, v) :: zipE ts vs env
  | _, _, env => env
def getsE (env : Env) : List Nat → Option (List Value)
  | [] => some []
  | t :: r => match get env t, getsE env r with
    | some v, some l => some (v :: l)
    | _, _ => none

/-- Slots that the round writes, none twice. -/
def slotsOk (D : List Nat) : List (Nat × Lk) → Bool
  | [] => true
  | (t, _) :: r => match inN t D, inN t (r.map (·.1)) with
    | true, false => slotsOk D r
    | _, _ => false
def carried (L : List (Nat × Lk)) (D : List Nat) : Option (List (Nat × Lk)) := match slotsOk D L with
  | true => some L
  | false => none

/-! ## 10. Code -/
/-- Beside the code: how a draw is met (may calls make memory? how many operations float?), and what a loop carries. -/
structure Ann where
  draw : Nat → Bool × Nat
  rel : Nat → List Step := fun _ => []
  loop : Nat → List (Nat × Lk)
/-- The number of the first region in a piece of code. -/
def firstReg : Code → Nat
  | .region id _ _ => id
  | .seq a _ => firstReg a
  | .block _ c => firstReg c
  | .loop c => firstReg c
  | _ => 0
def opF (P : Program) (X : List PanicEntry → Heap → Prop) : OpF := fun o env H K => opd P o.op o.type (ev env) H K X
abbrev Post := Exit → Env → Heap → Prop
def andThen (K : Env → Heap → Prop) (Q : Post) : Post := fun e env H => match e with
  | .normal => K env H
  | e => Q e env H
def inBlock (id : Nat) (Q : Post) : Post := fun e env H => match e with
  | .exit j => match Nat.beq j id with
    | true => Q .normal env H
    | false => Q (.exit j) env H
  | e => Q e env H
def den (P : Program) (n : Nat) (ann : Ann) : Code → Post → Env → Heap → Prop
  | .skip, Q, env, H => Q .normal env H
  | .region id ops draw, Q, env, H => match draw with
    | false => seqD P n ops (opF P fun ch H' => Q (.panic ch) [] H') (ops.size + 1) [] ops.toList (fun env H => Q .normal env H) env H
    | true => match ann.rel id with
      | [] => (match ann.draw id with
        | (x, N) => match Nat.ble N ops.size, Region.noSelect ops, backB .any ops, tailB .any ops N, Region.seqB .any ops (ops.size - N) N (lstN N ops.size), depB ops N with
        | true, true, true, true, true, true => seqD P n ops (opE P x) (ops.size + 1) [] (ops.toList.take N) (fun env' _ => match x with
          | false => seqD P n ops (opF P fun ch H' => Q (.panic ch) [] H') (ops.size + 1) [] (ops.toList.drop N) (fun env H => Q .normal env H) env' H
          | true => ∀ H2, Ext0 H H2 → seqD P n ops (opF P fun ch H' => Q (.panic ch) [] H') (ops.size + 1) [] (ops.toList.drop N) (fun env H => Q .normal env H) env' H2) env H
          | _, _, _, _, _, _ => False)
      | pl => match ann.draw id with
        | (_, N) => match Nat.ble N ops.size, Region.noSelect ops, backB .any ops, tailB .any ops N, Region.seqB .any ops (ops.size - N) N (lstN N ops.size), depB ops N, planB ops (closL ops) pl [] [] [], coverB ops N pl with
          | true, true, true, true, true, true, true, true => relD P n ops (closL ops) (fun ch H' => Q (.panic ch) [] H') H (fun env' H' => seqD P n ops (opF P fun ch H' => Q (.panic ch) [] H') (ops.size + 1) [] (ops.toList.drop N) (fun env H => Q .normal env H) env' H') pl [] [] [] [] env H
          | _, _, _, _, _, _, _, _ => False
  | .seq a b, Q, env, H => den P n ann a (andThen (den P n ann b Q) Q) env H
  | .cond c a b, Q, env, H => onBool (ev env c) fun t => ifB t (den P n ann a Q env H) (den P n ann b Q env H)
  | .block id c, Q, env, H => den P n ann c (inBlock id Q) env H
  | .loop c, Q, env, H => onSome (carried (ann.loop (firstReg c)) (dstsC c)) fun L => onSome (getsE env (L.map (·.1))) fun vs =>
      ∃ (I : CurT (L.map (·.2)) (Heap → Prop)) (μ : CurT (L.map (·.2)) (Heap → Nat)), ap2 (L.map (·.2)) I μ vs (fun p _ => p H) ∧
        all2 (L.map (·.2)) I μ fun vs p m => ∀ H', p H' → den P n ann c (andThen (fun env' H'' => onSome (getsE env' (L.map (·.1))) fun vs' => ap2 (L.map (·.2)) I μ vs' fun p' m' => p' H'' ∧ m' H'' < m H') Q)
          (zipE (L.map (·.1)) vs (dropE (dstsC c) env)) H'
  | .exit id, Q, env, H => Q (.exit id) env H
  | .ret, Q, env, H => Q .ret env H
  | _, _, _, _ => False

/-! ### Sound -/
section
variable {P : Program} {n : Nat} {ann : Ann} {ds : List Deferred} {w0 : World}

/-- What was known of slots that are not written. -/
def Keeps (env : Env) (D : List Nat) (env' : Env) : Prop := ∀ t v, get env t = some v → t ∉ D → get env' t = some v
theorem Keeps.refl (env : Env) (D : List Nat) : Keeps env D env := fun _ _ h _ => h
theorem Keeps.trans {e1 e2 e3 : Env} {D1 D2 : List Nat} (h : Keeps e1 D1 e2) (k : Keeps e2 D2 e3) : Keeps e1 (D1 ++ D2) e3 := fun t v hv hn => k t v (h t v hv fun hm => hn (by simp [hm])) fun hm => hn (by simp [hm])
theorem Keeps.more {e1 e2 : Env} {D D' : List Nat} (h : Keeps e1 D e2) (hD : ∀ t, t ∈ D → t ∈ D') : Keeps e1 D' e2 := fun t v hv hn => h t v hv fun hm => hn (hD t hm)
theorem mem_dstsL {l : List Oper} {t : Nat} : t ∈ dstsL l ↔ ∃ o ∈ l, o.dst = some t := by
  induction l with
  | nil => simp [dstsL]
  | cons o r ih =>
    simp only [dstsL]
    split
    · rename_i s hs
      simp only [List.mem_cons, ih]
      constructor
      · rintro (rfl | ⟨o', h1, h2⟩)
        · exact ⟨o, .inl rfl, hs⟩
        · exact ⟨o', .inr h1, h2⟩
      · rintro ⟨o', rfl | h1, h2⟩
        · rw [hs] at h2; simp only [Option.some.injEq] at h2; exact .inl h2.symm
        · exact .inr ⟨o', h1, h2⟩
    · rename_i hs
      simp only [List.mem_cons, ih]
      constructor
      · rintro ⟨o', h1, h2⟩; exact ⟨o', .inr h1, h2⟩
      · rintro ⟨o', rfl | h1, h2⟩
        · rw [hs] at h2; cases h2
        · exact ⟨o', h1, h2⟩
theorem Grew.keeps {env env' : Env} {l : List Oper} (h : Grew env env' l) : Keeps env (dstsL l) env' := fun t v hv hn => h t v hv fun o ho he => hn (mem_dstsL.2 ⟨o, ho, he⟩)

/-- The kit's post over worlds that says the same. -/
def up (n : Nat) (ds : List Deferred) (w0 : World) (env0 : Env) (D : List Nat) (Q : Post) : Exit → Act → World → Prop := fun e a w => ∃ env H d, w = wk w0 H d ∧ Fits n env ds a ∧ ((∀ ch, e ≠ .panic ch) → Keeps env0 D env) ∧ Q e env H
theorem Fits.nil {env : Env} {a : Act} (hf : Fits n env ds a) : Fits n [] ds a := hf.sub fun t v h => by simp [get] at h
theorem up.weaken {env0 env1 : Env} {D0 D1 : List Nat} {Q Q' : Post} {e : Exit} {a : Act} {w : World} (h : up n ds w0 env0 D0 Q e a w) (hk : ∀ env, Keeps env0 D0 env → Keeps env1 D1 env) (hq : ∀ e env H, Q e env H → Q' e env H) : up n ds w0 env1 D1 Q' e a w := by
  obtain ⟨env, H, d, h1, h2, h3, h4⟩ := h
  exact ⟨env, H, d, h1, h2, fun hp => hk env (h3 hp), hq _ _ _ h4⟩

/-- Operations in their order, as the kit's 'wpList'. -/
theorem seq_wp (hP : NamesOk P) {ops : Array Oper} {Q : Post} {f : Nat} {l : List Oper} {env0 : Env} {D : List Nat} {env : Env} {H : Heap} {a : Act}
    (h : seqD P n ops (opF P fun ch H' => Q (.panic ch) [] H') f [] l (fun env H => Q .normal env H) env H) (hf : Fits n env ds a) (hD : ∀ env', Grew env env' l → Keeps env0 D env') : ∀ d, wpList P ops (up n ds w0 env0 D Q) l a (wk w0 H d) := by
  have := seqD_sound (P := P) (n := n) (all := ops) (F := opF P fun ch H' => Q (.panic ch) [] H') (ds := ds) (L := fun l a H' => ∀ d, wpList P ops (up n ds w0 env0 D Q) l a (wk w0 H' d))
    (fun o r a H' env K hw hf hop hk d => by
      unfold wpList
      rw [if_pos hw]
      exact .inl (opd_sound hP (fun y _ u hu => hf.ev y u hu) hop (fun v H'' d' hK => hk v H'' hK d') (fun c H'' d' hX => ⟨[], H'', d', rfl, hf.nil, fun hp => (hp c rfl).elim, hX⟩)))
    (fun o r a H' hw hk d => by
      unfold wpList
      rw [if_neg (by rw [hw]; simp)]
      exact hk d)
    (fun o r a H' env v hw hf hp hk d => by
      unfold wpList
      rw [if_pos hw]
      refine .inl ?_
      unfold Oper.wp
      rw [pev_val hf hp]
      exact hk d)
    (fun o r a H' c y z t hop hw hc hk d => by
      unfold wpList
      rw [if_pos hw]
      refine .inl ?_
      unfold Oper.wp
      have : (execOp a.eval o).run P (wk w0 H' d) = .ok (.value (if t then a.eval y else a.eval z)) (wk w0 H' d) := by
        simp only [execOp, hop, hc, asBool, Sem.run_bind, Sem.run_pure, Result.andThen_ok]
      rw [this]
      exact hk d)
    f [] l (fun env H => Q .normal env H) env H h [] a hf (fun env' a' H' hK hf' hg d => wpList_nil ⟨env', H', d, rfl, hf', fun _ => hD env' hg, hK⟩)
  simpa using this

theorem getsE_spec {env : Env} {a : Act} (hf : Fits n env ds a) : ∀ {ts : List Nat} {vs : List Value}, getsE env ts = some vs → vs.length = ts.length ∧ ts.map (fun t => a.tmps.getD t undef) = vs
  | [], vs, h => by simp only [getsE, Option.some.injEq] at h; subst h; simp
  | t :: r, vs, h => by
    simp only [getsE] at h
    split at h
    · rename_i v l hv hl
      simp only [Option.some.injEq] at h
      subst h
      obtain ⟨h1, h2⟩ := getsE_spec hf hl
      refine ⟨by simp [h1], ?_⟩
      rw [List.map_cons, h2]
      have := hf.at_ t v hv
      simp [this]
    · cases h
theorem zipE_getsE {env e0 : Env} (he : ∀ t v, get e0 t = some v → get env t = some v) : ∀ {ts : List Nat} {vs : List Value}, getsE env ts = some vs → ∀ t v, get (zipE ts vs e0) t = some v → get env t = some v
  | [], vs, h, t, v, hg => he t v (by cases vs <;> simpa [zipE] using hg)
  | s :: r, vs, h, t, v, hg => by
    simp only [getsE] at h
    split at h
    · rename_i u l hu hl
      simp only [Option.some.injEq] at h
      subst h
      simp only [zipE] at hg
      rw [get_cons] at hg
      split at hg
      · rename_i e; subst e; rw [hu]; exact hg
      · exact zipE_getsE he hl t v hg
    · cases h
theorem zipE_out {e0 : Env} : ∀ {ts : List Nat} {vs : List Value} {t : Nat}, t ∉ ts → get (zipE ts vs e0) t = get e0 t
  | [], vs, t, _ => by cases vs <;> rfl
  | s :: r, [], t, _ => rfl
  | s :: r, u :: vs, t, h => by
    simp only [zipE]
    rw [get_cons, if_neg (fun e => h (by simp [e]))]
    exact zipE_out fun hm => h (List.mem_cons_of_mem _ hm)
theorem slotsOk_spec {D : List Nat} : ∀ {L : List (Nat × Lk)}, slotsOk D L = true → (∀ t ∈ L.map (·.1), t ∈ D) ∧ (L.map (·.1)).Nodup
  | [], _ => by simp
  | (t, l) :: r, h => by
    simp only [slotsOk] at h
    split at h
    · rename_i h1 h2
      obtain ⟨h3, h4⟩ := slotsOk_spec h
      refine ⟨fun s hs => ?_, ?_⟩
      · rcases List.mem_cons.1 hs with rfl | hs
        · exact inN_iff.1 h1
        · exact h3 s hs
      · rw [List.map_cons, List.nodup_cons]
        refine ⟨fun hm => ?_, h4⟩
        rw [inN_iff.2 hm] at h2
        cases h2
    · cases h
theorem getsE_zipE {e0 : Env} : ∀ {ts : List Nat} {vs : List Value}, ts.Nodup → vs.length = ts.length → getsE (zipE ts vs e0) ts = some vs
  | [], vs, _, h => by
    have : vs = [] := List.length_eq_zero_iff.1 (by simpa using h)
    subst this; rfl
  | t :: r, [], _, h => by simp at h
  | t :: r, v :: vs, hn, h => by
    obtain ⟨h1, h2⟩ := List.nodup_cons.1 hn
    have ih := getsE_zipE (e0 := e0) h2 (vs := vs) (by simpa using h)
    have hmono : ∀ {ts : List Nat} {e : Env}, t ∉ ts → getsE ((t, v) :: e) ts = getsE e ts := by
      intro ts e hts
      induction ts with
      | nil => rfl
      | cons s r ihr =>
        simp only [getsE, get_cons, if_neg (show t ≠ s from fun e => hts (by simp [e])), ihr fun hm => hts (List.mem_cons_of_mem _ hm)]
    simp only [zipE, getsE, get_cons, if_true]
    rw [hmono h1, ih]

theorem den_sound (hP : NamesOk P) (hm : P.follows .mixedOrders = true) : ∀ (c : Code) (Q : Post) (env : Env) (H : Heap) (a : Act), den P n ann c Q env H → Fits n env ds a → ∀ d, c.wp P (up n ds w0 env (dstsC c) Q) a (wk w0 H d) := by
  intro c
  induction c with
  | skip => intro Q env H a h hf d; exact wp_skip ⟨env, H, d, rfl, hf, fun _ => Keeps.refl _ _, h⟩
  | exit id => intro Q env H a h hf d; exact wp_exit ⟨env, H, d, rfl, hf, fun _ => Keeps.refl _ _, h⟩
  | ret => intro Q env H a h hf d; exact wp_ret ⟨env, H, d, rfl, hf, fun _ => Keeps.refl _ _, h⟩
  | region id ops draw =>
    intro Q env H a h hf d
    cases draw with
    | false => exact wp_region_list (seq_wp hP h hf (fun env' hg => hg.keeps) d)
    | true =>
      simp only [den] at h
      split at h
      · generalize (ann.draw id).1 = x at h
        generalize (ann.draw id).2 = N at h
        split at h
        · rename_i c1 c2 c3 c4 c5 c6
          refine wp_region_any hm ?_
          refine drawE_any (H := H) (w0 := w0) (x := x) hP (bleN c1) c2 c3 c4 c5 c6 h hf ⟨H, d + 1, rfl, ?_⟩ ?_
          · cases x with
            | true => exact Ext0.refl _
            | false => rfl
          · intro env' a' hK hf' hg w hw
            have hD : ∀ env'', Grew env' env'' (ops.toList.drop N) → Keeps env (dstsC (.region id ops true)) env'' := by
              intro env'' hg'
              refine (hg.keeps.trans hg'.keeps).more fun t ht => ?_
              simp only [dstsC]
              rw [mem_dstsL]
              rcases List.mem_append.1 ht with ht | ht
              · obtain ⟨o, ho, he⟩ := mem_dstsL.1 ht; exact ⟨o, List.mem_of_mem_take ho, he⟩
              · obtain ⟨o, ho, he⟩ := mem_dstsL.1 ht; exact ⟨o, List.mem_of_mem_drop ho, he⟩
            obtain ⟨H', d', rfl, hx⟩ := hw
            cases x with
            | false =>
              simp only at hx hK
              subst hx
              exact seq_wp hP hK hf' hD d'
            | true => exact seq_wp hP (hK H' hx) hf' hD d'
        · exact h.elim
      · rename_i pl hpl
        generalize (ann.draw id).2 = N at h
        split at h
        · rename_i c1 c2 c3 c4 c5 c6 c7 c8
          refine wp_region_any hm ?_
          refine rel_any (ds := ds) (w0 := w0) hP (bleN c1) c2 c3 c4 c5 c6 c7 c8 h hf ?_ ?_
          · intro a' ch H' d' h1 h2 hX
            exact ⟨[], H', d', rfl, ⟨h1, fun t v hv => by simp [get] at hv, h2⟩, fun hp => (hp ch rfl).elim, hX⟩
          · intro env' a' H' d' hK hf' hg
            have hD : ∀ env'', Grew env' env'' (ops.toList.drop N) → Keeps env (dstsC (.region id ops true)) env'' := by
              intro env'' hg'
              refine (hg.keeps.trans hg'.keeps).more fun t ht => ?_
              simp only [dstsC]
              rw [mem_dstsL]
              rcases List.mem_append.1 ht with ht | ht
              · obtain ⟨o, ho, he⟩ := mem_dstsL.1 ht; exact ⟨o, List.mem_of_mem_take ho, he⟩
              · obtain ⟨o, ho, he⟩ := mem_dstsL.1 ht; exact ⟨o, List.mem_of_mem_drop ho, he⟩
            exact seq_wp hP hK hf' hD d'
        · exact h.elim
  | seq x y ihx ihy =>
    intro Q env H a h hf d
    refine wp_seq (wp_mono (ihx _ env H a h hf d) fun e a' w' hq => ?_)
    obtain ⟨env', H', d', rfl, hf', hk, hq⟩ := hq
    cases e with
    | normal => exact wp_mono (ihy Q env' H' a' hq hf' d') fun e2 a2 w2 h2 => h2.weaken (fun env2 h3 => (hk (by simp)).trans h3) fun _ _ _ h => h
    | panic ch => exact ⟨env', H', d', rfl, hf', fun hp => (hp ch rfl).elim, hq⟩
    | _ => exact ⟨env', H', d', rfl, hf', fun hp => (hk hp).more fun t ht => List.mem_append_left _ ht, hq⟩
  | cond c x y ihx ihy =>
    intro Q env H a h hf d
    obtain ⟨t, ht, h⟩ := onBool_use h
    refine wp_cond_split (hf.ev c _ ht) (fun e => ?_) (fun e => ?_)
    · subst e; exact wp_mono (ihx Q env H a h hf d) fun e2 a2 w2 h2 => h2.weaken (fun env2 h3 => h3.more fun t ht => List.mem_append_left _ ht) fun _ _ _ h => h
    · subst e; exact wp_mono (ihy Q env H a h hf d) fun e2 a2 w2 h2 => h2.weaken (fun env2 h3 => h3.more fun t ht => List.mem_append_right _ ht) fun _ _ _ h => h
  | block id c ih =>
    intro Q env H a h hf d
    refine wp_block (wp_mono (ih _ env H a h hf d) fun e a' w' hq => ?_)
    obtain ⟨env', H', d', rfl, hf', hk, hq⟩ := hq
    cases e with
    | exit j =>
      simp only [Exit.inBlock, inBlock] at hq ⊢
      split at hq
      · rename_i hj; rw [if_pos (beqN hj)]; exact ⟨env', H', d', rfl, hf', fun _ => hk (by simp), hq⟩
      · rename_i hj
        rw [if_neg (fun e => by rw [e, show Nat.beq id id = true from Nat.beq_refl id] at hj; cases hj)]
        exact ⟨env', H', d', rfl, hf', fun _ => hk (by simp), hq⟩
    | _ => exact ⟨env', H', d', rfl, hf', hk, hq⟩
  | loop c ih =>
    intro Q env H a h hf d
    obtain ⟨L, hL, h⟩ := onSome_use h
    obtain ⟨vs, hvs, I, μ, h0, hall⟩ := onSome_use h
    have hL' : ann.loop (firstReg c) = L ∧ slotsOk (dstsC c) L = true := by
      unfold carried at hL
      split at hL
      · rename_i hs; simp only [Option.some.injEq] at hL; rw [hL] at hs; exact ⟨hL, hs⟩
      · cases hL
    obtain ⟨hin, hnd⟩ := slotsOk_spec hL'.2
    let ts := L.map (·.1)
    let ls := L.map (·.2)
    let e0 := dropE (dstsC c) env
    have he0 : ∀ t v, get e0 t = some v → t ∉ dstsC c ∧ get env t = some v := fun t v h => get_dropE h
    have hnot : ∀ {us : List Value} {t : Nat} {v : Value}, get e0 t = some v → get (zipE ts us e0) t = some v := fun {us t v} hg => by
      rw [zipE_out fun hm => (he0 t v hg).1 (hin t hm)]; exact hg
    let Inv : Act → World → Prop := fun a w => ∃ us H d, w = wk w0 H d ∧ Fits n (zipE ts us e0) ds a ∧ us.length = ts.length ∧ ap2 ls I μ us fun p _ => p H
    let μ' : Act → World → Nat := fun a w => apF (fun _ => 0) ls μ (ts.map fun t => a.tmps.getD t undef) w.heap
    have hkeep : ∀ env', Keeps env (dstsC c) env' → Keeps env (dstsC (.loop c)) env' := fun _ h => h
    refine wp_loop Inv μ' ⟨vs, H, d, rfl, hf.sub (zipE_getsE (fun t v hg => (he0 t v hg).2) hvs), (getsE_spec hf hvs).1, h0⟩ ?_
    rintro a1 w1 ⟨us, H1, d1, rfl, hf1, hlen, hp⟩
    obtain ⟨p, hp1, hp2, _⟩ := ap2_apF (db := fun _ => 0) hp
    have hbody := hp2 hall H1 hp1
    have hus : ts.map (fun t => a1.tmps.getD t undef) = us := (getsE_spec hf1 (getsE_zipE hnd hlen)).2
    refine wp_mono (ih _ _ H1 a1 hbody hf1 d1) fun e a2 w2 hq => ?_
    obtain ⟨env2, H2, d2, rfl, hf2, hk2, hq⟩ := hq
    have hout : Keeps (zipE ts us e0) (dstsC c) env2 → Keeps env (dstsC c) env2 := fun hk t v hg hn => by
      have hg0 : get e0 t = some v := by
        have : ∀ {en : Env}, get en t = some v → get (dropE (dstsC c) en) t = some v := by
          intro en
          induction en with
          | nil => intro h; simp [get] at h
          | cons x r ihr =>
            obtain ⟨s, u⟩ := x
            intro h
            rw [get_cons] at h
            simp only [dropE]
            split at h
            · rename_i e
              rw [e]
              cases hi : inN t (dstsC c) with
              | true => exact (hn (inN_iff.1 hi)).elim
              | false => simp only [get_cons, if_true]; exact h
            · rename_i e
              cases hi : inN s (dstsC c) with
              | true => exact ihr h
              | false => simp only [get_cons, if_neg e]; exact ihr h
        exact this hg
      exact hk t v (hnot hg0) hn
    cases e with
    | normal =>
      obtain ⟨vs2, hvs2, hq⟩ := onSome_use hq
      obtain ⟨p', hp', _, hlen2⟩ := ap2_apF (db := fun _ => 0) hq
      have hsub : ∀ t v, get e0 t = some v → get env2 t = some v := fun t v hg => hk2 (by simp) t v (hnot hg) (he0 t v hg).1
      refine ⟨⟨vs2, H2, d2, rfl, hf2.sub (zipE_getsE hsub hvs2), (getsE_spec hf2 hvs2).1, ?_⟩, ?_⟩
      · have hmono : ∀ (ls : List Lk) {F : CurT ls (Heap → Prop)} {G : CurT ls (Heap → Nat)} {vs : List Value} {K K' : (Heap → Prop) → (Heap → Nat) → Prop}, (∀ f g, K f g → K' f g) → ap2 ls F G vs K → ap2 ls F G vs K' := by
          intro ls
          induction ls with
          | nil => intro F G vs K K' hkk h; cases vs <;> first | exact hkk _ _ h | exact h.elim
          | cons l r ihl =>
            intro F G vs K K' hkk h
            cases l <;> first | exact h.elim | skip
            case int k =>
              cases vs with
              | nil => exact h.elim
              | cons v vs =>
                cases v <;> first | exact h.elim | skip
                obtain ⟨hk, h'⟩ := sameK_use h
                subst hk
                simp only [ap2, sameK]
                cases hd : decEq k k with
                | isTrue _ => exact ihl hkk h'
                | isFalse e => exact (e rfl).elim
            case val =>
              cases vs with
              | nil => exact h.elim
              | cons v vs => exact ihl (F := F v) (G := G v) hkk h
            case ptr =>
              cases vs with
              | nil => exact h.elim
              | cons v vs =>
                cases v <;> first | exact h.elim | skip
                rename_i x
                cases x with
                | none => exact h.elim
                | some x => exact ihl hkk h
            all_goals
              cases vs with
              | nil => exact h.elim
              | cons v vs =>
                cases v <;> first | exact h.elim | exact ihl hkk h
        exact hmono ls (fun f g h => h.1) hq
      · show apF _ ls μ (ts.map fun t => a2.tmps.getD t undef) H2 < apF _ ls μ (ts.map fun t => a1.tmps.getD t undef) H1
        rw [hus, (getsE_spec hf2 hvs2).2]
        exact hp'.2
    | panic ch => exact ⟨env2, H2, d2, rfl, hf2, fun hp => (hp ch rfl).elim, hq⟩
    | _ => exact ⟨env2, H2, d2, rfl, hf2, fun hp => hout (hk2 hp), hq⟩
  | _ => intro Q env H a h hf d; exact h.elim

end
end Go.Vc
namespace Go.Vc

/-! ## 11. Functions -/
/-- Where the next block will lie. -/
def newA (H : Heap) : Addr := ⟨H.size, 0, none⟩
/-- Where a block begins. -/
def bA (b : Nat) : Addr := ⟨b, 0, none⟩
def resL (P : Program) (env : Env) (H : Heap) : List ResultVar → (List Value → Prop) → Prop
  | [], K => K []
  | .tmp t :: r, K => onSome (get env t) fun v => resL P env H r fun l => K (v :: l)
  | .cell p T :: r, K => onPtr (get env p) fun a => loadD P T a H fun v _ => resL P env H r fun l => K (v :: l)
def oneV : List Value → Value
  | [v] => v
  | l => .tuple ⟨l⟩
def fnPost (P : Program) (rs : List ResultVar) (R : Ending → Heap → Prop) : Post := fun e env H => match e with
  | .normal => resL P env H rs fun l => R (.returned (oneV l)) H
  | .ret => resL P env H rs fun l => R (.returned (oneV l)) H
  | .panic ch => R (.panicked ch) H
  | _ => False
def argsE : Nat → List Value → Env
  | _, [] => []
  | i, v :: r => (i, v) :: argsE (i + 1) r
/-- What a call of this function owes. -/
def denF (P : Program) (fn : Func) (ann : Ann) (args : List Value) (H : Heap) (R : Ending → Heap → Prop) : Prop :=
  match fn.body, Nat.ble args.length fn.ntmps with
  | some c, true => den P fn.ntmps ann c (fnPost P fn.results.toList R) (argsE 0 args) H
  | _, _ => False

section
variable {P : Program} {ds : List Deferred} {w0 : World}
theorem resL_run {n : Nat} {env : Env} {a : Act} {H : Heap} {d : Nat} (hf : Fits n env ds a) : ∀ {rs : List ResultVar} {K : List Value → Prop}, resL P env H rs K →
    ∃ l, (rs.mapM fun
      | .tmp t => pure (a.tmps.getD t undef)
      | .cell p T => do loadVar T (← asAddr (a.tmps.getD p undef)) : Sem (List Value)).run P (wk w0 H d) = .ok l (wk w0 H d) ∧ K l
  | [], K, h => ⟨[], rfl, h⟩
  | .tmp t :: r, K, h => by
    obtain ⟨v, hv, h⟩ := onSome_use h
    obtain ⟨l, h1, h2⟩ := resL_run hf h
    refine ⟨v :: l, ?_, h2⟩
    have := hf.at_ t v hv
    simp only [List.mapM_cons, Sem.run_bind, Sem.run_pure, Result.andThen_ok]
    rw [h1]
    simp [this]
  | .cell p T :: r, K, h => by
    obtain ⟨ad, hv, h⟩ := onPtr_use h
    obtain ⟨v, h0, h⟩ := loadD_run h
    obtain ⟨l, h1, h2⟩ := resL_run (d := d) hf h
    refine ⟨v :: l, ?_, h2⟩
    have := hf.at_ p _ hv
    have hg : a.tmps.getD p undef = .pointer (some ad) := by simp [this]
    have ha : ∀ w, (asAddr (.pointer (some ad))).run P w = .ok ad w := fun _ => rfl
    rw [List.mapM_cons]
    simp only [Sem.run_bind, hg, ha, Sem.run_pure, Result.andThen_ok, h0 H (Ext0.refl H)]
    rw [h1]
    rfl
theorem results_run {fn : Func} {n : Nat} {env : Env} {a : Act} {H : Heap} {d : Nat} {K : List Value → Prop} (hf : Fits n env ds a) (h : resL P env H fn.results.toList K) :
    ∃ l, (results fn a.tmps).run P (wk w0 H d) = .ok (oneV l) (wk w0 H d) ∧ K l := by
  obtain ⟨l, h1, h2⟩ := resL_run (w0 := w0) (d := d) hf h
  refine ⟨l, ?_, h2⟩
  unfold results
  rw [Array.mapM_eq_mapM_toList]
  rw [Sem.run_bind, Sem.run_map]
  erw [h1]
  simp only [Result.andThen_ok, Sem.run_pure]
  congr 1
  match l with
  | [] => rfl
  | [v] => rfl
  | _ :: _ :: _ => rfl
theorem get_argsE : ∀ (l : List Value) (i t : Nat) (v : Value), get (argsE i l) t = some v → ∃ j, t = i + j ∧ l[j]? = some v
  | [], i, t, v, h => by simp [argsE, get] at h
  | u :: r, i, t, v, h => by
    simp only [argsE] at h
    rw [get_cons] at h
    split at h
    · rename_i e; subst e; exact ⟨0, rfl, by simpa using h⟩
    · obtain ⟨j, h1, h2⟩ := get_argsE r (i + 1) t v h
      exact ⟨j + 1, by omega, by simpa using h2⟩
/-- **From the text that is owed to the call.** -/
theorem callsH_of (hP : NamesOk P) (hm : P.follows .mixedOrders = true) {f : FuncId} {fn : Func} (hf : P.funcs[f]? = some fn) {ann : Ann} {args : List Value} {H : Heap} {R : Ending → Heap → Prop}
    (h : denF P fn ann args H R) : CallsH P f ⟨args⟩ H R := by
  intro w d
  unfold denF at h
  split at h
  · rename_i c hb hn
    have hn := bleN hn
    refine calls_of_wp hf hb (wp_mono (den_sound (w0 := w) (ds := []) hP hm c _ _ H { tmps := (⟨args⟩ : Array Value) ++ Array.replicate (fn.ntmps - args.length) undef, defers := [] } h ⟨by simp; omega, fun t v hv => ?_, rfl⟩ d) fun e a w' hq => ?_)
    · obtain ⟨j, rfl, hj⟩ := get_argsE args 0 t v hv
      have hlt : j < args.length := (List.getElem?_eq_some_iff.1 hj).1
      rw [Nat.zero_add, Array.getElem?_append_left (by simpa using hlt)]
      simpa using hj
    · obtain ⟨env, H', d', rfl, hf', _, hq⟩ := hq
      cases e with
      | normal =>
        obtain ⟨l, h1, h2⟩ := results_run (w0 := w) (d := d') hf' hq
        exact ⟨hf'.ds, _, h1, H', d', rfl, h2⟩
      | ret =>
        obtain ⟨l, h1, h2⟩ := results_run (w0 := w) (d := d') hf' hq
        exact ⟨hf'.ds, _, h1, H', d', rfl, h2⟩
      | panic ch => exact ⟨hf'.ds, H', d', rfl, hq⟩
      | exit id => exact hq.elim
      | goto l => exact hq.elim
      | outgrown => exact hq.elim
  · exact h.elim

end
end Go.Vc
namespace Go.Vc

/-! ## 12. What lies where: blocks of one's own over memory that was there -/
abbrev C (l : List Value) (T : TypeId) : Obj := .cells ⟨l⟩ T
def nthO {α : Type} : List α → Nat → Option α
  | [], _ => none
  | a :: _, 0 => some a
  | _ :: r, k + 1 => nthO r k
theorem nthO_get {α : Type} : ∀ {l : List α} {k : Nat}, nthO l k = l[k]?
  | [], k => by cases k <;> rfl
  | a :: r, 0 => rfl
  | a :: r, k + 1 => by simp only [nthO, List.getElem?_cons_succ]; exact nthO_get
def setN {α : Type} : List α → Nat → α → List α
  | [], _, _ => []
  | _ :: r, 0, x => x :: r
  | a :: r, k + 1, x => a :: setN r k x
theorem setN_set {α : Type} : ∀ {l : List α} {k : Nat} {x : α}, setN l k x = l.set k x
  | [], k, x => by cases k <;> rfl
  | a :: r, 0, x => rfl
  | a :: r, k + 1, x => by simp only [setN, List.set_cons_succ]; rw [setN_set]
theorem add_block (a : Addr) (j : Nat) : (a.add j).block = a.block := by unfold Addr.add; split <;> rfl
theorem add_off (a : Addr) (j : Nat) : (a.add j).off = a.off + j := by
  unfold Addr.add
  split
  · rename_i h; subst h; rfl
  · rfl
theorem add_spot {a : Addr} (j : Nat) (h : a.spot = none) : (a.add j).spot = none := by
  unfold Addr.add
  split
  · exact h
  · rfl
theorem cellH_blk {H : Heap} {a : Addr} {l : List Value} {T : TypeId} (hb : H[a.block]? = some (C l T)) (hs : a.spot = none) : cellH H a = l[a.off]? := by
  simp [cellH, hb, hs]
structure St (M : Nat → Prop) (H0 H : Heap) (L : List (Nat × Obj)) : Prop where
  ext : Ext M H0 H
  own : ∀ e ∈ L, H0.size ≤ e.1 ∨ M e.1
  at_ : ∀ e ∈ L, H[e.1]? = some e.2
  nd : (L.map (·.1)).Nodup
abbrev none0 : Nat → Prop := fun _ => False

section
variable {M : Nat → Prop} {H0 H H' : Heap} {L : List (Nat × Obj)} {a : Addr} {l m : List Value} {T : TypeId} {v : Value} {k : Nat}

theorem lt_of_get {b : Nat} {o : Obj} (h : H[b]? = some o) : b < H.size := (Array.getElem?_eq_some_iff.1 h).1
theorem St.start (M : Nat → Prop) (H : Heap) : St M H H [] := ⟨Ext.refl M H, by simp, by simp, by simp⟩
theorem St.start1 {b : Nat} {o : Obj} (h : H[b]? = some o) : St (· = b) H H [(b, o)] := ⟨Ext.refl _ H, by simp, by simpa using h, by simp⟩
theorem St.mem {e : Nat × Obj} (h : nthO L k = some e) : e ∈ L := List.mem_of_getElem? (nthO_get.symm.trans h)
theorem St.push (h : St M H0 H L) (o : Obj) : St M H0 (H.push o) ((H.size, o) :: L) where
  ext := h.ext.trans ⟨by simp, fun b hb _ => by rw [Array.getElem?_push, if_neg (by omega)]⟩
  own e he := by
    rcases List.mem_cons.1 he with rfl | he
    · exact .inl h.ext.size
    · exact h.own e he
  at_ e he := by
    rcases List.mem_cons.1 he with rfl | he
    · simp
    · have := h.at_ e he
      rw [Array.getElem?_push, if_neg (by have := lt_of_get this; omega)]; exact this
  nd := by
    rw [List.map_cons, List.nodup_cons]
    refine ⟨fun hm => ?_, h.nd⟩
    obtain ⟨e, he, heq⟩ := List.mem_map.1 hm
    have := lt_of_get (h.at_ e he)
    omega
theorem St.obj {b : Nat} {o : Obj} (h : St M H0 H L) (hk : nthO L k = some (b, o)) : H[b]? = some o := h.at_ (b, o) (St.mem hk)
theorem St.cell (h : St M H0 H L) (hk : nthO L k = some (a.block, C l T)) (hs : a.spot = none) (hv : l[a.off]? = some v) : cellH H a = some v := by
  rw [cellH_blk (h.obj hk) hs]; exact hv
theorem At_of_blk (hb : H[a.block]? = some (C l T)) (hs : a.spot = none) (hv : ∀ j v, m[j]? = some v → l[a.off + j]? = some v) : At H a m := by
  refine At.mk fun j v hj => ?_
  rw [cellH_blk (l := l) (T := T) (by rw [add_block]; exact hb) (add_spot j hs), add_off]
  exact hv j v hj
theorem St.atp {post : List Value} (h : St M H0 H L) (hk : nthO L k = some (a.block, C l T)) (hs : a.spot = none) (hm : l.drop a.off = m ++ post) : At H a m := by
  refine At_of_blk (h.obj hk) hs fun j v hj => ?_
  have : (l.drop a.off)[j]? = some v := by rw [hm, List.getElem?_append_left (List.getElem?_eq_some_iff.1 hj).1]; exact hj
  rwa [List.getElem?_drop] at this
theorem St.atAll (h : St M H0 H L) (hk : nthO L k = some (a.block, C l T)) (hs : a.spot = none) (ho : a.off = 0) : At H a l :=
  At_of_blk (h.obj hk) hs fun j v hj => by rw [ho]; simpa using hj
theorem St.may {n : Nat} (h : St M H0 H L) (hk : nthO L k = some (a.block, C l T)) (hs : a.spot = none) (hn : a.off + n ≤ l.length) : MayPut H a n := by
  intro j hj
  have hb := h.obj hk
  refine ⟨⟨l[a.off + j]'(by omega), ?_⟩, ?_⟩
  · rw [cellH_blk (l := l) (T := T) (by rw [add_block]; exact hb) (add_spot j hs), add_off]
    simp [show a.off + j < l.length by omega]
  · simp only [frozenH, add_block, hb]
    simp
/-- So many cells laid over. -/
def splice (l : List Value) (o : Nat) : List Value → List Value
  | [] => l
  | v :: m => splice (setN l o v) (o + 1) m
theorem setN_length {α : Type} {l : List α} {x : α} : (setN l k x).length = l.length := by rw [setN_set]; simp
theorem splice_length : ∀ {m l : List Value} {o : Nat}, (splice l o m).length = l.length
  | [], _, _ => rfl
  | v :: m, l, o => by simp only [splice]; rw [splice_length, setN_length]
theorem setH_get {b : Nat} (a : Addr) (v : Value) : (setH H a v)[b]? = if a.block = b then H[b]?.map fun
    | .cells c e f => .cells (if a.spot.isSome then c else c.setIfInBounds a.off v) e f
    | o => o else H[b]? := by
  unfold setH
  rw [Array.getElem?_modify]
  split
  · congr 1
  · rfl
theorem storeFrom_spec (hs : a.spot = none) : ∀ {m : List Value} {i : Nat} {H : Heap} {l : List Value}, H[a.block]? = some (C l T) →
    (storeFrom H a i m)[a.block]? = some (C (splice l (a.off + i) m) T) ∧ (∀ b, b ≠ a.block → (storeFrom H a i m)[b]? = H[b]?) ∧ (storeFrom H a i m).size = H.size
  | [], i, H, l, h => ⟨h, fun _ _ => rfl, rfl⟩
  | v :: m, i, H, l, h => by
    simp only [storeFrom]
    have hb : (a.add i).block = a.block := add_block a i
    have h1 : (setH H (a.add i) v)[a.block]? = some (C (setN l (a.off + i) v) T) := by
      rw [setH_get, if_pos hb, h]
      simp only [Option.map_some, add_off, add_spot i hs, Option.isSome_none, Bool.false_eq_true, if_false, setN_set]
      simp
    obtain ⟨h2, h3, h4⟩ := storeFrom_spec hs (i := i + 1) (m := m) h1
    refine ⟨by rw [h2]; simp only [splice]; rfl, fun b hne => ?_, by rw [h4, setH_size]⟩
    rw [h3 b hne, setH_get, if_neg (by rw [hb]; exact fun e => hne e.symm)]
theorem St.put (h : St M H0 H L) (hk : nthO L k = some (a.block, C l T)) (hs : a.spot = none) (m : List Value) : St M H0 (putH H a m) (setN L k (a.block, C (splice l a.off m) T)) := by
  obtain ⟨h1, h2, h3⟩ := storeFrom_spec hs (i := 0) (m := m) (h.obj hk)
  have hkk : L[k]? = some (a.block, C l T) := by rw [← nthO_get]; exact hk
  have hlt : k < L.length := (List.getElem?_eq_some_iff.1 hkk).1
  have hmap : (setN L k (a.block, C (splice l a.off m) T)).map (·.1) = L.map (·.1) := by
    rw [setN_set, List.map_set]
    apply List.ext_getElem?
    intro j
    rw [List.getElem?_set]
    split
    · rename_i e
      subst e
      rw [if_pos (by simpa using hlt), List.getElem?_map, hkk]; rfl
    · rfl
  have hmem : ∀ e ∈ setN L k (a.block, C (splice l a.off m) T), e = (a.block, C (splice l a.off m) T) ∨ (e ∈ L ∧ e.1 ≠ a.block) := by
    intro e he
    obtain ⟨j, hj⟩ := List.getElem?_of_mem he
    rw [setN_set, List.getElem?_set] at hj
    split at hj
    · first
        | (simp only [Option.some.injEq] at hj; exact .inl hj.symm)
        | (split at hj
           · simp only [Option.some.injEq] at hj; exact .inl hj.symm
           · cases hj)
    · rename_i hne
      refine .inr ⟨List.mem_of_getElem? hj, fun he1 => hne ?_⟩
      have hjl : j < L.length := (List.getElem?_eq_some_iff.1 hj).1
      have e1 : (L.map (·.1))[k]? = (L.map (·.1))[j]? := by rw [List.getElem?_map, List.getElem?_map, hkk, hj]; simp [he1]
      exact (List.getElem?_inj (by simpa using hlt) h.nd).1 e1
  have hown := h.own _ (St.mem hk)
  refine ⟨⟨?_, fun b hb hM => ?_⟩, fun e he => ?_, fun e he => ?_, by rw [hmap]; exact h.nd⟩
  · show H0.size ≤ (storeFrom H a 0 m).size
    rw [h3]; exact h.ext.size
  · show (storeFrom H a 0 m)[b]? = _
    rw [h2 b ?_]
    · exact h.ext.block b hb hM
    · rintro rfl
      rcases hown with h5 | h5
      · exact absurd hb (by simp only at h5; omega)
      · exact hM h5
  · rcases hmem e he with rfl | ⟨he, _⟩
    · exact hown
    · exact h.own e he
  · rcases hmem e he with rfl | ⟨he, hne⟩
    · exact h1
    · show (storeFrom H a 0 m)[_]? = _
      rw [h2 _ hne]; exact h.at_ e he
theorem St.grow (h : St M H0 H L) (hx : Ext0 H H') : St M H0 H' L where
  ext := h.ext.trans ⟨hx.size, fun b hb _ => hx.block b hb fun h => h⟩
  own := h.own
  at_ e he := by rw [hx.block _ (lt_of_get (h.at_ e he)) fun h => h]; exact h.at_ e he
  nd := h.nd
/-- A call turned one block. -/
theorem St.turn {b : Nat} {o o' : Obj} (h : St M H0 H L) (hk : nthO L k = some (b, o)) (hx : Ext (· = b) H H') (ho : H'[b]? = some o') : St M H0 H' (setN L k (b, o')) := by
  have hkk : L[k]? = some (b, o) := by rw [← nthO_get]; exact hk
  have hlt : k < L.length := (List.getElem?_eq_some_iff.1 hkk).1
  have hmap : (setN L k (b, o')).map (·.1) = L.map (·.1) := by
    rw [setN_set, List.map_set]
    apply List.ext_getElem?
    intro j
    rw [List.getElem?_set]
    split
    · rename_i e
      subst e
      rw [if_pos (by simpa using hlt), List.getElem?_map, hkk]; rfl
    · rfl
  have hmem : ∀ e ∈ setN L k (b, o'), e = (b, o') ∨ (e ∈ L ∧ e.1 ≠ b) := by
    intro e he
    obtain ⟨j, hj⟩ := List.getElem?_of_mem he
    rw [setN_set, List.getElem?_set] at hj
    split at hj
    · first
        | (simp only [Option.some.injEq] at hj; exact .inl hj.symm)
        | (split at hj
           · simp only [Option.some.injEq] at hj; exact .inl hj.symm
           · cases hj)
    · rename_i hne
      refine .inr ⟨List.mem_of_getElem? hj, fun he1 => hne ?_⟩
      have e1 : (L.map (·.1))[k]? = (L.map (·.1))[j]? := by rw [List.getElem?_map, List.getElem?_map, hkk, hj]; simp [he1]
      exact (List.getElem?_inj (by simpa using hlt) h.nd).1 e1
  have hown := h.own _ (St.mem hk)
  refine ⟨⟨Nat.le_trans h.ext.size hx.size, fun b' hb hM => ?_⟩, fun e he => ?_, fun e he => ?_, by rw [hmap]; exact h.nd⟩
  · rw [hx.block b' (Nat.lt_of_lt_of_le hb h.ext.size) ?_]
    · exact h.ext.block b' hb hM
    · rintro rfl
      rcases hown with h5 | h5
      · exact absurd hb (by simp only at h5; omega)
      · exact hM h5
  · rcases hmem e he with rfl | ⟨he, _⟩
    · exact hown
    · exact h.own e he
  · rcases hmem e he with rfl | ⟨he, hne⟩
    · exact ho
    · rw [hx.block _ (lt_of_get (h.at_ e he)) hne]; exact h.at_ e he
theorem St.sub {L' : List (Nat × Obj)} (h : St M H0 H L) (hs : L'.Sublist L) : St M H0 H L' := ⟨h.ext, fun e he => h.own e (hs.subset he), fun e he => h.at_ e (hs.subset he), (hs.map _).nodup h.nd⟩
theorem St.ext0 (h : St none0 H0 H L) : Ext0 H0 H := h.ext

/-! ### Calls -/
theorem CallsE.now {P : Program} {f : FuncId} {args : Array Value} (h : CallsE P f args H v) : CallsH P f args H fun e H' => e = .returned v ∧ Ext0 H H' := h H (Ext0.refl H)
theorem CallsE.grow {P : Program} {f : FuncId} {args : Array Value} (h : CallsE P f args H v) (hx : Ext0 H H') : CallsE P f args H' v := fun H1 h1 => h H1 (hx.trans h1)
theorem CallsE.call {P : Program} {f : FuncId} {args : Array Value} {K : Value → Heap → Prop} {X : List PanicEntry → Heap → Prop} (h : CallsE P f args H v) (hk : ∀ H', Ext0 H H' → K v H') : CallsH P f args H (onCall K X) :=
  h.now.mono fun e H' ⟨h1, h2⟩ => by subst h1; exact hk H' h2
theorem CallsH.call {P : Program} {f : FuncId} {args : Array Value} {R : Ending → Heap → Prop} {K : Value → Heap → Prop} {X : List PanicEntry → Heap → Prop} (h : CallsH P f args H R) (hk : ∀ v H', R (.returned v) H' → K v H') (hx : ∀ c H', R (.panicked c) H' → X c H') (ho : ∀ H', R .outgrown H' → False) : CallsH P f args H (onCall K X) :=
  h.mono fun e H' hr => by cases e with
    | returned v => exact hk v H' hr
    | panicked c => exact hx c H' hr
    | outgrown => exact ho H' hr
theorem okL_mk' {K : Prop} {l : List Value} {n : Nat} (hn : l.length = n) (hp : plainL l) (hk : K) : okL K l n := okL_mk hn hp hk
theorem plain_ints (k : IntKind) (xs : List Int) : plainL (xs.map (Value.int k)) := by
  intro v hv
  obtain ⟨x, _, rfl⟩ := List.mem_map.1 hv
  rfl
end
end Go.Vc
