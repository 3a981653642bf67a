/- CheckMore is proved: a rule more that nobody speaks of, of a new name, and that speaks of none, leaves rules as they were; for every input, with no condition. This text is a part of the way there. -/
import Derived.Test.YtdhbekcmjnifnaaMd1
import Derived.StillTail
import Derived.Deep.Quiet
namespace Go.Vc

/-! ## 6. Operations in their order; short-circuits -/
/-- The frame holds what the list says. -/
structure Fits (n : Nat) (env : Env) (ds : List Deferred) (a : Act) : Prop where
  size : a.tmps.size = n
  at_ : ∀ t v, get env t = some v → a.tmps[t]? = some v
  ds : a.defers = ds

theorem get_cons (t : Nat) (v : Value) (env : Env) (s : Nat) : get ((t, v) :: env) s = if t = s then some v else get env s := by
  simp only [get]
  by_cases h : t = s
  · rw [if_pos h, h, show Nat.beq s s = true from Nat.beq_refl s]
  · rw [if_neg h, nbeqN h]
theorem Fits.ev {n : Nat} {env : Env} {ds : List Deferred} {a : Act} (h : Fits n env ds a) : ∀ x v, ev env x = some v → a.eval x = v := by
  intro x v hv
  cases x with
  | tmp t =>
    have := h.at_ t v hv
    simp [Act.eval, this]
  | const u => simpa [Vc.ev, Act.eval] using hv
  | global g => simpa [Vc.ev, Act.eval] using hv
  | func f => simpa [Vc.ev, Act.eval] using hv
theorem Fits.put {n : Nat} {env : Env} {ds : List Deferred} {a : Act} (h : Fits n env ds a) {t : Nat} (ht : t < n) (v : Value) : Fits n ((t, v) :: env) ds (a.put (some t) v) where
  size := by simp [Act.put, h.size]
  at_ s u hu := by
    rw [get_cons] at hu
    simp only [Act.put, Array.getElem?_setIfInBounds]
    split at hu
    · rename_i e
      subst e
      simp only [Option.some.injEq] at hu
      rw [if_pos rfl, if_pos (by rw [h.size]; exact ht), hu]
    · rename_i e
      rw [if_neg e]
      exact h.at_ s u hu
  ds := h.ds
theorem Fits.sub {n : Nat} {env env' : Env} {ds : List Deferred} {a : Act} (h : Fits n env ds a) (hs : ∀ t v, get env' t = some v → get env t = some v) : Fits n env' ds a := ⟨h.size, fun t v hv => h.at_ t v (hs t v hv), h.ds⟩
/-- A slot is known to hold this. -/
theorem Fits.know {n : Nat} {env : Env} {ds : List Deferred} {a : Act} (h : Fits n env ds a) {t : Nat} {v : Value} (hv : get env t = some v) {u : Value} (hu : v = u) : Fits n ((t, u) :: env) ds a :=
  h.sub fun s w hw => by
    rw [get_cons] at hw
    split at hw
    · rename_i e; subst e; rw [hv, hu]; exact hw
    · exact hw

/-- Into its slot, if it has one. -/
def putE (n : Nat) (dst : Option Tmp) (v : Value) (env : Env) (K : Env → Prop) : Prop := match dst with
  | none => K env
  | some t => match Nat.blt t n with
    | true => K ((t, v) :: env)
    | false => False
theorem putE_use {n : Nat} {dst : Option Tmp} {v : Value} {env : Env} {K : Env → Prop} {ds : List Deferred} {a : Act} (h : putE n dst v env K) (hf : Fits n env ds a) : ∃ env', K env' ∧ Fits n env' ds (a.put dst v) := by
  unfold putE at h
  split at h
  · exact ⟨env, h, hf⟩
  · split at h
    · rename_i hb
      exact ⟨_, h, hf.put (Nat.lt_of_succ_le (Nat.le_of_ble_eq_true hb)) v⟩
    · exact h.elim

def ifB (c : Bool) (A B : Prop) : Prop := match c with
  | true => A
  | false => B
theorem ifB_mk {c : Bool} {A B : Prop} (h1 : c = true → A) (h2 : c = false → B) : ifB c A B := by
  cases c
  · exact h2 rfl
  · exact h1 rfl

def slotOf (all : Array Oper) (g : Nat) : Option Nat := (all[g]?).bind (·.dst)
/-- Up to the choice that closes a short-circuit. -/
def cutPick (tg : Nat) : List Oper → Option (List Oper × Oper × List Oper)
  | [] => none
  | o :: r => match o.op with
    | .pick (.tmp c) _ _ => match Nat.beq c tg with
      | true => some ([], o, r)
      | false => match cutPick tg r with
        | some (x, y, z) => some (o :: x, y, z)
        | none => none
    | _ => match cutPick tg r with
      | some (x, y, z) => some (o :: x, y, z)
      | none => none
theorem cutPick_spec {tg : Nat} : ∀ {l G R : List Oper} {p : Oper}, cutPick tg l = some (G, p, R) → l = G ++ p :: R ∧ ∃ x y, p.op = .pick (.tmp tg) x y
  | [], _, _, _, h => by cases h
  | o :: r, G, R, p, h => by
    have hrec : ∀ {x y z}, cutPick tg r = some (x, y, z) → (o :: x, y, z) = (G, p, R) → (o :: r = G ++ p :: R ∧ ∃ x y, p.op = .pick (.tmp tg) x y) := by
      intro x y z hc he
      simp only [Prod.mk.injEq] at he
      obtain ⟨rfl, rfl, rfl⟩ := he
      obtain ⟨h1, h2⟩ := cutPick_spec hc
      exact ⟨by rw [h1]; rfl, h2⟩
    simp only [cutPick] at h
    split at h
    · rename_i c x y hop
      split at h
      · rename_i hb
        have := beqN hb
        subst this
        simp only [Option.some.injEq, Prod.mk.injEq] at h
        obtain ⟨rfl, rfl, rfl⟩ := h
        exact ⟨rfl, _, _, hop⟩
      · split at h
        · rename_i hc; exact hrec hc (Option.some.inj h)
        · cases h
    · split at h
      · rename_i hc; exact hrec hc (Option.some.inj h)
      · cases h

def putO (n : Nat) (dst : Option Tmp) (v : Value) (env : Env) : Option Env := match dst with
  | none => some env
  | some t => match Nat.blt t n with
    | true => some ((t, v) :: env)
    | false => none
theorem putO_use {n : Nat} {dst : Option Tmp} {v : Value} {env env' : Env} {ds : List Deferred} {a : Act} (h : putO n dst v env = some env') (hf : Fits n env ds a) : Fits n env' ds (a.put dst v) := by
  unfold putO at h
  split at h
  · simp only [Option.some.injEq] at h; subst h; exact hf
  · split at h
    · rename_i hb
      simp only [Option.some.injEq] at h; subst h
      exact hf.put (Nat.lt_of_succ_le (Nat.le_of_ble_eq_true hb)) v
    · cases h
/-- A guard is not met. -/
def unmet (all : Array Oper) (env : Env) : Option (Nat × Bool) → Bool
  | none => false
  | some (g, b) => match (slotOf all g).bind (get env) with
    | some (.bool c) => match c, b with
      | true, false => true
      | false, true => true
      | _, _ => false
    | some (.tuple _) => true
    | _ => false
def met (all : Array Oper) (env : Env) : Option (Nat × Bool) → Bool
  | none => true
  | some (g, b) => match (slotOf all g).bind (get env) with
    | some (.bool c) => match c, b with
      | true, true => true
      | false, false => true
      | _, _ => false
    | _ => false
theorem unmet_spec {all : Array Oper} {env : Env} {n : Nat} {ds : List Deferred} {a : Act} {o : Oper} (hf : Fits n env ds a) (h : unmet all env o.guard = true) : Region.wanted o (yielded all a.tmps) = false := by
  unfold unmet at h
  unfold Region.wanted
  split at h
  · cases h
  · rename_i g b hg
    rw [hg]
    simp only [yielded]
    split at h
    · rename_i c hc
      obtain ⟨tg, h1, h2⟩ := Option.bind_eq_some_iff.1 hc
      unfold slotOf at h1
      rw [h1]
      simp only [Option.bind_some, hf.at_ _ _ h2]
      split at h <;> first | rfl | cases h
    · rename_i vs hc
      obtain ⟨tg, h1, h2⟩ := Option.bind_eq_some_iff.1 hc
      unfold slotOf at h1
      rw [h1]
      simp only [Option.bind_some, hf.at_ _ _ h2]
      rfl
    · cases h
theorem met_spec {all : Array Oper} {env : Env} {n : Nat} {ds : List Deferred} {a : Act} {o : Oper} (hf : Fits n env ds a) (h : met all env o.guard = true) : Region.wanted o (yielded all a.tmps) = true := by
  unfold met at h
  unfold Region.wanted
  split at h
  · rename_i hg; rw [hg]
  · rename_i g b hg
    rw [hg]
    simp only [yielded]
    split at h
    · rename_i c hc
      obtain ⟨tg, h1, h2⟩ := Option.bind_eq_some_iff.1 hc
      unfold slotOf at h1
      rw [h1]
      simp only [Option.bind_some, hf.at_ _ _ h2]
      split at h <;> first | rfl | cases h
    · cases h
/-- Operations that are all passed over. -/
def skipAll (n : Nat) (all : Array Oper) : List Oper → Env → Option Env
  | [], env => some env
  | o :: r, env => match unmet all env o.guard with
    | true => match putO n o.dst undef env with
      | some env' => skipAll n all r env'
      | none => none
    | false => none

/-- A quotient by what is written out. -/
def divV (y : Operand) (k k' : IntKind) (b v : Int) : Option Value := match y with
  | .const _ => match decEq k k', Int.decEq b 0 with
    | isTrue _, isFalse _ => some (.int k v)
    | _, _ => none
  | _ => none
theorem divV_spec {y : Operand} {k k' : IntKind} {b v : Int} {u : Value} (h : divV y k k' b v = some u) : k = k' ∧ b ≠ 0 ∧ u = .int k v := by
  unfold divV at h
  split at h
  · cases hk : decEq k k' with
    | isTrue e => cases hb : Int.decEq b 0 with
      | isTrue e' => rw [hk, hb] at h; cases h
      | isFalse e' => rw [hk, hb] at h; exact ⟨e, e', (Option.some.inj h).symm⟩
    | isFalse e => rw [hk] at h; cases h
  · cases h
/-- What asks for nothing, and cannot fail. -/
def pev (P : Program) (o : Oper) (env : Env) : Option Value := match o.op with
  | .move x | .assign x => ev env x
  | .binOp op T x y _ => match ev env x, ev env y with
    | some (.int k a), some (.int k' b) => match op with
      | .quo => divV y k k' b (k.wrap (a.tdiv b))
      | .rem => divV y k k' b (a.tmod b)
      | .shl | .shr => none
      | op => pureRun P (binOp op T (.int k a) (.int k' b))
    | some (.bool a), some (.bool b) => pureRun P (binOp op T (.bool a) (.bool b))
    | some (.string a), some (.string b) => match op with
      | .add => none
      | op => pureRun P (binOp op T (.string a) (.string b))
    | _, _ => none
  | .unOp op _ x => match ev env x with
    | some v => pureRun P (Op.unary op v)
    | none => none
  | .call c => match c.callee with
    | .builtin .len => match evs (ev env) c.args.toList with
      | some [.string s] => pureRun P (Builtin.len_ c.argTypes o.type #[.string s])
      | some [.slice a n k] => pureRun P (Builtin.len_ c.argTypes o.type #[.slice a n k])
      | _ => none
    | _ => none
  | _ => none
/-- A guard that is known to be met: its way is the one that is gone. -/
def inOpen (g : Nat) (b : Bool) : List (Nat × Bool) → Bool
  | [] => false
  | (h, c) :: r => match Nat.beq g h, b, c with
    | true, true, true => true
    | true, false, false => true
    | _, _, _ => inOpen g b r
def isOpen (opn : List (Nat × Bool)) : Option (Nat × Bool) → Bool
  | none => true
  | some (g, b) => inOpen g b opn
def pevs (P : Program) (n : Nat) (all : Array Oper) (opn : List (Nat × Bool)) : List Oper → Env → Option Env
  | [], env => some env
  | o :: r, env => match isOpen opn o.guard with
    | true => match met all env o.guard with
      | true => match pev P o env with
        | some v => match putO n o.dst v env with
          | some env' => pevs P n all opn r env'
          | none => none
        | none => none
      | false => none
    | false => none
/-- What the closing choice gives. -/
def pickV (all : Array Oper) (p : Oper) (e : Env) : Option Value := match met all e p.guard with
  | true => match p.op with
    | .pick c x y => match ev e c with
      | some (.bool t) => match t with
        | true => ev e x
        | false => ev e y
      | _ => none
    | _ => none
  | false => none
def hasKey : Env → Nat → Bool
  | [], _ => false
  | (t, _) :: r, s => match Nat.beq t s with
    | true => true
    | false => hasKey r s
/-- None of the operations writes a slot that the list knows. -/
def fresh (env : Env) : List Oper → Bool
  | [] => true
  | o :: r => match o.dst with
    | none => fresh env r
    | some t => match hasKey env t with
      | true => false
      | false => fresh env r
theorem fresh_spec {env : Env} {t : Nat} {v : Value} (hv : get env t = some v) : ∀ {l : List Oper}, fresh env l = true → ∀ o ∈ l, o.dst ≠ some t
  | [], _, o, ho => by simp at ho
  | o :: r, h, o', ho => by
    have hk : ∀ {env : Env} {s : Nat}, hasKey env s = false → get env s = none := by
      intro env s h
      induction env with
      | nil => rfl
      | cons x r ih =>
        obtain ⟨u, w⟩ := x
        simp only [hasKey] at h
        split at h
        · cases h
        · rename_i hb; simp only [get, hb]; exact ih h
    simp only [fresh] at h
    rcases List.mem_cons.1 ho with rfl | ho
    · split at h
      · rename_i hd; rw [hd]; simp
      · rename_i s hd
        split at h
        · cases h
        · rename_i hs
          rw [hd]
          intro e
          simp only [Option.some.injEq] at e
          subst e
          rw [hk hs] at hv
          cases hv
    · split at h
      · exact fresh_spec hv h o' ho
      · split at h
        · cases h
        · exact fresh_spec hv h o' ho
/-- The short-circuit's value where the way there is plain. -/
def joinV (c b : Bool) (y k : Bool) : Option Value := match b, k with
  | true, false => some (.bool (c && y))
  | false, true => some (.bool (c || y))
  | _, _ => none

abbrev OpF := Oper → Env → Heap → (Value → Heap → Prop) → Prop
/-- The operations in their order. -/
def seqD (P : Program) (n : Nat) (all : Array Oper) (F : OpF) : Nat → List (Nat × Bool) → List Oper → (Env → Heap → Prop) → Env → Heap → Prop
  | 0, _, _, _, _, _ => False
  | _ + 1, _, [], K, env, H => K env H
  | f + 1, opn, o :: r, K, env, H => match isOpen opn o.guard with
    | true => match met all env o.guard with
      | true => F o env H fun v H' => putE n o.dst v env fun env' => seqD P n all F f opn r K env' H'
      | false => False
    | false => match o.guard with
      | none => False
      | some (g, b) => onSome (slotOf all g) fun tg => onBool (get env tg) fun c => onSome (cutPick tg (o :: r)) fun x => match x with
        | (G, p, R) => onSome p.dst fun d => match Nat.blt d n, fresh env G, (skipAll n all G ((tg, .bool (!b)) :: env)).bind (pickV all p) with
          | true, true, some (.bool k) => match (pevs P n all ((g, b) :: opn) G ((tg, .bool b) :: env)).bind (pickV all p) with
            | some (.bool y) => onSome (joinV c b y k) fun v => seqD P n all F f opn R K ((d, v) :: env) H
            | _ => match G.all fun o => stillOp o.op with
              | true => ∃ r : Bool, ifB c
                  (ifB b (seqD P n all F f ((g, b) :: opn) G (fun e H' => onBool (pickV all p e) fun y => y = r ∧ H' = H) ((tg, .bool true) :: env) H) (k = r))
                  (ifB b (k = r) (seqD P n all F f ((g, b) :: opn) G (fun e H' => onBool (pickV all p e) fun y => y = r ∧ H' = H) ((tg, .bool false) :: env) H)) ∧
                seqD P n all F f opn R K ((d, .bool r) :: env) H
              | false => ∃ J : Bool → Heap → Prop, ifB c
                  (ifB b (seqD P n all F f ((g, b) :: opn) G (fun e H' => onBool (pickV all p e) fun y => J y H') ((tg, .bool true) :: env) H) (J k H))
                  (ifB b (J k H) (seqD P n all F f ((g, b) :: opn) G (fun e H' => onBool (pickV all p e) fun y => J y H') ((tg, .bool false) :: env) H)) ∧
                ∀ r H', J r H' → seqD P n all F f opn R K ((d, .bool r) :: env) H'
          | _, _, _ => False

/-! ### Sound -/
/-- What was known of slots that were not written is known still. -/
def Grew (env env' : Env) (l : List Oper) : Prop := ∀ t v, get env t = some v → (∀ o ∈ l, o.dst ≠ some t) → get env' t = some v
theorem Grew.refl (env : Env) (l : List Oper) : Grew env env l := fun _ _ h _ => h
theorem Grew.step {env e1 env' : Env} {o : Oper} {r : List Oper} (h1 : ∀ t v, get env t = some v → o.dst ≠ some t → get e1 t = some v) (h2 : Grew e1 env' r) : Grew env env' (o :: r) :=
  fun t v hv hd => h2 t v (h1 t v hv (hd o (by simp))) fun o' ho' => hd o' (List.mem_cons_of_mem _ ho')
theorem put_grew {n : Nat} {dst : Option Tmp} {v : Value} {env e1 : Env} (h : putO n dst v env = some e1) : ∀ t u, get env t = some u → dst ≠ some t → get e1 t = some u := by
  intro t u hu hd
  unfold putO at h
  split at h
  · simp only [Option.some.injEq] at h; subst h; exact hu
  · split at h
    · simp only [Option.some.injEq] at h; subst h
      rw [get_cons, if_neg (fun e => hd (by rw [e]))]; exact hu
    · cases h
theorem putE_O {n : Nat} {dst : Option Tmp} {v : Value} {env : Env} {K : Env → Prop} (h : putE n dst v env K) : ∃ e1, putO n dst v env = some e1 ∧ K e1 := by
  unfold putE at h
  unfold putO
  split at h
  · exact ⟨_, rfl, h⟩
  · split at h
    · exact ⟨_, by simp, h⟩
    · exact h.elim

section
variable {P : Program} {n : Nat} {all : Array Oper} {F : OpF} {ds : List Deferred} {L : List Oper → Act → Heap → Prop}

theorem skipAll_sound (hskip : ∀ o r a H, Region.wanted o (yielded all a.tmps) = false → L r (a.put o.dst undef) H → L (o :: r) a H) {R : List Oper} {H : Heap} :
    ∀ {G : List Oper} {env env' : Env} {a : Act}, skipAll n all G env = some env' → Fits n env ds a → (∀ a', Fits n env' ds a' → Grew env env' G → L R a' H) → L (G ++ R) a H
  | [], env, env', a, h, hf, hk => by
    simp only [skipAll, Option.some.injEq] at h; subst h; exact hk a hf (Grew.refl _ _)
  | o :: r, env, env', a, h, hf, hk => by
    simp only [skipAll] at h
    split at h
    · rename_i hu
      split at h
      · rename_i e1 he
        exact hskip o _ a H (unmet_spec hf hu) (skipAll_sound hskip h (putO_use he hf) fun a' h1 h2 => hk a' h1 (Grew.step (put_grew he) h2))
      · cases h
    · cases h
theorem pevs_sound {opn : List (Nat × Bool)} (hpure : ∀ o r a H env v, Region.wanted o (yielded all a.tmps) = true → Fits n env ds a → pev P o env = some v → L r (a.put o.dst v) H → L (o :: r) a H) {R : List Oper} {H : Heap} :
    ∀ {G : List Oper} {env env' : Env} {a : Act}, pevs P n all opn G env = some env' → Fits n env ds a → (∀ a', Fits n env' ds a' → Grew env env' G → L R a' H) → L (G ++ R) a H
  | [], env, env', a, h, hf, hk => by
    simp only [pevs, Option.some.injEq] at h; subst h; exact hk a hf (Grew.refl _ _)
  | o :: r, env, env', a, h, hf, hk => by
    simp only [pevs] at h
    split at h
    · split at h
      · rename_i hm
        split at h
        · rename_i v hv
          split at h
          · rename_i e1 he
            exact hpure o _ a H env v (met_spec hf hm) hf hv (pevs_sound hpure h (putO_use he hf) fun a' h1 h2 => hk a' h1 (Grew.step (put_grew he) h2))
          · cases h
        · cases h
      · cases h
    · cases h
theorem pickV_spec {p : Oper} {e : Env} {a : Act} {v : Value} (hf : Fits n e ds a) (h : pickV all p e = some v) : Region.wanted p (yielded all a.tmps) = true ∧ ∃ c x y t, p.op = .pick c x y ∧ a.eval c = .bool t ∧ v = (if t then a.eval x else a.eval y) := by
  unfold pickV at h
  split at h
  · rename_i hm
    refine ⟨met_spec hf hm, ?_⟩
    split at h
    · rename_i c x y hop
      split at h
      · rename_i t hc
        refine ⟨c, x, y, t, hop, hf.ev c _ hc, ?_⟩
        cases t with
        | true => exact (hf.ev x _ h).symm
        | false => exact (hf.ev y _ h).symm
      · cases h
    · cases h
  · cases h

theorem seqD_sound
    (hrun : ∀ o r a H env K, Region.wanted o (yielded all a.tmps) = true → Fits n env ds a → F o env H K → (∀ v H', K v H' → L r (a.put o.dst v) H') → L (o :: r) a H)
    (hskip : ∀ o r a H, Region.wanted o (yielded all a.tmps) = false → L r (a.put o.dst undef) H → L (o :: r) a H)
    (hpure : ∀ o r a H env v, Region.wanted o (yielded all a.tmps) = true → Fits n env ds a → pev P o env = some v → L r (a.put o.dst v) H → L (o :: r) a H)
    (hpick : ∀ o r a H c x y t, o.op = .pick c x y → Region.wanted o (yielded all a.tmps) = true → a.eval c = .bool t → L r (a.put o.dst (if t then a.eval x else a.eval y)) H → L (o :: r) a H) :
    ∀ (f : Nat) (opn : List (Nat × Bool)) (l : List Oper) (K : Env → Heap → Prop) (env : Env) (H : Heap), seqD P n all F f opn l K env H →
    ∀ (R : List Oper) (a : Act), Fits n env ds a → (∀ env' a' H', K env' H' → Fits n env' ds a' → Grew env env' l → L R a' H') → L (l ++ R) a H := by
  intro f
  induction f with
  | zero => intro opn l K env H h; exact h.elim
  | succ f ih =>
    intro opn l K env H h R a hf hk
    cases l with
    | nil => exact hk env a H h hf (Grew.refl _ _)
    | cons o r =>
      simp only [seqD] at h
      split at h
      · -- plain
        split at h
        · rename_i hm
          refine hrun o _ a H env _ (met_spec hf hm) hf h fun v H' h' => ?_
          obtain ⟨e1, he, h'⟩ := putE_O h'
          exact ih _ _ _ _ _ h' R _ (putO_use he hf) fun env' a' H'' h1 h2 h3 => hk env' a' H'' h1 h2 (Grew.step (put_grew he) h3)
        · exact h.elim
      · -- a short-circuit
        split at h
        · exact h.elim
        · rename_i g b hg
          obtain ⟨tg, htg, h⟩ := onSome_use h
          obtain ⟨c, hc, h⟩ := onBool_use h
          obtain ⟨⟨G, p, R'⟩, hcut, h⟩ := onSome_use h
          obtain ⟨d, hd, h⟩ := onSome_use h
          obtain ⟨hl, _⟩ := cutPick_spec hcut
          rw [hl]
          have hcl : (G ++ p :: R') ++ R = G ++ (p :: (R' ++ R)) := by simp
          rw [hcl]
          split at h
          case h_2 => exact h.elim
          rename_i k hdn hfr hsk
          have hdn : d < n := Nat.lt_of_succ_le (Nat.le_of_ble_eq_true hdn)
          -- behind the choice
          have hafter : ∀ (e' : Env) (a' : Act) (H' : Heap) (v : Value), (∃ u, get env tg = some (.bool c) ∧ u = Value.bool c ∧ Grew ((tg, u) :: env) e' G) → Fits n e' ds a' → seqD P n all F f opn R' K ((d, v) :: env) H' →
              pickV all p e' = some v → L (p :: (R' ++ R)) a' H' := by
            intro e' a' H' v ⟨u, hu1, hu2, hgr⟩ hf' hrest hpv
            obtain ⟨hw, pc, px, py, t, hop, ht, hv⟩ := pickV_spec hf' hpv
            refine hpick p _ a' H' pc px py t hop hw ht ?_
            rw [← hv, hd]
            have hsub : Fits n env ds a' := hf'.sub fun s w hs => by
              refine hgr s w ?_ (fresh_spec hs hfr)
              rw [get_cons]
              split
              · rename_i e; subst e; rw [hu1] at hs; rw [hu2]; exact hs
              · exact hs
            refine ih _ _ _ _ _ hrest R _ (hsub.put hdn v) fun env' a'' H'' h1 h2 h3 => hk env' a'' H'' h1 h2 ?_
            intro s w hs hno
            refine h3 s w ?_ fun o' ho' => hno o' (by rw [hl]; simp [ho'])
            rw [get_cons, if_neg (fun e => hno p (by rw [hl]; simp) (by rw [hd, e]))]
            exact hs
          have hknow : ∀ (t : Bool), c = t → Fits n ((tg, .bool t) :: env) ds a := fun t e => hf.know hc (by rw [e])
          -- the way that is passed over
          obtain ⟨e3, hs3, hp3⟩ := Option.bind_eq_some_iff.1 hsk
          have hskipway : ∀ (v : Value), c = !b → v = .bool k → seqD P n all F f opn R' K ((d, v) :: env) H → L (G ++ (p :: (R' ++ R))) a H := by
            intro v hcb hv hrest
            subst hv
            refine skipAll_sound hskip hs3 (hknow _ hcb) fun a' h1 h2 => ?_
            exact hafter e3 a' H _ ⟨_, hc, by rw [hcb], h2⟩ h1 hrest hp3
          -- a joined way, by what holds at its end
          have hjoin : ∀ (J : Bool → Heap → Prop), ifB c
              (ifB b (seqD P n all F f ((g, b) :: opn) G (fun e H' => onBool (pickV all p e) fun y => J y H') ((tg, .bool true) :: env) H) (J k H))
              (ifB b (J k H) (seqD P n all F f ((g, b) :: opn) G (fun e H' => onBool (pickV all p e) fun y => J y H') ((tg, .bool false) :: env) H)) →
              (∀ r H', J r H' → seqD P n all F f opn R' K ((d, .bool r) :: env) H') → L (G ++ (p :: (R' ++ R))) a H := by
            intro J h1 h2
            have hrunway : ∀ t, c = t → seqD P n all F f ((g, b) :: opn) G (fun e H' => onBool (pickV all p e) fun y => J y H') ((tg, .bool t) :: env) H → L (G ++ (p :: (R' ++ R))) a H := by
              intro t ht h3
              refine ih _ _ _ _ _ h3 (p :: (R' ++ R)) a (hknow t ht) fun e' a' H' h4 h5 h6 => ?_
              obtain ⟨y, hy, hJ⟩ := onBool_use h4
              exact hafter e' a' H' _ ⟨_, hc, by rw [ht], h6⟩ h5 (h2 y H' hJ) hy
            cases hcv : c <;> cases hbv : b <;> simp only [hcv, hbv, ifB] at h1
            · rw [hbv] at hrunway; exact hrunway false hcv h1
            · exact hskipway _ (by rw [hcv, hbv]; rfl) rfl (h2 k H h1)
            · exact hskipway _ (by rw [hcv, hbv]; rfl) rfl (h2 k H h1)
            · rw [hbv] at hrunway; exact hrunway true hcv h1
          split at h
          · -- what asks for nothing
            rename_i y hpv
            obtain ⟨e2, he2, hy⟩ := Option.bind_eq_some_iff.1 hpv
            obtain ⟨v, hv, hrest⟩ := onSome_use h
            by_cases hcb : c = b
            · refine pevs_sound hpure he2 (hknow b hcb) fun a' h1 h2 => hafter e2 a' H v ⟨_, hc, by rw [hcb], h2⟩ h1 hrest ?_
              rw [hy]
              unfold joinV at hv
              split at hv <;> first | (simp only [Option.some.injEq] at hv; rw [← hv, hcb]; simp) | cases hv
            · have hcb' : c = !b := by cases c <;> cases b <;> simp at hcb ⊢
              refine hskipway v hcb' ?_ hrest
              unfold joinV at hv
              split at hv <;> first | (simp only [Option.some.injEq] at hv; rw [← hv, hcb']; simp) | cases hv
          · split at h
            · obtain ⟨r0, h1, h2⟩ := h
              refine hjoin (fun y H' => y = r0 ∧ H' = H) ?_ fun r H' ⟨h3, h4⟩ => by rw [h3, h4]; exact h2
              cases c <;> cases b <;> simp only [ifB] at h1 ⊢ <;> first | exact h1 | exact ⟨h1, trivial⟩ | exact ⟨h1, rfl⟩
            · obtain ⟨J, h1, h2⟩ := h
              exact hjoin J h1 h2
end
end Go.Vc
namespace Go.Vc

/-! ## 7. Regions that draw their order -/
section
variable {P : Program} {ops : Array Oper} {md : Region.Mode} {Q : Exit → Act → World → Prop}

/-- Edges lead back. -/
def backB (md : Region.Mode) (ops : Array Oper) : Bool := (List.range ops.size).all fun i => match ops[i]? with
  | some o => o.after.all fun e => !Region.binds md e || Nat.blt e.on i
  | none => true
/-- What stands behind the first N waits for all of them. -/
def tailB (md : Region.Mode) (ops : Array Oper) (N : Nat) : Bool := (List.range ops.size).all fun t => Nat.blt t N || (List.range N).all fun j => Region.waitsFor md ops t j
def lstN (N size : Nat) : Array Bool := (List.replicate N true ++ List.replicate (size - N) false).toArray

theorem lstN_get (N size j : Nat) (hN : N ≤ size) : (lstN N size)[j]? = if j < N then some true else if j < size then some false else none := by
  simp only [lstN, List.getElem?_toArray, List.getElem?_append, List.length_replicate, List.getElem?_replicate]
  by_cases h : j < N
  · simp [h]
  · by_cases h2 : j < size
    · simp [h, h2, show j - N < size - N by omega]
    · simp [h, h2, show ¬ j - N < size - N by omega]

theorem any_of_plan {N : Nat} {Inv : Array Bool → Act → World → Prop} (hN : N ≤ ops.size) (hback : backB md ops = true) (htail : tailB md ops N = true)
    (hseq : Region.seqB md ops (ops.size - N) N (lstN N ops.size) = true)
    (hstep : ∀ listed a w j, Inv listed a w → j < N → listed.getD j true = false → (∀ o, ops[j]? = some o → ∀ e ∈ o.after, Region.binds md e = true → listed.getD e.on false = true) →
      wpOp P ops Q j (fun a' w' => Inv (listed.setIfInBounds j true) a' w') a w)
    (hend : ∀ listed a w, Inv listed a w → (∀ j, j < N → listed.getD j false = true) → wpList P ops Q (ops.toList.drop N) a w) :
    ∀ (f : Nat) (listed : Array Bool) (a : Act) (w : World), listed.size = ops.size → (∀ t, N ≤ t → t < ops.size → listed.getD t true = false) → listed.count false = f → Inv listed a w → wpAny P md ops Q f listed a w := by
  intro f
  induction f with
  | zero =>
    intro listed a w hsz htl hc hI
    -- all are listed: the tail is empty
    have hall : ∀ j, j < listed.size → listed[j]? = some true := by
      intro j hj
      have := Array.count_eq_zero.1 hc
      cases hb : listed[j] with
      | true => simp [hj, hb]
      | false => exact (this (by rw [← hb]; exact Array.getElem_mem hj)).elim
    have hNs : N = ops.size := by
      rcases Nat.lt_or_ge N ops.size with h | h
      · have h1 := htl N (Nat.le_refl _) h
        have h2 := hall N (by omega)
        rw [Array.getD_eq_getD_getElem?, h2] at h1
        cases h1
      · omega
    have hend' := hend listed a w hI fun j hj => by rw [Array.getD_eq_getD_getElem?, hall j (by omega)]; rfl
    rw [List.drop_of_length_le (by simp; omega)] at hend'
    refine ⟨?_, hend'⟩
    cases hr : Region.ready md ops listed with
    | nil => rfl
    | cons i r =>
      have hi : i ∈ Region.ready md ops listed := by rw [hr]; simp
      obtain ⟨h1, o, ho, _⟩ := mem_ready.1 hi
      have hlt : i < ops.size := (Array.getElem?_eq_some_iff.1 ho).1
      rw [Array.getD_eq_getD_getElem?, hall i (by omega)] at h1
      cases h1
  | succ f ih =>
    intro listed a w hsz htl hc hI
    by_cases hall : ∀ j, j < N → listed.getD j false = true
    · -- the tail
      have heq : listed = lstN N ops.size := by
        apply Array.ext_getElem?
        intro j
        rw [lstN_get N ops.size j hN]
        by_cases h : j < N
        · have := hall j h
          have hj : j < listed.size := by omega
          simp [hj] at this
          simp [h, hj, this]
        · by_cases h2 : j < ops.size
          · have := htl j (by omega) h2
            have hj : j < listed.size := by omega
            simp [hj] at this
            simp [h, h2, hj, this]
          · simp [h, h2, hsz]
      have hf : f + 1 = (ops.toList.drop N).length := by
        rw [← hc, heq]
        simp [lstN, List.count_append, List.count_replicate]
      rw [hf]
      refine wpAny_of_seq (ops.toList.drop N) N listed a w (fun j => by simp) ?_ (hend listed a w hI hall)
      rw [heq, show (ops.toList.drop N).length = ops.size - N by simp]
      exact hseq
    · -- some are left
      have hne : ∃ i, i < N ∧ listed.getD i true = false := by
        apply Classical.byContradiction
        intro hno
        apply hall
        intro j hj
        have hjs : j < listed.size := by omega
        cases hb : listed.getD j true with
        | true => simp [hjs] at hb ⊢; exact hb
        | false => exact (hno ⟨j, hj, hb⟩).elim
      have hleast : ∃ i, i < N ∧ listed.getD i true = false ∧ ∀ k, k < i → listed.getD k false = true := by
        obtain ⟨i, hi, hu⟩ := hne
        induction i using Nat.strongRecOn with
        | _ i ihi =>
          by_cases hk : ∃ k, k < i ∧ listed.getD k true = false
          · obtain ⟨k, hk1, hk2⟩ := hk
            exact ihi k hk1 (by omega) hk2
          · refine ⟨i, hi, hu, fun k hk1 => ?_⟩
            have hks : k < listed.size := by omega
            cases hb : listed.getD k true with
            | true => simp [hks] at hb ⊢; exact hb
            | false => exact (hk ⟨k, hk1, hb⟩).elim
      obtain ⟨i, hiN, hiu, hil⟩ := hleast
      refine ⟨fun h0 => ?_, fun j hj => ?_⟩
      · have hio : ∃ o, ops[i]? = some o := ⟨ops[i]'(by omega), by simp [show i < ops.size by omega]⟩
        obtain ⟨o, ho⟩ := hio
        have hb := List.all_eq_true.1 hback i (List.mem_range.2 (by omega))
        rw [ho] at hb
        have hir : i ∈ Region.ready md ops listed := mem_ready.2 ⟨hiu, o, ho, fun e he hbd => by
          have := Array.all_eq_true'.1 hb e he
          simp only [hbd, Bool.not_true, Bool.false_or] at this
          exact hil _ (Nat.le_of_ble_eq_true this)⟩
        rw [h0] at hir
        cases hir
      · obtain ⟨h1, o, ho, h2⟩ := mem_ready.1 hj
        have hjs : j < ops.size := (Array.getElem?_eq_some_iff.1 ho).1
        have hjN : j < N := by
          apply Classical.byContradiction
          intro hge
          have ht := List.all_eq_true.1 htail j (List.mem_range.2 hjs)
          simp only [Bool.or_eq_true] at ht
          rcases ht with ht | ht
          · exact hge (Nat.le_of_ble_eq_true ht)
          · have := List.all_eq_true.1 ht i (List.mem_range.2 hiN)
            obtain ⟨o', ho', e, he, hb, hon⟩ := Region.waitsFor_spec this
            rw [ho] at ho'
            simp only [Option.some.injEq] at ho'
            subst ho'
            have h3 := h2 e he hb
            rw [hon] at h3
            have his : i < listed.size := by omega
            simp [his] at h3 hiu
            rw [h3] at hiu
            cases hiu
        refine wpOp_mono (fun a' w' hI' => ih _ a' w' (by simpa using hsz) (fun t ht1 ht2 => ?_) ?_ hI') (hstep listed a w j hI hjN h1 fun o' ho' => by rw [ho] at ho'; simp only [Option.some.injEq] at ho'; subst ho'; exact h2)
        · have hne : j ≠ t := by omega
          have := htl t ht1 ht2
          simpa [Array.getD_eq_getD_getElem?, Array.getElem?_setIfInBounds_ne hne] using this
        · have hjl : j < listed.size := by omega
          have hb : listed[j] = false := by simp [hjl] at h1; exact h1
          rw [show listed.setIfInBounds j true = listed.set j true hjl by simp [Array.setIfInBounds, hjl], Array.count_set hjl, hc, hb]
          simp

end
end Go.Vc
namespace Go.Vc

/-! ## 8. Draws: each operation has one value -/
/-- A call that hands back just this, and turns nothing that was there. -/
def CallsE (P : Program) (f : FuncId) (args : Array Value) (H : Heap) (v : Value) : Prop :=
  ∀ H1, Ext0 H H1 → CallsH P f args H1 fun e H2 => e = .returned v ∧ Ext0 H1 H2
/-- A call that hands back just this, and turns nothing. -/
def CallsQ (P : Program) (f : FuncId) (args : Array Value) (H : Heap) (v : Value) : Prop :=
  CallsH P f args H fun e H2 => e = .returned v ∧ H2 = H
/-- One operation of a region that draws. x: may calls make memory? -/
def opE (P : Program) (x : Bool) : OpF := fun o env H K => match stillOp o.op with
  | true => opd P o.op o.type (ev env) H K fun _ _ => False
  | false => match o.op with
    | .call c => match c.callee with
      | .value f => onFunc (ev env f) fun f fs cs => onSome (evs (ev env) c.args.toList) fun as => match (P.funcs[f]?).bind (·.body) with
        | none => False
        | some _ => exResV P o.type fun v => (match x with
          | true => CallsE P f ⟨fs.toList ++ (as ++ cs.toList)⟩ H v
          | false => CallsQ P f ⟨fs.toList ++ (as ++ cs.toList)⟩ H v) ∧ K v H
      | _ => False
    | _ => False

/-- The worlds of such a region. -/
def InE (w0 : World) (H : Heap) (x : Bool) (w : World) : Prop := ∃ H' d, w = wk w0 H' d ∧ (match x with
  | true => Ext0 H H'
  | false => H' = H)

section
variable {P : Program} {n : Nat} {ops : Array Oper} {ds : List Deferred} {w0 : World} {H : Heap} {x : Bool}

theorem InE.ext {w : World} (h : InE w0 H x w) : ∃ H' d, w = wk w0 H' d ∧ Ext0 H H' := by
  obtain ⟨H', d, rfl, h⟩ := h
  cases x with
  | true => exact ⟨H', d, rfl, h⟩
  | false => simp only at h; subst h; exact ⟨_, d, rfl, Ext0.refl _⟩

theorem opE_quiet (hP : NamesOk P) {o : Oper} {env : Env} {a : Act} {K : Value → Heap → Prop} (hf : Fits n env ds a) (h : opE P x o env H K) :
    ∃ v, K v H ∧ ∀ w, InE w0 H x w → o.quietAt P a (InE w0 H x) w v := by
  unfold opE at h
  split at h
  · rename_i hs
    obtain ⟨v, hk, hr⟩ := opd_still hs (fun y _ u hu => hf.ev y u hu) h
    refine ⟨v, hk, fun w hw => ?_⟩
    obtain ⟨H', d, rfl, hx⟩ := hw.ext
    unfold Oper.quietAt
    rw [hr H' hx w0 d]
    exact ⟨rfl, rfl⟩
  · split at h
    · rename_i c hop
      split at h
      · rename_i f hcal
        obtain ⟨g, fs, cs, hv, h⟩ := onFunc_use h
        obtain ⟨as, has, h⟩ := onSome_use h
        split at h
        · exact h.elim
        · rename_i cd hcd
          obtain ⟨v, hc, hk⟩ := exResV_ex h
          obtain ⟨fn, hfn, hb⟩ := Option.bind_eq_some_iff.1 hcd
          refine ⟨v, hk, fun w hw => ?_⟩
          have e1 := hf.ev f _ hv
          have e2 := evs_map (ρ := a.eval) (fun y _ u hu => hf.ev y u hu) has
          have e3 : c.args.map a.eval = ⟨as⟩ := by apply Array.ext'; simp [e2]
          have hnm := hP g fn hfn
          rw [beq_eq_false_iff_ne] at hnm
          have hr : ∀ w, (execOp a.eval o).run P w = .ok (.enter g ⟨fs.toList ++ (as ++ cs.toList)⟩) w := by
            intro w
            rw [← args_eq]
            simp only [execOp, hop, resolve, hcal, e1, e3, Deferred.ofValue, Sem.run_bind, Sem.run_pure, Result.andThen_ok, invoke]
            simp [callFunc, hfn, hnm, hb]
          unfold Oper.quietAt
          rw [hr w]
          refine ⟨rfl, ?_⟩
          obtain ⟨H', d, rfl, hx⟩ := hw
          cases x with
          | true =>
            refine (hc H' hx w0 d).mono ?_
            rintro e w'' ⟨H2, d2, rfl, rfl, hx2⟩
            exact ⟨rfl, H2, d2, rfl, Ext0.trans hx hx2⟩
          | false =>
            simp only at hx
            subst hx
            refine (hc w0 d).mono ?_
            rintro e w'' ⟨H2, d2, rfl, rfl, rfl⟩
            exact ⟨rfl, _, d2, rfl, rfl⟩
      · exact h.elim
    · exact h.elim

theorem pev_val {o : Oper} {env : Env} {a : Act} {v : Value} (hf : Fits n env ds a) (h : pev P o env = some v) : ∀ w, (execOp a.eval o).run P w = .ok (.value v) w := by
  intro w
  obtain ⟨dst, op, ty, pos, after, guard⟩ := o
  cases op
  case move x =>
    simp only [pev] at h
    simp only [execOp, hf.ev _ _ h, Sem.run_pure]
  case assign x =>
    simp only [pev] at h
    simp only [execOp, hf.ev _ _ h, Sem.run_pure]
  case binOp op T x y yT =>
    simp only [pev] at h
    split at h
    · rename_i k b k' c hx hy
      have hr : ∀ w, (binOp op T (.int k b) (.int k' c)).run P w = .ok v w := by
        intro w
        split at h
        · obtain ⟨rfl, hb, rfl⟩ := divV_spec h
          simp only [binOp, Op.intDiv, ne_eq, not_true, if_false]; rw [if_neg hb]; rfl
        · obtain ⟨rfl, hb, rfl⟩ := divV_spec h
          simp only [binOp, Op.intDiv, ne_eq, not_true, if_false]; rw [if_neg hb]; rfl
        · cases h
        · cases h
        · exact pureRun_run h w
      simp only [execOp, hf.ev _ _ hx, hf.ev _ _ hy, Sem.run_bind, guard_skip _ _ _ _ (.int k b) (.int k' c) (by simp) (by simp), Result.andThen_ok, hr, Sem.run_pure]
    · rename_i b c hx hy
      simp only [execOp, hf.ev _ _ hx, hf.ev _ _ hy, Sem.run_bind, guard_skip _ _ _ _ (.bool b) (.bool c) (by simp) (by simp), Result.andThen_ok, pureRun_run h, Sem.run_pure]
    · rename_i b c hx hy
      have hr : pureRun P (binOp op T (.string b) (.string c)) = some v := by
        split at h <;> first | cases h | exact h
      simp only [execOp, hf.ev _ _ hx, hf.ev _ _ hy, Sem.run_bind, guard_skip _ _ _ _ (.string b) (.string c) (by simp) (by simp), Result.andThen_ok, pureRun_run hr, Sem.run_pure]
    · cases h
  case unOp op T x =>
    simp only [pev] at h
    split at h
    · rename_i u hu
      simp only [execOp, hf.ev _ _ hu, Sem.run_bind, pureRun_run h, Result.andThen_ok, Sem.run_pure]
    · cases h
  case call c =>
    simp only [pev] at h
    split at h
    · rename_i hcal
      have hlen : ∀ as, evs (ev env) c.args.toList = some as → pureRun P (Builtin.len_ c.argTypes ty ⟨as⟩) = some v → (execOp a.eval { dst, op := .call c, type := ty, pos, after, guard }).run P w = .ok (.value v) w := by
        intro as has hr
        have e2 := evs_map (ρ := a.eval) (fun y _ u hu => hf.ev y u hu) has
        have e3 : c.args.map a.eval = ⟨as⟩ := by apply Array.ext'; simp [e2]
        simp only [execOp, resolve, hcal, e3, Sem.run_bind, Sem.run_pure, Result.andThen_ok, invoke, builtin, pureRun_run hr]
      split at h
      · rename_i has; exact hlen _ has h
      · rename_i has; exact hlen _ has h
      · cases h
    · cases h
  all_goals (simp only [pev] at h; cases h)

/-- The walk in the text's order, as the kit's theorem on such regions asks it. -/
theorem seqE_quiet (hP : NamesOk P) {Qf : Act → Prop} {f : Nat} {l : List Oper} {K : Env → Heap → Prop} {env : Env} {a : Act} (h : seqD P n ops (opE P x) f [] l K env H) (hf : Fits n env ds a)
    (hk : ∀ env' a', K env' H → Fits n env' ds a' → Grew env env' l → Qf a') : wpQuiet P ops (InE w0 H x) Qf l a := by
  have := seqD_sound (P := P) (n := n) (all := ops) (F := opE P x) (ds := ds) (L := fun l a H' => H' = H → wpQuiet P ops (InE w0 H x) Qf l a)
    (fun o r a H' env K hw hf hop hk hH' => by
      rw [hH'] at hop
      obtain ⟨v, hK, hq⟩ := opE_quiet (w0 := w0) hP hf hop
      unfold wpQuiet
      rw [if_pos hw]
      exact ⟨v, hq, hk v H hK rfl⟩)
    (fun o r a H' hw hk hH' => by
      unfold wpQuiet
      rw [if_neg (by rw [hw]; simp)]
      exact hk hH')
    (fun o r a H' env v hw hf hp hk hH' => by
      unfold wpQuiet
      rw [if_pos hw]
      refine ⟨v, fun w _ => ?_, hk hH'⟩
      unfold Oper.quietAt
      rw [pev_val hf hp w]
      exact ⟨rfl, rfl⟩)
    (fun o r a H' c y z t hop hw hc hk hH' => by
      unfold wpQuiet
      rw [if_pos hw]
      refine ⟨_, fun w _ => ?_, hk hH'⟩
      unfold Oper.quietAt
      have : (execOp a.eval o).run P w = .ok (.value (if t then a.eval y else a.eval z)) w := by
        simp only [execOp, hop, hc, asBool, Sem.run_bind, Sem.run_pure, Result.andThen_ok]
      rw [this]
      exact ⟨rfl, rfl⟩)
    f [] l K env H h [] a hf (fun env' a' H' hK hf' hg hH' => by
      rw [hH'] at hK
      exact wpQuiet_nil (hk env' a' hK hf' hg)) rfl
  simpa using this

/-! ### and any order -/
/-- What an operation looks at is written ahead, by one that it waits for; no slot is written twice. -/
def depB (ops : Array Oper) (N : Nat) : Bool := (List.range N).all fun j => match ops[j]? with
  | some o => (List.range N).all fun i => match (ops[i]?).bind (·.dst) with
    | none => true
    | some t => (!(o.looksAt ops).contains t || (Nat.blt i j && Region.waitsFor .any ops j i)) && (Nat.beq i j || !(o.dst == some t))
  | none => true
theorem depB_spec {N : Nat} (h : depB ops N = true) {i j : Nat} (hi : i < N) (hj : j < N) {o o' : Oper} (ho : ops[j]? = some o) (ho' : ops[i]? = some o') {t : Nat} (ht : o'.dst = some t) :
    (t ∈ o.looksAt ops → i < j ∧ ∃ e ∈ o.after, Region.binds .any e = true ∧ e.on = i) ∧ (i ≠ j → o.dst ≠ some t) := by
  have h1 := List.all_eq_true.1 h j (List.mem_range.2 hj)
  rw [ho] at h1
  have h2 := List.all_eq_true.1 h1 i (List.mem_range.2 hi)
  rw [ho', Option.bind_some, ht] at h2
  simp only [Bool.and_eq_true, Bool.or_eq_true, Bool.not_eq_true'] at h2
  refine ⟨fun hm => ?_, fun hne he => ?_⟩
  · rcases h2.1 with h3 | ⟨h3, h4⟩
    · rw [List.contains_eq_mem, decide_eq_false_iff_not] at h3; exact (h3 hm).elim
    · obtain ⟨oj, hoj, e, he, hb, hon⟩ := Region.waitsFor_spec h4
      rw [ho] at hoj
      simp only [Option.some.injEq] at hoj
      subst hoj
      exact ⟨Nat.le_of_ble_eq_true h3, e, he, hb, hon⟩
  · rcases h2.2 with h3 | h3
    · exact hne (beqN h3)
    · rw [he] at h3; simp at h3
/-- The frame behind so many operations, each with its value. -/
def actN (ops : Array Oper) (σ : Nat → Value) (a : Act) : Nat → Act
  | 0 => a
  | k + 1 => match ops[k]? with
    | some o => (actN ops σ a k).put o.dst (σ k)
    | none => actN ops σ a k
theorem actN_size (σ : Nat → Value) (a : Act) (k : Nat) : (actN ops σ a k).tmps.size = a.tmps.size ∧ (actN ops σ a k).defers = a.defers := by
  induction k with
  | zero => exact ⟨rfl, rfl⟩
  | succ k ih =>
    simp only [actN]
    split
    · rename_i o ho
      cases hd : o.dst <;> simp [Act.put, ih]
    · exact ih
/-- From the lexical walk: each operation's value, and what holds at the end. -/
theorem quiet_values {C : World → Prop} {Qf : Act → Prop} : ∀ (l : List Oper) (k : Nat) (a : Act) (σ0 : Nat → Value), (∀ j, j < l.length → l[j]? = ops[k + j]?) → wpQuiet P ops C Qf l (actN ops σ0 a k) →
    ∃ σ : Nat → Value, (∀ j, j < k → σ j = σ0 j) ∧ (∀ j o, k ≤ j → j < k + l.length → ops[j]? = some o → YieldsIn P ops C o (σ j) (actN ops σ a j)) ∧ Qf (actN ops σ a (k + l.length))
  | [], k, a, σ0, _, h => ⟨σ0, fun _ _ => rfl, fun j o h1 h2 => by simp at h2; omega, h⟩
  | o :: r, k, a, σ0, hl, h => by
    have ho : ops[k]? = some o := by have := hl 0 (by simp); simpa using this.symm
    have hq : qOp P ops C k (wpQuiet P ops C Qf r) (actN ops σ0 a k) := by unfold qOp; simp only [ho]; exact h
    obtain ⟨v, hy, hK⟩ := yieldsIn_of_qOp ho hq
    have hcong : ∀ (σ1 σ2 : Nat → Value) (m : Nat), (∀ j, j < m → σ1 j = σ2 j) → actN ops σ1 a m = actN ops σ2 a m := by
      intro σ1 σ2 m
      induction m with
      | zero => intro _; rfl
      | succ m ih =>
        intro hm
        simp only [actN, ih fun j hj => hm j (by omega), hm m (by omega)]
    let σ1 : Nat → Value := fun j => if j = k then v else σ0 j
    have e1 : actN ops σ1 a k = actN ops σ0 a k := hcong _ _ _ fun j hj => by simp [σ1, show j ≠ k by omega]
    have e2 : actN ops σ1 a (k + 1) = (actN ops σ0 a k).put o.dst v := by
      simp only [actN, ho, e1]
      simp [σ1]
    rw [← e2] at hK
    obtain ⟨σ, h1, h2, h3⟩ := quiet_values r (k + 1) a σ1 (fun j hj => by
      have := hl (j + 1) (by simp; omega)
      rw [show k + 1 + j = k + (j + 1) by omega]
      simpa using this) hK
    refine ⟨σ, fun j hj => by rw [h1 j (by omega)]; simp [σ1, show j ≠ k by omega], fun j o' hj1 hj2 ho' => ?_, by rw [show k + (o :: r).length = k + 1 + r.length by simp; omega]; exact h3⟩
    by_cases hjk : j = k
    · subst hjk
      rw [ho] at ho'
      simp only [Option.some.injEq] at ho'
      subst ho'
      rw [hcong σ σ0 j fun i hi => by rw [h1 i (by omega)]; simp [σ1, show i ≠ j by omega], show σ j = v by rw [h1 j (by omega)]; simp [σ1]]
      exact hy
    · exact h2 j o' (by omega) (by simp at hj2; omega) ho'

theorem bltT {a b : Nat} (h : a < b) : Nat.blt a b = true := Nat.ble_eq_true_of_le h
theorem put_get {a : Act} {dst : Option Tmp} {v : Value} {t : Nat} : (a.put dst v).tmps[t]? = if dst = some t ∧ t < a.tmps.size then some v else if dst = some t then none else a.tmps[t]? := by
  cases dst with
  | none => simp [Act.put]
  | some d =>
    simp only [Act.put, Array.getElem?_setIfInBounds, Option.some.injEq]
    by_cases h : d = t
    · subst h
      by_cases h2 : d < a.tmps.size
      · simp [h2]
      · simp [h2]
    · simp [h]
/-- What lies in a slot behind some of the operations. -/
def Holds (ops : Array Oper) (σ : Nat → Value) (a : Act) (N : Nat) (done : Nat → Bool) (a' : Act) : Prop :=
  a'.tmps.size = a.tmps.size ∧ a'.defers = a.defers ∧
  ∀ t, (∀ j o, j < N → ops[j]? = some o → o.dst = some t → done j = true → a'.tmps[t]? = if t < a.tmps.size then some (σ j) else none) ∧
    ((∀ j o, j < N → ops[j]? = some o → o.dst = some t → done j = false) → a'.tmps[t]? = a.tmps[t]?)
theorem Holds.same {σ : Nat → Value} {a a1 a2 : Act} {N : Nat} {d1 d2 : Nat → Bool} (h1 : Holds ops σ a N d1 a1) (h2 : Holds ops σ a N d2 a2) (t : Nat) (h : ∀ j o, j < N → ops[j]? = some o → o.dst = some t → d1 j = true ∧ d2 j = true) : a1.tmps[t]? = a2.tmps[t]? := by
  by_cases hex : ∃ j o, j < N ∧ ops[j]? = some o ∧ o.dst = some t
  · obtain ⟨j, o, hj, ho, ht⟩ := hex
    obtain ⟨e1, e2⟩ := h j o hj ho ht
    rw [(h1.2.2 t).1 j o hj ho ht e1, (h2.2.2 t).1 j o hj ho ht e2]
  · rw [(h1.2.2 t).2 fun j o hj ho ht => (hex ⟨j, o, hj, ho, ht⟩).elim, (h2.2.2 t).2 fun j o hj ho ht => (hex ⟨j, o, hj, ho, ht⟩).elim]
theorem Holds.put {σ : Nat → Value} {a a' : Act} {N : Nat} {done done' : Nat → Bool} (hd : depB ops N = true) (h : Holds ops σ a N done a') {j : Nat} {o : Oper} (hj : j < N) (ho : ops[j]? = some o) (hdone : ∀ i, done' i = true ↔ (i = j ∨ done i = true)) :
    Holds ops σ a N done' (a'.put o.dst (σ j)) := by
  refine ⟨?_, ?_, fun t => ⟨fun i oi hi hoi ht hdi => ?_, fun hno => ?_⟩⟩
  · rw [← h.1]; cases o.dst <;> simp [Act.put]
  · rw [← h.2.1]; cases o.dst <;> simp [Act.put]
  · rw [put_get]
    by_cases hij : i = j
    · subst hij
      rw [ho] at hoi
      simp only [Option.some.injEq] at hoi
      subst hoi
      rw [h.1]
      by_cases hlt : t < a.tmps.size <;> simp [ht, hlt]
    · have hne : o.dst ≠ some t := (depB_spec hd hi hj ho hoi ht).2 hij
      rw [if_neg (fun e => hne e.1), if_neg hne]
      exact (h.2.2 t).1 i oi hi hoi ht (((hdone i).1 hdi).resolve_left hij)
  · have hne : o.dst ≠ some t := fun e => by
      have := hno j o hj ho e
      rw [(hdone j).2 (.inl rfl)] at this
      cases this
    rw [put_get, if_neg (fun e => hne e.1), if_neg hne]
    refine (h.2.2 t).2 fun i oi hi hoi ht => ?_
    have := hno i oi hi hoi ht
    cases hb : done i with
    | false => rfl
    | true => rw [(hdone i).2 (.inr hb)] at this; cases this
theorem holds_actN {σ : Nat → Value} {a : Act} {N : Nat} (hd : depB ops N = true) (hN : N ≤ ops.size) : ∀ k, k ≤ N → Holds ops σ a N (fun j => Nat.blt j k) (actN ops σ a k)
  | 0, _ => ⟨rfl, rfl, fun t => ⟨fun j o _ _ _ h => by simp [Nat.blt] at h, fun _ => rfl⟩⟩
  | k + 1, hk => by
    have ho : ops[k]? = some (ops[k]'(by omega)) := by simp [show k < ops.size by omega]
    simp only [actN, ho]
    refine (holds_actN hd hN k (by omega)).put hd (by omega) ho fun i => ?_
    simp only [Nat.blt, Nat.ble_eq]
    omega
theorem drawE_any (hP : NamesOk P) {Q : Exit → Act → World → Prop} {N f : Nat} {K : Env → Heap → Prop} {env : Env} {a : Act} {w : World} (hN : N ≤ ops.size) (hsel : Region.noSelect ops = true) (hback : backB .any ops = true) (htail : tailB .any ops N = true)
    (hseq : Region.seqB .any ops (ops.size - N) N (lstN N ops.size) = true) (hdep : depB ops N = true)
    (h : seqD P n ops (opE P x) f [] (ops.toList.take N) K env H) (hf : Fits n env ds a) (hw : InE w0 H x w)
    (hk : ∀ env' a', K env' H → Fits n env' ds a' → Grew env env' (ops.toList.take N) → ∀ w, InE w0 H x w → wpList P ops Q (ops.toList.drop N) a' w) :
    wpAny P .any ops Q ops.size (Array.replicate ops.size false) a w := by
  have hq := seqE_quiet (w0 := w0) (Qf := fun a' => ∀ w, InE w0 H x w → wpList P ops Q (ops.toList.drop N) a' w) hP h hf hk
  have hlen : (ops.toList.take N).length = N := by simp; omega
  obtain ⟨σ, _, hy, hend⟩ := quiet_values (ops.toList.take N) 0 a (fun _ => undef) (fun j hj => by
    rw [List.getElem?_take_of_lt (by omega), Nat.zero_add]; simp) hq
  rw [hlen, Nat.zero_add] at hy hend
  have hact : ∀ a', Holds ops σ a N (fun j => Nat.blt j N) a' → a' = actN ops σ a N := by
    intro a' h1
    have h2 := holds_actN (σ := σ) (a := a) hdep hN N (Nat.le_refl _)
    obtain ⟨t1, d1⟩ := a'
    have e1 : t1 = (actN ops σ a N).tmps := by
      apply Array.ext_getElem?
      intro t
      exact h1.same h2 t fun j o hj _ _ => ⟨bltT hj, bltT hj⟩
    have e2 : d1 = (actN ops σ a N).defers := h1.2.1.trans h2.2.1.symm
    rw [e1, e2]
  refine any_of_plan (N := N) (Inv := fun listed a' w => InE w0 H x w ∧ listed.size = ops.size ∧ Holds ops σ a N (fun j => listed.getD j false) a') hN hback htail hseq ?_ ?_ ops.size _ a w (by simp) (fun t _ ht => by simp [ht]) (by simp) ⟨hw, by simp, rfl, rfl, fun t => ⟨fun j o hj _ _ h => ?_, fun _ => rfl⟩⟩
  · intro listed a' w' j ⟨hC, hsz, hh⟩ hj hun hdeps
    have hjs : j < ops.size := by omega
    have ho : ops[j]? = some ops[j] := by simp [hjs]
    have hyj := hy j _ (Nat.zero_le _) hj ho
    have hj' := holds_actN (σ := σ) (a := a) hdep hN j (by omega)
    have hsame : ∀ t, t ∈ (ops[j]).looksAt ops → a'.tmps[t]? = (actN ops σ a j).tmps[t]? := by
      intro t ht
      refine hh.same hj' t fun i oi hi hoi hdi => ?_
      obtain ⟨h1, e, he, hb, hon⟩ := (depB_spec hdep hi hj ho hoi hdi).1 ht
      exact ⟨by rw [← hon]; exact hdeps _ ho e he hb, bltT h1⟩
    have hya : YieldsIn P ops (InE w0 H x) ops[j] (σ j) a' := by
      refine hyj.of_same (execOp_congr _ (fun cs b => Region.noSelect_spec hsel j _ cs b ho) fun y hy => ?_) ?_
      · cases y with
        | tmp t =>
          have := hsame t (List.mem_append_left _ (List.mem_filterMap.2 ⟨.tmp t, by simpa using hy, rfl⟩))
          simp [Act.eval, this]
        | _ => rfl
      · unfold Region.wanted
        cases hg : (ops[j]).guard with
        | none => rfl
        | some gw =>
          obtain ⟨g, want⟩ := gw
          have : yielded ops a'.tmps g = yielded ops (actN ops σ a j).tmps g := by
            unfold yielded
            cases ht : (ops[g]?).bind (·.dst) with
            | none => rfl
            | some t =>
              have := hsame t (by simp [Oper.looksAt, hg, ht])
              simp only [Option.bind_some, this]
          simp only [this]
    refine wpOp_of_qOp hC (K := fun a'' => a'' = a'.put (ops[j]).dst (σ j)) (fun a'' w'' hC' he => ?_) (hya.qOp ho rfl)
    subst he
    refine ⟨hC', by simpa using hsz, hh.put hdep hj ho fun i => ?_⟩
    simp only [Array.getD_eq_getD_getElem?, Array.getElem?_setIfInBounds]
    by_cases hij : j = i
    · subst hij; simp [hsz, hjs]
    · rw [if_neg hij]
      constructor
      · exact fun h => .inr h
      · rintro (h | h)
        · exact (hij h.symm).elim
        · exact h
  · intro listed a' w' ⟨hC, hsz, hh⟩ hall
    have : a' = actN ops σ a N := hact a' ⟨hh.1, hh.2.1, fun t => ⟨fun j o hj ho ht _ => (hh.2.2 t).1 j o hj ho ht (hall j hj), fun hno => (hh.2.2 t).2 fun j o hj ho ht => by
      have := hno j o hj ho ht
      simp only [show Nat.blt j N = true from bltT hj] at this
      cases this⟩⟩
    rw [this]
    exact hend w' hC
  · simp [Array.getD_eq_getD_getElem?, show j < ops.size by omega] at h

end
end Go.Vc
