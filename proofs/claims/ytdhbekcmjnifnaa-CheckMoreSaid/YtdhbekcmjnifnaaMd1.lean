/- CheckMore is proved: a rule more that nobody speaks of, of a new name, and that speaks of none, leaves rules as they were; for every input, with no condition. This text is a part of the way there. -/
import Derived.Calls
import Derived.Orders
import Derived.Tactics
import Derived.Laws.Sem
import Derived.Laws.World
import Derived.KernelRfl
namespace Go.Vc

/-! ## 1. Heaps -/
abbrev Heap := Array Obj
def wk (w : World) (H : Heap) (d : Nat) : World := { w with heap := H, drawn := d }
def cellH (H : Heap) (a : Addr) : Option Value :=
  match H[a.block]? with
  | some (.cells c _ _) => if a.spot.isSome then none else c[a.off]?
  | _ => none
def frozenH (H : Heap) (a : Addr) : Bool :=
  match H[a.block]? with
  | some (.cells _ _ (lo, hi)) => lo ≤ a.off && a.off < hi
  | _ => false
def setH (H : Heap) (a : Addr) (v : Value) : Heap :=
  H.modify a.block fun
    | .cells c elem frozen => .cells (if a.spot.isSome then c else c.setIfInBounds a.off v) elem frozen
    | o => o
theorem cell_wk (w : World) (H : Heap) (d : Nat) (a : Addr) : (wk w H d).cell? a = cellH H a := rfl
theorem frozen_wk (w : World) (H : Heap) (d : Nat) (a : Addr) : (wk w H d).frozen? a = frozenH H a := rfl
theorem set_wk (w : World) (H : Heap) (d : Nat) (a : Addr) (v : Value) : (wk w H d).setCell a v = wk w (setH H a v) d := rfl
theorem wk_self (w : World) : wk w w.heap w.drawn = w := rfl
theorem wk_wk (w : World) (H H' : Heap) (d d' : Nat) : wk (wk w H d) H' d' = wk w H' d' := rfl

/-- A call, said of heaps alone. -/
def CallsH (P : Program) (f : FuncId) (args : Array Value) (H : Heap) (R : Ending → Heap → Prop) : Prop :=
  ∀ w d, Calls P f args (wk w H d) fun e w' => ∃ H' d', w' = wk w H' d' ∧ R e H'

theorem CallsH.mono {P : Program} {f : FuncId} {args : Array Value} {H : Heap} {R R' : Ending → Heap → Prop} (h : CallsH P f args H R) (hr : ∀ e H', R e H' → R' e H') : CallsH P f args H R' :=
  fun w d => (h w d).mono fun _ _ ⟨H', d', e, r⟩ => ⟨H', d', e, hr _ _ r⟩

/-- What a call's ending means for what stands behind it. -/
def onCall (K : Value → Heap → Prop) (X : List PanicEntry → Heap → Prop) : Ending → Heap → Prop
  | .returned v, H => K v H
  | .panicked c, H => X c H
  | .outgrown, _ => False

/-- A value's computation, whatever the rest of the world. -/
def RunD (P : Program) (s : Sem Value) (H : Heap) (K : Value → Heap → Prop) : Prop :=
  ∀ w d, ∃ v H' d', s.run P (wk w H d) = .ok v (wk w H' d') ∧ K v H'
def RunU (P : Program) (s : Sem Unit) (H : Heap) (K : Heap → Prop) : Prop :=
  ∀ w d, ∃ H' d', s.run P (wk w H d) = .ok () (wk w H' d') ∧ K H'

/-- What lay there lies there as it did, but for some blocks. -/
structure Ext (M : Nat → Prop) (H H' : Heap) : Prop where
  size : H.size ≤ H'.size
  block : ∀ b, b < H.size → ¬ M b → H'[b]? = H[b]?
def Ext0 (H H' : Heap) : Prop := Ext (fun _ => False) H H'
theorem Ext.refl (M : Nat → Prop) (H : Heap) : Ext M H H := ⟨Nat.le_refl _, fun _ _ _ => rfl⟩
theorem Ext.trans {M : Nat → Prop} {H H' H'' : Heap} (h : Ext M H H') (k : Ext M H' H'') : Ext M H H'' :=
  ⟨Nat.le_trans h.size k.size, fun b hb hm => (k.block b (Nat.lt_of_lt_of_le hb h.size) hm).trans (h.block b hb hm)⟩
theorem Ext0.refl (H : Heap) : Ext0 H H := Ext.refl _ H
theorem Ext0.trans {H H' H'' : Heap} (h : Ext0 H H') (k : Ext0 H' H'') : Ext0 H H'' := Ext.trans h k
theorem Ext.cell {M : Nat → Prop} {H H' : Heap} (h : Ext M H H') {a : Addr} {v : Value} (hc : cellH H a = some v) (hm : ¬ M a.block) : cellH H' a = some v := by
  have hb : a.block < H.size := by
    unfold cellH at hc
    rcases Nat.lt_or_ge a.block H.size with h' | h'
    · exact h'
    · simp [Array.getElem?_eq_none h'] at hc
  unfold cellH at *
  rw [h.block _ hb hm]
  exact hc
theorem Ext0.cell {H H' : Heap} (h : Ext0 H H') {a : Addr} {v : Value} (hc : cellH H a = some v) : cellH H' a = some v := Ext.cell h hc (fun h => h)

/-- One value, whatever the rest of the world, and memory as it was; the same where there is more memory. -/
def RunX (P : Program) (s : Sem Value) (H : Heap) (K : Value → Heap → Prop) : Prop :=
  ∃ v, (∀ H', Ext0 H H' → ∀ w d, s.run P (wk w H' d) = .ok v (wk w H' d)) ∧ K v H
theorem RunX.toD {P : Program} {s : Sem Value} {H : Heap} {K : Value → Heap → Prop} (h : RunX P s H K) : RunD P s H K := fun w d =>
  let ⟨v, h1, h2⟩ := h
  ⟨v, H, d, h1 H (Ext0.refl H) w d, h2⟩
/-- This value, and memory as it was; the same where there is more memory. -/
def RunV (P : Program) (s : Sem Value) (H : Heap) (v : Value) : Prop := ∀ H', Ext0 H H' → ∀ w d, s.run P (wk w H' d) = .ok v (wk w H' d)
/-- '==' or '!=' of two values. -/
def EqV (P : Program) (op : BinOp) (T : TypeId) (v u : Value) (b : Bool) : Prop := ∀ x y w, (do eqGuard op T x y v u; binOp op T v u : Sem Value).run P w = .ok (.bool b) w
/-- Bits. -/
def bAnd (k : IntKind) (a b : Int) : Int := k.wrap ((BitVec.ofInt k.bits a &&& BitVec.ofInt k.bits b).toNat)
def bOr (k : IntKind) (a b : Int) : Int := k.wrap ((BitVec.ofInt k.bits a ||| BitVec.ofInt k.bits b).toNat)
def bXor (k : IntKind) (a b : Int) : Int := k.wrap ((BitVec.ofInt k.bits a ^^^ BitVec.ofInt k.bits b).toNat)
def bAndNot (k : IntKind) (a b : Int) : Int := k.wrap ((BitVec.ofInt k.bits a &&& ~~~(BitVec.ofInt k.bits b)).toNat)
/-- One value, in every world. -/
def RunP (P : Program) (s : Sem Value) (K : Value → Prop) : Prop := ∃ v, (∀ w, s.run P w = .ok v w) ∧ K v
theorem RunP.toX {P : Program} {s : Sem Value} {H : Heap} {K : Value → Heap → Prop} (h : RunP P s fun v => K v H) : RunX P s H K :=
  let ⟨v, h1, h2⟩ := h
  ⟨v, fun H' _ w d => h1 (wk w H' d), h2⟩

/-! ## 2. Types -/
inductive Lk where
  | int (k : IntKind) | bool | str | ptr | slc | map | val
  | ints (k : IntKind) (n : Nat)

def leaves (P : Program) : Nat → TypeId → List Lk
  | 0, _ => []
  | f + 1, T => match P.underlying T with
    | some (.int k) => [.int k]
    | some .bool => [.bool]
    | some .string => [.str]
    | some (.pointer _) => [.ptr]
    | some (.slice _) => [.slc]
    | some (.map _ _) => [.map]
    | some (.struct fs) => fs.toList.flatMap fun x => leaves P f x.type
    | some (.array n e) => match P.underlying e with
      | some (.int k) => [.ints k n]
      | _ => (List.replicate n (leaves P f e)).flatten
    | _ => [.val]
def tleaves (P : Program) (T : TypeId) : List Lk := leaves P 9 T
def aggT (P : Program) (T : TypeId) : Bool := match P.underlying T with
  | some (.struct _) | some (.array _ _) => true
  | _ => false
def sizeT (P : Program) (T : TypeId) : Nat := P.cellsOf T

/-- There are cells of these kinds. -/
def exL : List Lk → (List Value → Prop) → Prop
  | [], K => K []
  | .int k :: r, K => ∃ x : Int, exL r fun l => K (.int k x :: l)
  | .bool :: r, K => ∃ x : Bool, exL r fun l => K (.bool x :: l)
  | .str :: r, K => ∃ x : ByteArray, exL r fun l => K (.string x :: l)
  | .ptr :: r, K => ∃ x : Addr, exL r fun l => K (.pointer (some x) :: l)
  | .slc :: r, K => ∃ (a : Option Addr) (n c : Nat), exL r fun l => K (.slice a n c :: l)
  | .map :: r, K => ∃ x : Option Nat, exL r fun l => K (.map x :: l)
  | .val :: r, K => ∃ x : Value, exL r fun l => K (x :: l)
  | [.ints k n], K => ∃ xs : List Int, xs.length = n ∧ K (xs.map (Value.int k))
  | .ints k n :: r, K => ∃ xs : List Int, xs.length = n ∧ exL r fun l => K (xs.map (Value.int k) ++ l)

theorem exL_ex : ∀ (ls : List Lk) {K : List Value → Prop}, exL ls K → ∃ l, K l
  | [], _, h => ⟨_, h⟩
  | .int _ :: r, _, h => let ⟨_, h⟩ := h; let ⟨_, h⟩ := exL_ex r h; ⟨_, h⟩
  | .bool :: r, _, h => let ⟨_, h⟩ := h; let ⟨_, h⟩ := exL_ex r h; ⟨_, h⟩
  | .str :: r, _, h => let ⟨_, h⟩ := h; let ⟨_, h⟩ := exL_ex r h; ⟨_, h⟩
  | .ptr :: r, _, h => let ⟨_, h⟩ := h; let ⟨_, h⟩ := exL_ex r h; ⟨_, h⟩
  | .slc :: r, _, h => let ⟨_, _, _, h⟩ := h; let ⟨_, h⟩ := exL_ex r h; ⟨_, h⟩
  | .map :: r, _, h => let ⟨_, h⟩ := h; let ⟨_, h⟩ := exL_ex r h; ⟨_, h⟩
  | .val :: r, _, h => let ⟨_, h⟩ := h; let ⟨_, h⟩ := exL_ex r h; ⟨_, h⟩
  | [.ints _ _], _, h => let ⟨_, _, h⟩ := h; ⟨_, h⟩
  | .ints _ _ :: b :: r, _, h => let ⟨_, _, h⟩ := h; let ⟨_, h⟩ := exL_ex (b :: r) h; ⟨_, h⟩

/-- The zero cells of a type. -/
def zeroL : List Lk → List Value
  | [] => []
  | .int k :: r => .int k 0 :: zeroL r
  | .bool :: r => .bool false :: zeroL r
  | .str :: r => .string ⟨#[]⟩ :: zeroL r
  | .ptr :: r => .pointer none :: zeroL r
  | .slc :: r => .slice none 0 0 :: zeroL r
  | .map :: r => .map none :: zeroL r
  | .val :: r => .nilIface :: zeroL r
  | [.ints k n] => (List.replicate n (0 : Int)).map (Value.int k)
  | .ints k n :: r => (List.replicate n (0 : Int)).map (Value.int k) ++ zeroL r

/-- One value of a type. -/
def exV (P : Program) (T : TypeId) (K : Value → Prop) : Prop :=
  match aggT P T with
  | true => exL (tleaves P T) fun l => K (.agg ⟨l⟩)
  | false => exL (tleaves P T) fun l => match l with
    | v :: _ => K v
    | [] => False
theorem exV_ex {P : Program} {T : TypeId} {K : Value → Prop} (h : exV P T K) : ∃ v, K v := by
  unfold exV at h
  split at h
  · obtain ⟨l, h⟩ := exL_ex _ h; exact ⟨_, h⟩
  · obtain ⟨l, h⟩ := exL_ex _ h
    cases l with
    | nil => exact h.elim
    | cons v l => exact ⟨v, h⟩
def exVs (P : Program) : List TypeId → (List Value → Prop) → Prop
  | [], K => K []
  | T :: r, K => exV P T fun v => exVs P r fun l => K (v :: l)
theorem exVs_ex {P : Program} : ∀ (ts : List TypeId) {K : List Value → Prop}, exVs P ts K → ∃ l, K l
  | [], _, h => ⟨_, h⟩
  | _ :: r, _, h => let ⟨_, h⟩ := exV_ex h; let ⟨_, h⟩ := exVs_ex r h; ⟨_, h⟩
/-- What a call hands back, by the type of the operation: one value, or a tuple. -/
def exRes (P : Program) (T : TypeId) (v : Value) (K : Value → Prop) : Prop :=
  match P.underlying T with
  | some (.tuple ts) => match ts.toList with
    | [] => K v
    | ts => exVs P ts fun vs => v = .tuple ⟨vs⟩ ∧ K (.tuple ⟨vs⟩)
  | _ => exV P T fun v' => v = v' ∧ K v'
theorem exRes_use {P : Program} {T : TypeId} {v : Value} {K : Value → Prop} (h : exRes P T v K) : K v := by
  unfold exRes at h
  split at h
  · split at h
    · exact h
    · obtain ⟨l, hl, h⟩ := exVs_ex _ h; exact hl ▸ h
  · obtain ⟨l, rfl, h⟩ := exV_ex h; exact h

def exResV (P : Program) (T : TypeId) (K : Value → Prop) : Prop :=
  match P.underlying T with
  | some (.tuple ts) => match ts.toList with
    | [] => K (.tuple #[])
    | ts => exVs P ts fun vs => K (.tuple ⟨vs⟩)
  | _ => exV P T K
theorem exResV_ex {P : Program} {T : TypeId} {K : Value → Prop} (h : exResV P T K) : ∃ v, K v := by
  unfold exResV at h
  split at h
  · split at h
    · exact ⟨_, h⟩
    · obtain ⟨l, h⟩ := exVs_ex _ h; exact ⟨_, h⟩
  · exact exV_ex h

/-! ## 3. Cells -/
def cellsAt (H : Heap) (a : Addr) : Nat → List Value → Prop
  | _, [] => True
  | i, v :: r => cellH H (a.add i) = some v ∧ cellsAt H a (i + 1) r
/-- The cells of a row, from a place on. -/
def At (H : Heap) (a : Addr) (l : List Value) : Prop := cellsAt H a 0 l
def storeFrom (H : Heap) (a : Addr) : Nat → List Value → Heap
  | _, [] => H
  | i, v :: r => storeFrom (setH H (a.add i) v) a (i + 1) r
def putH (H : Heap) (a : Addr) (l : List Value) : Heap := storeFrom H a 0 l
theorem cellsAt_ext0 {H H' : Heap} (h : Ext0 H H') {a : Addr} : ∀ {l : List Value} {i : Nat}, cellsAt H a i l → cellsAt H' a i l
  | [], _, _ => trivial
  | _ :: _, _, ⟨h1, h2⟩ => ⟨h.cell h1, cellsAt_ext0 h h2⟩
theorem At.ext0 {H H' : Heap} {a : Addr} {l : List Value} (hat : At H a l) (h : Ext0 H H') : At H' a l := cellsAt_ext0 h hat
/-- So many cells may be written. -/
def MayPut (H : Heap) (a : Addr) (n : Nat) : Prop := ∀ j, j < n → (∃ v, cellH H (a.add j) = some v) ∧ frozenH H (a.add j) = false
/-- None of these is an aggregate. -/
def plainL (l : List Value) : Prop := ∀ v ∈ l, v.oneCell' = true

end Go.Vc
namespace Go.Vc

/-! ## 4. Computations that ask nothing of the world -/
def pureRun {α : Type} (P : Program) : Sem α → Option α
  | .pure a => some a
  | .program k => pureRun P (k P)
  | _ => none
theorem pureRun_run {α : Type} {P : Program} : ∀ {s : Sem α} {a : α}, pureRun P s = some a → ∀ w, s.run P w = .ok a w
  | .pure a, b, h, w => by simp only [pureRun, Option.some.injEq] at h; subst h; rfl
  | .program k, b, h, w => by
    simp only [pureRun] at h
    exact pureRun_run (s := k P) h w
  | .load .., _, h, _ => by simp [pureRun] at h
  | .store .., _, h, _ => by simp [pureRun] at h
  | .new .., _, h, _ => by simp [pureRun] at h
  | .shape .., _, h, _ => by simp [pureRun] at h
  | .freeze .., _, h, _ => by simp [pureRun] at h
  | .frozen .., _, h, _ => by simp [pureRun] at h
  | .getObj .., _, h, _ => by simp [pureRun] at h
  | .setObj .., _, h, _ => by simp [pureRun] at h
  | .choose .., _, h, _ => by simp [pureRun] at h
  | .sys .., _, h, _ => by simp [pureRun] at h
  | .mark .., _, h, _ => by simp [pureRun] at h
  | .halt .., _, h, _ => by simp [pureRun] at h

def onSome {α : Type} (x : Option α) (K : α → Prop) : Prop := match x with
  | some a => K a
  | none => False
theorem onSome_use {α : Type} {x : Option α} {K : α → Prop} (h : onSome x K) : ∃ a, x = some a ∧ K a := by
  cases x with
  | none => exact h.elim
  | some a => exact ⟨a, rfl, h⟩
/-- A result that asks nothing of the world. -/
def pureD (P : Program) (s : Sem Value) (K : Value → Prop) : Prop := onSome (pureRun P s) K
theorem pureD_run {P : Program} {s : Sem Value} {H : Heap} {K : Value → Heap → Prop} (h : pureD P s fun v => K v H) : RunX P s H K := by
  obtain ⟨v, hv, hk⟩ := onSome_use h
  exact ⟨v, fun _ _ w d => pureRun_run hv _, hk⟩

/-! ## 5. One operation -/
abbrev Env := List (Nat × Value)
def get : Env → Nat → Option Value
  | [], _ => none
  | (t, v) :: r, s => match Nat.beq t s with
    | true => some v
    | false => get r s
def ev (env : Env) : Operand → Option Value
  | .tmp t => get env t
  | .const v => some v
  | .global g => some (.pointer (some ⟨g, 0, none⟩))
  | .func f => some (.func (.func f) #[] #[])
def evs (e : Operand → Option Value) : List Operand → Option (List Value)
  | [] => some []
  | x :: r => match e x, evs e r with
    | some v, some l => some (v :: l)
    | _, _ => none
def evp (e : Operand → Option Value) : List (Nat × Operand) → Option (List (Nat × Value))
  | [] => some []
  | (i, x) :: r => match e x, evp e r with
    | some v, some l => some ((i, v) :: l)
    | _, _ => none

def onBool (x : Option Value) (K : Bool → Prop) : Prop := match x with
  | some (.bool b) => K b
  | _ => False
def onPtr (x : Option Value) (K : Addr → Prop) : Prop := match x with
  | some (.pointer (some a)) => K a
  | some (.pointer none) => False
  | _ => False
/-- Where only a nil pointer would be barred: it is none. -/
def onPtrV (x : Option Value) (K : Addr → Prop) : Prop := match x with
  | some (.pointer p) => match p with
    | some a => K a
    | none => False
  | _ => False
def onFunc (x : Option Value) (K : FuncId → Array Value → Array Value → Prop) : Prop := match x with
  | some (.func (.func f) a b) => K f a b
  | _ => False

/-- So many cells, none of them an aggregate. -/
def okL (K : Prop) : List Value → Nat → Prop
  | [], n => match n with
    | 0 => K
    | _ => False
  | v :: r, n => match n with
    | 0 => False
    | m + 1 => match v with
      | .agg _ => False
      | .tuple _ => False
      | _ => okL K r m
theorem okL_use {K : Prop} : ∀ {l : List Value} {n : Nat}, okL K l n → l.length = n ∧ plainL l ∧ K
  | [], n, h => by
    cases n with
    | zero => exact ⟨rfl, by simp [plainL], h⟩
    | succ n => exact h.elim
  | v :: r, n, h => by
    cases n with
    | zero => exact h.elim
    | succ n =>
      simp only [okL] at h
      split at h
      · exact h.elim
      · exact h.elim
      · rename_i h1 h2
        obtain ⟨a, b, c⟩ := okL_use h
        refine ⟨by simp [a], fun u hu => ?_, c⟩
        rcases List.mem_cons.1 hu with rfl | hu
        · cases u <;> first | rfl | (exact (h1 _ rfl).elim) | (exact (h2 _ rfl).elim)
        · exact b u hu
theorem okL_mk {K : Prop} : ∀ {l : List Value} {n : Nat}, l.length = n → plainL l → K → okL K l n
  | [], n, h, _, k => by subst h; exact k
  | v :: r, n, h, hp, k => by
    subst h
    have hv := hp v (by simp)
    have := okL_mk (K := K) (l := r) rfl (fun u hu => hp u (List.mem_cons_of_mem _ hu)) k
    cases v <;> first | exact this | (simp [Value.oneCell'] at hv)
theorem okL_ints {K : Prop} {k : IntKind} {xs : List Int} {n : Nat} (h : xs.length = n) (hk : K) : okL K (xs.map (Value.int k)) n :=
  okL_mk (by simpa using h) (fun v hv => by obtain ⟨x, _, rfl⟩ := List.mem_map.1 hv; rfl) hk
def szD (v : Value) (n : Nat) (K : Prop) : Prop := okL K v.cells.toList n

/-- A struct out of its fields: what isn't given is zero. -/
def fieldL (P : Program) (T : TypeId) (i : Nat) (parts : List (Nat × Value)) : List Value :=
  match get parts i with
  | some v => v.cells.toList
  | none => zeroL (tleaves P T)
def structL (P : Program) (parts : List (Nat × Value)) : List Field → Nat → List Value
  | [], _ => []
  | [f], i => fieldL P f.type i parts
  | f :: r, i => fieldL P f.type i parts ++ structL P parts r (i + 1)
def structSz (P : Program) (K : Prop) (fs : List Field) : List (Nat × Value) → Prop
  | [] => K
  | (i, v) :: r => match fs[i]? with
    | some f => szD v (sizeT P f.type) (structSz P K fs r)
    | none => False
/-- Elements, one behind the other, from number i on: none is left out. -/
def rowL : List (Nat × Value) → List Value
  | [] => []
  | [(_, v)] => v.cells.toList
  | (_, v) :: r => v.cells.toList ++ rowL r
def rowSz (n : Nat) (K : Prop) : List (Nat × Value) → Nat → Prop
  | [], _ => K
  | (j, v) :: r, i => match Nat.beq i j with
    | true => szD v n (rowSz n K r (i + 1))
    | false => False

/-- Two zero values are one. -/
def zsame : Value → Value → Bool
  | .int k a, .int k' b => match decEq k k', Int.decEq a b with
    | isTrue _, isTrue _ => true
    | _, _ => false
  | .bool false, .bool false => true
  | .string s, .string t => match s.data.toList, t.data.toList with
    | [], [] => true
    | _, _ => false
  | .pointer none, .pointer none => true
  | .slice none 0 0, .slice none 0 0 => true
  | .map none, .map none => true
  | .nilFunc, .nilFunc => true
  | .nilIface, .nilIface => true
  | _, _ => false
theorem zsame_eq {a b : Value} (h : zsame a b = true) : a = b := by
  unfold zsame at h
  split at h
  · split at h
    · subst_vars; rfl
    · cases h
  · rfl
  · rename_i s t
    obtain ⟨⟨l⟩⟩ := s
    obtain ⟨⟨m⟩⟩ := t
    split at h
    · rename_i h1 h2; simp only at h1 h2; subst h1; subst h2; rfl
    · cases h
  all_goals first | rfl | cases h
def zsameL : List Value → List Value → Bool
  | [], [] => true
  | a :: r, b :: s => match zsame a b with
    | true => zsameL r s
    | false => false
  | _, _ => false
theorem zsameL_eq : ∀ {a b : List Value}, zsameL a b = true → a = b
  | [], [], _ => rfl
  | [], _ :: _, h => by cases h
  | _ :: _, [], h => by cases h
  | a :: r, b :: s, h => by
    simp only [zsameL] at h
    split at h
    · rename_i h1; rw [zsame_eq h1, zsameL_eq h]
    · cases h
/-- A type's zero value is this. -/
def zeroIs (P : Program) (T : TypeId) (l : List Value) : Bool := match (P.info? T).bind (·.zero) with
  | some z => zsameL z.cells.toList l
  | none => false
theorem zeroIs_spec {P : Program} {T : TypeId} {l : List Value} (h : zeroIs P T l = true) : ∃ i z, P.info? T = some i ∧ i.zero = some z ∧ z.cells = ⟨l⟩ := by
  unfold zeroIs at h
  split at h
  · rename_i z hz
    obtain ⟨i, hi, hz⟩ := Option.bind_eq_some_iff.1 hz
    exact ⟨i, z, hi, hz, by rw [← zsameL_eq h]⟩
  · cases h
def ascI : List (Nat × Value) → Nat → Bool
  | [], _ => true
  | (i, _) :: r, k => match Nat.ble k i with
    | true => ascI r (i + 1)
    | false => false
/-- A struct's fields lie one behind the other. -/
def placesOk (P : Program) : List Field → Nat → Bool
  | [], _ => true
  | f :: r, k => match Nat.beq f.offset k, P.info? f.type with
    | true, some i => match Nat.beq (zeroL (tleaves P f.type)).length i.size with
      | true => placesOk P r (k + i.size)
      | false => false
    | _, _ => false
/-- A byte of a text. -/
def byteAt (s : ByteArray) (i : Int) : Int := ((s.data.toList.getD i.toNat 0).toNat : Int)

def isStr (P : Program) (T : TypeId) : Bool := match P.underlying T with
  | some .string => true
  | _ => false
def elemT (P : Program) (T : TypeId) : Option TypeId := match P.underlying T with
  | some (.slice e) => some e
  | some (.array _ e) => some e
  | some (.pointer a) => match P.underlying a with
    | some (.array _ e) => some e
    | _ => none
  | _ => none

/-- The kinds are one. -/
def sameK (k k' : IntKind) (K : Prop) : Prop := match decEq k k' with
  | isTrue _ => K
  | isFalse _ => False
theorem sameK_use {k k' : IntKind} {K : Prop} (h : sameK k k' K) : k = k' ∧ K := by
  unfold sameK at h
  cases hd : decEq k k' with
  | isTrue e => rw [hd] at h; exact ⟨e, h⟩
  | isFalse e => rw [hd] at h; exact h.elim
/-- A divisor is not 0: seen at once where it is written out. -/
def divD (y : Operand) (b : Int) (K : Prop) : Prop := match y with
  | .const _ => match Int.decEq b 0 with
    | isTrue _ => False
    | isFalse _ => K
  | _ => b ≠ 0 ∧ K
theorem divD_use {y : Operand} {b : Int} {K : Prop} (h : divD y b K) : b ≠ 0 ∧ K := by
  unfold divD at h
  split at h
  · cases hd : Int.decEq b 0 with
    | isTrue e => rw [hd] at h; exact h.elim
    | isFalse e => rw [hd] at h; exact ⟨e, h⟩
  · exact h
def binD (P : Program) (op : BinOp) (T : TypeId) (x y : Operand) (e : Operand → Option Value) (H : Heap) (K : Value → Heap → Prop) : Prop :=
  match e x, e y with
  | some (.int k a), some (.int k' b) => match op with
    | .quo => sameK k k' (divD y b (K (.int k (k.wrap (a.tdiv b))) H))
    | .rem => sameK k k' (divD y b (K (.int k (a.tmod b)) H))
    | .shl => 0 ≤ b ∧ K (.int k (k.wrap (a * 2 ^ (min b.toNat k.bits)))) H
    | .shr => 0 ≤ b ∧ K (.int k (a.fdiv (2 ^ (min b.toNat k.bits)))) H
    | op => pureD P (binOp op T (.int k a) (.int k' b)) fun v => K v H
  | some (.string a), some (.string b) => match op with
    | .add => ((a.size + b.size : Nat) : Int) ≤ IntKind.i64.max ∧ K (.string (a ++ b)) H
    | op => pureD P (binOp op T (.string a) (.string b)) fun v => K v H
  | some (.bool a), some (.bool b) => pureD P (binOp op T (.bool a) (.bool b)) fun v => K v H
  | some v, some u => ∃ b, EqV P op T v u b ∧ K (.bool b) H
  | _, _ => False

/-- Where a slice's or a text's bound stands. -/
def onIntO (x : Option (Option Value)) (d : Int) (K : Int → Prop) : Prop := match x with
  | some (some (.int _ n)) => K n
  | some _ => False
  | none => K d
def sliceD (P : Program) (T : TypeId) (v : Value) (lo hi mx : Option (Option Value)) (H : Heap) (K : Value → Heap → Prop) : Prop :=
  match mx with
  | some _ => False
  | none => match v with
    | .string s => match isStr P T with
      | true => onIntO lo 0 fun l => onIntO hi s.size fun h => 0 ≤ l ∧ l ≤ h ∧ h ≤ s.size ∧ K (.string (s.extract l.toNat h.toNat)) H
      | false => False
    | .slice a n c => onSome (match P.underlying T with
        | some (.slice el) => some el
        | _ => none) fun el => onSome (P.info? el) fun inf => match lo with
      | none => onIntO hi n fun h => 0 ≤ h ∧ h ≤ c ∧ K (.slice a h.toNat c) H
      | some lo => onIntO (some lo) 0 fun l => onIntO hi n fun h => 0 ≤ l ∧ l ≤ h ∧ h ≤ c ∧
          K (.slice (if c = l.toNat then a else a.map (·.add (l.toNat * inf.size))) (h.toNat - l.toNat) (c - l.toNat)) H
    | _ => False

def idxAddrD (P : Program) (T : TypeId) (x i : Option Value) (H : Heap) (K : Value → Heap → Prop) : Prop :=
  match i with
  | some (.int _ i) => match x with
    | some (.slice a n _) => onSome (match P.underlying T with
        | some (.slice el) => some el
        | _ => none) fun el => onSome (P.info? el) fun inf => 0 ≤ i ∧ i < n ∧ ∃ ad, a = some ad ∧ K (.pointer (some (ad.add (i.toNat * inf.size)))) H
    | some (.pointer p) => match p with
      | some ad => onSome (match P.underlying T with
          | some (.array n el) => some (n, el)
          | _ => none) fun x => match x with
          | (n, el) => onSome (P.info? el) fun inf => 0 ≤ i ∧ i < n ∧ K (.pointer (some (ad.add (i.toNat * inf.size)))) H
      | none => False
    | _ => False
  | _ => False
def idxD (P : Program) (T : TypeId) (x i : Option Value) (H : Heap) (K : Value → Heap → Prop) : Prop :=
  match i with
  | some (.int _ i) => match x with
    | some (.string s) => match isStr P T with
      | true => 0 ≤ i ∧ i < s.size ∧ K (.int .u8 (byteAt s i)) H
      | false => False
    | some (.agg cs) => onSome (match P.underlying T with
        | some (.array n el) => match aggT P el, P.underlying el with
          | false, some _ => some (n, el)
          | _, _ => none
        | _ => none) fun x => match x with
        | (n, el) => onSome (P.info? el) fun inf => 0 ≤ i ∧ i < n ∧ exV P el fun v => cs.toList[i.toNat * inf.size]? = some v ∧ K v H
    | _ => False
  | _ => False

def sizeL : List Lk → Nat
  | [] => 0
  | .ints _ n :: r => n + sizeL r
  | _ :: r => 1 + sizeL r
theorem exL_len : ∀ (ls : List Lk) {K : List Value → Prop}, exL ls K → ∃ l, l.length = sizeL ls ∧ K l
  | [], _, h => ⟨_, rfl, h⟩
  | .int _ :: r, _, h => let ⟨_, h⟩ := h; let ⟨l, e, h⟩ := exL_len r h; ⟨_, by simp [sizeL, e, Nat.add_comm], h⟩
  | .bool :: r, _, h => let ⟨_, h⟩ := h; let ⟨l, e, h⟩ := exL_len r h; ⟨_, by simp [sizeL, e, Nat.add_comm], h⟩
  | .str :: r, _, h => let ⟨_, h⟩ := h; let ⟨l, e, h⟩ := exL_len r h; ⟨_, by simp [sizeL, e, Nat.add_comm], h⟩
  | .ptr :: r, _, h => let ⟨_, h⟩ := h; let ⟨l, e, h⟩ := exL_len r h; ⟨_, by simp [sizeL, e, Nat.add_comm], h⟩
  | .slc :: r, _, h => let ⟨_, _, _, h⟩ := h; let ⟨l, e, h⟩ := exL_len r h; ⟨_, by simp [sizeL, e, Nat.add_comm], h⟩
  | .map :: r, _, h => let ⟨_, h⟩ := h; let ⟨l, e, h⟩ := exL_len r h; ⟨_, by simp [sizeL, e, Nat.add_comm], h⟩
  | .val :: r, _, h => let ⟨_, h⟩ := h; let ⟨l, e, h⟩ := exL_len r h; ⟨_, by simp [sizeL, e, Nat.add_comm], h⟩
  | [.ints _ _], _, h => let ⟨_, e, h⟩ := h; ⟨_, by simp [sizeL, e], h⟩
  | .ints _ _ :: b :: r, _, h => let ⟨_, e, h⟩ := h; let ⟨l, e', h⟩ := exL_len (b :: r) h; ⟨_, by rw [List.length_append, List.length_map, e, e']; rfl, h⟩
def loadD (P : Program) (T : TypeId) (a : Addr) (H : Heap) (K : Value → Heap → Prop) : Prop :=
  match aggT P T with
  | true => match Nat.beq (sizeL (tleaves P T)) (sizeT P T) with
    | true => exL (tleaves P T) fun l => At H a l ∧ K (.agg ⟨l⟩) H
    | false => False
  | false => match P.underlying T with
    | some _ => exV P T fun v => cellH H a = some v ∧ K v H
    | none => False
def storeD (P : Program) (T : TypeId) (a : Addr) (v : Value) (H : Heap) (K : Value → Heap → Prop) : Prop :=
  onSome (P.info? T) fun i => szD v i.size (MayPut H a i.size ∧ K undef (putH H a v.cells.toList))

/-- A call; of what ends it is said R. -/
def callV (P : Program) (f : FuncId) (args : Array Value) (H : Heap) (R : Ending → Heap → Prop) : Prop :=
  match (P.funcs[f]?).bind (·.body) with
  | none => False
  | some _ => CallsH P f args H R
def callD (P : Program) (f : FuncId) (args : Array Value) (T : TypeId) (H : Heap) (K : Value → Heap → Prop) (X : List PanicEntry → Heap → Prop) : Prop :=
  callV P f args H (onCall (fun v H' => exRes P T v fun v => K v H') X)
/-- A call of a function that is known by a variable: that it has a body is owed. -/
def HasBody (P : Program) (f : FuncId) : Prop := ∃ fn c, P.funcs[f]? = some fn ∧ fn.body = some c ∧ (fn.name == "runtime.NumGoroutine") = false

/-- One operation: what must hold so that K holds behind it, or X where it panics. -/
def opd (P : Program) (o : Op) (T : TypeId) (e : Operand → Option Value) (H : Heap) (K : Value → Heap → Prop) (X : List PanicEntry → Heap → Prop) : Prop :=
  match o with
  | .move x | .assign x => onSome (e x) fun v => K v H
  | .pick c a b => onBool (e c) fun t => onSome (e a) fun u => onSome (e b) fun v => match t with
    | true => K u H
    | false => K v H
  | .alloc t => match zeroIs P t (zeroL (tleaves P t)) with
    | true => K (.pointer (some ⟨H.size, 0, none⟩)) (H.push (.cells ⟨zeroL (tleaves P t)⟩ t))
    | false => False
  | .box t x => onSome (e x) fun v => K (.pointer (some ⟨H.size, 0, none⟩)) (H.push (.cells v.cells t))
  | .build t ps => onSome (evp e ps.toList) fun l => match P.underlying t with
    | some (.struct fs) => match zeroIs P t (structL P [] fs.toList 0), ascI l 0, placesOk P fs.toList 0 with
      | true, true, true => structSz P (K (.agg ⟨structL P l fs.toList 0⟩) H) fs.toList l
      | _, _, _ => False
    | some (.array n el) => match zeroIs P t (zeroL (tleaves P t)), P.info? el with
      | true, some i => match l with
        | [] => K (.agg ⟨zeroL (tleaves P t)⟩) H
        | l => match Nat.beq l.length n, Nat.beq (zeroL (tleaves P t)).length (n * i.size) with
          | true, true => rowSz i.size (K (.agg ⟨rowL l⟩) H) l 0
          | _, _ => False
      | _, _ => False
    | _ => False
  | .buildSlice t n ps => onSome (evp e ps.toList) fun l => onSome (match P.underlying t with
      | some (.slice el) => some el
      | _ => none) fun el => onSome (P.info? el) fun i => match i.zero, Nat.beq l.length n, Nat.ble (n * i.size) 16777216 with
    | some _, true, true => rowSz i.size (K (.slice (some ⟨H.size, 0, none⟩) n n) (H.push (.cells ⟨rowL l⟩ el))) l 0
    | _, _, _ => False
  | .load t x => onPtr (e x) fun a => loadD P t a H K
  | .store t x v => onPtr (e x) fun a => onSome (e v) fun v => storeD P t a v H K
  | .nilCheck x => onSome (e x) fun v => match v with
    | .pointer p => match p with
      | some a => K (.pointer (some a)) H
      | none => False
    | .func (.func f) a b => K (.func (.func f) a b) H
    | _ => False
  | .binOp op t x y _ => binD P op t x y e H K
  | .unOp op _ x => onSome (e x) fun v => pureD P (Op.unary op v) fun v => K v H
  | .convert s d x => onSome (e x) fun v => match v with
    | .int .. => pureD P (convert s d v) fun v => K v H
    | .string s' => match isStr P d with
      | true => pureD P (convert s d (.string s')) fun v => K v H
      | false => exV P d fun u => RunV P (convert s d (.string s')) H u ∧ K u H
    | v => exV P d fun u => RunV P (convert s d v) H u ∧ K u H
  | .makeInterface t x => onSome (e x) fun v => pureD P (Instr.makeInterface t v) fun v => K v H
  | .makeFunc fn a b => onSome (evs e a.toList) fun a => onSome (evs e b.toList) fun b => K (.func fn ⟨a⟩ ⟨b⟩) H
  | .makeMap t r => match r with
    | none => K (.map (some H.size)) (H.push (.map #[] 0))
    | some x => onSome (e x) fun v => RunD P (Instr.makeMap t (some v)) H fun v H' => exRes P T v fun v => K v H'
  | .makeSlice t l c => onSome (e l) fun l => onSome (e c) fun c => RunD P (Instr.makeSlice t l c) H fun v H' => exRes P T v fun v => K v H'
  | .slice t x lo hi mx => onSome (e x) fun v => sliceD P t v (lo.map e) (hi.map e) (mx.map e) H K
  | .fieldAddr t x i => onPtr (e x) fun a => onSome (match P.underlying t with
      | some (.struct fs) => fs[i]?
      | _ => none) fun f => match sizeT P f.type with
        | 0 => False
        | _ => K (.pointer (some (a.add f.offset))) H
  | .field t x i => onSome (e x) fun v => pureD P (Instr.field t v i) fun v => K v H
  | .indexAddr t x i => idxAddrD P t (e x) (e i) H K
  | .index t x i => idxD P t (e x) (e i) H K
  | .lookup t x i ok => onSome (e x) fun x => onSome (e i) fun i => exResV P T fun v => RunV P (Instr.lookup t x i ok) H v ∧ K v H
  | .mapUpdate t m k v | .insert t m k v => onSome (e m) fun m => onSome (e k) fun k => onSome (e v) fun v => RunU P (Instr.mapUpdate t m k v) H (K undef)
  | .range t x => onSome (e x) fun x => RunD P (Instr.range t x) H fun v H' => K v H'
  | .next it s => onSome (e it) fun it => RunD P (Instr.next it s T) H fun v H' => ∃ (b : Bool) (l : List Value), v = .tuple ⟨.bool b :: l⟩ ∧ K (.tuple ⟨.bool b :: l⟩) H'
  | .entry it => onSome (e it) fun it => RunD P (Instr.entry it) H fun v H' => ∃ (k : Int) (l : List Value), v = .tuple ⟨.int .i64 k :: l⟩ ∧ K (.tuple ⟨.int .i64 k :: l⟩) H'
  | .typeAssert x s t ok => onSome (e x) fun x => RunD P (Instr.typeAssert x s t ok) H fun v H' => exRes P T v fun v => K v H'
  | .extract x i => onSome (e x) fun v => pureD P (Instr.extract v i) fun v => K v H
  | .panic x => onSome (e x) fun v => match v with
    | .iface t u => X [{ v := .iface t u, recovered := false }] H
    | _ => False
  | .call c => match c.callee with
    | .value f => onFunc (e f) fun f fs cs => onSome (evs e c.args.toList) fun as => callD P f ⟨fs.toList ++ (as ++ cs.toList)⟩ T H K X
    | .builtin b => onSome (evs e c.args.toList) fun as => match b with
      | .len => match as with
        | [.string s] => pureD P (Builtin.len_ c.argTypes T #[.string s]) fun v => K v H
        | [.slice a n k] => pureD P (Builtin.len_ c.argTypes T #[.slice a n k]) fun v => K v H
        | as => exV P T fun v => RunV P (Builtin.len_ c.argTypes T ⟨as⟩) H v ∧ K v H
      | .append => RunD P (Builtin.append_ c.argTypes T ⟨as⟩) H fun v H' => exRes P T v fun v => K v H'
      | .max => pureD P (Builtin.max_ c.argTypes T ⟨as⟩) fun v => K v H
      | .min => pureD P (Builtin.min_ c.argTypes T ⟨as⟩) fun v => K v H
      | _ => False
    | _ => False
  | _ => False

end Go.Vc
namespace Go.Vc
open Go

section
variable {P : Program} {o : Oper} {a : Act} {w0 : World} {H : Heap} {d : Nat} {K : Value → Heap → Prop} {X : List PanicEntry → Heap → Prop} {next : Act → World → Prop} {Q : Exit → Act → World → Prop}

theorem rIU {t : TypeId} {D : TypeDesc} (h : P.underlying t = some D) (w : World) : (underlying t).run P w = .ok D w := by
  simp [underlying, h]
theorem rTI {t : TypeId} {i : TypeInfo} (h : P.info? t = some i) (w : World) : (typeInfo t).run P w = .ok i w := by
  simp [typeInfo, h]
theorem rSZ {t : TypeId} {i : TypeInfo} (h : P.info? t = some i) (w : World) : (sizeOf t).run P w = .ok i.size w := by
  simp [sizeOf, rTI h]
theorem sizeT_of {t : TypeId} {i : TypeInfo} (h : P.info? t = some i) : sizeT P t = i.size := by simp [sizeT, Program.cellsOf, h]
theorem info_of_under {t : TypeId} {D : TypeDesc} (h : P.underlying t = some D) : ∃ i, P.info? t = some i := by
  unfold Program.underlying at h
  cases hi : P.info? t with
  | none => simp [hi] at h
  | some i => exact ⟨i, rfl⟩
theorem rAgg {t : TypeId} {D : TypeDesc} (h : P.underlying t = some D) (w : World) : (isAgg t).run P w = .ok (aggT P t) w := by
  simp only [isAgg, Sem.run_bind, rIU h, Result.andThen_ok, aggT, h]
  cases D <;> rfl

theorem wp_val {s : Sem Value} (he : execOp a.eval o = (do pure (.value (← s)))) (h : RunD P s H K)
    (hn : ∀ v H' d', K v H' → next (a.put o.dst v) (wk w0 H' d')) : o.wp P a (wk w0 H d) next Q := by
  obtain ⟨v, H', d', hr, hk⟩ := h w0 d
  unfold Oper.wp
  rw [he]
  simp only [Sem.run_bind, hr, Result.andThen_ok, Sem.run_pure, Oper.upon]
  exact hn v H' d' hk
theorem wp_unit {s : Sem Unit} (he : execOp a.eval o = (do s; pure .skip)) (h : RunU P s H (K undef))
    (hn : ∀ v H' d', K v H' → next (a.put o.dst v) (wk w0 H' d')) : o.wp P a (wk w0 H d) next Q := by
  obtain ⟨H', d', hr, hk⟩ := h w0 d
  unfold Oper.wp
  rw [he]
  simp only [Sem.run_bind, hr, Result.andThen_ok, Sem.run_pure, Oper.upon]
  exact hn undef H' d' hk
theorem wp_is {v : Value} (he : execOp a.eval o = pure (.value v)) (h : K v H)
    (hn : ∀ v H' d', K v H' → next (a.put o.dst v) (wk w0 H' d')) : o.wp P a (wk w0 H d) next Q := by
  unfold Oper.wp
  rw [he]
  simp only [Sem.run_pure, Oper.upon]
  exact hn v H d h
theorem RunD.of {s : Sem Value} {v : Value} {H' : Heap} (h : ∀ w d, s.run P (wk w H d) = .ok v (wk w H' d)) (hk : K v H') : RunD P s H K := fun w d => ⟨v, H', d, h w d, hk⟩
theorem RunX.of {s : Sem Value} {v : Value} (h : ∀ H', Ext0 H H' → ∀ w d, s.run P (wk w H' d) = .ok v (wk w H' d)) (hk : K v H) : RunX P s H K := ⟨v, h, hk⟩
theorem RunD.res {s : Sem Value} {T : TypeId} (h : RunD P s H fun v H' => exRes P T v fun v => K v H') : RunD P s H K := fun w d =>
  let ⟨v, H', d', h1, h2⟩ := h w d
  ⟨v, H', d', h1, exRes_use (K := fun v => K v H') h2⟩
theorem RunX.res {s : Sem Value} {T : TypeId} (h : exResV P T fun v => RunV P s H v ∧ K v H) : RunX P s H K :=
  let ⟨v, h1, h2⟩ := exResV_ex h
  ⟨v, h1, h2⟩
theorem RunX.one {s : Sem Value} {T : TypeId} (h : exV P T fun v => RunV P s H v ∧ K v H) : RunX P s H K :=
  let ⟨v, h1, h2⟩ := exV_ex h
  ⟨v, h1, h2⟩
theorem args_eq (fs cs : Array Value) (as : List Value) : fs ++ (⟨as⟩ : Array Value) ++ cs = ⟨fs.toList ++ (as ++ cs.toList)⟩ := by apply Array.ext'; simp
theorem RunU.of {s : Sem Unit} {K : Heap → Prop} {H' : Heap} (h : ∀ w d, s.run P (wk w H d) = .ok () (wk w H' d)) (hk : K H') : RunU P s H K := fun w d => ⟨H', d, h w d, hk⟩

theorem evs_map {e : Operand → Option Value} {ρ : Operand → Value} : ∀ {l : List Operand} {vs : List Value}, (∀ x ∈ l, ∀ v, e x = some v → ρ x = v) → evs e l = some vs → l.map ρ = vs
  | [], vs, _, h => by simp only [evs, Option.some.injEq] at h; subst h; rfl
  | x :: r, vs, hx, h => by
    simp only [evs] at h
    split at h
    · rename_i v l hv hl
      simp only [Option.some.injEq] at h
      subst h
      rw [List.map_cons, hx x (by simp) v hv, evs_map (fun y hy => hx y (List.mem_cons_of_mem _ hy)) hl]
    · cases h
theorem evp_map {e : Operand → Option Value} {ρ : Operand → Value} : ∀ {l : List (Nat × Operand)} {vs : List (Nat × Value)}, (∀ x ∈ l.map (·.2), ∀ v, e x = some v → ρ x = v) → evp e l = some vs → l.map (fun (i, x) => (i, ρ x)) = vs
  | [], vs, _, h => by simp only [evp, Option.some.injEq] at h; subst h; rfl
  | (i, x) :: r, vs, hx, h => by
    simp only [evp] at h
    split at h
    · rename_i v l hv hl
      simp only [Option.some.injEq] at h
      subst h
      rw [List.map_cons, evp_map (fun y hy => hx y (by simp at hy ⊢; exact .inr hy)) hl]
      simp only [hx x (by simp) v hv]
    · cases h

/-! ### loads -/
theorem cellsAt_get : ∀ {l : List Value} {i : Nat} {ad : Addr}, cellsAt H ad i l → ∀ j v, l[j]? = some v → cellH H (ad.add (i + j)) = some v
  | [], _, _, _, j, v, h => by simp at h
  | u :: r, i, ad, ⟨h1, h2⟩, j, v, h => by
    cases j with
    | zero => simp only [List.getElem?_cons_zero, Option.some.injEq] at h; subst h; exact h1
    | succ j =>
      have := cellsAt_get h2 j v (by simpa using h)
      rw [show i + (j + 1) = i + 1 + j by omega]
      exact this
theorem cellsAt_mk : ∀ {l : List Value} {i : Nat} {ad : Addr}, (∀ j v, l[j]? = some v → cellH H (ad.add (i + j)) = some v) → cellsAt H ad i l
  | [], _, _, _ => trivial
  | u :: r, i, ad, h => ⟨h 0 u rfl, cellsAt_mk fun j v hj => by
      have := h (j + 1) v (by simpa using hj)
      rw [show i + (j + 1) = i + 1 + j by omega] at this
      exact this⟩
theorem At.get {l : List Value} {ad : Addr} (h : At H ad l) {j : Nat} {v : Value} (hj : l[j]? = some v) : cellH H (ad.add j) = some v := by
  have := cellsAt_get h j v hj
  rwa [Nat.zero_add] at this
theorem At.mk {l : List Value} {ad : Addr} (h : ∀ j v, l[j]? = some v → cellH H (ad.add j) = some v) : At H ad l :=
  cellsAt_mk fun j v hj => by rw [Nat.zero_add]; exact h j v hj

theorem rLoadFrom (w : World) (ad : Addr) : ∀ (l : List Value) (i : Nat) (acc : Array Value), cellsAt H ad i l → (loadCellsFrom ad i l.length acc).run P (wk w H d) = .ok (acc ++ l.toArray) (wk w H d)
  | [], i, acc, _ => by simp [loadCellsFrom]
  | v :: r, i, acc, ⟨h1, h2⟩ => by
    simp only [List.length_cons, loadCellsFrom, Sem.run_bind, run_load, cell_wk, h1, Result.andThen_ok]
    rw [rLoadFrom w ad r (i + 1) (acc.push v) h2]
    simp
theorem rLoadCells (w : World) {ad : Addr} {l : List Value} (h : At H ad l) : (loadCells ad l.length).run P (wk w H d) = .ok l.toArray (wk w H d) := by
  unfold loadCells
  rw [rLoadFrom w ad l 0 #[] h]
  simp
theorem loadD_run {T : TypeId} {ad : Addr} (h : loadD P T ad H K) : RunX P (loadVar T ad) H K := by
  unfold loadD at h
  split at h
  · rename_i hagg
    split at h
    · rename_i hs
      obtain ⟨l, hl, hat, hk⟩ := exL_len _ h
      have hu : ∃ D, P.underlying T = some D := by
        unfold aggT at hagg
        cases hu : P.underlying T with
        | none => simp [hu] at hagg
        | some D => exact ⟨D, rfl⟩
      obtain ⟨D, hu⟩ := hu
      obtain ⟨i, hi⟩ := info_of_under hu
      have hsz : i.size = l.length := by rw [hl, ← sizeT_of hi]; exact (Nat.eq_of_beq_eq_true hs).symm
      refine RunX.of (fun H' hH w d => ?_) hk
      simp only [loadVar, Sem.run_bind, rAgg hu, Result.andThen_ok, hagg, if_true, rSZ hi, hsz, rLoadCells w (hat.ext0 hH), Sem.run_pure]
    · exact h.elim
  · rename_i hagg
    split at h
    · rename_i D hu
      obtain ⟨v, hc, hk⟩ := exV_ex h
      refine RunX.of (fun H' hH w d => ?_) hk
      simp only [loadVar, Sem.run_bind, rAgg hu, Result.andThen_ok, hagg, Bool.false_eq_true, if_false, run_load, cell_wk, hH.cell hc]
    · exact h.elim

/-! ### stores -/
theorem setH_size (H : Heap) (ad : Addr) (v : Value) : (setH H ad v).size = H.size := by simp [setH]
theorem cellH_setH_some {ad b : Addr} {v u : Value} (h : cellH H b = some u) : ∃ u', cellH (setH H ad v) b = some u' := by
  unfold cellH setH at *
  rw [Array.getElem?_modify]
  by_cases hb : ad.block = b.block
  · rw [if_pos hb]
    cases ho : H[b.block]? with
    | none => simp [ho] at h
    | some o =>
      cases o <;> simp [ho] at h ⊢
      rename_i c el fr
      refine ⟨h.1, ?_⟩
      have := h.2
      split
      · exact ⟨_, this⟩
      · by_cases hj : ad.off = b.off
        · rw [hj]
          obtain ⟨hlt, _⟩ := Array.getElem?_eq_some_iff.1 this
          exact ⟨v, by simp [hlt]⟩
        · exact ⟨u, by rw [Array.getElem?_setIfInBounds_ne hj]; exact this⟩
  · rw [if_neg hb]
    exact ⟨u, h⟩
theorem frozenH_setH (ad b : Addr) (v : Value) : frozenH (setH H ad v) b = frozenH H b := by
  unfold frozenH setH
  rw [Array.getElem?_modify]
  by_cases hb : ad.block = b.block
  · rw [if_pos hb]
    cases ho : H[b.block]? with
    | none => rfl
    | some o => cases o <;> rfl
  · rw [if_neg hb]
theorem rStoreFrom (w : World) (ad : Addr) : ∀ (l : List Value) (i : Nat) (H : Heap), plainL l → (∀ j, j < l.length → (∃ v, cellH H (ad.add (i + j)) = some v) ∧ frozenH H (ad.add (i + j)) = false) →
    (storeCells ad l i).run P (wk w H d) = .ok () (wk w (storeFrom H ad i l) d)
  | [], _, _, _, _ => rfl
  | v :: r, i, H, hp, h => by
    obtain ⟨⟨u, h1⟩, h2⟩ := h 0 (by simp)
    have hv : v.oneCell' = true := hp v (by simp)
    simp only [storeCells, Sem.run_bind, storeFrom]
    have hs : (store (ad.add i) v).run P (wk w H d) = .ok () (wk w (setH H (ad.add i) v) d) := by
      rw [run_store P _ _ _ _ hv]
      simp only [cell_wk, frozen_wk]
      rw [Nat.add_zero] at h1 h2
      simp [h1, h2, set_wk]
    rw [hs]
    simp only [Result.andThen_ok]
    refine rStoreFrom w ad r (i + 1) _ (fun u hu => hp u (List.mem_cons_of_mem _ hu)) fun j hj => ?_
    have := h (j + 1) (by simp; omega)
    rw [show i + (j + 1) = i + 1 + j by omega] at this
    obtain ⟨⟨u, h3⟩, h4⟩ := this
    exact ⟨cellH_setH_some h3, by rw [frozenH_setH]; exact h4⟩
theorem storeD_run {T : TypeId} {ad : Addr} {v : Value} (h : storeD P T ad v H K) : RunU P (storeVar T ad v) H (K undef) := by
  obtain ⟨i, hi, h⟩ := onSome_use h
  obtain ⟨hlen, hp, hm, hk⟩ := okL_use h
  refine RunU.of (fun w d => ?_) hk
  simp only [storeVar, Sem.run_bind, rSZ hi, Result.andThen_ok]
  rw [if_neg (by simpa using hlen)]
  refine rStoreFrom w ad _ 0 _ hp fun j hj => ?_
  rw [Nat.zero_add]
  exact hm j (by omega)

/-! ### new memory -/
theorem rNewRow (w : World) (H : Heap) (d : Nat) (t : TypeId) (c : Array Value) : (newRow t c).run P (wk w H d) = .ok ⟨H.size, 0, none⟩ (wk w (H.push (.cells c t)) d) := by
  simp [newRow, wk]
theorem alloc_run {t : TypeId} {l : List Value} (hz : zeroIs P t l = true) (hk : K (.pointer (some ⟨H.size, 0, none⟩)) (H.push (.cells ⟨l⟩ t))) : RunD P (Instr.alloc t true (.tuple #[])) H K := by
  obtain ⟨i, z, hi, hz, hc⟩ := zeroIs_spec hz
  refine RunD.of (fun w d => ?_) hk
  simp only [Instr.alloc, zeroValue, Sem.run_bind, rTI hi, hz, Result.andThen_ok, Sem.run_pure, newVar, hc, rNewRow]
theorem box_run {t : TypeId} {v : Value} (hk : K (.pointer (some ⟨H.size, 0, none⟩)) (H.push (.cells v.cells t))) : RunD P (Instr.box t v) H K := by
  refine RunD.of (fun w d => ?_) hk
  simp only [Instr.box, Sem.run_bind, newVar, rNewRow, Result.andThen_ok, Sem.run_pure]
theorem makeMap_run {t : TypeId} (hk : K (.map (some H.size)) (H.push (.map #[] 0))) : RunD P (Instr.makeMap t none) H K := by
  refine RunD.of (fun w d => ?_) hk
  simp only [Instr.makeMap, Sem.run_bind, Sem.run_pure, Result.andThen_ok, run_newObj]
  rfl

/-! ### structs and rows of values -/
theorem foldSet (off : Nat) : ∀ (vs : List Value) (k : Nat) (A B C : List Value), B.length = vs.length → A.length = off + k →
    (vs.zipIdx k).foldl (fun (cs : Array Value) (x : Value × Nat) => cs.setIfInBounds (off + x.2) x.1) ⟨A ++ (B ++ C)⟩ = ⟨A ++ (vs ++ C)⟩
  | [], k, A, B, C, hB, hA => by
    have : B = [] := List.length_eq_zero_iff.1 hB
    subst this; rfl
  | v :: r, k, A, [], C, hB, hA => by simp at hB
  | v :: r, k, A, b :: B, C, hB, hA => by
    simp only [List.zipIdx_cons, List.foldl_cons]
    have h1 : (⟨A ++ (b :: B ++ C)⟩ : Array Value).setIfInBounds (off + k) v = ⟨(A ++ [v]) ++ (B ++ C)⟩ := by
      simp [← hA]
    rw [h1, foldSet off r (k + 1) (A ++ [v]) B C (by simpa using hB) (by simp [hA]; omega)]
    simp
def setAll : List (List Value) → List (Nat × Value) → List (List Value)
  | segs, [] => segs
  | segs, (i, v) :: r => setAll (segs.set i v.cells.toList) r
theorem flatten_split (segs : List (List Value)) (i : Nat) (h : i < segs.length) (l : List Value) :
    segs.flatten = (segs.take i).flatten ++ (segs[i] ++ (segs.drop (i + 1)).flatten) ∧ (segs.set i l).flatten = (segs.take i).flatten ++ (l ++ (segs.drop (i + 1)).flatten) := by
  constructor
  · conv => lhs; rw [← List.take_append_drop i segs]
    rw [List.flatten_append, List.drop_eq_getElem_cons h, List.flatten_cons]
  · rw [List.set_eq_take_append_cons_drop, if_pos h, List.flatten_append, List.flatten_cons]
theorem fill_segs (place : Nat → Option (Nat × Nat)) : ∀ (parts : List (Nat × Value)) (segs : List (List Value)),
    (∀ i (h : i < segs.length), place i = some ((segs.take i).flatten.length, (segs[i]).length)) →
    (∀ p ∈ parts, ∃ h : p.1 < segs.length, p.2.cells.toList.length = (segs[p.1]).length) →
    Instr.fill place ⟨segs.flatten⟩ parts = some ⟨(setAll segs parts).flatten⟩
  | [], segs, _, _ => rfl
  | (i, v) :: r, segs, hp, hs => by
    obtain ⟨hi, hl⟩ := hs (i, v) (by simp)
    simp only at hi hl
    obtain ⟨e1, e2⟩ := flatten_split segs i hi v.cells.toList
    simp only [Instr.fill, hp i hi]
    have hsz : v.cells.size = (segs[i]).length := by rw [← hl]; simp
    have hle : ¬ ((segs.take i).flatten.length + v.cells.size > (⟨segs.flatten⟩ : Array Value).size) := by
      have : (⟨segs.flatten⟩ : Array Value).size = segs.flatten.length := rfl
      rw [this, e1, hsz]
      simp only [List.length_append]
      omega
    rw [if_neg (by simp only [hsz, ne_eq, not_true, decide_false, Bool.false_or, decide_eq_true_eq]; rw [← hsz]; exact hle)]
    have h1 : v.cells.zipIdx.foldl (fun cs (x : Value × Nat) => match x with | (c, j) => cs.setIfInBounds ((segs.take i).flatten.length + j) c) (⟨segs.flatten⟩ : Array Value) = ⟨(segs.set i v.cells.toList).flatten⟩ := by
      rw [← Array.foldl_toList, Array.toList_zipIdx, e1, e2]
      exact foldSet _ v.cells.toList 0 _ _ _ hl.symm rfl
    rw [h1]
    refine fill_segs place r (segs.set i v.cells.toList) (fun j hj => ?_) fun p hpm => ?_
    · rw [List.length_set] at hj
      rw [hp j hj]
      congr 2
      · rw [List.length_flatten, List.length_flatten, List.map_take, List.map_take, List.map_set, hl]
        congr 2
        rw [show (segs[i]).length = (segs.map List.length)[i]'(by simpa using hi) by simp, List.set_getElem_self]
      · rw [List.getElem_set]
        split
        · subst_vars; exact hl.symm
        · rfl
    · obtain ⟨h1, h2⟩ := hs p (List.mem_cons_of_mem _ hpm)
      refine ⟨by simpa using h1, ?_⟩
      rw [List.getElem_set, h2]
      split
      · rename_i e; subst e; exact hl.symm
      · rfl

theorem beqN {a b : Nat} (h : Nat.beq a b = true) : a = b := Nat.eq_of_beq_eq_true h
theorem nbeqN {a b : Nat} (h : a ≠ b) : Nat.beq a b = false := by
  cases hb : Nat.beq a b with
  | true => exact (h (beqN hb)).elim
  | false => rfl
theorem bleN {a b : Nat} (h : Nat.ble a b = true) : a ≤ b := Nat.le_of_ble_eq_true h

/-- All elements are given, in their order. -/
theorem rowSz_use {n : Nat} {K : Prop} : ∀ {l : List (Nat × Value)} {i : Nat}, rowSz n K l i → K ∧ (∀ p ∈ l, p.2.cells.toList.length = n ∧ plainL p.2.cells.toList) ∧ (∀ j p, l[j]? = some p → p.1 = i + j)
  | [], i, h => ⟨h, by simp, by simp⟩
  | (j, v) :: r, i, h => by
    simp only [rowSz] at h
    split at h
    · rename_i hb
      have hj := beqN hb
      subst hj
      obtain ⟨h1, h2, h3⟩ := okL_use h
      obtain ⟨h4, h5, h6⟩ := rowSz_use h3
      refine ⟨h4, fun p hp => ?_, fun k p hk => ?_⟩
      · rcases List.mem_cons.1 hp with rfl | hp
        · exact ⟨h1, h2⟩
        · exact h5 p hp
      · cases k with
        | zero => simp only [List.getElem?_cons_zero, Option.some.injEq] at hk; subst hk; rfl
        | succ k => have := h6 k p (by simpa using hk); omega
    · exact h.elim
theorem rowL_flat : ∀ (l : List (Nat × Value)), rowL l = (l.map fun p => p.2.cells.toList).flatten
  | [] => rfl
  | [(_, v)] => by simp [rowL]
  | (_, v) :: b :: r => by
    rw [rowL, rowL_flat (b :: r)]
    rfl
    intro h; cases h
theorem setAll_row : ∀ (l : List (Nat × Value)) (segs : List (List Value)) (i : Nat), (∀ j p, l[j]? = some p → p.1 = i + j) → segs.length = i + l.length →
    setAll segs l = segs.take i ++ l.map fun p => p.2.cells.toList
  | [], segs, i, _, hl => by simp [setAll, List.take_of_length_le (show segs.length ≤ i by simp at hl; omega)]
  | (j, v) :: r, segs, i, h, hl => by
    have hj : j = i := by have := h 0 (j, v) rfl; simpa using this
    subst hj
    rw [setAll, setAll_row r (segs.set j v.cells.toList) (j + 1) (fun k p hk => by have := h (k + 1) p (by simpa using hk); omega) (by simp at hl ⊢; omega)]
    have hjl : j < segs.length := by simp at hl; omega
    rw [List.take_set, List.set_eq_take_append_cons_drop, if_pos (by simp; omega)]
    simp only [List.take_take, Nat.min_eq_left (Nat.le_succ j)]
    rw [show (List.drop (j + 1) (List.take (j + 1) segs)) = [] by simp]
    simp
theorem fill_row {n m : Nat} {z : List Value} {l : List (Nat × Value)} (hz : z.length = n * m) (hl : l.length = n) (h1 : ∀ p ∈ l, p.2.cells.toList.length = m) (h2 : ∀ j p, l[j]? = some p → p.1 = 0 + j) :
    Instr.fill (fun i => some (i * m, m)) ⟨z⟩ l = some ⟨rowL l⟩ := by
  -- the zero cells as so many pieces
  have hseg : ∀ (n : Nat) (z : List Value), z.length = n * m → ∃ segs : List (List Value), segs.length = n ∧ (∀ s ∈ segs, s.length = m) ∧ segs.flatten = z := by
    intro n
    induction n with
    | zero => intro z hz; exact ⟨[], rfl, by simp, by simp at hz; simp [hz]⟩
    | succ n ih =>
      intro z hz
      obtain ⟨segs, h1, h2, h3⟩ := ih (z.drop m) (by rw [List.length_drop, hz, Nat.succ_mul]; omega)
      refine ⟨z.take m :: segs, by simp [h1], fun s hs => ?_, by simp [h3]⟩
      rcases List.mem_cons.1 hs with rfl | hs
      · rw [List.length_take, hz, Nat.succ_mul]; omega
      · exact h2 s hs
  obtain ⟨segs, hs1, hs2, rfl⟩ := hseg n z hz
  rw [fill_segs]
  · rw [setAll_row l segs 0 h2 (by omega), rowL_flat]
    simp
  · intro i hi
    have e1 : (segs.take i).flatten.length = i * m := by
      rw [List.length_flatten]
      have : (segs.take i).map List.length = List.replicate i m := by
        rw [List.eq_replicate_iff]
        refine ⟨by simp; omega, fun b hb => ?_⟩
        obtain ⟨s, hs, rfl⟩ := List.mem_map.1 hb
        exact hs2 s (List.mem_of_mem_take hs)
      rw [this, List.sum_replicate_nat]
    rw [e1, hs2 _ (List.getElem_mem hi)]
  · intro p hp
    obtain ⟨j, hj⟩ := List.getElem?_of_mem hp
    have h3 := h2 j p hj
    have hjl : j < l.length := (List.getElem?_eq_some_iff.1 hj).1
    exact ⟨by omega, by rw [h1 p hp, hs2 _ (List.getElem_mem _)]⟩

theorem buildSlice_run {t el : TypeId} {i : TypeInfo} {z : Value} {n : Nat} {l : List (Nat × Value)} (hu : P.underlying t = some (.slice el)) (hi : P.info? el = some i) (hz : i.zero = some z) (hl : l.length = n) (hn : n * i.size ≤ 16777216)
    (h : rowSz i.size (K (.slice (some ⟨H.size, 0, none⟩) n n) (H.push (.cells ⟨rowL l⟩ el))) l 0) : RunD P (Instr.buildSlice t n l.toArray) H K := by
  obtain ⟨hk, h1, h2⟩ := rowSz_use h
  refine RunD.of (fun w d => ?_) hk
  simp only [Instr.buildSlice, Sem.run_bind, rIU hu, Result.andThen_ok, rSZ hi]
  rw [if_neg (by simpa using hn)]
  have hfill : ∀ (c : Array Value), c.toList.length = n * i.size → Instr.fill (fun j => some (j * i.size, i.size)) c l = some ⟨rowL l⟩ := fun c hc => by
    obtain ⟨c⟩ := c
    exact fill_row hc hl (fun p hp => (h1 p hp).1) h2
  by_cases h0 : n * i.size = 0
  · rw [if_pos h0]
    simp only [Sem.run_bind, Sem.run_pure, Result.andThen_ok]
    rw [hfill _ (by simp)]
    simp only [Sem.run_bind, rNewRow, Result.andThen_ok, Sem.run_pure]
  · rw [if_neg h0]
    simp only [Sem.run_bind, zeroValue, rTI hi, hz, Result.andThen_ok, Sem.run_pure]
    rw [hfill _ (by simp)]
    simp only [Sem.run_bind, rNewRow, Result.andThen_ok, Sem.run_pure]
theorem buildArr_run {t el : TypeId} {i : TypeInfo} {n : Nat} {l : List (Nat × Value)} {z : List Value} (hu : P.underlying t = some (.array n el)) (hz : zeroIs P t z = true) (hi : P.info? el = some i) (hl : l.length = n) (hzl : z.length = n * i.size)
    (h : rowSz i.size (K (.agg ⟨rowL l⟩) H) l 0) : RunX P (Instr.build t l.toArray) H K := by
  obtain ⟨i', z', hi', hz', hc⟩ := zeroIs_spec hz
  obtain ⟨hk, h1, h2⟩ := rowSz_use h
  refine RunX.of (fun _ _ w d => ?_) hk
  simp only [Instr.build, Sem.run_bind, zeroValue, rTI hi', hz', Result.andThen_ok, Sem.run_pure, rIU hu, rSZ hi, hc]
  rw [fill_row hzl hl (fun p hp => (h1 p hp).1) h2]
  simp only [Sem.run_pure]
theorem buildArr0_run {t el : TypeId} {i : TypeInfo} {n : Nat} {z : List Value} (hu : P.underlying t = some (.array n el)) (hz : zeroIs P t z = true) (hi : P.info? el = some i)
    (hk : K (.agg ⟨z⟩) H) : RunX P (Instr.build t #[]) H K := by
  obtain ⟨i', z', hi', hz', hc⟩ := zeroIs_spec hz
  refine RunX.of (fun _ _ w d => ?_) hk
  simp only [Instr.build, Sem.run_bind, zeroValue, rTI hi', hz', Result.andThen_ok, Sem.run_pure, rIU hu, rSZ hi, hc, Instr.fill]

theorem get_asc : ∀ {l : List (Nat × Value)} {k : Nat}, ascI l k = true → ∀ i, i < k → get l i = none
  | [], _, _, _, _ => rfl
  | (j, v) :: r, k, h, i, hi => by
    simp only [ascI] at h
    split at h
    · rename_i hb
      have := bleN hb
      simp only [get]
      rw [show Nat.beq j i = false from nbeqN (by omega)]
      exact get_asc h i (by omega)
    · cases h
theorem structL_flat (parts : List (Nat × Value)) : ∀ (fs : List Field) (i : Nat), structL P parts fs i = ((fs.zipIdx i).map fun x => fieldL P x.1.type x.2 parts).flatten
  | [], _ => rfl
  | [f], i => by simp [structL]
  | f :: g :: r, i => by
    rw [structL, structL_flat parts (g :: r) (i + 1)]
    · rfl
    · intro h; cases h
theorem setAll_get : ∀ (l : List (Nat × Value)) (segs : List (List Value)) (k : Nat), ascI l k = true → ∀ i, (setAll segs l)[i]? = (segs[i]?).map fun s => match get l i with
    | some v => v.cells.toList
    | none => s
  | [], segs, _, _, i => by simp [setAll, get]
  | (j, v) :: r, segs, k, h, i => by
    simp only [ascI] at h
    split at h
    · rename_i hb
      rw [setAll, setAll_get r _ _ h i, List.getElem?_set]
      simp only [get]
      by_cases hji : j = i
      · subst hji
        rw [if_pos rfl, show Nat.beq j j = true from Nat.beq_refl j, get_asc h j (by omega)]
        by_cases hl : j < segs.length
        · simp [hl]
        · simp [hl]
      · rw [if_neg hji, show Nat.beq j i = false from nbeqN hji]
    · cases h
theorem structSz_use {K : Prop} {fs : List Field} : ∀ {l : List (Nat × Value)}, structSz P K fs l → K ∧ ∀ p ∈ l, ∃ f, fs[p.1]? = some f ∧ p.2.cells.toList.length = sizeT P f.type
  | [], h => ⟨h, by simp⟩
  | (i, v) :: r, h => by
    simp only [structSz] at h
    split at h
    · rename_i f hf
      obtain ⟨h1, _, h2⟩ := okL_use h
      obtain ⟨h3, h4⟩ := structSz_use h2
      refine ⟨h3, fun p hp => ?_⟩
      rcases List.mem_cons.1 hp with rfl | hp
      · exact ⟨f, hf, h1⟩
      · exact h4 p hp
    · exact h.elim
theorem places_spec : ∀ (fs : List Field) (k : Nat), placesOk P fs k = true → ∀ i f, fs[i]? = some f → (∃ inf, P.info? f.type = some inf ∧ (zeroL (tleaves P f.type)).length = inf.size) ∧
    f.offset = k + (((fs.take i).map fun g => zeroL (tleaves P g.type)).flatten).length
  | [], _, _, i, f, hf => by simp at hf
  | g :: r, k, h, i, f, hf => by
    simp only [placesOk] at h
    split at h
    · rename_i inf hb hi
      split at h
      · rename_i hz
        have hz := beqN hz
        cases i with
        | zero =>
          simp only [List.getElem?_cons_zero, Option.some.injEq] at hf
          subst hf
          exact ⟨⟨inf, hi, hz⟩, by simpa using beqN hb⟩
        | succ i =>
          obtain ⟨h1, h2⟩ := places_spec r _ h i f (by simpa using hf)
          exact ⟨h1, by rw [h2]; simp [hz]; omega⟩
      · cases h
    · cases h
theorem mapM_places (w : World) : ∀ (fs : List Field), (∀ f ∈ fs, ∃ inf, P.info? f.type = some inf) → (fs.mapM fun f => do pure (f.offset, ← sizeOf f.type) : Sem (List (Nat × Nat))).run P w = .ok (fs.map fun f => (f.offset, sizeT P f.type)) w
  | [], _ => rfl
  | f :: r, h => by
    obtain ⟨inf, hi⟩ := h f (by simp)
    rw [List.mapM_cons]
    simp only [Sem.run_bind, rSZ hi, Result.andThen_ok, Sem.run_pure, mapM_places w r (fun g hg => h g (List.mem_cons_of_mem _ hg)), List.map_cons, sizeT_of hi]
theorem buildStruct_run {t : TypeId} {fs : Array Field} {l : List (Nat × Value)} (hu : P.underlying t = some (.struct fs)) (hz : zeroIs P t (structL P [] fs.toList 0) = true) (ha : ascI l 0 = true) (hp : placesOk P fs.toList 0 = true)
    (h : structSz P (K (.agg ⟨structL P l fs.toList 0⟩) H) fs.toList l) : RunX P (Instr.build t l.toArray) H K := by
  obtain ⟨i', z', hi', hz', hc⟩ := zeroIs_spec hz
  obtain ⟨hk, h1⟩ := structSz_use h
  refine RunX.of (fun H1 _ w d => ?_) hk
  have hpl := places_spec fs.toList 0 hp
  have hM : (fs.mapM fun f => do pure (f.offset, ← sizeOf f.type) : Sem (Array (Nat × Nat))).run P (wk w H1 d) = .ok (fs.toList.map fun f => (f.offset, sizeT P f.type)).toArray (wk w H1 d) := by
    rw [Array.mapM_eq_mapM_toList]
    simp only [Sem.run_map, mapM_places (wk w H1 d) fs.toList (fun f hf => by
      obtain ⟨j, hj⟩ := List.getElem?_of_mem hf
      obtain ⟨⟨inf, hi, _⟩, _⟩ := hpl j f hj
      exact ⟨inf, hi⟩), Result.andThen_ok]
  simp only [Instr.build, Sem.run_bind, zeroValue, rTI hi', hz', Result.andThen_ok, Sem.run_pure, rIU hu, hc, hM]
  have hsegs : structL P [] fs.toList 0 = (fs.toList.map fun f => zeroL (tleaves P f.type)).flatten := by
    rw [structL_flat]
    congr 1
    apply List.ext_getElem?
    intro j
    simp only [List.getElem?_map, List.getElem?_zipIdx, fieldL, get]
    cases fs.toList[j]? <;> rfl
  rw [hsegs, fill_segs]
  · simp only [Sem.run_pure]
    congr 4
    rw [structL_flat]
    congr 1
    apply List.ext_getElem?
    intro i
    rw [setAll_get l _ 0 ha i]
    simp only [List.getElem?_map, List.getElem?_zipIdx, fieldL]
    cases fs.toList[i]? with
    | none => rfl
    | some f =>
      simp only [Option.map_some, Nat.zero_add]
      try (cases get l i <;> rfl)
  · intro i hi
    have hi' : i < fs.toList.length := by simpa using hi
    obtain ⟨⟨inf, hinf, hlen⟩, hoff⟩ := hpl i fs.toList[i] (List.getElem?_eq_getElem hi')
    simp only [List.getElem?_toArray, List.getElem?_map, List.getElem?_eq_getElem hi', Option.map_some, List.getElem_map, hoff, List.map_take, Nat.zero_add, sizeT_of hinf, hlen]
  · intro p hpm
    obtain ⟨f, hf, hl⟩ := h1 p hpm
    obtain ⟨hlt, he⟩ := List.getElem?_eq_some_iff.1 hf
    obtain ⟨⟨inf, hinf, hlen⟩, _⟩ := hpl _ _ hf
    exact ⟨by simpa using hlt, by rw [hl, List.getElem_map, he, sizeT_of hinf, hlen]⟩

/-! ### slices, indexes, fields -/
theorem onIntO_use {x : Option (Option Value)} {dd : Int} {K : Int → Prop} (h : onIntO x dd K) : (x = none ∧ K dd) ∨ ∃ k n, x = some (some (.int k n)) ∧ K n := by
  unfold onIntO at h
  split at h
  · exact .inr ⟨_, _, rfl, h⟩
  · exact h.elim
  · exact .inl ⟨rfl, h⟩
theorem rBound (w : World) (k : IntKind) (n : Int) (y : Nat) (c : BoundsCode) (h0 : 0 ≤ n) (h1 : n ≤ y) : (Instr.sliceBound (.int k n) y c).run P w = .ok n.toNat w := by
  simp only [Instr.sliceBound, asIntOf, Sem.run_bind, Sem.run_pure, Result.andThen_ok]
  rw [if_pos ⟨h0, h1⟩, Sem.run_pure]
theorem map_some_inv {x : Option Operand} {e : Operand → Option Value} {v : Value} (h : x.map e = some (some v)) : ∃ y, x = some y ∧ e y = some v := by
  cases x with
  | none => simp at h
  | some y => exact ⟨y, rfl, by simpa using h⟩
theorem slice_run {T : TypeId} {v : Value} {lo hi mx : Option Operand} {e : Operand → Option Value} {ρ : Operand → Value}
    (hlo : ∀ x, lo = some x → ∀ v, e x = some v → ρ x = v) (hhi : ∀ x, hi = some x → ∀ v, e x = some v → ρ x = v)
    (h : sliceD P T v (lo.map e) (hi.map e) (mx.map e) H K) : RunX P (Instr.sliceAt T v (lo.map ρ) (hi.map ρ) (mx.map ρ)) H K := by
  unfold sliceD at h
  split at h
  · exact h.elim
  rename_i hm
  have hm : mx = none := by cases mx <;> simp at hm ⊢
  subst hm
  have hiv : ∀ {x : Option Operand} {dd : Int} {K : Int → Prop}, (∀ y, x = some y → ∀ v, e y = some v → ρ y = v) → onIntO (x.map e) dd K → (x = none ∧ K dd) ∨ ∃ k n, x.map ρ = some (.int k n) ∧ K n := by
    intro x dd K hx h
    rcases onIntO_use h with ⟨h1, h2⟩ | ⟨k, n, h1, h2⟩
    · exact .inl ⟨by cases x <;> simp at h1 ⊢, h2⟩
    · obtain ⟨y, rfl, hy⟩ := map_some_inv h1
      exact .inr ⟨k, n, by simp [hx y rfl _ hy], h2⟩
  split at h
  · -- a text
    rename_i s
    split at h
    · rename_i hs
      have hu : P.underlying T = some .string := by
        unfold isStr at hs
        split at hs
        · assumption
        · cases hs
      have hb : ∃ (l h' : Int), 0 ≤ l ∧ l ≤ h' ∧ h' ≤ s.size ∧ K (.string (s.extract l.toNat h'.toNat)) H ∧
          ∀ w, (Instr.sliceBounds false s.size s.size (lo.map ρ) (hi.map ρ) none).run P w = .ok (l.toNat, h'.toNat, s.size) w := by
        rcases hiv hlo h with ⟨rfl, h⟩ | ⟨k, l, hl, h⟩ <;> rcases hiv hhi h with ⟨rfl, h0, h1, h2, hk⟩ | ⟨k', n, hn, h0, h1, h2, hk⟩
        · exact ⟨0, s.size, h0, h1, h2, hk, fun w => by simp [Instr.sliceBounds]⟩
        · exact ⟨0, n, h0, h1, h2, hk, fun w => by simp [Instr.sliceBounds, hn, rBound w k' n s.size _ h1 h2]⟩
        · exact ⟨l, s.size, h0, h1, h2, hk, fun w => by simp [Instr.sliceBounds, hl, rBound w k l s.size _ h0 h1]⟩
        · exact ⟨l, n, h0, h1, h2, hk, fun w => by simp [Instr.sliceBounds, hl, hn, rBound w k' n s.size _ (by omega) h2, rBound w k l n.toNat _ h0 (by omega)]⟩
      obtain ⟨l, h', h0, h1, h2, hk, hb⟩ := hb
      refine RunX.of (fun H' hH w d => ?_) hk
      simp only [Instr.sliceAt, Sem.run_bind, rIU hu, Result.andThen_ok, Instr.slice, Option.map_none, Option.isSome_none, Bool.false_eq_true, if_false, Sem.run_pure, hb]
    · exact h.elim
  · -- a slice
    rename_i a n c
    obtain ⟨el, hu, h⟩ := onSome_use h
    have hu : P.underlying T = some (.slice el) := by
      split at hu
      · rename_i el' h1; simp only [Option.some.injEq] at hu; rw [h1, hu]
      · cases hu
    obtain ⟨inf, hinf, h⟩ := onSome_use h
    have hb : ∃ (l h' : Int), 0 ≤ l ∧ l ≤ h' ∧ h' ≤ c ∧ K (.slice (if c = l.toNat then a else a.map (·.add (l.toNat * inf.size))) (h'.toNat - l.toNat) (c - l.toNat)) H ∧
        ∀ w, (Instr.sliceBounds true n c (lo.map ρ) (hi.map ρ) none).run P w = .ok (l.toNat, h'.toNat, c) w := by
      cases lo with
      | none =>
        simp only [Option.map_none] at h
        have hz : ∀ h' : Int, (Value.slice (if c = (0 : Int).toNat then a else a.map (·.add ((0 : Int).toNat * inf.size))) (h'.toNat - (0 : Int).toNat) (c - (0 : Int).toNat)) = .slice a h'.toNat c := by
          intro h'
          congr 1
          split
          · rfl
          · cases a <;> simp [Addr.add]
        rcases hiv hhi h with ⟨rfl, h1, h2, hk⟩ | ⟨k', m, hn, h1, h2, hk⟩
        · exact ⟨0, n, by omega, h1, h2, by rw [hz]; exact hk, fun w => by simp [Instr.sliceBounds]⟩
        · exact ⟨0, m, by omega, h1, h2, by rw [hz]; exact hk, fun w => by simp [Instr.sliceBounds, hn, rBound w k' m c _ h1 h2]⟩
      | some lo =>
        simp only [Option.map_some] at h
        rcases hiv (x := some lo) hlo h with ⟨h0, _⟩ | ⟨k, l, hl, h⟩
        · cases h0
        · rcases hiv hhi h with ⟨rfl, h0, h1, h2, hk⟩ | ⟨k', m, hn, h0, h1, h2, hk⟩
          · exact ⟨l, n, h0, h1, h2, hk, fun w => by
              simp only [Option.map_some, Option.some.injEq] at hl
              simp [Instr.sliceBounds, hl, rBound w k l n _ h0 h1]⟩
          · exact ⟨l, m, h0, h1, h2, hk, fun w => by
              simp only [Option.map_some, Option.some.injEq] at hl
              simp [Instr.sliceBounds, hl, hn, rBound w k' m c _ (by omega) h2, rBound w k l m.toNat _ h0 (by omega)]⟩
    obtain ⟨l, h', h0, h1, h2, hk, hb⟩ := hb
    refine RunX.of (fun H' hH w d => ?_) hk
    simp only [Instr.sliceAt, Sem.run_bind, rIU hu, Result.andThen_ok, Instr.slice, Option.map_none, Sem.run_pure, hb, rSZ hinf]
  · exact h.elim
theorem sureAddr_run (w : World) (ad : Addr) : (Instr.sureAddr (.pointer (some ad))).run P w = .ok ad w := rfl
theorem slice_un {T : TypeId} {el : TypeId} (h : (match P.underlying T with
    | some (.slice el) => some el
    | _ => none) = some el) : P.underlying T = some (.slice el) := by
  split at h
  · rename_i el' h1; simp only [Option.some.injEq] at h; rw [h1, h]
  · cases h
theorem idxAddr_run {T : TypeId} {x i : Option Value} {x' i' : Value} (hx : ∀ v, x = some v → x' = v) (hi : ∀ v, i = some v → i' = v) (h : idxAddrD P T x i H K) : RunX P (Instr.indexAt T x' i') H K := by
  unfold idxAddrD at h
  split at h
  · rename_i k n
    obtain rfl := hi _ rfl
    split at h
    · rename_i a len c
      obtain rfl := hx _ rfl
      obtain ⟨el, hu, h⟩ := onSome_use h
      have hu := slice_un hu
      obtain ⟨inf, hinf, h0, h1, ad, rfl, hk⟩ := onSome_use h
      refine RunX.of (fun H' hH w d => ?_) hk
      simp only [Instr.indexAt, asIntOf, Sem.run_bind, Sem.run_pure, Result.andThen_ok, rIU hu]
      rw [if_pos ⟨h0, h1⟩]
      simp only [Sem.run_bind, rSZ hinf, Result.andThen_ok, Sem.run_pure]
    · rename_i p
      split at h
      · rename_i ad
        obtain rfl := hx _ rfl
        obtain ⟨⟨m, el⟩, hu, h⟩ := onSome_use h
        obtain ⟨inf, hinf, h0, h1, hk⟩ := onSome_use h
        have hu : P.underlying T = some (.array m el) := by
          split at hu
          · rename_i m' el' hu'
            simp only [Option.some.injEq, Prod.mk.injEq] at hu
            rw [hu', hu.1, hu.2]
          · cases hu
        refine RunX.of (fun H' hH w d => ?_) hk
        simp only [Instr.indexAt, asIntOf, sureAddr_run, Sem.run_bind, Sem.run_pure, Result.andThen_ok, rIU hu]
        rw [if_pos ⟨h0, h1⟩]
        simp only [Sem.run_bind, rSZ hinf, Result.andThen_ok, Sem.run_pure]
      · exact h.elim
    · exact h.elim
  · exact h.elim

theorem byteAt_of {s : ByteArray} {i : Nat} (h : i < s.size) : ∃ b, s[i]? = some b ∧ (b.toNat : Int) = byteAt s i := by
  refine ⟨s[i], by simp [h], ?_⟩
  have hl : i < s.data.toList.length := by simpa using h
  simp only [byteAt, Int.toNat_natCast, List.getD_eq_getElem?_getD, List.getElem?_eq_getElem hl, Option.getD_some]
  rfl
theorem idx_run {T : TypeId} {x i : Option Value} {x' i' : Value} (hx : ∀ v, x = some v → x' = v) (hi : ∀ v, i = some v → i' = v) (h : idxD P T x i H K) : RunX P (Instr.index T x' i') H K := by
  unfold idxD at h
  split at h
  · rename_i k n
    obtain rfl := hi _ rfl
    split at h
    · rename_i s
      obtain rfl := hx _ rfl
      split at h
      · rename_i hs
        obtain ⟨h0, h1, hk⟩ := h
        have hu : P.underlying T = some .string := by
          unfold isStr at hs
          split at hs
          · assumption
          · cases hs
        obtain ⟨m, rfl⟩ := Int.eq_ofNat_of_zero_le h0
        obtain ⟨b, hb, hbv⟩ := byteAt_of (s := s) (i := m) (by omega)
        refine RunX.of (fun H' hH w d => ?_) hk
        simp only [Instr.index, asIntOf, Sem.run_bind, Sem.run_pure, Result.andThen_ok, rIU hu]
        rw [if_pos h0]
        simp only [Int.toNat_natCast, hb, Sem.run_pure, hbv]
      · exact h.elim
    · rename_i cs
      obtain rfl := hx _ rfl
      obtain ⟨⟨m, el⟩, hu, h⟩ := onSome_use h
      obtain ⟨inf, hinf, h0, h1, h⟩ := onSome_use h
      obtain ⟨v, hc, hk⟩ := exV_ex h
      have hu : P.underlying T = some (.array m el) ∧ aggT P el = false ∧ ∃ D, P.underlying el = some D := by
        split at hu
        · rename_i m' el' hu'
          split at hu
          · rename_i D ha hD
            simp only [Option.some.injEq, Prod.mk.injEq] at hu
            obtain ⟨rfl, rfl⟩ := hu
            exact ⟨hu', ha, D, hD⟩
          · cases hu
        · cases hu
      obtain ⟨hu, ha, D, hue⟩ := hu
      refine RunX.of (fun H' hH w d => ?_) hk
      simp only [Instr.index, asIntOf, Sem.run_bind, Sem.run_pure, Result.andThen_ok, rIU hu]
      rw [if_pos ⟨h0, h1⟩]
      have hc' : cs[n.toNat * inf.size]? = some v := by simpa using hc
      simp only [Sem.run_bind, rSZ hinf, Result.andThen_ok, part, rAgg hue, ha, Bool.false_eq_true, if_false, hc', Sem.run_pure]
    · exact h.elim
  · exact h.elim

/-! ### two operands -/
theorem guard_skip (op : BinOp) (T : TypeId) (x y : Operand) (v u : Value) (h : ∀ c, v ≠ .agg c) (h' : v ≠ .nilIface) (w : World) : (eqGuard op T x y v u).run P w = .ok () w := by
  cases v <;> first | (exact (h _ rfl).elim) | (exact (h' rfl).elim) | (cases op <;> rfl)
theorem RunX.guarded {op : BinOp} {T : TypeId} {x y : Operand} {v u : Value} {s : Sem Value} (h : ∀ c, v ≠ .agg c) (h' : v ≠ .nilIface) (hs : RunX P s H K) : RunX P (do eqGuard op T x y v u; s) H K := by
  obtain ⟨r, h1, h2⟩ := hs
  exact ⟨r, fun H' hH w d => by simp only [Sem.run_bind, guard_skip op T x y v u h h', Result.andThen_ok, h1 H' hH], h2⟩
theorem bin_run {op : BinOp} {T : TypeId} {x y : Operand} {e : Operand → Option Value} {ρ : Operand → Value} (hx : ∀ v, e x = some v → ρ x = v) (hy : ∀ v, e y = some v → ρ y = v) 
    (h : binD P op T x y e H K) : RunX P (do eqGuard op T x y (ρ x) (ρ y); binOp op T (ρ x) (ρ y)) H K := by
  unfold binD at h
  split at h
  · rename_i k a k' b hx' hy'
    rw [hx _ hx', hy _ hy']
    refine RunX.guarded (by simp) (by simp) ?_
    by_cases hk : k = k'
    case neg =>
      cases op
      case shl =>
        obtain ⟨h0, hk⟩ := h
        refine RunX.of (fun H' hH w d => ?_) hk
        simp only [binOp, Op.shift]; rw [if_neg (by omega)]; rfl
      case shr =>
        obtain ⟨h0, hk⟩ := h
        refine RunX.of (fun H' hH w d => ?_) hk
        simp only [binOp, Op.shift]; rw [if_neg (by omega)]; rfl
      case quo => exact (hk (sameK_use h).1).elim
      case rem => exact (hk (sameK_use h).1).elim
      all_goals exact pureD_run h
    case pos =>
      subst hk
      cases op
      case quo =>
        obtain ⟨hb, hk⟩ := divD_use (sameK_use h).2
        refine RunX.of (fun H' hH w d => ?_) hk
        simp only [binOp, Op.intDiv, ne_eq, not_true, if_false]; rw [if_neg hb]; rfl
      case rem =>
        obtain ⟨hb, hk⟩ := divD_use (sameK_use h).2
        refine RunX.of (fun H' hH w d => ?_) hk
        simp only [binOp, Op.intDiv, ne_eq, not_true, if_false]; rw [if_neg hb]; rfl
      case shl =>
        obtain ⟨h0, hk⟩ := h
        refine RunX.of (fun H' hH w d => ?_) hk
        simp only [binOp, Op.shift]; rw [if_neg (by omega)]; rfl
      case shr =>
        obtain ⟨h0, hk⟩ := h
        refine RunX.of (fun H' hH w d => ?_) hk
        simp only [binOp, Op.shift]; rw [if_neg (by omega)]; rfl
      all_goals exact pureD_run h
  · rename_i a b hx' hy'
    rw [hx _ hx', hy _ hy']
    refine RunX.guarded (by simp) (by simp) ?_
    split at h
    · obtain ⟨hsz, hk⟩ := h
      refine RunX.of (fun H' hH w d => ?_) hk
      simp only [binOp, Op.stringOp]
      rw [if_neg (by omega), Sem.run_pure]
    · exact pureD_run h
  · rename_i a b hx' hy'
    rw [hx _ hx', hy _ hy']
    exact RunX.guarded (by simp) (by simp) (pureD_run h)
  · rename_i v u h1 h2 h3 hx' hy'
    rw [hx _ hx', hy _ hy']
    obtain ⟨b, hb, hk⟩ := h
    exact ⟨_, fun H' _ w d => hb x y (wk w H' d), hk⟩
  · exact h.elim

/-! ### the whole -/
/-- What is asked of a program, once for all. -/
def NamesOk (P : Program) : Prop := ∀ (f : FuncId) (fn : Func), P.funcs[f]? = some fn → (fn.name == "runtime.NumGoroutine") = false

theorem call_run {f : FuncId} {args : Array Value} {T : TypeId} (hP : NamesOk P) (h : callD P f args T H K X)
    (hn : ∀ v H' d', K v H' → next (a.put o.dst v) (wk w0 H' d')) (hx : ∀ c H' d', X c H' → Q (.panic c) a (wk w0 H' d')) :
    o.upon P a next Q ((callFunc f args).run P (wk w0 H d)) := by
  unfold callD callV at h
  split at h
  · exact h.elim
  · rename_i c hc
    obtain ⟨fn, hf, hb⟩ := Option.bind_eq_some_iff.1 hc
    have hr : (callFunc f args).run P (wk w0 H d) = .ok (.enter f args) (wk w0 H d) := by
      have hnm := hP f fn hf
      rw [beq_eq_false_iff_ne] at hnm
      simp [callFunc, hf, hnm, hb]
    rw [hr]
    refine (h w0 d).mono ?_
    rintro e w' ⟨H', d', rfl, hq⟩
    cases e with
    | returned v => exact hn _ _ _ (exRes_use (K := fun v => K v H') hq)
    | panicked ch => exact hx _ _ _ hq
    | outgrown => exact hq.elim

theorem onBool_use {x : Option Value} {F : Bool → Prop} (h : onBool x F) : ∃ b, x = some (.bool b) ∧ F b := by
  unfold onBool at h
  split at h
  · exact ⟨_, rfl, h⟩
  · exact h.elim
theorem onPtr_use {x : Option Value} {F : Addr → Prop} (h : onPtr x F) : ∃ b, x = some (.pointer (some b)) ∧ F b := by
  unfold onPtr at h
  split at h
  · exact ⟨_, rfl, h⟩
  · exact h.elim
  · exact h.elim
theorem onFunc_use {x : Option Value} {F : FuncId → Array Value → Array Value → Prop} (h : onFunc x F) : ∃ f b c, x = some (.func (.func f) b c) ∧ F f b c := by
  unfold onFunc at h
  split at h
  · exact ⟨_, _, _, rfl, h⟩
  · exact h.elim

theorem opd_sound {e : Operand → Option Value} (hP : NamesOk P) (he : ∀ x ∈ o.op.operands.toList, ∀ v, e x = some v → a.eval x = v) (h : opd P o.op o.type e H K X)
    (hn : ∀ v H' d', K v H' → next (a.put o.dst v) (wk w0 H' d')) (hx : ∀ c H' d', X c H' → Q (.panic c) a (wk w0 H' d')) : o.wp P a (wk w0 H d) next Q := by
  obtain ⟨dst, op, ty, pos, after, guard⟩ := o
  cases op
  case move x =>
    obtain ⟨v, hv, hk⟩ := onSome_use h
    exact wp_is (by simp [execOp, he x (by simp [Op.operands]) v hv]) hk hn
  case assign x =>
    obtain ⟨v, hv, hk⟩ := onSome_use h
    exact wp_is (by simp [execOp, he x (by simp [Op.operands]) v hv]) hk hn
  case pick c x y =>
    obtain ⟨t, ht, h⟩ := onBool_use h
    obtain ⟨u, hu, h⟩ := onSome_use h
    obtain ⟨v, hv, h⟩ := onSome_use h
    have e1 := he c (by simp [Op.operands]) _ ht
    have e2 := he x (by simp [Op.operands]) _ hu
    have e3 := he y (by simp [Op.operands]) _ hv
    cases t with
    | true => exact wp_is (v := u) (by simp [execOp, e1, e2, asBool]) h hn
    | false => exact wp_is (v := v) (by simp [execOp, e1, e3, asBool]) h hn
  case alloc t =>
    simp only [opd] at h
    split at h
    · rename_i hz
      exact wp_val (s := Instr.alloc t true (.tuple #[])) rfl (alloc_run hz h) hn
    · exact h.elim
  case box t x =>
    obtain ⟨v, hv, h⟩ := onSome_use h
    exact wp_val (s := Instr.box t v) (by simp [execOp, he x (by simp [Op.operands]) v hv]) (box_run h) hn
  case build t ps =>
    obtain ⟨l, hl, h⟩ := onSome_use h
    have hmap := evp_map (ρ := a.eval) (fun x hx => he x (by
      simp only [Op.operands]
      simpa using hx)) hl
    have hps : (ps.map fun (i, x) => (i, a.eval x)) = l.toArray := by
      rw [← hmap]
      apply Array.ext'
      simp
    refine wp_val (s := Instr.build t l.toArray) (by simp only [execOp]; rw [hps]) ?_ hn
    split at h
    · rename_i fs hu
      split at h
      · rename_i h1 h2 h3
        exact (buildStruct_run hu h1 h2 h3 h).toD
      · exact h.elim
    · rename_i n el hu
      split at h
      · rename_i inf hz hinf
        split at h
        · exact (buildArr0_run hu hz hinf h).toD
        · split at h
          · rename_i h1 h2
            exact (buildArr_run hu hz hinf (beqN h1) (beqN h2) h).toD
          · exact h.elim
      · exact h.elim
    · exact h.elim
  case buildSlice t n ps =>
    obtain ⟨l, hl, h⟩ := onSome_use h
    obtain ⟨el, hu, h⟩ := onSome_use h
    obtain ⟨inf, hinf, h⟩ := onSome_use h
    have hmap := evp_map (ρ := a.eval) (fun x hx => he x (by
      simp only [Op.operands]
      simpa using hx)) hl
    have hps : (ps.map fun (i, x) => (i, a.eval x)) = l.toArray := by
      rw [← hmap]
      apply Array.ext'
      simp
    refine wp_val (s := Instr.buildSlice t n l.toArray) (by simp only [execOp]; rw [hps]) ?_ hn
    split at h
    · rename_i z hz h1 h2
      exact buildSlice_run (slice_un hu) hinf hz (beqN h1) (bleN h2) h
    · exact h.elim
  case load t x =>
    obtain ⟨ad, hv, h⟩ := onPtr_use h
    exact wp_val (s := loadVar t ad) (by simp [execOp, he x (by simp [Op.operands]) _ hv, Instr.loadAt, Instr.sureAddr]) (loadD_run h).toD hn
  case store t x y =>
    obtain ⟨ad, hv, h⟩ := onPtr_use h
    obtain ⟨v, hy, h⟩ := onSome_use h
    exact wp_unit (s := storeVar t ad v) (by simp [execOp, he x (by simp [Op.operands]) _ hv, he y (by simp [Op.operands]) _ hy, Instr.storeAt, Instr.sureAddr]) (storeD_run h) hn
  case nilCheck x =>
    obtain ⟨v, hv, h⟩ := onSome_use h
    have e1 := he x (by simp [Op.operands]) _ hv
    split at h
    · split at h
      · exact wp_is (by simp only [execOp, e1]) h hn
      · exact h.elim
    · exact wp_is (by simp only [execOp, e1]) h hn
    · exact h.elim
  case binOp op t x y yt =>
    exact wp_val (by simp only [execOp]) (bin_run (he x (by simp [Op.operands])) (he y (by simp [Op.operands])) h).toD hn
  case unOp op t x =>
    obtain ⟨v, hv, h⟩ := onSome_use h
    exact wp_val (s := Op.unary op v) (by simp only [execOp, he x (by simp [Op.operands]) _ hv]) (pureD_run h).toD hn
  case convert s t x =>
    obtain ⟨v, hv, h⟩ := onSome_use h
    refine wp_val (s := convert s t v) (by simp only [execOp, he x (by simp [Op.operands]) _ hv]) ?_ hn
    split at h
    · exact (pureD_run h).toD
    · split at h
      · exact (pureD_run h).toD
      · exact (RunX.one h).toD
    · exact (RunX.one h).toD
  case makeInterface t x =>
    obtain ⟨v, hv, h⟩ := onSome_use h
    exact wp_val (s := Instr.makeInterface t v) (by simp only [execOp, he x (by simp [Op.operands]) _ hv]) (pureD_run h).toD hn
  case makeFunc fn b c =>
    obtain ⟨l, hl, h⟩ := onSome_use h
    obtain ⟨m, hm, h⟩ := onSome_use h
    have e1 := evs_map (ρ := a.eval) (fun x hx => he x (by simp only [Op.operands]; simp at hx ⊢; exact .inl hx)) hl
    have e2 := evs_map (ρ := a.eval) (fun x hx => he x (by simp only [Op.operands]; simp at hx ⊢; exact .inr hx)) hm
    have e3 : b.map a.eval = ⟨l⟩ := by apply Array.ext'; simp [e1]
    have e4 : c.map a.eval = ⟨m⟩ := by apply Array.ext'; simp [e2]
    exact wp_is (by simp [execOp, e3, e4, Instr.makeFunc]) h hn
  case makeMap t r =>
    simp only [opd] at h
    split at h
    · exact wp_val (s := Instr.makeMap t none) rfl (makeMap_run h) hn
    · rename_i x
      obtain ⟨v, hv, h⟩ := onSome_use h
      exact wp_val (s := Instr.makeMap t (some v)) (by simp [execOp, he x (by simp [Op.operands]) _ hv]) h.res hn
  case makeSlice t x y =>
    obtain ⟨v, hv, h⟩ := onSome_use h
    obtain ⟨u, hu, h⟩ := onSome_use h
    exact wp_val (s := Instr.makeSlice t v u) (by simp only [execOp, he x (by simp [Op.operands]) _ hv, he y (by simp [Op.operands]) _ hu]) h.res hn
  case slice t x lo hi mx =>
    obtain ⟨v, hv, h⟩ := onSome_use h
    refine wp_val (s := Instr.sliceAt t v (lo.map a.eval) (hi.map a.eval) (mx.map a.eval)) (by simp only [execOp, he x (by simp [Op.operands]) _ hv]) ?_ hn
    exact RunX.toD <| slice_run (fun y hy => he y (by simp [Op.operands, hy])) (fun y hy => he y (by simp [Op.operands, hy])) h
  case fieldAddr t x i =>
    obtain ⟨ad, hv, h⟩ := onPtr_use h
    obtain ⟨f, hf, h⟩ := onSome_use h
    have e1 := he x (by simp [Op.operands]) _ hv
    split at hf
    · rename_i fs hu
      split at h
      · exact h.elim
      · rename_i hsz
        obtain ⟨inf, hinf⟩ : ∃ inf, P.info? f.type = some inf := by
          cases hi : P.info? f.type with
          | some inf => exact ⟨inf, rfl⟩
          | none => exact (hsz (by simp [sizeT, Program.cellsOf, hi])).elim
        have hsz' : ¬ inf.size = 0 := fun e => hsz (by rw [sizeT_of hinf, e])
        refine wp_val (s := Instr.fieldAt t (.pointer (some ad)) i) (by simp only [execOp, e1]) (RunX.of (fun H' hH w d => ?_) h).toD hn
        simp only [Instr.fieldAt, Sem.run_bind, rIU hu, Result.andThen_ok, hf, sureAddr_run, fieldPlace, rSZ hinf]
        rw [if_neg hsz']
        simp only [Sem.run_pure, Result.andThen_ok]
    · cases hf
  case field t x i =>
    obtain ⟨v, hv, h⟩ := onSome_use h
    exact wp_val (s := Instr.field t v i) (by simp only [execOp, he x (by simp [Op.operands]) _ hv]) (pureD_run h).toD hn
  case indexAddr t x y =>
    exact wp_val (by simp only [execOp]) (idxAddr_run (he x (by simp [Op.operands])) (he y (by simp [Op.operands])) h).toD hn
  case index t x y =>
    exact wp_val (by simp only [execOp]) (idx_run (he x (by simp [Op.operands])) (he y (by simp [Op.operands])) h).toD hn
  case lookup t x y ok =>
    obtain ⟨v, hv, h⟩ := onSome_use h
    obtain ⟨u, hu, h⟩ := onSome_use h
    exact wp_val (s := Instr.lookup t v u ok) (by simp only [execOp, he x (by simp [Op.operands]) _ hv, he y (by simp [Op.operands]) _ hu]) (RunX.res h).toD hn
  case mapUpdate t x y z =>
    obtain ⟨v, hv, h⟩ := onSome_use h
    obtain ⟨u, hu, h⟩ := onSome_use h
    obtain ⟨r, hr, h⟩ := onSome_use h
    exact wp_unit (s := Instr.mapUpdate t v u r) (by simp only [execOp, he x (by simp [Op.operands]) _ hv, he y (by simp [Op.operands]) _ hu, he z (by simp [Op.operands]) _ hr]) h hn
  case insert t x y z =>
    obtain ⟨v, hv, h⟩ := onSome_use h
    obtain ⟨u, hu, h⟩ := onSome_use h
    obtain ⟨r, hr, h⟩ := onSome_use h
    exact wp_unit (s := Instr.mapUpdate t v u r) (by simp only [execOp, he x (by simp [Op.operands]) _ hv, he y (by simp [Op.operands]) _ hu, he z (by simp [Op.operands]) _ hr]) h hn
  case range t x =>
    obtain ⟨v, hv, h⟩ := onSome_use h
    exact wp_val (s := Instr.range t v) (by simp only [execOp, he x (by simp [Op.operands]) _ hv]) h hn
  case next x s =>
    obtain ⟨v, hv, h⟩ := onSome_use h
    refine wp_val (s := Instr.next v s ty) (by simp only [execOp, he x (by simp [Op.operands]) _ hv]) (fun w d => ?_) hn
    obtain ⟨u, H', d', h1, h2⟩ := h w d
    obtain ⟨b, l, rfl, h2⟩ := h2
    exact ⟨_, H', d', h1, h2⟩
  case entry x =>
    obtain ⟨v, hv, h⟩ := onSome_use h
    refine wp_val (s := Instr.entry v) (by simp only [execOp, he x (by simp [Op.operands]) _ hv]) (fun w d => ?_) hn
    obtain ⟨u, H', d', h1, h2⟩ := h w d
    obtain ⟨b, l, rfl, h2⟩ := h2
    exact ⟨_, H', d', h1, h2⟩
  case typeAssert x s t ok =>
    obtain ⟨v, hv, h⟩ := onSome_use h
    exact wp_val (s := Instr.typeAssert v s t ok) (by simp only [execOp, he x (by simp [Op.operands]) _ hv]) h.res hn
  case extract x i =>
    obtain ⟨v, hv, h⟩ := onSome_use h
    exact wp_val (s := Instr.extract v i) (by simp only [execOp, he x (by simp [Op.operands]) _ hv]) (pureD_run h).toD hn
  case panic x =>
    obtain ⟨v, hv, h⟩ := onSome_use h
    have e1 := he x (by simp [Op.operands]) _ hv
    split at h
    · unfold Oper.wp
      simp only [execOp, e1, Instr.panic, Sem.run_bind, run_goPanic, Result.andThen_halt, Oper.upon]
      exact hx _ _ _ h
    · exact h.elim
  case call c =>
    simp only [opd] at h
    split at h
    · rename_i f hcal
      obtain ⟨g, fs, cs, hv, h⟩ := onFunc_use h
      obtain ⟨as, has, h⟩ := onSome_use h
      have e1 := he f (by simp [Op.operands, Call.operands, hcal]) _ hv
      have e2 := evs_map (ρ := a.eval) (fun x hx => he x (by simp [Op.operands, Call.operands] at hx ⊢; exact .inr hx)) has
      have e3 : c.args.map a.eval = ⟨as⟩ := by apply Array.ext'; simp [e2]
      unfold Oper.wp
      have : (execOp a.eval { dst, op := .call c, type := ty, pos, after, guard }).run P (wk w0 H d) = (callFunc g ⟨fs.toList ++ (as ++ cs.toList)⟩).run P (wk w0 H d) := by
        rw [← args_eq]
        simp only [execOp, resolve, hcal, e1, e3, Deferred.ofValue, Sem.run_bind, Sem.run_pure, Result.andThen_ok, invoke]
      rw [this]
      exact call_run hP h hn hx
    · rename_i b hcal
      obtain ⟨as, has, h⟩ := onSome_use h
      have e2 := evs_map (ρ := a.eval) (fun x hx => he x (by simp [Op.operands, Call.operands, hcal] at hx ⊢; exact hx)) has
      have e3 : c.args.map a.eval = ⟨as⟩ := by apply Array.ext'; simp [e2]
      have hres : ∀ (s : Sem Value), (∀ (cn : Array Bool), builtin b c.argTypes ty cn ⟨as⟩ = (do pure (.value (← s)))) → RunD P s H K → ({ dst, op := .call c, type := ty, pos, after, guard } : Oper).wp P a (wk w0 H d) next Q := by
        intro s hs hr
        obtain ⟨v, H', d', h1, h2⟩ := hr w0 d
        unfold Oper.wp
        simp only [execOp, resolve, hcal, e3, Sem.run_bind, Sem.run_pure, Result.andThen_ok, invoke, hs, h1, Oper.upon]
        exact hn v H' d' h2
      split at h
      · split at h
        · exact hres _ (fun _ => rfl) (pureD_run h).toD
        · exact hres _ (fun _ => rfl) (pureD_run h).toD
        · exact hres _ (fun _ => rfl) (RunX.one h).toD
      · exact hres _ (fun _ => rfl) h.res
      · exact hres _ (fun _ => rfl) (pureD_run h).toD
      · exact hres _ (fun _ => rfl) (pureD_run h).toD
      · exact h.elim
    · exact h.elim
  all_goals exact h.elim

/-- What leaves memory alone. -/
def stillOp : Op → Bool
  | .move _ | .assign _ | .pick .. | .load .. | .nilCheck _ | .binOp .. | .unOp .. | .fieldAddr .. | .field .. | .indexAddr .. | .index .. | .extract .. | .slice .. | .makeInterface .. | .makeFunc .. | .build .. | .lookup .. => true
  | .call c => match c.callee with
    | .builtin .len | .builtin .max | .builtin .min => true
    | _ => false
  | _ => false
theorem RunX.val {s : Sem Value} (h : RunX P s H K) (he : execOp a.eval o = (do pure (.value (← s)))) : ∃ v, K v H ∧ ∀ H', Ext0 H H' → ∀ w d, (execOp a.eval o).run P (wk w H' d) = .ok (.value v) (wk w H' d) := by
  obtain ⟨v, h1, h2⟩ := h
  exact ⟨v, h2, fun H' hH w d => by rw [he]; simp only [Sem.run_bind, h1 H' hH, Result.andThen_ok, Sem.run_pure]⟩
theorem opd_still {e : Operand → Option Value} (hs : stillOp o.op = true) (he : ∀ x ∈ o.op.operands.toList, ∀ v, e x = some v → a.eval x = v) (h : opd P o.op o.type e H K X) :
    ∃ v, K v H ∧ ∀ H', Ext0 H H' → ∀ w d, (execOp a.eval o).run P (wk w H' d) = .ok (.value v) (wk w H' d) := by
  have hval : ∀ {v : Value}, execOp a.eval o = pure (.value v) → K v H → ∃ v, K v H ∧ ∀ H', Ext0 H H' → ∀ w d, (execOp a.eval o).run P (wk w H' d) = .ok (.value v) (wk w H' d) := fun {v} h1 h2 => ⟨v, h2, fun H' hH w d => by rw [h1]; rfl⟩
  obtain ⟨dst, op, ty, pos, after, guard⟩ := o
  cases op <;> simp only [stillOp, Bool.false_eq_true] at hs
  case move x =>
    obtain ⟨v, hv, hk⟩ := onSome_use h
    exact hval (by simp [execOp, he x (by simp [Op.operands]) v hv]) hk
  case assign x =>
    obtain ⟨v, hv, hk⟩ := onSome_use h
    exact hval (by simp [execOp, he x (by simp [Op.operands]) v hv]) hk
  case pick c x y =>
    obtain ⟨t, ht, h⟩ := onBool_use h
    obtain ⟨u, hu, h⟩ := onSome_use h
    obtain ⟨v, hv, h⟩ := onSome_use h
    have e1 := he c (by simp [Op.operands]) _ ht
    have e2 := he x (by simp [Op.operands]) _ hu
    have e3 := he y (by simp [Op.operands]) _ hv
    cases t with
    | true => exact hval (v := u) (by simp [execOp, e1, e2, asBool]) h
    | false => exact hval (v := v) (by simp [execOp, e1, e3, asBool]) h
  case load t x =>
    obtain ⟨ad, hv, h⟩ := onPtr_use h
    exact (loadD_run h).val (s := loadVar t ad) (by simp [execOp, he x (by simp [Op.operands]) _ hv, Instr.loadAt, Instr.sureAddr])
  case build t ps =>
    obtain ⟨l, hl, h⟩ := onSome_use h
    have hmap := evp_map (ρ := a.eval) (fun x hx => he x (by
      simp only [Op.operands]
      simpa using hx)) hl
    have hps : (ps.map fun (i, x) => (i, a.eval x)) = l.toArray := by
      rw [← hmap]
      apply Array.ext'
      simp
    have hx : RunX P (Instr.build t l.toArray) H K → ∃ v, K v H ∧ ∀ H', Ext0 H H' → ∀ w d, (execOp a.eval { dst, op := .build t ps, type := ty, pos, after, guard }).run P (wk w H' d) = .ok (.value v) (wk w H' d) := fun h => h.val (s := Instr.build t l.toArray) (by simp only [execOp]; rw [hps])
    split at h
    · rename_i fs hu
      split at h
      · rename_i h1 h2 h3
        exact hx (buildStruct_run hu h1 h2 h3 h)
      · exact h.elim
    · rename_i n el hu
      split at h
      · rename_i inf hz hinf
        split at h
        · exact hx (buildArr0_run hu hz hinf h)
        · split at h
          · rename_i h1 h2
            exact hx (buildArr_run hu hz hinf (beqN h1) (beqN h2) h)
          · exact h.elim
      · exact h.elim
    · exact h.elim
  case lookup t x y ok =>
    obtain ⟨v, hv, h⟩ := onSome_use h
    obtain ⟨u, hu, h⟩ := onSome_use h
    exact (RunX.res h).val (s := Instr.lookup t v u ok) (by simp only [execOp, he x (by simp [Op.operands]) _ hv, he y (by simp [Op.operands]) _ hu])
  case nilCheck x =>
    obtain ⟨v, hv, h⟩ := onSome_use h
    have e1 := he x (by simp [Op.operands]) _ hv
    split at h
    · split at h
      · exact hval (by simp only [execOp, e1]) h
      · exact h.elim
    · exact hval (by simp only [execOp, e1]) h
    · exact h.elim
  case binOp op t x y yt =>
    exact (bin_run (he x (by simp [Op.operands])) (he y (by simp [Op.operands])) h).val (by simp only [execOp])
  case unOp op t x =>
    obtain ⟨v, hv, h⟩ := onSome_use h
    exact (pureD_run h).val (s := Op.unary op v) (by simp only [execOp, he x (by simp [Op.operands]) _ hv])
  case makeInterface t x =>
    obtain ⟨v, hv, h⟩ := onSome_use h
    exact (pureD_run h).val (s := Instr.makeInterface t v) (by simp only [execOp, he x (by simp [Op.operands]) _ hv])
  case makeFunc fn b c =>
    obtain ⟨l, hl, h⟩ := onSome_use h
    obtain ⟨m, hm, h⟩ := onSome_use h
    have e1 := evs_map (ρ := a.eval) (fun x hx => he x (by simp only [Op.operands]; simp at hx ⊢; exact .inl hx)) hl
    have e2 := evs_map (ρ := a.eval) (fun x hx => he x (by simp only [Op.operands]; simp at hx ⊢; exact .inr hx)) hm
    have e3 : b.map a.eval = ⟨l⟩ := by apply Array.ext'; simp [e1]
    have e4 : c.map a.eval = ⟨m⟩ := by apply Array.ext'; simp [e2]
    exact hval (by simp [execOp, e3, e4, Instr.makeFunc]) h
  case slice t x lo hi mx =>
    obtain ⟨v, hv, h⟩ := onSome_use h
    exact (slice_run (fun y hy => he y (by simp [Op.operands, hy])) (fun y hy => he y (by simp [Op.operands, hy])) h).val (s := Instr.sliceAt t v (lo.map a.eval) (hi.map a.eval) (mx.map a.eval)) (by simp only [execOp, he x (by simp [Op.operands]) _ hv])
  case fieldAddr t x i =>
    obtain ⟨ad, hv, h⟩ := onPtr_use h
    obtain ⟨f, hf, h⟩ := onSome_use h
    have e1 := he x (by simp [Op.operands]) _ hv
    split at hf
    · rename_i fs hu
      split at h
      · exact h.elim
      · rename_i hsz
        obtain ⟨inf, hinf⟩ : ∃ inf, P.info? f.type = some inf := by
          cases hi : P.info? f.type with
          | some inf => exact ⟨inf, rfl⟩
          | none => exact (hsz (by simp [sizeT, Program.cellsOf, hi])).elim
        have hsz' : ¬ inf.size = 0 := fun e => hsz (by rw [sizeT_of hinf, e])
        refine RunX.val (s := Instr.fieldAt t (.pointer (some ad)) i) (RunX.of (fun H' hH w d => ?_) h) (by simp only [execOp, e1])
        simp only [Instr.fieldAt, Sem.run_bind, rIU hu, Result.andThen_ok, hf, sureAddr_run, fieldPlace, rSZ hinf]
        rw [if_neg hsz']
        simp only [Sem.run_pure, Result.andThen_ok]
    · cases hf
  case field t x i =>
    obtain ⟨v, hv, h⟩ := onSome_use h
    exact (pureD_run h).val (s := Instr.field t v i) (by simp only [execOp, he x (by simp [Op.operands]) _ hv])
  case indexAddr t x y =>
    exact (idxAddr_run (he x (by simp [Op.operands])) (he y (by simp [Op.operands])) h).val (by simp only [execOp])
  case index t x y =>
    exact (idx_run (he x (by simp [Op.operands])) (he y (by simp [Op.operands])) h).val (by simp only [execOp])
  case extract x i =>
    obtain ⟨v, hv, h⟩ := onSome_use h
    exact (pureD_run h).val (s := Instr.extract v i) (by simp only [execOp, he x (by simp [Op.operands]) _ hv])
  case call c =>
    simp only [opd] at h
    have hres : ∀ (b : Builtin) (as : List Value) (sm : Sem Value), c.callee = .builtin b → evs e c.args.toList = some as → (∀ (cn : Array Bool), builtin b c.argTypes ty cn ⟨as⟩ = (do pure (.value (← sm)))) → RunX P sm H K → ∃ v, K v H ∧ ∀ H', Ext0 H H' → ∀ w d, (execOp a.eval { dst, op := .call c, type := ty, pos, after, guard }).run P (wk w H' d) = .ok (.value v) (wk w H' d) := by
      intro b as sm hcal has hb ⟨v, h1, h2⟩
      have e2 := evs_map (ρ := a.eval) (fun x hx => he x (by simp [Op.operands, Call.operands, hcal] at hx ⊢; exact hx)) has
      have e3 : c.args.map a.eval = ⟨as⟩ := by apply Array.ext'; simp [e2]
      exact ⟨v, h2, fun H' hH w d => by simp only [execOp, resolve, hcal, e3, Sem.run_bind, Sem.run_pure, Result.andThen_ok, invoke, hb, h1 H' hH]⟩
    split at hs
    · rename_i hcal
      rw [hcal] at h
      obtain ⟨as, has, h⟩ := onSome_use h
      simp only at h
      split at h
      · exact hres _ _ _ hcal has (fun _ => rfl) (pureD_run h)
      · exact hres _ _ _ hcal has (fun _ => rfl) (pureD_run h)
      · exact hres _ _ _ hcal has (fun _ => rfl) (RunX.one h)
    · rename_i hcal
      rw [hcal] at h
      obtain ⟨as, has, h⟩ := onSome_use h
      exact hres _ _ _ hcal has (fun _ => rfl) (pureD_run h)
    · rename_i hcal
      rw [hcal] at h
      obtain ⟨as, has, h⟩ := onSome_use h
      exact hres _ _ _ hcal has (fun _ => rfl) (pureD_run h)
    · cases hs

end
end Go.Vc
