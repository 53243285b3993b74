/- The data, the values and the evaluator of the abstract machine, and that its operations are sound: first half. -/
import Derived.Calls
import Derived.Deep.LoopGhost
import Derived.Laws.IdiomCopy
import Derived.Laws.AppendOwn
import Derived.Laws.Entries
import Derived.Laws.Cells
import Derived.Laws.BytesString
import Derived.Laws.Tables
import Derived.Laws.Strings
import Derived.Laws.CopyOwn
import Derived.Laws.Append
import Derived.Great.BuildSlice
import Derived.Laws.BytesArg
set_option linter.unusedVariables false
set_option linter.unusedSimpArgs false
set_option linter.defProp false
/- The data of the abstract evaluator: trees of integers, bools, texts, slices and structs, and what it means that a value of the model holds one. -/
namespace Go.Proofs.YtebkaacflocfcaaDoor.Ab
open Go
set_option linter.unusedVariables false

inductive D where
  | int (k : IntKind) (n : Int)
  | bool (b : Bool)
  | str (s : List UInt8)
  | nil
  | sl (xs : List D)
  | agg (xs : List D)
  | tup (xs : List D)
  deriving Inhabited

def D.cells : D → List D
  | .agg xs => xs
  | d => [d]
def D.isAgg : D → Bool
  | .agg _ => true
  | _ => false
/-- is it one cell? -/
def D.flat : D → Bool
  | .agg _ => false
  | .tup _ => false
  | _ => true
def D.isTup : D → Bool
  | .tup _ => true
  | _ => false
def D.cnt (d : D) : Nat := d.cells.length
def D.list : D → Option (List D)
  | .nil => some []
  | .sl xs => some xs
  | _ => none

/-- the cell at a place is committed and holds that value -/
def At (w : World) (com : Nat → Nat) (b o : Nat) (v : Value) : Prop := o < com b ∧ w.cell? ⟨b, o, none⟩ = some v

mutual
def Den (w : World) (com : Nat → Nat) : D → Value → Prop
  | .int k n, v => v = .int k n
  | .bool b, v => v = .bool b
  | .str s, v => v = .string ⟨s.toArray⟩
  | .nil, v => v = .slice none 0 0
  | .sl xs, v => ∃ A c, v = .slice A xs.length c ∧ xs.length ≤ c ∧ (match A with | none => xs = [] | some ad => ad.spot = none ∧ ∃ sz, DenM w com xs sz ad.block ad.off)
  | .agg xs, v => ∃ vs : List Value, v = .agg vs.toArray ∧ xs.all D.flat = true ∧ DenL w com xs vs
  | .tup xs, v => ∃ vs : List Value, v = .tuple vs.toArray ∧ DenL w com xs vs
def DenL (w : World) (com : Nat → Nat) : List D → List Value → Prop
  | [], vs => vs = []
  | x :: xs, vs => ∃ v r, vs = v :: r ∧ Den w com x v ∧ DenL w com xs r
/-- the elements of a row, each of sz cells -/
def DenM (w : World) (com : Nat → Nat) : List D → Nat → Nat → Nat → Prop
  | [], _, _, _ => True
  | .agg ds :: xs, sz, b, o => ds.length = sz ∧ DenR w com ds b o ∧ DenM w com xs sz b (o + sz)
  | x :: xs, sz, b, o => sz = 1 ∧ (∃ v, At w com b o v ∧ x.flat = true ∧ Den w com x v) ∧ DenM w com xs sz b (o + sz)
/-- one cell after the other -/
def DenR (w : World) (com : Nat → Nat) : List D → Nat → Nat → Prop
  | [], _, _ => True
  | x :: xs, b, o => (∃ v, At w com b o v ∧ x.flat = true ∧ Den w com x v) ∧ DenR w com xs b (o + 1)
end

/-- an element of a row -/
def DenC (w : World) (com : Nat → Nat) (d : D) (b o : Nat) : Prop :=
  match d with
  | .agg ds => DenR w com ds b o
  | d => ∃ v, At w com b o v ∧ d.flat = true ∧ Den w com d v

theorem DenM_cons {w : World} {com : Nat → Nat} {x : D} {xs : List D} {sz b o : Nat} :
    DenM w com (x :: xs) sz b o ↔ x.cnt = sz ∧ DenC w com x b o ∧ DenM w com xs sz b (o + sz) := by
  cases x <;> simp only [DenM, DenC, D.cnt, D.cells, List.length_cons, List.length_nil, Nat.zero_add, eq_comm (a := (1 : Nat))]

theorem DenM_nil {w : World} {com : Nat → Nat} {sz b o : Nat} : DenM w com [] sz b o := by simp [DenM]

theorem DenM_get {w : World} {com : Nat → Nat} {xs : List D} {sz b o : Nat} (h : DenM w com xs sz b o) (i : Nat) (x : D) (hi : xs[i]? = some x) :
    x.cnt = sz ∧ DenC w com x b (o + i * sz) := by
  induction xs generalizing o i with
  | nil => simp at hi
  | cons y ys ih =>
    obtain ⟨h1, h2, h3⟩ := DenM_cons.1 h
    cases i with
    | zero => simp at hi; subst hi; exact ⟨h1, by simpa using h2⟩
    | succ i =>
      have := ih h3 i (by simpa using hi)
      rw [show o + (i + 1) * sz = o + sz + i * sz by rw [Nat.add_mul, Nat.one_mul]; omega]
      exact this

theorem DenM_of {w : World} {com : Nat → Nat} {xs : List D} {sz b o : Nat} (h : ∀ i x, xs[i]? = some x → x.cnt = sz ∧ DenC w com x b (o + i * sz)) : DenM w com xs sz b o := by
  induction xs generalizing o with
  | nil => exact DenM_nil
  | cons y ys ih =>
    refine DenM_cons.2 ⟨(h 0 y rfl).1, by simpa using (h 0 y rfl).2, ih fun i x hi => ?_⟩
    have := h (i + 1) x (by simpa using hi)
    rw [show o + (i + 1) * sz = o + sz + i * sz by rw [Nat.add_mul, Nat.one_mul]; omega] at this
    exact this

theorem DenR_get {w : World} {com : Nat → Nat} {xs : List D} {b o : Nat} (h : DenR w com xs b o) (i : Nat) (x : D) (hi : xs[i]? = some x) :
    ∃ v, At w com b (o + i) v ∧ x.flat = true ∧ Den w com x v := by
  induction xs generalizing o i with
  | nil => simp at hi
  | cons y ys ih =>
    simp only [DenR] at h
    cases i with
    | zero => simp at hi; subst hi; exact h.1
    | succ i =>
      have := ih h.2 i (by simpa using hi)
      rw [show o + (i + 1) = o + 1 + i by omega]; exact this

theorem DenR_of {w : World} {com : Nat → Nat} {xs : List D} {b o : Nat} (h : ∀ i x, xs[i]? = some x → ∃ v, At w com b (o + i) v ∧ x.flat = true ∧ Den w com x v) : DenR w com xs b o := by
  induction xs generalizing o with
  | nil => simp [DenR]
  | cons y ys ih =>
    simp only [DenR]
    refine ⟨by simpa using h 0 y rfl, ih fun i x hi => ?_⟩
    have := h (i + 1) x (by simpa using hi)
    rw [show o + (i + 1) = o + 1 + i by omega] at this; exact this

theorem DenL_length {w : World} {com : Nat → Nat} {xs : List D} {vs : List Value} (h : DenL w com xs vs) : vs.length = xs.length := by
  induction xs generalizing vs with
  | nil => simp [DenL] at h; subst h; rfl
  | cons x xs ih => simp only [DenL] at h; obtain ⟨v, r, rfl, _, hr⟩ := h; simp [ih hr]

theorem DenL_get {w : World} {com : Nat → Nat} {xs : List D} {vs : List Value} (h : DenL w com xs vs) (i : Nat) (x : D) (hi : xs[i]? = some x) :
    ∃ v, vs[i]? = some v ∧ Den w com x v := by
  induction xs generalizing vs i with
  | nil => simp at hi
  | cons y ys ih =>
    simp only [DenL] at h; obtain ⟨v, r, rfl, hv, hr⟩ := h
    cases i with
    | zero => simp at hi; subst hi; exact ⟨v, rfl, hv⟩
    | succ i => exact ih hr i (by simpa using hi)

theorem DenL_of {w : World} {com : Nat → Nat} {xs : List D} {vs : List Value} (hl : vs.length = xs.length) (h : ∀ (i : Nat) (x : D) (v : Value), xs[i]? = some x → vs[i]? = some v → Den w com x v) : DenL w com xs vs := by
  induction xs generalizing vs with
  | nil => simp [DenL]; simpa using hl
  | cons y ys ih =>
    cases vs with
    | nil => simp at hl
    | cons v r =>
      simp only [DenL]
      exact ⟨v, r, rfl, h 0 y v rfl rfl, ih (by simpa using hl) fun i x v' hi hv => h (i + 1) x v' (by simpa using hi) (by simpa using hv)⟩

/-- what is committed is as it was, and no less is committed -/
structure Agree (w w' : World) (com com' : Nat → Nat) : Prop where
  cell : ∀ b o, o < com b → w'.cell? ⟨b, o, none⟩ = w.cell? ⟨b, o, none⟩
  le : ∀ b, com b ≤ com' b

theorem Agree.refl (w : World) (com : Nat → Nat) : Agree w w com com := ⟨fun _ _ _ => rfl, fun _ => Nat.le_refl _⟩
theorem Agree.trans {w w1 w2 : World} {c c1 c2 : Nat → Nat} (h : Agree w w1 c c1) (k : Agree w1 w2 c1 c2) : Agree w w2 c c2 :=
  ⟨fun b o ho => (k.cell b o (Nat.lt_of_lt_of_le ho (h.le b))).trans (h.cell b o ho), fun b => Nat.le_trans (h.le b) (k.le b)⟩

theorem At.mono {w w' : World} {com com' : Nat → Nat} (a : Agree w w' com com') {b o : Nat} {v : Value} (h : At w com b o v) : At w' com' b o v :=
  ⟨Nat.lt_of_lt_of_le h.1 (a.le b), (a.cell b o h.1).trans h.2⟩

mutual
theorem Den.mono {w w' : World} {com com' : Nat → Nat} (a : Agree w w' com com') : ∀ (d : D) (v : Value), Den w com d v → Den w' com' d v
  | .int k n, v, h => by simpa [Den] using h
  | .bool b, v, h => by simpa [Den] using h
  | .str s, v, h => by simpa [Den] using h
  | .nil, v, h => by simpa [Den] using h
  | .sl xs, v, h => by
    simp only [Den] at h ⊢
    obtain ⟨A, c, rfl, hc, hA⟩ := h
    refine ⟨A, c, rfl, hc, ?_⟩
    cases A with
    | none => exact hA
    | some ad => exact ⟨hA.1, hA.2.imp fun sz h => DenM.mono a xs sz _ _ h⟩
  | .agg xs, v, h => by
    simp only [Den] at h ⊢
    obtain ⟨vs, rfl, hf, hl⟩ := h
    exact ⟨vs, rfl, hf, DenL.mono a xs vs hl⟩
  | .tup xs, v, h => by
    simp only [Den] at h ⊢
    obtain ⟨vs, rfl, hl⟩ := h
    exact ⟨vs, rfl, DenL.mono a xs vs hl⟩
theorem DenL.mono {w w' : World} {com com' : Nat → Nat} (a : Agree w w' com com') : ∀ (xs : List D) (vs : List Value), DenL w com xs vs → DenL w' com' xs vs
  | [], vs, h => by simpa [DenL] using h
  | x :: xs, vs, h => by
    simp only [DenL] at h ⊢
    obtain ⟨v, r, rfl, hv, hr⟩ := h
    exact ⟨v, r, rfl, Den.mono a x v hv, DenL.mono a xs r hr⟩
theorem DenM.mono {w w' : World} {com com' : Nat → Nat} (a : Agree w w' com com') : ∀ (xs : List D) (sz b o : Nat), DenM w com xs sz b o → DenM w' com' xs sz b o
  | [], _, _, _, _ => by simp [DenM]
  | .agg ds :: xs, sz, b, o, h => by
    simp only [DenM] at h ⊢
    exact ⟨h.1, DenR.mono a ds b o h.2.1, DenM.mono a xs sz b _ h.2.2⟩
  | .int k n :: xs, sz, b, o, h => by
    simp only [DenM] at h ⊢
    exact ⟨h.1, h.2.1.imp fun v h => ⟨h.1.mono a, h.2.1, Den.mono a (.int k n) v h.2.2⟩, DenM.mono a xs sz b _ h.2.2⟩
  | .bool k :: xs, sz, b, o, h => by
    simp only [DenM] at h ⊢
    exact ⟨h.1, h.2.1.imp fun v h => ⟨h.1.mono a, h.2.1, Den.mono a (.bool k) v h.2.2⟩, DenM.mono a xs sz b _ h.2.2⟩
  | .str k :: xs, sz, b, o, h => by
    simp only [DenM] at h ⊢
    exact ⟨h.1, h.2.1.imp fun v h => ⟨h.1.mono a, h.2.1, Den.mono a (.str k) v h.2.2⟩, DenM.mono a xs sz b _ h.2.2⟩
  | .nil :: xs, sz, b, o, h => by
    simp only [DenM] at h ⊢
    exact ⟨h.1, h.2.1.imp fun v h => ⟨h.1.mono a, h.2.1, Den.mono a .nil v h.2.2⟩, DenM.mono a xs sz b _ h.2.2⟩
  | .sl k :: xs, sz, b, o, h => by
    simp only [DenM] at h ⊢
    exact ⟨h.1, h.2.1.imp fun v h => ⟨h.1.mono a, h.2.1, Den.mono a (.sl k) v h.2.2⟩, DenM.mono a xs sz b _ h.2.2⟩
  | .tup k :: xs, sz, b, o, h => by
    simp only [DenM] at h ⊢
    exact ⟨h.1, h.2.1.imp fun v h => ⟨h.1.mono a, h.2.1, Den.mono a (.tup k) v h.2.2⟩, DenM.mono a xs sz b _ h.2.2⟩
theorem DenR.mono {w w' : World} {com com' : Nat → Nat} (a : Agree w w' com com') : ∀ (xs : List D) (b o : Nat), DenR w com xs b o → DenR w' com' xs b o
  | [], _, _, _ => by simp [DenR]
  | x :: xs, b, o, h => by
    simp only [DenR] at h ⊢
    exact ⟨h.1.imp fun v h => ⟨h.1.mono a, h.2.1, Den.mono a x v h.2.2⟩, DenR.mono a xs b _ h.2⟩
end

theorem DenC.mono {w w' : World} {com com' : Nat → Nat} (a : Agree w w' com com') (d : D) (b o : Nat) (h : DenC w com d b o) : DenC w' com' d b o := by
  cases d with
  | agg ds => exact DenR.mono a ds b o h
  | _ => exact h.imp fun v h => ⟨h.1.mono a, h.2.1, Den.mono a _ v h.2.2⟩

/-- a known nil may be read as an empty slice -/
theorem Den.nil_sl {w : World} {com : Nat → Nat} {v : Value} (h : Den w com .nil v) : Den w com (.sl []) v := by
  simp only [Den] at h ⊢; exact ⟨none, 0, h, by simp, by simp⟩
end Go.Proofs.YtebkaacflocfcaaDoor.Ab

/- The abstract evaluator: what a function's code does to temporaries, boxes and owned slices, over the data of A0. No memory of the model in it. -/
namespace Go.Proofs.YtebkaacflocfcaaDoor.Ab
open Go
set_option linter.unusedVariables false

/-- an abstract value: nothing known; data; a slice that may be appended to (class c k, generation g); a pointer into a box; a pointer to what stays as it is -/
inductive AV where
  | no
  | val (d : D)
  | own (c k g : Nat) (d : D)
  | bx (b g o : Nat)
  | rp (d : D)
  | cl (f b g : Nat)
  | ms (b g n sz : Nat)
  deriving Inhabited

def AV.d : AV → Option D
  | .val d => some d
  | .own _ _ _ d => some d
  | _ => none

inductive Mode where
  | v
  | o
  | p (n : Nat)

structure Ctx where
  P : Program
  G : Nat → Option D
  md : Nat → List Mode
  mr : Nat → Bool

structure Env where
  tm : Nat → AV
  bx : Nat → Nat → Nat → AV
  gb : Nat → Nat
  lv : Nat → Nat → Nat → Bool
  gc : Nat → Nat → Nat

def Env.setT (e : Env) (t : Nat) (x : AV) : Env := { e with tm := fun i => if i = t then x else e.tm i }
def Env.setD (e : Env) (t : Option Nat) (x : AV) : Env := match t with | some t => e.setT t x | none => e
def Env.setB (e : Env) (b g o : Nat) (x : AV) : Env := { e with bx := fun b' g' o' => if b' = b ∧ g' = g ∧ o' = o then x else e.bx b' g' o' }
def Env.kill (e : Env) (c k g : Nat) : Env := { e with lv := fun c' k' g' => if c' = c ∧ k' = k ∧ g' = g then false else e.lv c' k' g' }
def Env.birth (e : Env) (c k : Nat) : Env :=
  { e with lv := fun c' k' g' => if c' = c ∧ k' = k ∧ g' = e.gc c k then true else e.lv c' k' g', gc := fun c' k' => if c' = c ∧ k' = k then e.gc c k + 1 else e.gc c' k' }
/-- a value comes to stand in a variable (class c k): what is owned moves there -/
def Env.land (e : Env) (x : AV) (c k : Nat) : Env × AV :=
  match x with
  | .own c0 k0 g d => match e.lv c0 k0 g with
    | true => ((e.kill c0 k0 g).birth c k, .own c k (e.gc c k) d)
    | false => (e, .val d)
  | .val .nil => (e.birth c k, .own c k (e.gc c k) (.sl []))
  | x => (e, x)

/-! the types' table -/
def szT (P : Program) (t : TypeId) : Option (Nat × Bool) :=
  match P.info? t, P.underlying t with
  | some i, some d => some (i.size, match d with | .struct _ => true | .array _ _ => true | _ => false)
  | _, _ => none
def fldT (P : Program) (s : TypeId) (i : Nat) : Option (Nat × Nat × Bool) :=
  match P.underlying s with
  | some (.struct fs) => match fs[i]? with
    | some f => match szT P f.type with
      | some (n, a) => if n = 0 then none else some (f.offset, n, a)
      | none => none
    | none => none
  | _ => none
/-- of a slice type: the element's type, size, is it a struct, its bytes -/
def elT (P : Program) (t : TypeId) : Option (Nat × Nat × Bool × Nat) :=
  match P.underlying t with
  | some (.slice e) => match szT P e, P.info? e with
    | some (n, a), some i => if n = 0 ∨ i.bytes = 0 ∨ (i.zero.map fun z => z.cells.size) ≠ some n then none else some (e, n, a, i.bytes)
    | _, _ => none
  | _ => none
def arT (P : Program) (t : TypeId) : Option (Nat × Nat × Bool) :=
  match P.underlying t with
  | some (.array len e) => match szT P e with
    | some (n, a) => if n = 0 then none else some (len, n, a)
    | none => none
  | _ => none
def ofCell : Value → Option D
  | .int k n => some (.int k n)
  | .bool b => some (.bool b)
  | .string s => some (.str s.data.toList)
  | .slice none 0 0 => some .nil
  | _ => none
def ofCells : List Value → Option (List D)
  | [] => some []
  | v :: r => match ofCell v, ofCells r with
    | some d, some ds => some (d :: ds)
    | _, _ => none
def ofValue : Value → Option D
  | .agg cs => (ofCells cs.toList).map .agg
  | v => ofCell v
def zeroT (P : Program) (t : TypeId) : Option D :=
  match P.info? t with
  | some i => match i.zero with
    | some v => ofValue v
    | none => none
  | none => none
def constAV (v : Value) : AV := match ofValue v with | some d => .val d | none => .no

def Env.ev (Γ : Ctx) (e : Env) : Operand → AV
  | .tmp t => e.tm t
  | .const v => constAV v
  | .global g => match Γ.G g with | some d => .rp d | none => .no
  | .func _ => .no

/-! operations on data -/
def bitsD (op : BinOp) (k : IntKind) (a b : Int) : Option Int :=
  match op with
  | .and => some (k.wrap (BitVec.ofInt k.bits a &&& BitVec.ofInt k.bits b).toNat)
  | .or => some (k.wrap (BitVec.ofInt k.bits a ||| BitVec.ofInt k.bits b).toNat)
  | .xor => some (k.wrap (BitVec.ofInt k.bits a ^^^ BitVec.ofInt k.bits b).toNat)
  | .andNot => some (k.wrap (BitVec.ofInt k.bits a &&& ~~~ BitVec.ofInt k.bits b).toNat)
  | _ => none
def intD (op : BinOp) (k : IntKind) (a b : Int) : Option D :=
  match op with
  | .add => some (.int k (k.wrap (a + b)))
  | .sub => some (.int k (k.wrap (a - b)))
  | .mul => some (.int k (k.wrap (a * b)))
  | .quo => if b = 0 then none else some (.int k (k.wrap (a.tdiv b)))
  | .rem => if b = 0 then none else some (.int k (a.tmod b))
  | .eql => some (.bool (decide (a = b)))
  | .neq => some (.bool (!decide (a = b)))
  | .lss => some (.bool (decide (a < b)))
  | .leq => some (.bool (decide (a ≤ b)))
  | .gtr => some (.bool (decide (b < a)))
  | .geq => some (.bool (decide (b ≤ a)))
  | .shl => if b < 0 then none else some (.int k (k.wrap (a * 2 ^ min b.toNat k.bits)))
  | .shr => if b < 0 then none else some (.int k (a.fdiv (2 ^ min b.toNat k.bits)))
  | op => (bitsD op k a b).map (.int k)
def strD (op : BinOp) (a b : List UInt8) : Option D :=
  match op with
  | .add => if a.length + b.length ≤ 4611686018427387904 then some (.str (a ++ b)) else none
  | .eql => some (.bool (decide (a = b)))
  | .neq => some (.bool (!decide (a = b)))
  | .lss => some (.bool (Op.bytesLess a b))
  | .leq => some (.bool (Op.bytesLess a b || decide (a = b)))
  | .gtr => some (.bool (!(Op.bytesLess a b || decide (a = b))))
  | .geq => some (.bool (!Op.bytesLess a b))
  | _ => none
def binD (P : Program) (op : BinOp) (t : TypeId) (a b : D) : Option D :=
  match a, b with
  | .int k a, .int k' b => match op with
    | .shl => intD .shl k a b
    | .shr => intD .shr k a b
    | op => if k = k' then intD op k a b else none
  | .str a, .str b => strD op a b
  | .bool a, .bool b => match P.underlying t, op with
    | some .bool, .eql => some (.bool (a == b))
    | some .bool, .neq => some (.bool (!(a == b)))
    | _, _ => none
  | _, _ => none
def unD (op : UnOp) (a : D) : Option D :=
  match op, a with
  | .neg, .int k n => some (.int k (k.wrap (0 - n)))
  | .xor, .int k n => (bitsD .xor k (if k.signed then -1 else k.max) n).map (.int k)
  | .not, .bool b => some (.bool (!b))
  | _, _ => none
def bytesOfD : List D → Option (List UInt8)
  | [] => some []
  | .int .u8 n :: r => match bytesOfD r with
    | some l => some (UInt8.ofNat n.toNat :: l)
    | none => none
  | _ => none
def ofBytes (s : List UInt8) : List D := s.map fun b => .int .u8 b.toNat
def convD (P : Program) (src dst : TypeId) (a : D) : Option D :=
  match P.underlying src, P.underlying dst, a with
  | some _, some (.int k), .int _ n => some (.int k (k.wrap n))
  | some _, some .string, .str s => some (.str s)
  | some (.slice e), some .string, .sl xs => match P.underlying e with
    | some (.int .u8) => (bytesOfD xs).map .str
    | _ => none
  | some (.slice e), some .string, .nil => match P.underlying e with
    | some (.int .u8) => some (.str [])
    | _ => none
  | _, _, _ => none
def subD (ds : List D) (off n : Nat) (agg : Bool) : Option D :=
  match agg with
  | true => if off + n ≤ ds.length then some (.agg ((ds.drop off).take n)) else none
  | false => ds[off]?
def boundD (e : Operand → AV) (o : Option Operand) (dflt : Int) : Option Int :=
  match o with
  | none => some dflt
  | some x => match (e x).d with
    | some (.int _ i) => some i
    | _ => none
def cutL {α : Type} (xs : List α) (lo hi : Option Int) : Option (List α) :=
  match lo, hi with
  | some lo, some hi => if 0 ≤ lo ∧ lo ≤ hi ∧ hi ≤ xs.length then some ((xs.take hi.toNat).drop lo.toNat) else none
  | _, _ => none
/-- cells with the parts laid into them -/
def fillD (place : Nat → Option (Nat × Nat)) (cells : List D) : List (Nat × Option D) → Option (List D)
  | [] => some cells
  | (i, some d) :: r => match place i with
    | some (off, n) => if d.cnt = n ∧ off + n ≤ cells.length ∧ d.cells.all D.flat = true then fillD place (cells.take off ++ d.cells ++ cells.drop (off + n)) r else none
    | none => none
  | _ => none
def placesT (P : Program) (t : TypeId) : Option (List (Nat × Nat)) := match P.underlying t with
  | some (.struct fields) => fields.toList.mapM fun f => (P.info? f.type).map fun i => (f.offset, i.size)
  | _ => none
/-- every element takes so many cells -/
def rowB (n : Nat) (xs : List D) : Bool := xs.all fun y => y.cnt == n
def atI {α : Type} (xs : List α) (i : Int) : Option α := if 0 ≤ i then xs[i.toNat]? else none

/-- operations that look at temporaries alone and write one -/
def pureOp (P : Program) (e : Operand → AV) : Op → Option AV
  | .move x => some (e x)
  | .pick c a b => match e c with
    | .val (.bool t) => some (match t with | true => e a | false => e b)
    | _ => none
  | .nilCheck x => match e x with
    | .bx b g o => some (.bx b g o)
    | .rp d => some (.rp d)
    | _ => none
  | .binOp op t x y _ => match (e x).d, (e y).d with
    | some a, some b => (binD P op t a b).map .val
    | _, _ => none
  | .unOp op _ x => match (e x).d with
    | some a => (unD op a).map .val
    | none => none
  | .convert src dst x => match (e x).d with
    | some a => (convD P src dst a).map .val
    | none => none
  | .fieldAddr s x i => match fldT P s i, e x with
    | some (off, _, _), .bx b g o => some (.bx b g (o + off))
    | some (off, n, a), .rp (.agg ds) => (subD ds off n a).map .rp
    | _, _ => none
  | .field s x i => match fldT P s i, (e x).d with
    | some (off, n, a), some (.agg ds) => (subD ds off n a).map .val
    | _, _ => none
  | .indexAddr t x i => match (e i).d with
    | some (.int _ i) => match e x with
      | .ms b g m _ => match elT P t with
        | some (_, n, _, _) => if 0 ≤ i ∧ i < m then some (.bx b g (i.toNat * n)) else none
        | none => none
      | .rp (.agg ds) => match arT P t with
        | some (len, n, a) => if 0 ≤ i ∧ i < len ∧ ds.length = len * n then (subD ds (i.toNat * n) n a).map .rp else none
        | none => none
      | x => match elT P t, x.d with
        | some (_, n, _, _), some d => match d.list with
          | some xs => match atI xs i with
            | some d => if d.cnt = n then some (.rp d) else none
            | none => none
          | none => none
        | _, _ => none
    | _ => none
  | .index t x i => match P.underlying t, (e x).d, (e i).d with
    | some .string, some (.str s), some (.int _ i) => match atI s i with
      | some b => some (.val (.int .u8 b.toNat))
      | none => none
    | some (.array _ _), some (.agg ds), some (.int _ i) => match arT P t with
      | some (len, n, a) => if 0 ≤ i ∧ i < len then (subD ds (i.toNat * n) n a).map .val else none
      | none => none
    | _, _, _ => none
  | .makeFunc (.func f) fs cs => match fs.toList, cs.toList with
    | [], [x] => match e x with
      | .bx b g 0 => some (.cl f b g)
      | _ => none
    | _, _ => none
  | .extract x i => match e x with
    | .val (.tup ds) => match ds[i]? with
      | some d => some (.val d)
      | none => none
    | _ => none
  | .slice t x lo hi none => match P.underlying t, (e x).d with
    | some .string, some (.str s) => match cutL s (boundD e lo 0) (boundD e hi s.length) with
      | some r => some (.val (.str r))
      | none => none
    | some (.slice _), some d => match elT P t, d.list with
      | some (_, n, _, _), some xs => if rowB n xs then match cutL xs (boundD e lo 0) (boundD e hi xs.length) with
        | some r => some (.val (.sl r))
        | none => none
        else none
      | _, _ => none
    | _, _ => none
  | .build t parts => match placesT P t, zeroT P t with
    | some pl, some (.agg z) => match fillD (fun i => pl[i]?) z (parts.toList.map fun p => (p.1, (e p.2).d)) with
      | some ds => some (.val (.agg ds))
      | none => none
    | _, _ => none
  | .call { callee := .builtin .len, args := as, argTypes := ts } => match as.toList, ts.toList with
    | [x], [t] => match P.underlying t, (e x).d with
      | some .string, some (.str s) => some (.val (.int .i64 s.length))
      | some (.slice _), some d => match d.list with
        | some xs => some (.val (.int .i64 xs.length))
        | none => none
      | _, _ => none
    | _, _ => none
  | _ => none

/-! boxes -/
def Env.rdCells (e : Env) (b g : Nat) : Nat → Nat → Option (List D)
  | _, 0 => some []
  | o, n + 1 => match (e.bx b g o).d, e.rdCells b g (o + 1) n with
    | some d, some ds => some (d :: ds)
    | _, _ => none
/-- are there cells, so many from o on? -/
def Env.hasCells (e : Env) (b g : Nat) : Nat → Nat → Bool
  | _, 0 => true
  | o, n + 1 => (match e.bx b g o with | .no => false | _ => true) && e.hasCells b g (o + 1) n
/-- data come to lie in the cells from o on -/
def Env.wrCells (e : Env) (b g : Nat) : Nat → List D → Env
  | _, [] => e
  | o, d :: ds => ((e.land (.val d) b (o + 1)).1.setB b g o (e.land (.val d) b (o + 1)).2).wrCells b g (o + 1) ds
def Env.newGen (e : Env) (b : Nat) : Env :=
  { e with gb := fun b' => if b' = b then e.gb b + 1 else e.gb b', bx := fun b' g' o' => if b' = b ∧ g' = e.gb b then .no else e.bx b' g' o' }
/-- a new box: the generation gb of the box b -/
def Env.newBox (e : Env) (b : Nat) (ds : List D) : Env := (e.newGen b).wrCells b (e.gb b) 0 ds

/-- a test: both ways are walked; a rewrite goes into neither before it is decided -/
def Br (t : Bool) (A B : Unit → Prop) : Prop := (t = true → A ()) ∧ (t = false → B ())

/-- more than any slice here takes, in bytes -/
def roomy : Nat := 35184372088832

inductive A where
  | v (d : D)
  | o (d : D)
  | p (fc : Option Nat) (ds : List D)

structure ARes where
  ret : D
  outs : List (List D)

def Env.argA (e : Env) (m : Mode) (x : AV) : Option A :=
  match m with
  | .v => match x.d with | some d => some (.v d) | none => none
  | .o => match x with
    | .own c k g d => match e.lv c k g with | true => some (.o d) | false => none
    | .val .nil => some (.o (.sl []))
    | _ => none
  | .p n => match x with
    | .bx b g 0 => match e.rdCells b g 0 n with | some ds => some (.p none ds) | none => none
    | .cl f b g => match e.rdCells b g 0 n with | some ds => some (.p (some f) ds) | none => none
    | _ => none
def Env.argsA (e : Env) : List Mode → List AV → Option (List A)
  | _, [] => some []
  | [], x :: xs => match e.argA .v x, e.argsA [] xs with
    | some a, some as => some (a :: as)
    | _, _ => none
  | m :: ms, x :: xs => match e.argA m x, e.argsA ms xs with
    | some a, some as => some (a :: as)
    | _, _ => none
def Env.putCells (e : Env) (b g : Nat) : Nat → List D → Env
  | _, [] => e
  | o, d :: ds => (e.setB b g o (.val d)).putCells b g (o + 1) ds
/-- behind a call: what was handed over is gone, the boxes hold what the call left -/
def Env.forget (e : Env) (b g : Nat) : Env := { e with bx := fun b' g' o' => if b' = b ∧ g' = g then .no else e.bx b' g' o' }
def Env.strip (e : Env) : List Mode → List AV → Env
  | .o :: ms, .own c k g _ :: xs => (e.kill c k g).strip ms xs
  | .p _ :: ms, .bx b g _ :: xs => (e.forget b g).strip ms xs
  | .p _ :: ms, .cl _ b g :: xs => (e.forget b g).strip ms xs
  | _ :: ms, _ :: xs => e.strip ms xs
  | _, _ => e
def Env.fillIn (e : Env) : List Mode → List AV → List (List D) → Env
  | .p _ :: ms, .bx b g _ :: xs, ds :: outs => (e.putCells b g 0 ds).fillIn ms xs outs
  | .p _ :: ms, .cl _ b g :: xs, ds :: outs => (e.putCells b g 0 ds).fillIn ms xs outs
  | _ :: ms, _ :: xs, outs => e.fillIn ms xs outs
  | _, _, _ => e
def Env.after (e : Env) (ms : List Mode) (xs : List AV) (outs : List (List D)) : Env := (e.strip ms xs).fillIn ms xs outs
/-- the classes and boxes that a call is handed -/
def argIds : List Mode → List AV → List (Bool × Nat × Nat × Nat)
  | .o :: ms, .own c k g _ :: xs => (true, c, k, g) :: argIds ms xs
  | .p _ :: ms, .bx b g _ :: xs => (false, b, g, 0) :: argIds ms xs
  | .p _ :: ms, .cl _ b g :: xs => (false, b, g, 0) :: argIds ms xs
  | _ :: ms, _ :: xs => argIds ms xs
  | _, _ => []

/-! slices that are filled in place -/
def Env.newMs (e : Env) (b m : Nat) (cs : List D) : Env :=
  { e.newGen b with bx := fun b' g' o' => if b' = b ∧ g' = e.gb b then (if o' < m * cs.length then (match cs[o' % cs.length]? with | some d => .val d | none => .no) else .no) else e.bx b' g' o' }
/-- such a slice becomes data -/
def frz (b g : Nat) (xs : List D) : AV → AV
  | .ms b' g' n sz => if b' = b ∧ g' = g then (if n = xs.length then .val (.sl xs) else .no) else .ms b' g' n sz
  | .bx b' g' o => if b' = b ∧ g' = g then .no else .bx b' g' o
  | .cl f b' g' => if b' = b ∧ g' = g then .no else .cl f b' g'
  | .no => .no
  | .val d => .val d
  | .own c k g' d => .own c k g' d
  | .rp d => .rp d
def Env.unbox (e : Env) (b g : Nat) (xs : List D) : Env :=
  { e with tm := fun i => frz b g xs (e.tm i), bx := fun b' g' o' => if b' = b ∧ g' = g then .no else frz b g xs (e.bx b' g' o'), gb := fun b' => if b' = b then g else e.gb b' }
def frzOk (e : Env) (b g n sz : Nat) (xs : List D) : Prop :=
  e.gb b = g + 1 ∧ b < 100000 ∧ xs.length = n ∧ ∀ (i : Nat) (x : D), xs[i]? = some x → x.cnt = sz ∧ x.isTup = false ∧ ∀ (j : Nat) (d : D), x.cells[j]? = some d → d.flat = true ∧ e.bx b g (i * sz + j) = .val d

/-- the elements that are appended -/
def srcD : D → Option (List D)
  | .nil => some []
  | .sl ys => some ys
  | .str s => some (ofBytes s)
  | _ => none
end Go.Proofs.YtebkaacflocfcaaDoor.Ab

/- Contracts of calls, and the evaluator of code: evW. -/
namespace Go.Proofs.YtebkaacflocfcaaDoor.Ab
open Go
set_option linter.unusedVariables false

/-- the listed package-level variables hold what the context says -/
def Glob (Γ : Ctx) (w : World) (com : Nat → Nat) : Prop := ∀ g d, Γ.G g = some d → DenC w com d g 0

/-- the header of a slice that may be appended to: nil, or the head of a block of its own -/
def Hdr (w : World) (com : Nat → Nat) (κ : Nat) (v : Value) (xs : List D) : Prop :=
  ∃ (cap sz : Nat) (arr : Array Value) (E : TypeId), v = .slice (some ⟨κ, 0, none⟩) xs.length cap ∧ xs ≠ [] ∧ xs.length ≤ cap ∧ 0 < sz ∧ w.heap[κ]? = some (.cells arr E (0, 0)) ∧
    arr.size = cap * sz ∧ com κ = xs.length * sz ∧ ∀ x ∈ xs, x.cnt = sz

def isNil (v : Value) (d : D) : Prop := v = .slice none 0 0 ∧ d = .sl []

/-- a box in memory: its cells, one for each datum from the first on -/
def BoxAt (w : World) (com : Nat → Nat) (k : Nat) (ds : List D) : Prop :=
  com k = 0 ∧ ∃ (arr : Array Value) (E : TypeId), w.heap[k]? = some (.cells arr E (0, 0)) ∧ ∀ (i : Nat) (d : D), ds[i]? = some d → ∃ v, arr[i]? = some v ∧ d.flat = true ∧ Den w com d v

/-- the value that hands a box over: a pointer to it, or a closure that holds one -/
def fnV (fc : Option Nat) (k : Nat) : Value := match fc with
  | none => .pointer (some ⟨k, 0, none⟩)
  | some f => .func (.func f) #[] #[.pointer (some ⟨k, 0, none⟩)]

/-- the arguments of a call: the blocks that are handed over (o), those of the boxes (p) -/
inductive Args (w : World) (com : Nat → Nat) : List A → List Value → List Nat → List Nat → Prop where
  | nil : Args w com [] [] [] []
  | v {d as v vs os ps} : Den w com d v → Args w com as vs os ps → Args w com (.v d :: as) (v :: vs) os ps
  | oNil {as vs os ps} : Args w com as vs os ps → Args w com (.o (.sl []) :: as) (.slice none 0 0 :: vs) os ps
  | o {xs as v vs os ps k} : Den w com (.sl xs) v → Hdr w com k v xs → k ∉ os → k ∉ ps → Args w com as vs os ps → Args w com (.o (.sl xs) :: as) (v :: vs) (k :: os) ps
  | p {fc ds as vs os ps k} : BoxAt w com k ds → k ∉ os → k ∉ ps → Args w com as vs os ps → Args w com (.p fc ds :: as) (fnV fc k :: vs) os (k :: ps)

/-- behind a call: all but the boxes and the handed-over blocks is as it was -/
structure Behind (w : World) (com : Nat → Nat) (os ps : List Nat) (outs : List (List D)) (w' : World) (com' : Nat → Nat) : Prop where
  osame : w'.os = w.os
  tape : w'.tape = w.tape
  output : w'.output = w.output
  size : w.heap.size ≤ w'.heap.size
  old : ∀ b, b < w.heap.size → b ∉ os → b ∉ ps → w'.heap[b]? = w.heap[b]?
  com_old : ∀ b, b < w.heap.size → b ∉ os → com' b = com b
  agree : Agree w w' com com'
  com_new : ∀ b, w'.heap.size ≤ b → com' b = 0
  boxes : outs.length = ps.length ∧ ∀ (i k : Nat) (ds : List D), ps[i]? = some k → outs[i]? = some ds → BoxAt w' com' k ds
  boxes_size : ∀ k, k ∈ ps → ∀ arr E, w.heap[k]? = some (.cells arr E (0, 0)) → ∃ arr', w'.heap[k]? = some (.cells arr' E (0, 0)) ∧ arr'.size = arr.size

/-- the result may be appended to -/
def OwnRes (w : World) (os ps : List Nat) (w' : World) (com' : Nat → Nat) (v : Value) (d : D) : Prop :=
  isNil v d ∨ ∃ xs k, d = .sl xs ∧ Hdr w' com' k v xs ∧ k ∉ ps ∧ (w.heap.size ≤ k ∨ k ∈ os)

def callOk (P : Program) (f : FuncId) : Prop := ∀ (args : Array Value) (w : World), (callFunc f args).run P w = .ok (.enter f args) w

/-- THE CONTRACT: called with these, the function answers that. -/
def ACalls (Γ : Ctx) (f : FuncId) (as : List A) (res : ARes) : Prop :=
  callOk Γ.P f ∧ ∀ (w : World) (com : Nat → Nat) (vs : List Value) (os ps : List Nat), Glob Γ w com → (∀ b, w.heap.size ≤ b → com b = 0) → Args w com as vs os ps →
    Calls Γ.P f vs.toArray w fun e w' => ∃ v com', e = .returned v ∧ Den w' com' res.ret v ∧ Behind w com os ps res.outs w' com' ∧
      (Γ.mr f = true → OwnRes w os ps w' com' v res.ret)

/-! the evaluator -/
def evAppend (Γ : Ctx) (dst : Option Nat) (s x : AV) (ts tx : TypeId) (e : Env) (K : Env → Prop) : Prop :=
  match dst, elT Γ.P ts, Γ.P.underlying tx, x.d with
  | some t, some (_, n, _, by_), some u, some d => match (match u with | .slice _ => srcD d | .string => srcD d | _ => none) with
    | some ys => match s with
      | .val .nil => rowB n ys = true ∧ ys.length * by_ ≤ roomy ∧ K ((e.birth t 0).setT t (.own t 0 (e.gc t 0) (.sl ys)))
      | .own c k g d => match e.lv c k g, d with
        | true, .sl xs => rowB n ys = true ∧ rowB n xs = true ∧ (xs.length + ys.length) * by_ ≤ roomy ∧
            K (((e.kill c k g).birth t 0).setT t (.own t 0 (e.gc t 0) (.sl (xs ++ ys))))
        | _, _ => False
      | _ => False
    | none => False
  | _, _, _, _ => False

def evCall (Γ : Ctx) (dst : Option Nat) (f : FuncId) (xs : List AV) (e : Env) (K : Env → Prop) : Prop :=
  match e.argsA (Γ.md f) xs with
  | some as => (argIds (Γ.md f) xs).Nodup ∧ ∃ res, ACalls Γ f as res ∧
      match dst, Γ.mr f with
      | some t, true => K ((((e.after (Γ.md f) xs res.outs)).birth t 0).setT t (.own t 0 (e.gc t 0) res.ret))
      | dst, _ => K ((e.after (Γ.md f) xs res.outs).setD dst (.val res.ret))
  | none => False

/-- an assignment: a slice that was filled in place becomes data where it comes to stand in the slot 4 -/
def evAsg (e : Env) (x : AV) (d ty : Nat) (K : Env → AV → Prop) : Prop :=
  match x with
  | .ms b g n sz => if d = 4 ∧ ty = 40 then ∃ xs, frzOk e b g n sz xs ∧ K (e.unbox b g xs) (.val (.sl xs)) else K e (.ms b g n sz)
  | x => K (e.land x d 0).1 (e.land x d 0).2
def evMake (Γ : Ctx) (dst : Option Nat) (t : TypeId) (len cap : AV) (e : Env) (K : Env → Prop) : Prop :=
  match dst, elT Γ.P t, len, cap with
  | some s, some (el, n, _, by_), .val (.int .i64 m), .val (.int .i64 m') => m' = m ∧ 0 ≤ m ∧ m * by_ ≤ roomy ∧ match zeroT Γ.P el with
    | some z => z.cnt = n ∧ z.isTup = false ∧ z.cells.all D.flat = true ∧ K ((e.newMs s m.toNat z.cells).setT s (.ms s (e.gb s) m.toNat n))
    | none => False
  | _, _, _, _ => False
def evCopy (Γ : Ctx) (dst : Option Nat) (x y : AV) (tx ty : TypeId) (e : Env) (K : Env → Prop) : Prop :=
  match elT Γ.P tx, Γ.P.underlying ty, x, y.d with
  | some (_, 1, false, _), some (.slice _), .ms b g n 1, some (.sl ys) => rowB 1 ys = true ∧ ys.all (fun d => d.flat) = true ∧ n ≤ ys.length ∧ e.gb b = g + 1 ∧ b < 100000 ∧ e.hasCells b g 0 n = true ∧
      K ((e.unbox b g (ys.take n)).setD dst (.val (.int .i64 n)))
  | _, _, _, _ => False

def evOp (Γ : Ctx) (o : Oper) (e : Env) (K : Env → Prop) : Prop :=
  match o.op with
  | .assign x => match o.dst with
    | some t => evAsg e (e.ev Γ x) t o.type fun e' y => K (e'.setT t y)
    | none => False
  | .makeSlice t len cap => evMake Γ o.dst t (e.ev Γ len) (e.ev Γ cap) e K
  | .load t x => match e.ev Γ x, szT Γ.P t with
    | .bx b g o', some (n, true) => match e.rdCells b g o' n with
      | some ds => g < e.gb b ∧ K (e.setD o.dst (.val (.agg ds)))
      | none => False
    | .bx b g o', some (_, false) => match e.bx b g o' with
      | .no => False
      | y => g < e.gb b ∧ K (e.setD o.dst y)
    | .rp d, some (n, a) => d.isAgg = a ∧ d.cnt = n ∧ K (e.setD o.dst (.val d))
    | _, _ => False
  | .store t x v => match o.dst, e.ev Γ x, szT Γ.P t with
    | none, .bx b g o', some (n, true) => match (e.ev Γ v).d with
      | some (.agg ds) => ds.length = n ∧ e.hasCells b g o' n = true ∧ K (e.wrCells b g o' ds)
      | _ => False
    | none, .bx b g o', some (n, false) => n = 1 ∧ e.hasCells b g o' 1 = true ∧
        match e.ev Γ v with
        | .no => False
        | y => (match y.d with | some d => d.flat | none => true) = true ∧ K ((e.land y b (o' + 1)).1.setB b g o' (e.land y b (o' + 1)).2)
    | _, _, _ => False
  | .alloc t => match o.dst, zeroT Γ.P t with
    | some s, some z => K ((e.newBox s z.cells).setT s (.bx s (e.gb s) 0))
    | _, _ => False
  | .box t x => match o.dst, (e.ev Γ x).d with
    | some s, some (.tup _) => False
    | some s, some z => K ((e.newBox s z.cells).setT s (.bx s (e.gb s) 0))
    | _, _ => False
  | .buildSlice t len parts => match o.dst, elT Γ.P t with
    | some s, some (_, n, a, by_) => match (parts.toList.map fun p => (e.ev Γ p.2).d).mapM (m := Option) id with
      | some ds => parts.toList.map (·.1) = List.range len ∧ ds ≠ [] ∧ rowB n ds = true ∧ ds.length * n ≤ 1000000 ∧ ds.all (fun x => !x.isTup) = true ∧ K ((e.birth s 0).setT s (.own s 0 (e.gc s 0) (.sl ds)))
      | none => False
    | _, _ => False
  | .call c => match c.callee with
    | .value (.func f) => evCall Γ o.dst f (c.args.toList.map (e.ev Γ)) e K
    | .value (.tmp t) => match e.tm t with
      | .cl f b g => evCall Γ o.dst f (c.args.toList.map (e.ev Γ) ++ [.bx b g 0]) e K
      | _ => False
    | .builtin .copy => match c.args.toList, c.argTypes.toList with
      | [x, y], [tx, ty] => evCopy Γ o.dst (e.ev Γ x) (e.ev Γ y) tx ty e K
      | _, _ => False
    | .builtin .append => match c.args.toList, c.argTypes.toList with
      | [s, x], [ts, tx] => evAppend Γ o.dst (e.ev Γ s) (e.ev Γ x) ts tx e K
      | _, _ => False
    | _ => match pureOp Γ.P (e.ev Γ) o.op with
      | some y => K (e.setD o.dst y)
      | none => False
  | op => match pureOp Γ.P (e.ev Γ) op with
    | some y => K (e.setD o.dst y)
    | none => False

def evG (Γ : Ctx) (all : Array Oper) (o : Oper) (e : Env) (K : Env → Prop) : Prop :=
  match o.guard with
  | none => evOp Γ o e K
  | some (j, want) => match (all[j]?).bind (·.dst) with
    | some t => match e.tm t with
      | .val (.bool b) => Br (b == want) (fun _ => evOp Γ o e K) (fun _ => K (e.setD o.dst (.val (.tup []))))
      | .val (.tup []) => K (e.setD o.dst (.val (.tup [])))
      | _ => False
    | none => False
def evOps (Γ : Ctx) (all : Array Oper) : List Oper → Env → (Env → Prop) → Prop
  | [], e, K => K e
  | o :: os, e, K => evG Γ all o e fun e' => evOps Γ all os e' K

inductive X where
  | n
  | x (id : Nat)
  | r

def X.then (next : Env → Prop) (Q : X → Env → Prop) : X → Env → Prop
  | .n, e => next e
  | .x i, e => Q (.x i) e
  | .r, e => Q .r e
def X.inBlock (id : Nat) (Q : X → Env → Prop) : X → Env → Prop
  | .x i, e => if i = id then Q .n e else Q (.x i) e
  | .n, e => Q .n e
  | .r, e => Q .r e

def evW (Γ : Ctx) : Code → (X → Env → Prop) → Env → Prop
  | .skip, Q, e => Q .n e
  | .region _ ops _, Q, e => evOps Γ ops ops.toList e (Q .n)
  | .seq a b, Q, e => evW Γ a (X.then (evW Γ b Q) Q) e
  | .cond c a b, Q, e => match e.ev Γ c with
    | .val (.bool t) => Br t (fun _ => evW Γ a Q e) (fun _ => evW Γ b Q e)
    | _ => False
  | .block id c, Q, e => evW Γ c (X.inBlock id Q) e
  | .loop c, Q, e => ∃ (I : Nat → Env → Prop) (n : Nat), I n e ∧ ∀ n e, I n e → evW Γ c (X.then (fun e' => ∃ n', n' < n ∧ I n' e') Q) e
  | .exit id, Q, e => Q (.x id) e
  | .ret, Q, e => Q .r e
  | _, _, _ => False

/-- a result may be read as another: a known nil as an empty slice -/
inductive Wk : D → D → Prop where
  | refl (d : D) : Wk d d
  | nil : Wk .nil (.sl [])
  | agg {xs ys : List D} : xs.length = ys.length → (∀ (i : Nat) (x y : D), xs[i]? = some x → ys[i]? = some y → Wk x y) → Wk (.agg xs) (.agg ys)
  | tup {xs ys : List D} : xs.length = ys.length → (∀ (i : Nat) (x y : D), xs[i]? = some x → ys[i]? = some y → Wk x y) → Wk (.tup xs) (.tup ys)

/-- the results as the function hands them back -/
def Env.resOf (Γ : Ctx) (e : Env) : ResultVar → Option D
  | .tmp t => (e.tm t).d
  | .cell a t => match e.tm a, szT Γ.P t with
    | .bx b g o, some (n, true) => (e.rdCells b g o n).map .agg
    | .bx b g o, some (_, false) => (e.bx b g o).d
    | _, _ => none
def Env.ress (Γ : Ctx) (e : Env) : List ResultVar → Option (List D)
  | [] => some []
  | r :: rs => match e.resOf Γ r, e.ress Γ rs with
    | some d, some ds => some (d :: ds)
    | _, _ => none
def Env.outsOk (e : Env) : Nat → List A → List (List D) → Prop
  | i, .p _ ds :: as, o :: outs => (∃ ds', e.rdCells (100000 + i) 0 0 o.length = some ds' ∧ WkL ds' o) ∧ e.outsOk (i + 1) as outs
  | i, .p _ _ :: as, [] => False
  | i, _ :: as, outs => e.outsOk (i + 1) as outs
  | _, [], outs => outs = []
where
  WkL (xs ys : List D) : Prop := xs.length = ys.length ∧ ∀ (i : Nat) (x y : D), xs[i]? = some x → ys[i]? = some y → Wk x y

def retOk (Γ : Ctx) (own : Bool) (fn : Func) (as : List A) (res : ARes) (e : Env) : Prop :=
  (match e.ress Γ fn.results.toList with
    | some [d] => Wk d res.ret ∧ (own = true → match fn.results.toList with
        | [.tmp t] => match e.tm t with
          | .own c k g d' => e.lv c k g = true
          | .val .nil => res.ret = .sl []
          | _ => False
        | _ => False)
    | some ds => Wk (.tup ds) res.ret ∧ own = false
    | none => False) ∧ e.outsOk 0 as res.outs

def postF (Γ : Ctx) (own : Bool) (fn : Func) (as : List A) (res : ARes) : X → Env → Prop
  | .n, e => retOk Γ own fn as res e
  | .r, e => retOk Γ own fn as res e
  | _, _ => False

/-- the frame as the call begins -/
def Env.init (as : List A) : Env where
  tm i := match as[i]? with
    | some (.v d) => .val d
    | some (.o d) => .own i 0 0 d
    | some (.p none _) => .bx (100000 + i) 0 0
    | some (.p (some f) _) => .cl f (100000 + i) 0
    | none => .no
  bx b g o := if 100000 ≤ b ∧ g = 0 then match as[b - 100000]? with
      | some (.p _ ds) => match ds[o]? with | some d => .val d | none => .no
      | _ => .no
    else .no
  gb b := if 100000 ≤ b then (match as[b - 100000]? with | some (.p _ _) => 1 | _ => 0) else 0
  lv c k g := match as[c]? with
    | some (.o _) => k == 0 && g == 0
    | _ => false
  gc c k := 1
end Go.Proofs.YtebkaacflocfcaaDoor.Ab

/- How the evaluator's frame stands to the model's: Rel; what each kind of step keeps. -/
namespace Go.Proofs.YtebkaacflocfcaaDoor.Ab
open Go
set_option linter.unusedVariables false
set_option linter.unusedSimpArgs false

inductive Owner where
  | ext
  | box (b g : Nat)
  | cls (c k g : Nat)
  deriving DecidableEq

structure Gh where
  com : Nat → Nat
  β : Nat → Nat → Nat
  κ : Nat → Nat → Nat → Nat
  ρ : Nat → Owner

def AVRel (w : World) (G : Gh) (e : Env) : AV → Value → Prop
  | .no, _ => True
  | .val d, v => Den w G.com d v
  | .own c k g d, v => g < e.gc c k ∧ Den w G.com d v ∧ (e.lv c k g = true → isNil v d ∨ ∃ xs, d = .sl xs ∧ G.ρ (G.κ c k g) = .cls c k g ∧ Hdr w G.com (G.κ c k g) v xs)
  | .bx b g o, v => g < e.gb b ∧ v = .pointer (some ⟨G.β b g, o, none⟩)
  | .rp d, v => ∃ b o, v = .pointer (some ⟨b, o, none⟩) ∧ DenC w G.com d b o
  | .cl f b g, v => g < e.gb b ∧ v = .func (.func f) #[] #[.pointer (some ⟨G.β b g, 0, none⟩)]
  | .ms b g n _, v => g < e.gb b ∧ v = .slice (some ⟨G.β b g, 0, none⟩) n n

theorem AVRel_val {w : World} {G : Gh} {e : Env} {d : D} {v : Value} (h : Den w G.com d v) : AVRel w G e (.val d) v := h

structure Fr (w0 : World) (com0 : (Nat → Nat) × (Nat → Nat)) (os ps : List Nat) (G : Gh) (w : World) : Prop where
  osame : w.os = w0.os
  tape : w.tape = w0.tape
  output : w.output = w0.output
  size : w0.heap.size ≤ w.heap.size
  old : ∀ b, b < w0.heap.size → b ∉ os → b ∉ ps → w.heap[b]? = w0.heap[b]?
  com_old : ∀ b, b < w0.heap.size → b ∉ os → G.com b = com0.1 b
  agree : Agree w0 w com0.1 G.com
  psz : ∀ k, k ∈ ps → ∀ arr E, w0.heap[k]? = some (.cells arr E (0, 0)) → ∃ arr', w.heap[k]? = some (.cells arr' E (0, 0)) ∧ arr'.size = arr.size
  ext_old : ∀ b, b < w0.heap.size → b ∉ os → b ∉ ps → G.ρ b = .ext
  pbox : ∀ k, k ∈ ps → ∃ b g, G.ρ k = .box b g ∧ b = com0.2 k ∧ g = 0 ∧ 100000 ≤ b

/-- a box of the evaluator as it lies in memory -/
def BoxRel (w : World) (G : Gh) (e : Env) (b g : Nat) : Prop :=
  G.ρ (G.β b g) = .box b g ∧ G.com (G.β b g) = 0 ∧ ∃ (arr : Array Value) (E : TypeId), w.heap[G.β b g]? = some (.cells arr E (0, 0)) ∧
    ∀ o, e.bx b g o ≠ .no → ∃ v, arr[o]? = some v ∧ v.oneCell' = true ∧ AVRel w G e (e.bx b g o) v

structure Rel (Γ : Ctx) (nt : Nat) (w0 : World) (com0 : (Nat → Nat) × (Nat → Nat)) (os ps : List Nat) (G : Gh) (e : Env) (a : Act) (w : World) : Prop where
  nt : nt ≤ a.tmps.size
  tm : ∀ t, AVRel w G e (e.tm t) (a.tmps.getD t undef)
  defers : a.defers = []
  bx : ∀ b g, g < e.gb b → BoxRel w G e b g
  ext : ∀ b, w.heap.size ≤ b → G.ρ b = .ext
  com_new : ∀ b, w.heap.size ≤ b → G.com b = 0
  glob : Glob Γ w G.com
  fr : Fr w0 com0 os ps G w
  rb : ∀ k b g, G.ρ k = .box b g → g < e.gb b ∧ G.β b g = k

/-- what a step may change, seen from what stands in temporaries and boxes -/
structure Mv (w : World) (G : Gh) (e : Env) (w' : World) (G' : Gh) (e' : Env) : Prop where
  agree : Agree w w' G.com G'.com
  gb : ∀ b, e.gb b ≤ e'.gb b
  β : ∀ b g, g < e.gb b → G'.β b g = G.β b g
  gc : ∀ c k, e.gc c k ≤ e'.gc c k
  cls : ∀ c k g, g < e.gc c k → e'.lv c k g = true → e.lv c k g = true ∧ G'.κ c k g = G.κ c k g ∧
    (G.ρ (G.κ c k g) = .cls c k g → G'.ρ (G.κ c k g) = .cls c k g ∧ w'.heap[G.κ c k g]? = w.heap[G.κ c k g]? ∧ G'.com (G.κ c k g) = G.com (G.κ c k g))

theorem Mv.refl (w : World) (G : Gh) (e : Env) : Mv w G e w G e :=
  ⟨Agree.refl _ _, fun _ => Nat.le_refl _, fun _ _ _ => rfl, fun _ _ => Nat.le_refl _, fun _ _ _ _ h => ⟨h, rfl, fun h => ⟨h, rfl, rfl⟩⟩⟩

theorem AVRel.mono {w w' : World} {G G' : Gh} {e e' : Env} (m : Mv w G e w' G' e') (x : AV) (v : Value) (h : AVRel w G e x v) : AVRel w' G' e' x v := by
  cases x with
  | no => trivial
  | val d => exact Den.mono m.agree d v h
  | own c k g d =>
    obtain ⟨h1, h2, h3⟩ := h
    refine ⟨Nat.lt_of_lt_of_le h1 (m.gc c k), Den.mono m.agree d v h2, fun hl => ?_⟩
    obtain ⟨l1, l2, l3⟩ := m.cls c k g h1 hl
    rcases h3 l1 with h3 | ⟨xs, rfl, hρ, hh⟩
    · exact .inl h3
    · obtain ⟨r1, r2, r3⟩ := l3 hρ
      refine .inr ⟨xs, rfl, by rw [l2]; exact r1, ?_⟩
      rw [l2]
      obtain ⟨cap, sz, arr, E, q1, q2, q3, q4, q5, q6, q7, q8⟩ := hh
      exact ⟨cap, sz, arr, E, q1, q2, q3, q4, by rw [r2]; exact q5, q6, by rw [r3]; exact q7, q8⟩
  | bx b g o => exact ⟨Nat.lt_of_lt_of_le h.1 (m.gb b), by rw [m.β b g h.1]; exact h.2⟩
  | rp d =>
    obtain ⟨b, o, rfl, hd⟩ := h
    exact ⟨b, o, rfl, DenC.mono m.agree d b o hd⟩
  | cl f b g => exact ⟨Nat.lt_of_lt_of_le h.1 (m.gb b), by rw [m.β b g h.1]; exact h.2⟩
  | ms b g n sz => exact ⟨Nat.lt_of_lt_of_le h.1 (m.gb b), by rw [m.β b g h.1]; exact h.2⟩

theorem AVRel_congr {w : World} {G : Gh} {e e' : Env} (h1 : e'.gb = e.gb) (h2 : e'.lv = e.lv) (h3 : e'.gc = e.gc) (x : AV) (v : Value) : AVRel w G e' x v = AVRel w G e x v := by
  cases x <;> simp only [AVRel, h1, h2, h3]

/-- data that stand in a value of whatever kind -/
theorem AVRel.den {w : World} {G : Gh} {e : Env} {x : AV} {v : Value} (h : AVRel w G e x v) {d : D} (hd : x.d = some d) : Den w G.com d v := by
  cases x <;> simp [AV.d] at hd
  · subst hd; exact h
  · subst hd; exact h.2.1

theorem getD_put (ts : Array Value) (t i : Nat) (v : Value) (ht : t < ts.size) : (ts.setIfInBounds t v).getD i undef = if i = t then v else ts.getD i undef := by
  simp only [Array.getD_eq_getD_getElem?, Array.getElem?_setIfInBounds]
  by_cases h : i = t
  · subst h; simp [ht]
  · simp [h, Ne.symm h]

section
variable {Γ : Ctx} {nt : Nat} {w0 : World} {com0 : (Nat → Nat) × (Nat → Nat)} {os ps : List Nat} {G : Gh} {e : Env} {a : Act} {w : World}

theorem Rel.ev (h : Rel Γ nt w0 com0 os ps G e a w) (x : Operand) : AVRel w G e (e.ev Γ x) (a.eval x) := by
  cases x with
  | tmp t => exact h.tm t
  | func f => trivial
  | global g =>
    simp only [Env.ev]
    cases hg : Γ.G g with
    | none => trivial
    | some d => exact ⟨g, 0, rfl, h.glob g d hg⟩
  | const v =>
    have cell : ∀ v d, ofCell v = some d → Den w G.com d v ∧ d.flat = true := by
      intro v d hd
      unfold ofCell at hd
      split at hd <;> first | (cases hd; done) | (obtain rfl := Option.some.inj hd; simp [Den, D.flat])
    have cells : ∀ (vs : List Value) ds, ofCells vs = some ds → DenL w G.com ds vs ∧ ds.all D.flat = true := by
      intro vs
      induction vs with
      | nil => intro ds hd; simp [ofCells] at hd; subst hd; simp [DenL]
      | cons v vs ih =>
        intro ds hd
        simp only [ofCells] at hd
        split at hd
        · rename_i d ds' h1 h2
          obtain rfl := Option.some.inj hd
          have := ih _ h2
          simp only [DenL, List.all_cons, Bool.and_eq_true]
          exact ⟨⟨v, vs, rfl, (cell v d h1).1, this.1⟩, (cell v d h1).2, this.2⟩
        · cases hd
    simp only [Env.ev, constAV]
    cases hv : ofValue v with
    | none => trivial
    | some d =>
      show Den w G.com d v
      unfold ofValue at hv
      split at hv
      · rename_i cs
        cases hc : ofCells cs.toList with
        | none => rw [hc] at hv; cases hv
        | some ds =>
          rw [hc] at hv; obtain rfl := Option.some.inj hv
          have := cells _ _ hc
          simp only [Den]
          exact ⟨cs.toList, by simp, this.2, this.1⟩
      · exact (cell _ _ hv).1

theorem Rel.setT (h : Rel Γ nt w0 com0 os ps G e a w) {t : Nat} {x : AV} {v : Value} (ht : t < nt) (hv : AVRel w G e x v) :
    Rel Γ nt w0 com0 os ps G (e.setT t x) (a.put (some t) v) w := by
  have hs : t < a.tmps.size := Nat.lt_of_lt_of_le ht h.nt
  refine ⟨by simpa [Act.put] using h.nt, fun i => ?_, h.defers, fun b g hg => ?_, h.ext, h.com_new, h.glob, h.fr, h.rb⟩
  · rw [AVRel_congr (e := e) (e' := e.setT t x) rfl rfl rfl]
    simp only [Env.setT, Act.put, getD_put _ _ _ _ hs]
    split
    · exact hv
    · exact h.tm i
  · obtain ⟨h1, h2, arr, E, h3, h4⟩ := h.bx b g hg
    refine ⟨h1, h2, arr, E, h3, fun o ho => ?_⟩
    obtain ⟨v, q1, q2, q3⟩ := h4 o ho
    exact ⟨v, q1, q2, by rw [AVRel_congr (e := e) (e' := e.setT t x) rfl rfl rfl]; exact q3⟩

theorem Rel.setD (h : Rel Γ nt w0 com0 os ps G e a w) {t : Option Nat} {x : AV} {v : Value} (ht : ∀ i, t = some i → i < nt) (hv : AVRel w G e x v) :
    Rel Γ nt w0 com0 os ps G (e.setD t x) (a.put t v) w := by
  cases t with
  | none => exact h
  | some t => exact h.setT (ht t rfl) hv

/-- a step that leaves the boxes as they are -/
theorem Rel.move (h : Rel Γ nt w0 com0 os ps G e a w) {G' : Gh} {e' : Env} {w' : World} (m : Mv w G e w' G' e')
    (htm : e'.tm = e.tm) (hbx : e'.bx = e.bx) (hgb : e'.gb = e.gb)
    (hρ : ∀ b g, g < e.gb b → G'.ρ (G.β b g) = .box b g ∧ w'.heap[G.β b g]? = w.heap[G.β b g]? ∧ G'.com (G.β b g) = 0)
    (ext : ∀ b, w'.heap.size ≤ b → G'.ρ b = .ext) (com_new : ∀ b, w'.heap.size ≤ b → G'.com b = 0) (fr : Fr w0 com0 os ps G' w')
    (rb : ∀ k b g, G'.ρ k = .box b g → G.ρ k = .box b g) : Rel Γ nt w0 com0 os ps G' e' a w' := by
  refine ⟨h.nt, fun t => ?_, h.defers, fun b g hg => ?_, ext, com_new, fun g d hg => ?_, fr, fun k b g hk => by obtain ⟨r1, r2⟩ := h.rb k b g (rb k b g hk); exact ⟨by rw [hgb]; exact r1, by rw [m.β b g r1]; exact r2⟩⟩
  · rw [htm]; exact (h.tm t).mono m
  · rw [hgb] at hg
    obtain ⟨h1, h2, arr, E, h3, h4⟩ := h.bx b g hg
    obtain ⟨r1, r2, r3⟩ := hρ b g hg
    rw [BoxRel, m.β b g hg, hbx]
    refine ⟨r1, r3, arr, E, by rw [r2]; exact h3, fun o ho => ?_⟩
    obtain ⟨v, q1, q2, q3⟩ := h4 o ho
    exact ⟨v, q1, q2, q3.mono m⟩
  · exact DenC.mono m.agree d g 0 (h.glob g d hg)

/-- a draw -/
theorem Rel.drew (h : Rel Γ nt w0 com0 os ps G e a w) (n : Nat) : Rel Γ nt w0 com0 os ps G e a { w with drawn := n } := by
  have ag : Agree w { w with drawn := n } G.com G.com := ⟨fun _ _ _ => rfl, fun _ => Nat.le_refl _⟩
  refine h.move (G' := G) (e' := e) ⟨ag, fun _ => Nat.le_refl _, fun _ _ _ => rfl, fun _ _ => Nat.le_refl _, fun _ _ _ _ hl => ⟨hl, rfl, fun h => ⟨h, rfl, rfl⟩⟩⟩ rfl rfl rfl
    (fun b g hg => ⟨(h.bx b g hg).1, rfl, (h.bx b g hg).2.1⟩) h.ext h.com_new ?_ (fun _ _ _ hk => hk)
  have f := h.fr
  exact ⟨f.osame, f.tape, f.output, f.size, f.old, f.com_old, f.agree.trans ag, f.psz, f.ext_old, f.pbox⟩

/-- a class is born (nothing stands in it yet) -/
theorem Rel.birth (h : Rel Γ nt w0 com0 os ps G e a w) (c k : Nat) : Mv w G e w G (e.birth c k) ∧ Rel Γ nt w0 com0 os ps G (e.birth c k) a w := by
  have m : Mv w G e w G (e.birth c k) := by
    refine ⟨Agree.refl _ _, fun _ => Nat.le_refl _, fun _ _ _ => rfl, fun c' k' => ?_, fun c' k' g hg hl => ?_⟩
    · simp only [Env.birth]; split
      · rename_i h; obtain ⟨rfl, rfl⟩ := h; omega
      · exact Nat.le_refl _
    · simp only [Env.birth] at hl
      split at hl
      · rename_i h; obtain ⟨rfl, rfl, rfl⟩ := h; omega
      · exact ⟨hl, rfl, fun h => ⟨h, rfl, rfl⟩⟩
  exact ⟨m, h.move m rfl rfl rfl (fun b g hg => ⟨(h.bx b g hg).1, rfl, (h.bx b g hg).2.1⟩) h.ext h.com_new h.fr (fun _ _ _ hk => hk)⟩

theorem birth_lt (e : Env) (c k : Nat) : e.gc c k < (e.birth c k).gc c k := by simp [Env.birth]

/-- a class ends -/
theorem Rel.kill (h : Rel Γ nt w0 com0 os ps G e a w) (c k g : Nat) : Mv w G e w G (e.kill c k g) ∧ Rel Γ nt w0 com0 os ps G (e.kill c k g) a w := by
  have m : Mv w G e w G (e.kill c k g) := by
    refine ⟨Agree.refl _ _, fun _ => Nat.le_refl _, fun _ _ _ => rfl, fun _ _ => Nat.le_refl _, fun c' k' g' hg hl => ?_⟩
    simp only [Env.kill] at hl
    split at hl
    · cases hl
    · exact ⟨hl, rfl, fun h => ⟨h, rfl, rfl⟩⟩
  exact ⟨m, h.move m rfl rfl rfl (fun b g hg => ⟨(h.bx b g hg).1, rfl, (h.bx b g hg).2.1⟩) h.ext h.com_new h.fr (fun _ _ _ hk => hk)⟩

/-- what stands in a class moves to another -/
theorem Rel.rename (h : Rel Γ nt w0 com0 os ps G e a w) {c0 k0 g0 : Nat} (c k : Nat) (hl : e.lv c0 k0 g0 = true) {xs : List D} {v : Value}
    (hg0 : g0 < e.gc c0 k0) (hρ : G.ρ (G.κ c0 k0 g0) = .cls c0 k0 g0) (hh : Hdr w G.com (G.κ c0 k0 g0) v xs) :
    ∃ G', G'.com = G.com ∧ G'.β = G.β ∧ Mv w G e w G' ((e.kill c0 k0 g0).birth c k) ∧ Rel Γ nt w0 com0 os ps G' ((e.kill c0 k0 g0).birth c k) a w ∧
      G'.ρ (G'.κ c k (e.gc c k)) = .cls c k (e.gc c k) ∧ Hdr w G'.com (G'.κ c k (e.gc c k)) v xs := by
  let kk := G.κ c0 k0 g0
  let G' : Gh := { G with κ := fun c' k' g' => if c' = c ∧ k' = k ∧ g' = e.gc c k then kk else G.κ c' k' g', ρ := fun b => if b = kk then .cls c k (e.gc c k) else G.ρ b }
  have m : Mv w G e w G' ((e.kill c0 k0 g0).birth c k) := by
    refine ⟨Agree.refl _ _, fun _ => Nat.le_refl _, fun _ _ _ => rfl, fun c' k' => ?_, fun c' k' g hg hl => ?_⟩
    · simp only [Env.birth, Env.kill]; split
      · rename_i h; obtain ⟨rfl, rfl⟩ := h; omega
      · exact Nat.le_refl _
    · replace hl : (if c' = c ∧ k' = k ∧ g = e.gc c k then true else if c' = c0 ∧ k' = k0 ∧ g = g0 then false else e.lv c' k' g) = true := hl
      by_cases hne : c' = c ∧ k' = k ∧ g = e.gc c k
      · obtain ⟨rfl, rfl, rfl⟩ := hne; omega
      · rw [if_neg hne] at hl
        by_cases hne0 : c' = c0 ∧ k' = k0 ∧ g = g0
        · rw [if_pos hne0] at hl; cases hl
        · rw [if_neg hne0] at hl
          refine ⟨hl, by simp only [G']; rw [if_neg hne], fun hr => ⟨?_, rfl, rfl⟩⟩
          simp only [G']
          rw [if_neg]
          · exact hr
          · intro he
            rw [he] at hr
            rw [show kk = G.κ c0 k0 g0 from rfl, hρ] at hr
            injection hr with r1 r2 r3
            exact hne0 ⟨r1.symm, r2.symm, r3.symm⟩
  have hlt : kk < w.heap.size := by
    obtain ⟨cap, sz, arr, E, _, _, _, _, q5, _⟩ := hh
    rcases Nat.lt_or_ge kk w.heap.size with hlt | hge
    · exact hlt
    · rw [Array.getElem?_eq_none hge] at q5; cases q5
  have ne_of : ∀ b, G.ρ b ≠ .cls c0 k0 g0 → G'.ρ b = G.ρ b := by
    intro b hb
    simp only [G']; rw [if_neg]
    intro he; exact hb (by rw [he]; exact hρ)
  refine ⟨G', rfl, rfl, m, h.move m rfl rfl rfl (fun b g hg => ⟨?_, rfl, (h.bx b g hg).2.1⟩) (fun b hb => ?_) h.com_new ?_ (fun k b g hk => by simp only [G'] at hk; split at hk <;> first | exact hk | cases hk), by simp [G'], by simpa [G'] using hh⟩
  · rw [ne_of _ (by rw [(h.bx b g hg).1]; simp)]; exact (h.bx b g hg).1
  · simp only [G']; rw [if_neg (by omega)]; exact h.ext b hb
  · have f := h.fr
    refine ⟨f.osame, f.tape, f.output, f.size, f.old, f.com_old, f.agree, f.psz, fun b h1 h2 h3 => ?_, fun b hb => ?_⟩
    · have := f.ext_old b h1 h2 h3
      rw [ne_of _ (by rw [this]; simp)]; exact this
    · obtain ⟨b', g', hb', hpp⟩ := f.pbox b hb
      exact ⟨b', g', by rw [ne_of _ (by rw [hb']; simp)]; exact hb', hpp⟩

/-- a value comes to stand in a variable of the class c k -/
theorem Rel.land (h : Rel Γ nt w0 com0 os ps G e a w) (x : AV) (v : Value) (c k : Nat) (hx : AVRel w G e x v) :
    ∃ G', G'.com = G.com ∧ G'.β = G.β ∧ Mv w G e w G' (e.land x c k).1 ∧ Rel Γ nt w0 com0 os ps G' (e.land x c k).1 a w ∧ AVRel w G' (e.land x c k).1 (e.land x c k).2 v := by
  cases x with
  | no => exact ⟨G, rfl, rfl, Mv.refl _ _ _, h, hx⟩
  | bx b g o => exact ⟨G, rfl, rfl, Mv.refl _ _ _, h, hx⟩
  | rp d => exact ⟨G, rfl, rfl, Mv.refl _ _ _, h, hx⟩
  | cl f b g => exact ⟨G, rfl, rfl, Mv.refl _ _ _, h, hx⟩
  | ms b g n sz => exact ⟨G, rfl, rfl, Mv.refl _ _ _, h, hx⟩
  | val d =>
    cases d with
    | nil =>
      obtain ⟨m, r⟩ := h.birth c k
      refine ⟨G, rfl, rfl, m, r, birth_lt e c k, Den.nil_sl hx, fun _ => .inl ⟨?_, rfl⟩⟩
      simpa [AVRel, Den] using hx
    | _ => exact ⟨G, rfl, rfl, Mv.refl _ _ _, h, hx⟩
  | own c0 k0 g0 d =>
    obtain ⟨h1, h2, h3⟩ := hx
    cases hl : e.lv c0 k0 g0 with
    | false => simp only [Env.land, hl]; exact ⟨G, rfl, rfl, Mv.refl _ _ _, h, h2⟩
    | true =>
      simp only [Env.land, hl]
      rcases h3 hl with h3 | ⟨xs, rfl, hρ, hh⟩
      · obtain ⟨m, r⟩ := h.kill c0 k0 g0
        obtain ⟨m', r'⟩ := r.birth c k
        have mm : Mv w G e w G ((e.kill c0 k0 g0).birth c k) :=
          ⟨Agree.refl _ _, fun _ => Nat.le_refl _, fun _ _ _ => rfl, m'.gc, fun c' k' g' hg' hl' => by
            obtain ⟨q1, q2, q3⟩ := m'.cls c' k' g' hg' hl'
            obtain ⟨q1', _, _⟩ := m.cls c' k' g' hg' q1
            exact ⟨q1', q2, q3⟩⟩
        exact ⟨G, rfl, rfl, mm, r', birth_lt (e.kill c0 k0 g0) c k, h2, fun _ => .inl h3⟩
      · obtain ⟨G', g1, g2, m, r, q1, q2⟩ := h.rename c k hl h1 hρ hh
        exact ⟨G', g1, g2, m, r, birth_lt (e.kill c0 k0 g0) c k, by rw [g1]; exact h2, fun _ => .inr ⟨xs, rfl, q1, q2⟩⟩
end
end Go.Proofs.YtebkaacflocfcaaDoor.Ab

/- The operations that look at temporaries alone: the model's run gives what pureOp says. -/
namespace Go.Proofs.YtebkaacflocfcaaDoor.Ab
open Go
set_option linter.unusedVariables false
set_option linter.unusedSimpArgs false

/-! the types' table -/
theorem szT_spec {P : Program} {t n : Nat} {a : Bool} (h : szT P t = some (n, a)) (w : World) : (sizeOf t).run P w = .ok n w ∧ (isAgg t).run P w = .ok a w := by
  unfold szT at h
  split at h
  · rename_i i d hi hd
    injection h with h; injection h with h1 h2
    subst h1 h2
    constructor
    · simp [sizeOf, typeInfo, hi]
    · simp only [isAgg, Sem.run_bind, run_underlying hd, Result.andThen]
      cases d <;> rfl
  · cases h

theorem fldT_spec {P : Program} {s i off n : Nat} {a : Bool} (h : fldT P s i = some (off, n, a)) :
    ∃ fs f, P.underlying s = some (.struct fs) ∧ fs[i]? = some f ∧ f.offset = off ∧ szT P f.type = some (n, a) ∧ n ≠ 0 := by
  unfold fldT at h
  split at h
  · rename_i fs hfs
    split at h
    · rename_i f hf
      split at h
      · rename_i n' a' hs
        split at h
        · cases h
        · rename_i hn
          simp only [Option.some.injEq, Prod.mk.injEq] at h
          obtain ⟨rfl, rfl, rfl⟩ := h
          exact ⟨fs, f, hfs, hf, rfl, hs, hn⟩
      · cases h
    · cases h
  · cases h

theorem elT_spec {P : Program} {t e n by_ : Nat} {a : Bool} (h : elT P t = some (e, n, a, by_)) :
    P.underlying t = some (.slice e) ∧ szT P e = some (n, a) ∧ n ≠ 0 ∧ ∃ i, P.info? e = some i ∧ i.bytes = by_ ∧ i.size = n ∧ by_ ≠ 0 ∧ ∃ z, i.zero = some z ∧ z.cells.size = n := by
  unfold elT at h
  split at h
  · rename_i e' he
    split at h
    · rename_i n' a' i hs hi
      split at h
      · cases h
      · rename_i hn
        simp only [Option.some.injEq, Prod.mk.injEq] at h
        obtain ⟨rfl, rfl, rfl, rfl⟩ := h
        refine ⟨he, hs, fun h => hn (.inl h), i, hi, rfl, ?_, fun h => hn (.inr (.inl h)), ?_⟩
        case refine_2 =>
          cases hz : i.zero with
          | none => exact absurd (.inr (.inr (by simp [hz]))) hn
          | some z => exact ⟨z, rfl, Decidable.byContradiction fun hc => hn (.inr (.inr (by simp [hz]; exact hc)))⟩
        unfold szT at hs
        rw [hi] at hs
        split at hs
        · rename_i i' d h1 h2
          injection hs with hs; injection hs with h3 h4
          injection h1 with h1; subst h1; exact h3
        · cases hs
    · cases h
  · cases h

theorem arT_spec {P : Program} {t len n : Nat} {a : Bool} (h : arT P t = some (len, n, a)) :
    ∃ e, P.underlying t = some (.array len e) ∧ szT P e = some (n, a) ∧ n ≠ 0 := by
  unfold arT at h
  split at h
  · rename_i len' e he
    split at h
    · rename_i n' a' hs
      split at h
      · cases h
      · rename_i hn
        simp only [Option.some.injEq, Prod.mk.injEq] at h
        obtain ⟨rfl, rfl, rfl⟩ := h
        exact ⟨e, he, hs, hn⟩
    · cases h
  · cases h

section
variable {P : Program} {w : World} {com : Nat → Nat}

theorem Den_int {k : IntKind} {n : Int} {v : Value} (h : Den w com (.int k n) v) : v = .int k n := by simpa [Den] using h
theorem Den_bool {b : Bool} {v : Value} (h : Den w com (.bool b) v) : v = .bool b := by simpa [Den] using h
theorem Den_str {s : List UInt8} {v : Value} (h : Den w com (.str s) v) : v = .string ⟨s.toArray⟩ := by simpa [Den] using h

/-- a slice's header, nil or not -/
theorem Den_list {d : D} {xs : List D} {v : Value} (hd : d.list = some xs) (h : Den w com d v) :
    ∃ A c, v = .slice A xs.length c ∧ xs.length ≤ c ∧ (match A with | none => xs = [] | some ad => ad.spot = none ∧ ∃ sz, DenM w com xs sz ad.block ad.off) := by
  cases d <;> simp [D.list] at hd
  · subst hd; simp only [Den] at h; exact ⟨none, 0, h, by simp, by simp⟩
  · subst hd; simp only [Den] at h
    obtain ⟨A, c, e1, e2, e3⟩ := h
    refine ⟨A, c, e1, e2, ?_⟩
    cases A <;> exact e3

theorem Den_flat_one {d : D} {v : Value} (hd : d.flat = true) (h : Den w com d v) : v.oneCell' = true := by
  cases d <;> simp [D.flat] at hd
  · rw [Den_int h]; rfl
  · rw [Den_bool h]; rfl
  · rw [Den_str h]; rfl
  · simp only [Den] at h; rw [h]; rfl
  · simp only [Den] at h; obtain ⟨A, c, rfl, _⟩ := h; rfl

/-- the cells of a value -/
theorem Den_cells {d : D} {v : Value} (h : Den w com d v) : DenL w com d.cells v.cells.toList := by
  cases d with
  | agg xs =>
    simp only [Den] at h
    obtain ⟨vs, rfl, _, hl⟩ := h
    simpa [D.cells, Value.cells] using hl
  | tup xs =>
    simp only [D.cells, DenL]
    simp only [Den] at h
    obtain ⟨vs, rfl, hl⟩ := h
    exact ⟨.tuple vs.toArray, [], rfl, by simp only [Den]; exact ⟨vs, rfl, hl⟩, rfl⟩
  | int k n => rw [Den_int h]; simp [D.cells, DenL, Value.cells, Den]
  | bool k => rw [Den_bool h]; simp [D.cells, DenL, Value.cells, Den]
  | str k => rw [Den_str h]; simp [D.cells, DenL, Value.cells, Den]
  | nil => simp only [Den] at h; subst h; simp [D.cells, DenL, Value.cells, Den]
  | sl xs =>
    have h' := h
    simp only [Den] at h; obtain ⟨A, c, rfl, _⟩ := h
    simp only [D.cells, DenL, Value.cells]
    exact ⟨_, [], rfl, h', rfl⟩

theorem Den_agg {ds : List D} {v : Value} (h : Den w com (.agg ds) v) : ∃ vs : List Value, v = .agg vs.toArray ∧ ds.all D.flat = true ∧ DenL w com ds vs := by simpa [Den] using h

theorem DenL_extract {ds : List D} {vs : List Value} (h : DenL w com ds vs) (off n : Nat) : DenL w com ((ds.drop off).take n) ((vs.drop off).take n) := by
  have hl := DenL_length h
  refine DenL_of (by simp [hl]) fun i x v hi hv => ?_
  rw [List.getElem?_take] at hi hv
  split at hi
  · rename_i hlt
    rw [if_pos hlt] at hv
    rw [List.getElem?_drop] at hi hv
    obtain ⟨u, hu, hd⟩ := DenL_get h (off + i) x hi
    rw [hu] at hv; obtain rfl := Option.some.inj hv; exact hd
  · cases hi

theorem all_flat_extract {ds : List D} (h : ds.all D.flat = true) (off n : Nat) : ((ds.drop off).take n).all D.flat = true := by
  rw [List.all_eq_true] at h ⊢
  exact fun x hx => h x (List.mem_of_mem_drop (List.mem_of_mem_take hx))

theorem subD_val {ds : List D} {vs : List Value} {off n : Nat} {a : Bool} {d : D} {t : TypeId} (hs : szT P t = some (n, a)) (hf : ds.all D.flat = true) (h : DenL w com ds vs)
    (hd : subD ds off n a = some d) : ∃ v, (part t vs.toArray off).run P w = .ok v w ∧ Den w com d v := by
  obtain ⟨h1, h2⟩ := szT_spec hs w
  have hl := DenL_length h
  cases a with
  | true =>
    simp only [subD] at hd
    split at hd
    · rename_i hle
      obtain rfl := Option.some.inj hd
      refine ⟨.agg ((vs.drop off).take n).toArray, ?_, ?_⟩
      · simp only [part, Sem.run_bind, h2, h1, Result.andThen, if_true, Sem.run_pure]
        congr 2
        apply Array.ext'
        simp [Array.toList_extract, List.extract_eq_take_drop]
      · simp only [Den]
        exact ⟨_, rfl, all_flat_extract hf off n, DenL_extract h off n⟩
    · cases hd
  | false =>
    simp only [subD] at hd
    obtain ⟨v, hv, hden⟩ := DenL_get h off d hd
    refine ⟨v, ?_, hden⟩
    simp only [part, Sem.run_bind, h2, Result.andThen, Bool.false_eq_true, if_false]
    simp [hv]

theorem subD_mem {ds : List D} {b o off n : Nat} {a : Bool} {d : D} (h : DenR w com ds b o) (hd : subD ds off n a = some d) : DenC w com d b (o + off) := by
  cases a with
  | true =>
    simp only [subD] at hd
    split at hd
    · obtain rfl := Option.some.inj hd
      refine DenR_of fun i x hi => ?_
      rw [List.getElem?_take] at hi
      split at hi
      · rw [List.getElem?_drop] at hi
        have := DenR_get h (off + i) x hi
        rwa [show o + off + i = o + (off + i) by omega]
      · cases hi
    · cases hd
  | false =>
    simp only [subD] at hd
    obtain ⟨v, hv⟩ := DenR_get h off d hd
    have hfl := hv.2.1
    cases d <;> simp [D.flat] at hfl <;> exact ⟨v, hv⟩

theorem add_none (b o i : Nat) : (⟨b, o, none⟩ : Addr).add i = ⟨b, o + i, none⟩ := by unfold Addr.add; split <;> simp_all
theorem add_spot (a : Addr) (h : a.spot = none) (i : Nat) : a.add i = ⟨a.block, a.off + i, none⟩ := by
  cases a with | mk b o s => simp at h; subst h; exact add_none b o i

theorem beqd {α : Type} [BEq α] [LawfulBEq α] [DecidableEq α] (a b : α) : (a == b) = decide (a = b) := by
  rw [Bool.eq_iff_iff]; simp

theorem run_intD {op : BinOp} {t : TypeId} {k k' : IntKind} {m n : Int} {d : D} (hd : intD op k m n = some d) (hk : op = .shl ∨ op = .shr ∨ k = k') :
    ∃ v, (binOp op t (.int k m) (.int k' n)).run P w = .ok v w ∧ Den w com d v := by
  cases op
  case shl =>
    simp only [intD] at hd
    split at hd
    · cases hd
    · rename_i hne
      obtain rfl := Option.some.inj hd
      exact ⟨_, by simp [binOp, Op.shift, hne]; rfl, by simp [Den]⟩
  case shr =>
    simp only [intD] at hd
    split at hd
    · cases hd
    · rename_i hne
      obtain rfl := Option.some.inj hd
      exact ⟨_, by simp [binOp, Op.shift, hne]; rfl, by simp [Den]⟩
  case quo =>
    obtain rfl : k = k' := by simpa using hk
    simp only [intD] at hd
    split at hd
    · cases hd
    · rename_i hne
      obtain rfl := Option.some.inj hd
      exact ⟨_, by simp [binOp, Op.intDiv, hne]; rfl, by simp [Den]⟩
  case rem =>
    obtain rfl : k = k' := by simpa using hk
    simp only [intD] at hd
    split at hd
    · cases hd
    · rename_i hne
      obtain rfl := Option.some.inj hd
      exact ⟨_, by simp [binOp, Op.intDiv, hne]; rfl, by simp [Den]⟩
  case eql =>
    obtain rfl : k = k' := by simpa using hk
    obtain rfl := Option.some.inj hd
    exact ⟨.bool (m == n), by simp [binOp, Op.intCmp], by simp only [Den]; rw [beqd]⟩
  case neq =>
    obtain rfl : k = k' := by simpa using hk
    obtain rfl := Option.some.inj hd
    exact ⟨.bool (!(m == n)), by simp [binOp, Op.intCmp, bne], by simp only [Den]; rw [beqd]⟩
  all_goals
    obtain rfl : k = k' := by simpa using hk
    simp only [intD, bitsD, Option.map_some, Option.map_none] at hd
    first
      | (cases hd; done)
      | (obtain rfl := Option.some.inj hd
         first
          | exact ⟨_, by simp only [binOp, ne_eq, not_true_eq_false, if_false, Op.intArith, Op.intBits]; rfl, by simp only [Den]⟩
          | exact ⟨_, by simp only [binOp, ne_eq, not_true_eq_false, if_false, Op.intCmp, beqd, bne]; rfl, by simp only [Den]⟩)

theorem run_strD {op : BinOp} {t : TypeId} {s r : List UInt8} {d : D} (h : strD op s r = some d) :
    ∃ v, (binOp op t (.string ⟨s.toArray⟩) (.string ⟨r.toArray⟩)).run P w = .ok v w ∧ Den w com d v := by
  have e1 : ∀ l : List UInt8, (⟨l.toArray⟩ : ByteArray).toList = l := fun l => by rw [ByteArray.toList_eq]
  cases op
  case add =>
    simp only [strD] at h
    split at h
    · rename_i hle
      obtain rfl := Option.some.inj h
      refine ⟨.string ⟨(s ++ r).toArray⟩, ?_, by simp [Den]⟩
      have z1 : (⟨s.toArray⟩ : ByteArray).size = s.length := rfl
      have z2 : (⟨r.toArray⟩ : ByteArray).size = r.length := rfl
      have hm : IntKind.i64.max = 9223372036854775807 := by decide
      simp only [binOp, Op.stringOp, z1, z2, hm]
      rw [if_neg (by omega)]
      have e : ((⟨s.toArray⟩ : ByteArray) ++ ⟨r.toArray⟩) = ⟨(s ++ r).toArray⟩ := by
        apply ByteArray.ext; simp [ByteArray.data_append]
      rw [e]; rfl
    · cases h
  all_goals
    simp only [strD] at h
    first
      | (cases h; done)
      | (obtain rfl := Option.some.inj h
         exact ⟨_, by simp only [binOp, Op.stringOp, e1, beqd]; rfl, by simp only [Den]⟩)

/-! the operations -/
theorem run_equalIn_bool {t : TypeId} (n : Nat) (a b : Bool) (hu : P.underlying t = some .bool) : (Op.equalIn (n + 1) t (.bool a) (.bool b)).run P w = .ok (a == b) w := by
  simp [Op.equalIn, run_underlying hu]
theorem run_binD {op : BinOp} {t : TypeId} {a b d : D} {x y : Value} (px py : Operand) (h : binD P op t a b = some d) (hx : Den w com a x) (hy : Den w com b y) :
    ∃ v, (do eqGuard op t px py x y; binOp op t x y : Sem Value).run P w = .ok v w ∧ Den w com d v := by
  cases a with
  | int k m =>
    cases b with
    | int k' n =>
      obtain rfl := Den_int hx
      obtain rfl := Den_int hy
      have hg : (eqGuard op t px py (.int k m) (.int k' n)).run P w = .ok () w := by
        unfold eqGuard; split <;> simp
      simp only [Sem.run_bind, hg, Result.andThen]
      simp only [binD] at h
      split at h
      · exact run_intD h (.inl rfl)
      · exact run_intD h (.inr (.inl rfl))
      · split at h
        · rename_i hk; exact run_intD h (.inr (.inr hk))
        · cases h
    | _ => simp [binD] at h
  | str s =>
    cases b with
    | str r =>
      obtain rfl := Den_str hx
      obtain rfl := Den_str hy
      have hg : (eqGuard op t px py (.string ⟨s.toArray⟩) (.string ⟨r.toArray⟩)).run P w = .ok () w := by
        unfold eqGuard; split <;> simp
      simp only [Sem.run_bind, hg, Result.andThen]
      exact run_strD (by simpa [binD] using h)
    | _ => simp [binD] at h
  | bool s =>
    cases b with
    | bool r =>
      obtain rfl := Den_bool hx
      obtain rfl := Den_bool hy
      have hg : (eqGuard op t px py (.bool s) (.bool r)).run P w = .ok () w := by
        unfold eqGuard; split <;> simp
      simp only [Sem.run_bind, hg, Result.andThen]
      simp only [binD] at h
      split at h
      · rename_i hu
        obtain rfl := Option.some.inj h
        refine ⟨.bool (s == r), ?_, by simp [Den]⟩
        simp [binOp, Op.equal, Op.maxDepth, run_equalIn_bool 9999 s r hu]
      · rename_i hu
        obtain rfl := Option.some.inj h
        refine ⟨.bool (!(s == r)), ?_, by simp [Den]⟩
        simp [binOp, Op.equal, Op.maxDepth, run_equalIn_bool 9999 s r hu]
      · cases h
    | _ => simp [binD] at h
  | _ => cases b <;> simp [binD] at h

theorem run_unD {op : UnOp} {a d : D} {x : Value} (h : unD op a = some d) (hx : Den w com a x) : ∃ v, (Op.unary op x).run P w = .ok v w ∧ Den w com d v := by
  unfold unD at h
  split at h
  · rw [Den_int hx]; obtain rfl := Option.some.inj h
    exact ⟨_, rfl, by simp [Den]⟩
  · rw [Den_int hx]
    simp only [bitsD, Option.map_some] at h
    obtain rfl := Option.some.inj h
    exact ⟨_, rfl, by simp [Den]⟩
  · rw [Den_bool hx]; obtain rfl := Option.some.inj h
    exact ⟨_, rfl, by simp [Den]⟩
  · cases h
end
end Go.Proofs.YtebkaacflocfcaaDoor.Ab

/- pureOp against the model's run, operation by operation. -/
namespace Go.Proofs.YtebkaacflocfcaaDoor.Ab
open Go
set_option linter.unusedVariables false
set_option linter.unusedSimpArgs false

section
variable {P : Program} {w : World} {com : Nat → Nat}

theorem bytesOfD_spec : ∀ {xs : List D} {l : List UInt8}, bytesOfD xs = some l → ∃ ns : List Int, xs = ns.map (D.int .u8) ∧ l = ns.map fun n => UInt8.ofNat n.toNat := by
  intro xs
  induction xs with
  | nil => intro l h; simp [bytesOfD] at h; subst h; exact ⟨[], rfl, rfl⟩
  | cons x xs ih =>
    intro l h
    unfold bytesOfD at h
    split at h
    · cases h; rename_i h; cases h
    · rename_i n r heq
      injection heq with h1 h2
      subst h1 h2
      split at h
      · rename_i l' hl
        obtain rfl := Option.some.inj h
        obtain ⟨ns, e1, e2⟩ := ih hl
        exact ⟨n :: ns, by simp [e1], by simp [e2]⟩
      · cases h
    · cases h

theorem foldl_push (ns : List Int) : ∀ (l : List UInt8), ns.foldl (fun (r : ByteArray) n => r.push (UInt8.ofNat n.toNat)) ⟨l.toArray⟩ = ⟨(l ++ ns.map fun n => UInt8.ofNat n.toNat).toArray⟩ := by
  induction ns with
  | nil => intro l; simp
  | cons n ns ih =>
    intro l
    simp only [List.foldl_cons, List.map_cons]
    have : (⟨l.toArray⟩ : ByteArray).push (UInt8.ofNat n.toNat) = ⟨(l ++ [UInt8.ofNat n.toNat]).toArray⟩ := by
      apply ByteArray.ext; simp [ByteArray.push]
    rw [this, ih]; simp

theorem run_convD {src dst : TypeId} {a d : D} {x : Value} (h : convD P src dst a = some d) (hx : Den w com a x) : ∃ v, (convert src dst x).run P w = .ok v w ∧ Den w com d v := by
  unfold convD at h
  split at h
  · rename_i u k k' n hs hd
    obtain rfl := Den_int hx
    obtain rfl := Option.some.inj h
    exact ⟨.int k (k.wrap n), by simp [convert, run_underlying hs, run_underlying hd, Conv.intToInt], by simp [Den]⟩
  · rename_i u s hs hd
    obtain rfl := Den_str hx
    obtain rfl := Option.some.inj h
    exact ⟨_, by simp only [convert, Sem.run_bind, run_underlying hs, run_underlying hd, Result.andThen]; rfl, by simp [Den]⟩
  · rename_i e xs hs hd
    split at h
    · rename_i he
      cases hb : bytesOfD xs with
      | none => simp [hb] at h
      | some l =>
        simp only [hb, Option.map_some] at h
        obtain rfl := Option.some.inj h
        obtain ⟨ns, e1, e2⟩ := bytesOfD_spec hb
        obtain ⟨A, c, rfl, hc, hA⟩ := Den_list (d := .sl xs) rfl hx
        refine ⟨.string ⟨l.toArray⟩, ?_, by simp [Den]⟩
        cases A with
        | none =>
          simp only at hA
          subst hA
          have : ns = [] := by cases ns with | nil => rfl | cons => simp at e1
          subst this
          simp only [List.map_nil] at e2
          subst e2
          simp only [convert, Sem.run_bind, run_underlying hs, run_underlying hd, Result.andThen, run_underlying he, Conv.bytesToString]
          rfl
        | some ad =>
          obtain ⟨hsp, sz, hM⟩ := hA
          have hcell : ∀ j v, (ns.map (Value.int .u8))[j]? = some v → w.cell? (ad.add j) = some v := by
            intro j v hj
            rw [List.getElem?_map] at hj
            cases hn : ns[j]? with
            | none => simp [hn] at hj
            | some n =>
              simp only [hn, Option.map_some, Option.some.injEq] at hj
              subst hj
              have hx : xs[j]? = some (.int .u8 n) := by rw [e1, List.getElem?_map, hn]; rfl
              obtain ⟨q1, q2⟩ := DenM_get hM j _ hx
              have : sz = 1 := by simpa [D.cnt, D.cells] using q1.symm
              subst this
              obtain ⟨v, ⟨_, hv⟩, _, hd'⟩ := q2
              rw [Den_int hd'] at hv
              rw [add_spot ad hsp]
              simpa using hv
          have hl : xs.length = (ns.map (Value.int .u8)).length := by simp [e1]
          have hload := run_loadCells_list (P := P) w ad (ns.map (Value.int .u8)) hcell
          rw [← hl] at hload
          simp only [convert, Sem.run_bind, run_underlying hs, run_underlying hd, Result.andThen, run_underlying he]
          rw [run_bytesToString w ad xs.length c ns hload]
          congr 2
          have := foldl_push ns []
          simp only [List.nil_append] at this
          rw [e2, ← this]; rfl
    · cases h
  · rename_i e hs hd
    split at h
    · rename_i he
      obtain rfl := Option.some.inj h
      simp only [Den] at hx
      subst hx
      refine ⟨.string ⟨#[]⟩, ?_, by simp [Den]⟩
      simp only [convert, Sem.run_bind, run_underlying hs, run_underlying hd, Result.andThen, run_underlying he, Conv.bytesToString]
      rfl
    · cases h
  · cases h

theorem atI_some {α : Type} {xs : List α} {i : Int} {x : α} (h : atI xs i = some x) : 0 ≤ i ∧ i < xs.length ∧ xs[i.toNat]? = some x := by
  unfold atI at h
  split at h
  · rename_i h0
    have hlt : i.toNat < xs.length := by
      rcases Nat.lt_or_ge i.toNat xs.length with h' | h'
      · exact h'
      · rw [List.getElem?_eq_none h'] at h; cases h
    exact ⟨h0, by omega, h⟩
  · cases h

theorem cutL_some {α : Type} {xs r : List α} {lo hi : Option Int} (h : cutL xs lo hi = some r) :
    ∃ l u : Int, lo = some l ∧ hi = some u ∧ 0 ≤ l ∧ l ≤ u ∧ u ≤ xs.length ∧ r = (xs.take u.toNat).drop l.toNat := by
  unfold cutL at h
  split at h
  · rename_i l u
    split at h
    · rename_i hb
      obtain rfl := Option.some.inj h
      exact ⟨l, u, rfl, rfl, hb.1, hb.2.1, hb.2.2, rfl⟩
    · cases h
  · cases h

/-- the bounds of a cut -/
theorem run_bounds {G : Gh} {e : Env} {Γ : Ctx} {a : Act} (hev : ∀ x, AVRel w G e (e.ev Γ x) (a.eval x)) (isS : Bool) (len cap : Nat) (hc : len ≤ cap) (lo hi : Option Operand) {l u : Int}
    (hl : boundD (e.ev Γ) lo 0 = some l) (hu : boundD (e.ev Γ) hi len = some u) (h0 : 0 ≤ l) (h1 : l ≤ u) (h2 : u ≤ len) :
    (Instr.sliceBounds isS len cap (lo.map a.eval) (hi.map a.eval) none).run P w = .ok (l.toNat, u.toNat, cap) w := by
  have val : ∀ (o : Option Operand) (d0 i : Int), boundD (e.ev Γ) o d0 = some i → (o = none ∧ i = d0) ∨ ∃ x k, o = some x ∧ a.eval x = .int k i := by
    intro o d0 i h
    cases o with
    | none => simp [boundD] at h; exact .inl ⟨rfl, h.symm⟩
    | some x =>
      simp only [boundD] at h
      split at h
      · rename_i k j hd
        obtain rfl := Option.some.inj h
        exact .inr ⟨x, k, rfl, Den_int ((hev x).den hd)⟩
      · cases h
  have bnd : ∀ (k : IntKind) (i : Int) (y : Nat) (code : BoundsCode), 0 ≤ i → i ≤ y → (Instr.sliceBound (.int k i) y code).run P w = .ok i.toNat w := by
    intro k i y code g0 g1
    simp [Instr.sliceBound, asIntOf, g0, g1]
  rcases val hi len u hu with ⟨rfl, rfl⟩ | ⟨x, k, rfl, hx⟩
  · rcases val lo 0 l hl with ⟨rfl, rfl⟩ | ⟨y, k', rfl, hy⟩
    · simp [Instr.sliceBounds]
    · simp [Instr.sliceBounds, hy, bnd k' l len _ h0 h1]
  · rcases val lo 0 l hl with ⟨rfl, rfl⟩ | ⟨y, k', rfl, hy⟩
    · simp [Instr.sliceBounds, hx, bnd k u cap _ (by omega) (by omega)]
    · simp [Instr.sliceBounds, hx, hy, bnd k u cap _ (by omega) (by omega), bnd k' l u.toNat _ h0 (by omega)]

theorem foldl_fill (off : Nat) : ∀ (vs : List Value) (j : Nat) (cs : Array Value), off + j + vs.length ≤ cs.size →
    ((vs.zipIdx j).foldl (fun (cs : Array Value) (p : Value × Nat) => cs.setIfInBounds (off + p.2) p.1) cs).toList = cs.toList.take (off + j) ++ vs ++ cs.toList.drop (off + j + vs.length) := by
  intro vs
  induction vs with
  | nil => intro j cs h; simp
  | cons v vs ih =>
    intro j cs h
    simp only [List.length_cons] at h
    simp only [List.zipIdx_cons, List.foldl_cons]
    rw [ih (j + 1) _ (by simp; omega)]
    simp only [Array.toList_setIfInBounds]
    have hlt : off + j < cs.toList.length := by simp; omega
    rw [show off + (j + 1) = off + j + 1 by omega, List.take_succ_eq_append_getElem (by simpa using hlt)]
    simp only [List.getElem_set_self, List.append_assoc, List.singleton_append, List.length_cons]
    rw [List.take_set_of_le (by omega), show off + j + 1 + vs.length = off + j + (vs.length + 1) by omega, List.drop_set_of_lt (by omega)]

theorem DenL_append {xs ys : List D} {vs us : List Value} (h : DenL w com xs vs) (k : DenL w com ys us) : DenL w com (xs ++ ys) (vs ++ us) := by
  induction xs generalizing vs with
  | nil => simp [DenL] at h; subst h; simpa using k
  | cons x xs ih =>
    simp only [DenL] at h
    obtain ⟨v, r, rfl, hv, hr⟩ := h
    simp only [List.cons_append, DenL]
    exact ⟨v, r ++ us, rfl, hv, ih hr⟩

theorem DenL_take {xs : List D} {vs : List Value} (h : DenL w com xs vs) (n : Nat) : DenL w com (xs.take n) (vs.take n) := by
  simpa using DenL_extract h 0 n
theorem DenL_drop {xs : List D} {vs : List Value} (h : DenL w com xs vs) (n : Nat) : DenL w com (xs.drop n) (vs.drop n) := by
  have := DenL_extract h n (xs.length)
  rwa [List.take_of_length_le (by simp), List.take_of_length_le (by simp [DenL_length h])] at this

theorem fillD_spec {place : Nat → Option (Nat × Nat)} : ∀ {parts : List (Nat × Option D)} {cells ds : List D} {vparts : List (Nat × Value)} {vcells : Array Value},
    fillD place cells parts = some ds → vparts.map (·.1) = parts.map (·.1) → (∀ (i : Nat) (p : Nat × Option D) (q : Nat × Value) (d : D), parts[i]? = some p → vparts[i]? = some q → p.2 = some d → Den w com d q.2) →
    DenL w com cells vcells.toList → cells.all D.flat = true → ∃ vs, Instr.fill place vcells vparts = some vs ∧ DenL w com ds vs.toList ∧ ds.all D.flat = true := by
  intro parts
  induction parts with
  | nil =>
    intro cells ds vparts vcells h hm hd hc hf
    simp only [fillD, Option.some.injEq] at h
    subst h
    have : vparts = [] := by simpa using hm
    subst this
    exact ⟨vcells, rfl, hc, hf⟩
  | cons p parts ih =>
    intro cells ds vparts vcells h hm hd hc hf
    cases vparts with
    | nil => simp at hm
    | cons q vparts =>
      simp only [List.map_cons, List.cons.injEq] at hm
      obtain ⟨i, od⟩ := p
      obtain ⟨i', v⟩ := q
      obtain ⟨rfl, hm⟩ := hm
      unfold fillD at h
      split at h
      · rename_i heq; cases heq
      · rename_i i2 d r heq
        injection heq with heq1 heq2
        injection heq1 with e1 e2
        subst e1 e2 heq2
        have hv : Den w com d v := hd 0 (i', some d) (i', v) d rfl rfl rfl
        split at h
        · rename_i off n hp
          split at h
          · rename_i hb
            obtain ⟨b1, b2, b3⟩ := hb
            have hcv := Den_cells hv
            have hlen : v.cells.toList.length = d.cnt := DenL_length hcv
            have hsz : v.cells.size = n := by simpa [b1] using hlen
            have hcl : vcells.size = cells.length := by simpa using DenL_length hc
            have hfill : (v.cells.zipIdx.foldl (fun (cs : Array Value) (p : Value × Nat) => cs.setIfInBounds (off + p.2) p.1) vcells).toList = vcells.toList.take off ++ v.cells.toList ++ vcells.toList.drop (off + n) := by
              have := foldl_fill off v.cells.toList 0 vcells (by simp [hsz]; omega)
              simp only [Nat.add_zero, Array.length_toList, hsz] at this
              rw [← this]
              congr 1
              rw [← Array.foldl_toList, Array.toList_zipIdx]
            obtain ⟨vs, q1, q2, q3⟩ := ih (vparts := vparts) (vcells := v.cells.zipIdx.foldl (fun (cs : Array Value) (p : Value × Nat) => cs.setIfInBounds (off + p.2) p.1) vcells) h hm
              (fun j p' q' d' h1 h2 h3 => hd (j + 1) p' q' d' (by simpa using h1) (by simpa using h2) h3)
              (by rw [hfill]; exact DenL_append (DenL_append (DenL_take hc off) hcv) (DenL_drop hc _))
              (by
                simp only [List.all_append, Bool.and_eq_true]
                rw [List.all_eq_true] at hf
                exact ⟨⟨List.all_eq_true.2 fun x hx => hf x (List.mem_of_mem_take hx), b3⟩, List.all_eq_true.2 fun x hx => hf x (List.mem_of_mem_drop hx)⟩)
            refine ⟨vs, ?_, q2, q3⟩
            simp only [Instr.fill, hp]
            rw [if_neg (by simp [hsz, hcl]; omega)]
            exact q1
          · cases h
        · cases h
      · cases h

theorem ofCell_den {v : Value} {d : D} (hd : ofCell v = some d) : Den w com d v ∧ d.flat = true := by
  unfold ofCell at hd
  split at hd <;> first | (cases hd; done) | (obtain rfl := Option.some.inj hd; simp [Den, D.flat])
theorem ofCells_den : ∀ {vs : List Value} {ds : List D}, ofCells vs = some ds → DenL w com ds vs ∧ ds.all D.flat = true := by
  intro vs
  induction vs with
  | nil => intro ds hd; simp [ofCells] at hd; subst hd; simp [DenL]
  | cons v vs ih =>
    intro ds hd
    simp only [ofCells] at hd
    split at hd
    · rename_i d ds' h1 h2
      obtain rfl := Option.some.inj hd
      have := ih h2
      simp only [DenL, List.all_cons, Bool.and_eq_true]
      exact ⟨⟨v, vs, rfl, (ofCell_den h1).1, this.1⟩, (ofCell_den (w := w) (com := com) h1).2, this.2⟩
    · cases hd
theorem zeroT_spec {t : TypeId} {z : D} (h : zeroT P t = some z) : ∃ i v, P.info? t = some i ∧ i.zero = some v ∧ DenL w com z.cells v.cells.toList ∧ z.cells.all D.flat = true ∧ Den w com z v ∧ (∀ ds, z ≠ .tup ds) := by
  unfold zeroT at h
  split at h
  · rename_i i hi
    split at h
    · rename_i v hv
      refine ⟨i, v, hi, hv, ?_⟩
      unfold ofValue at h
      split at h
      · rename_i cs
        cases hc : ofCells cs.toList with
        | none => simp [hc] at h
        | some ds =>
          simp only [hc, Option.map_some] at h
          obtain rfl := Option.some.inj h
          have := ofCells_den (w := w) (com := com) hc
          exact ⟨by simpa [D.cells, Value.cells] using this.1, by simpa [D.cells] using this.2, by simp only [Den]; exact ⟨cs.toList, by simp, this.2, this.1⟩, fun _ h => by cases h⟩
      · have := ofCell_den (w := w) (com := com) h
        refine ⟨Den_cells this.1, ?_, this.1, fun ds hds => ?_⟩
        · cases z <;> simp [D.flat] at this <;> simp [D.cells, D.flat]
        · subst hds; simp [D.flat] at this
    · cases h
  · cases h
end
end Go.Proofs.YtebkaacflocfcaaDoor.Ab

/- pureOp_sound. -/
namespace Go.Proofs.YtebkaacflocfcaaDoor.Ab
open Go
set_option linter.unusedVariables false
set_option linter.unusedSimpArgs false

section
variable {Γ : Ctx} {w : World} {G : Gh} {e : Env} {a : Act}

theorem rp_den {d : D} {v : Value} (h : AVRel w G e (.rp d) v) : ∃ b o, v = .pointer (some ⟨b, o, none⟩) ∧ DenC w G.com d b o := h

theorem exec_fieldAddr (hev : ∀ x, AVRel w G e (e.ev Γ x) (a.eval x)) {s : TypeId} {x : Operand} {i : Nat} {y : AV}
    (h : pureOp Γ.P (e.ev Γ) (.fieldAddr s x i) = some y) : ∃ v, (Instr.fieldAt s (a.eval x) i).run Γ.P w = .ok v w ∧ AVRel w G e y v := by
  have hx := hev x
  have place : ∀ {off n : Nat} {ag : Bool} (b o : Nat), fldT Γ.P s i = some (off, n, ag) →
      (Instr.fieldAt s (.pointer (some ⟨b, o, none⟩)) i).run Γ.P w = .ok (.pointer (some ⟨b, o + off, none⟩)) w := by
    intro off n ag b o hf
    obtain ⟨fs, f, h1, h2, rfl, h3, h4⟩ := fldT_spec hf
    have h5 := (szT_spec h3 w).1
    simp [Instr.fieldAt, run_underlying h1, h2, Instr.sureAddr, fieldPlace, h5, h4, add_none]
  simp only [pureOp] at h
  split at h
  · rename_i off n ag b g o hf hx'
    obtain rfl := Option.some.inj h
    rw [hx'] at hx
    obtain ⟨hg, hv⟩ := hx
    exact ⟨_, by rw [hv]; exact place _ _ hf, hg, rfl⟩
  · rename_i off n ag ds hf hx'
    rw [hx'] at hx
    obtain ⟨b, o, hv, hden⟩ := rp_den hx
    cases hs : subD ds off n ag with
    | none => rw [hs] at h; cases h
    | some d =>
      rw [hs] at h; obtain rfl := Option.some.inj h
      exact ⟨_, by rw [hv]; exact place _ _ hf, b, o + off, rfl, subD_mem hden hs⟩
  · cases h

theorem exec_field (hev : ∀ x, AVRel w G e (e.ev Γ x) (a.eval x)) {s : TypeId} {x : Operand} {i : Nat} {y : AV}
    (h : pureOp Γ.P (e.ev Γ) (.field s x i) = some y) : ∃ v, (Instr.field s (a.eval x) i).run Γ.P w = .ok v w ∧ AVRel w G e y v := by
  simp only [pureOp] at h
  split at h
  · rename_i off n ag ds hf hx
    cases hs : subD ds off n ag with
    | none => rw [hs] at h; cases h
    | some d =>
      rw [hs] at h; obtain rfl := Option.some.inj h
      obtain ⟨vs, hv, hfl, hl⟩ := Den_agg ((hev x).den hx)
      obtain ⟨fs, f, h1, h2, rfl, h3, h4⟩ := fldT_spec hf
      obtain ⟨v, q1, q2⟩ := subD_val (P := Γ.P) h3 hfl hl hs
      exact ⟨v, by rw [hv]; simp [Instr.field, run_underlying h1, h2, asAgg, q1], q2⟩
  · cases h

theorem exec_indexAddr (hev : ∀ x, AVRel w G e (e.ev Γ x) (a.eval x)) {t : TypeId} {x ix : Operand} {y : AV}
    (h : pureOp Γ.P (e.ev Γ) (.indexAddr t x ix) = some y) : ∃ v, (Instr.indexAt t (a.eval x) (a.eval ix)).run Γ.P w = .ok v w ∧ AVRel w G e y v := by
  simp only [pureOp] at h
  split at h
  · rename_i k i hi
    have hxi := Den_int ((hev ix).den hi)
    rw [hxi]
    split at h
    · rename_i b g m szz hx
      have hxr := hev x
      rw [hx] at hxr
      obtain ⟨hg, hv⟩ := hxr
      split at h
      · rename_i el n ag by_ hE
        split at h
        · rename_i hb
          obtain ⟨b0, b1⟩ := hb
          obtain rfl := Option.some.inj h
          obtain ⟨h1, h2, h3, i', h5, h6, h7, h8, _⟩ := elT_spec hE
          have h4 := (szT_spec h2 w).1
          refine ⟨.pointer (some ⟨G.β b g, i.toNat * n, none⟩), ?_, hg, rfl⟩
          rw [hv]
          have b1' : i < (m : Int) := b1
          simp [Instr.indexAt, asIntOf, run_underlying h1, b0, b1', h4, add_none]
        · cases h
      · cases h
    · rename_i ds hx
      have hxr := hev x
      rw [hx] at hxr
      obtain ⟨b, o, hv, hden⟩ := rp_den hxr
      split at h
      · rename_i len n ag hA
        split at h
        · rename_i hb
          obtain ⟨b0, b1, b2⟩ := hb
          cases hs : subD ds (i.toNat * n) n ag with
          | none => rw [hs] at h; cases h
          | some d =>
            rw [hs] at h; obtain rfl := Option.some.inj h
            obtain ⟨el, h1, h2, h3⟩ := arT_spec hA
            have h4 := (szT_spec h2 w).1
            refine ⟨.pointer (some ⟨b, o + i.toNat * n, none⟩), ?_, b, _, rfl, subD_mem hden hs⟩
            rw [hv]
            simp [Instr.indexAt, asIntOf, run_underlying h1, Instr.sureAddr, b0, b1, h4, add_none]
        · cases h
      · cases h
    · split at h
      · rename_i _ _ el n ag by_ d hE hd
        split at h
        · rename_i xs hl
          split at h
          · rename_i d' hat
            split at h
            · rename_i hc
              obtain rfl := Option.some.inj h
              obtain ⟨b0, b1, b2⟩ := atI_some hat
              obtain ⟨A, c, hv, hc', hA⟩ := Den_list hl ((hev x).den hd)
              obtain ⟨h1, h2, h3, i', h5, h6, h7, h8, _⟩ := elT_spec hE
              have h4 := (szT_spec h2 w).1
              rw [hv]
              cases A with
              | none => simp only at hA; subst hA; simp at b2
              | some ad =>
                obtain ⟨hsp, sz, hM⟩ := hA
                obtain ⟨q1, q2⟩ := DenM_get hM _ _ b2
                rw [hc] at q1; subst q1
                refine ⟨.pointer (some ⟨ad.block, ad.off + i.toNat * n, none⟩), ?_, _, _, rfl, q2⟩
                simp [Instr.indexAt, asIntOf, run_underlying h1, b0, b1, h4, add_spot ad hsp]
            · cases h
          · cases h
        · cases h
      · cases h
  · cases h

theorem exec_index (hev : ∀ x, AVRel w G e (e.ev Γ x) (a.eval x)) {t : TypeId} {x ix : Operand} {y : AV}
    (h : pureOp Γ.P (e.ev Γ) (.index t x ix) = some y) : ∃ v, (Instr.index t (a.eval x) (a.eval ix)).run Γ.P w = .ok v w ∧ AVRel w G e y v := by
  simp only [pureOp] at h
  split at h
  · rename_i s k i hu hx hi
    rw [Den_int ((hev ix).den hi), Den_str ((hev x).den hx)]
    split at h
    · rename_i b hat
      obtain rfl := Option.some.inj h
      obtain ⟨b0, b1, b2⟩ := atI_some hat
      refine ⟨.int .u8 b.toNat, ?_, by simp [AVRel, Den]⟩
      have hlt : i.toNat < s.length := by omega
      have hg : (⟨s.toArray⟩ : ByteArray)[i.toNat]? = some b := by
        have : (⟨s.toArray⟩ : ByteArray).size = s.length := rfl
        rw [getElem?_pos _ _ (by rw [this]; exact hlt)]
        rw [List.getElem?_eq_getElem hlt] at b2
        obtain rfl := Option.some.inj b2
        rfl
      simp [Instr.index, asIntOf, run_underlying hu, b0, hg]
    · cases h
  · rename_i len0 el0 ds k i hu hx hi
    split at h
    · rename_i len n ag hA
      split at h
      · rename_i hb
        obtain ⟨b0, b1⟩ := hb
        cases hs : subD ds (i.toNat * n) n ag with
        | none => rw [hs] at h; cases h
        | some d =>
          rw [hs] at h; obtain rfl := Option.some.inj h
          obtain ⟨vs, hv, hfl, hl⟩ := Den_agg ((hev x).den hx)
          obtain ⟨el, h1, h2, h3⟩ := arT_spec hA
          have h4 := (szT_spec h2 w).1
          obtain ⟨v, q1, q2⟩ := subD_val (P := Γ.P) h2 hfl hl hs
          refine ⟨v, ?_, q2⟩
          rw [Den_int ((hev ix).den hi), hv]
          simp [Instr.index, asIntOf, run_underlying h1, b0, b1, h4, q1]
      · cases h
    · cases h
  · cases h

theorem exec_extract (hev : ∀ x, AVRel w G e (e.ev Γ x) (a.eval x)) {x : Operand} {i : Nat} {y : AV}
    (h : pureOp Γ.P (e.ev Γ) (.extract x i) = some y) : ∃ v, (Instr.extract (a.eval x) i).run Γ.P w = .ok v w ∧ AVRel w G e y v := by
  simp only [pureOp] at h
  split at h
  · rename_i ds hx
    have hxr := hev x
    rw [hx] at hxr
    have hd : Den w G.com (.tup ds) (a.eval x) := hxr
    simp only [Den] at hd
    obtain ⟨vs, hv, hl⟩ := hd
    split at h
    · rename_i d hi
      obtain rfl := Option.some.inj h
      obtain ⟨v, q1, q2⟩ := DenL_get hl i d hi
      exact ⟨v, by rw [hv]; simp [Instr.extract, q1], q2⟩
    · cases h
  · cases h

theorem DenM_cut {com : Nat → Nat} {xs : List D} {sz b o : Nat} (h : DenM w com xs sz b o) (l u : Nat) : DenM w com ((xs.take u).drop l) sz b (o + l * sz) := by
  refine DenM_of fun i x hi => ?_
  rw [List.getElem?_drop, List.getElem?_take] at hi
  split at hi
  · have := DenM_get h (l + i) x hi
    rwa [show o + l * sz + i * sz = o + (l + i) * sz by rw [Nat.add_mul]; omega]
  · cases hi

theorem exec_slice (hev : ∀ x, AVRel w G e (e.ev Γ x) (a.eval x)) {t : TypeId} {x : Operand} {lo hi : Option Operand} {y : AV}
    (h : pureOp Γ.P (e.ev Γ) (.slice t x lo hi none) = some y) : ∃ v, (Instr.sliceAt t (a.eval x) (lo.map a.eval) (hi.map a.eval) none).run Γ.P w = .ok v w ∧ AVRel w G e y v := by
  simp only [pureOp] at h
  split at h
  · rename_i s hu hx
    split at h
    · rename_i r hcut
      obtain rfl := Option.some.inj h
      obtain ⟨l, u, e1, e2, c1, c2, c3, rfl⟩ := cutL_some hcut
      rw [Den_str ((hev x).den hx)]
      have hb := run_bounds (Γ := Γ) (P := Γ.P) hev false s.length s.length (Nat.le_refl _) lo hi e1 e2 c1 c2 c3
      have hsz : (⟨s.toArray⟩ : ByteArray).size = s.length := rfl
      refine ⟨.string ((⟨s.toArray⟩ : ByteArray).extract l.toNat u.toNat), ?_, ?_⟩
      · simp [Instr.sliceAt, Instr.slice, run_underlying hu, hsz, hb]
      · show Den w G.com _ _
        simp only [Den]
        congr 1
        apply ByteArray.ext
        simp [ByteArray.data_extract, List.extract_eq_take_drop, List.drop_take]
    · cases h
  · rename_i el d hu hx
    split at h
    · rename_i _ _ el' n ag by_ xs hE hl
      split at h
      · rename_i hrow
        split at h
        · rename_i r hcut
          obtain rfl := Option.some.inj h
          obtain ⟨l, u, e1, e2, c1, c2, c3, rfl⟩ := cutL_some hcut
          obtain ⟨A, c, hv, hc', hA⟩ := Den_list hl ((hev x).den hx)
          obtain ⟨h1, h2, h3, i', h5, h6, h7, h8, _⟩ := elT_spec hE
          have h4 := (szT_spec h2 w).1
          have hb := run_bounds (Γ := Γ) (P := Γ.P) hev true xs.length c hc' lo hi e1 e2 c1 c2 c3
          rw [hv]
          have hlen : ((xs.take u.toNat).drop l.toNat).length = u.toNat - l.toNat := by simp; omega
          have hx0 : ∀ sz b o, DenM w G.com xs sz b o → xs ≠ [] → sz = n := by
            intro sz b o hM hne
            cases xs with
            | nil => exact absurd rfl hne
            | cons x0 xs =>
              have := (DenM_get hM 0 x0 rfl).1
              simp only [rowB, List.all_cons, Bool.and_eq_true, beq_iff_eq] at hrow
              omega
          refine ⟨.slice (if c = l.toNat then A else A.map (·.add (l.toNat * n))) (u.toNat - l.toNat) (c - l.toNat), ?_, ?_⟩
          · simp [Instr.sliceAt, Instr.slice, run_underlying h1, hb, h4]
          · show Den w G.com _ _
            simp only [Den]
            refine ⟨_, _, by rw [hlen], by rw [hlen]; omega, ?_⟩
            by_cases hcl : c = l.toNat
            · rw [if_pos hcl]
              have he : (xs.take u.toNat).drop l.toNat = [] := List.eq_nil_of_length_eq_zero (by rw [hlen]; omega)
              rw [he]
              cases A with
              | none => rfl
              | some ad => exact ⟨hA.1, hA.2.imp fun _ _ => DenM_nil⟩
            · rw [if_neg hcl]
              cases A with
              | none => simp only at hA; subst hA; simp
              | some ad =>
                obtain ⟨hsp, sz, hM⟩ := hA
                simp only [Option.map_some]
                rw [add_spot ad hsp]
                refine ⟨rfl, n, ?_⟩
                by_cases hne : xs = []
                · subst hne; simp only [List.take_nil, List.drop_nil]; exact DenM_nil
                · obtain rfl := hx0 _ _ _ hM hne
                  exact DenM_cut hM _ _
        · cases h
      · cases h
    · cases h
  · cases h

theorem exec_build (hev : ∀ x, AVRel w G e (e.ev Γ x) (a.eval x)) {t : TypeId} {parts : Array (Nat × Operand)} {y : AV}
    (h : pureOp Γ.P (e.ev Γ) (.build t parts) = some y) : ∃ v, (Instr.build t (parts.map fun (i, x) => (i, a.eval x))).run Γ.P w = .ok v w ∧ AVRel w G e y v := by
  simp only [pureOp] at h
  split at h
  · rename_i pl z hpl hz
    split at h
    · rename_i ds hf
      obtain rfl := Option.some.inj h
      obtain ⟨i, zv, hi, hzv, hzl, hzf, hzd, _⟩ := zeroT_spec (w := w) (com := G.com) hz
      simp only [D.cells] at hzl hzf
      obtain ⟨vs, q1, q2, q3⟩ := fillD_spec (w := w) (com := G.com) (vparts := (parts.map fun (i, x) => (i, a.eval x)).toList) (vcells := zv.cells) hf
        (by simp [Function.comp_def]) (fun j p q d h1 h2 h3 => by
          simp only [Array.toList_map, List.getElem?_map] at h1 h2
          cases hp : parts.toList[j]? with
          | none => simp [hp] at h1
          | some pr =>
            simp only [hp, Option.map_some, Option.some.injEq] at h1 h2
            subst h1 h2
            exact (hev pr.2).den h3) hzl hzf
      refine ⟨.agg vs, ?_, ?_⟩
      · apply run_build
        unfold placesT at hpl
        split at hpl
        · rename_i fields hu
          have hpl' : fields.toList.mapM (fun f => (Γ.P.info? f.type).map fun i => (f.offset, i.size)) = some pl := hpl
          simp only [Program.built, hi, hu, hzv, hpl']
          simpa using q1
        · cases hpl
      · show Den w G.com _ _
        simp only [Den]
        exact ⟨vs.toList, by simp, q3, q2⟩
    · cases h
  · cases h

theorem exec_len (hev : ∀ x, AVRel w G e (e.ev Γ x) (a.eval x)) {as : Array Operand} {ts : Array TypeId} {ty : TypeId} {y : AV}
    (h : pureOp Γ.P (e.ev Γ) (.call { callee := .builtin .len, args := as, argTypes := ts }) = some y) :
    ∃ v, (Builtin.len_ ts ty (as.map a.eval)).run Γ.P w = .ok v w ∧ AVRel w G e y v := by
  simp only [pureOp] at h
  split at h
  · rename_i x t has hts
    have e1 : as = #[x] := by rw [← Array.toArray_toList (xs := as), has]
    have e2 : ts = #[t] := by rw [← Array.toArray_toList (xs := ts), hts]
    subst e1 e2
    split at h
    · rename_i s hu hx
      obtain rfl := Option.some.inj h
      refine ⟨.int .i64 s.length, ?_, by simp [AVRel, Den]⟩
      have hv := Den_str ((hev x).den hx)
      have hsz : (⟨s.toArray⟩ : ByteArray).size = s.length := rfl
      simp [Builtin.len_, run_underlying hu, hv, goInt, hsz]
    · rename_i el d hu hx
      split at h
      · rename_i xs hl
        obtain rfl := Option.some.inj h
        obtain ⟨A, c, hv, hc', hA⟩ := Den_list hl ((hev x).den hx)
        refine ⟨.int .i64 xs.length, ?_, by simp [AVRel, Den]⟩
        simp [Builtin.len_, run_underlying hu, hv, goInt]
      · cases h
    · cases h
  · cases h

theorem exec_makeFunc (hev : ∀ x, AVRel w G e (e.ev Γ x) (a.eval x)) {fn : Fn} {fs cs : Array Operand} {y : AV}
    (h : pureOp Γ.P (e.ev Γ) (.makeFunc fn fs cs) = some y) : ∃ v, (Instr.makeFunc fn (fs.map a.eval) (cs.map a.eval)).run Γ.P w = .ok v w ∧ AVRel w G e y v := by
  cases fn with
  | func f =>
    simp only [pureOp] at h
    split at h
    · rename_i x hfs hcs
      have e1 : fs = #[] := by rw [← Array.toArray_toList (xs := fs), hfs]
      have e2 : cs = #[x] := by rw [← Array.toArray_toList (xs := cs), hcs]
      subst e1 e2
      have hx := hev x
      split at h
      · rename_i b g hb
        rw [hb] at hx
        obtain rfl := Option.some.inj h
        obtain ⟨h1, h2⟩ := hx
        exact ⟨_, by simp [Instr.makeFunc, h2], h1, rfl⟩
      · cases h
    · cases h
  | _ => simp only [pureOp] at h; cases h

theorem pureOp_sound (hev : ∀ x, AVRel w G e (e.ev Γ x) (a.eval x)) (o : Oper) {y : AV} (h : pureOp Γ.P (e.ev Γ) o.op = some y) :
    ∃ v, (execOp a.eval o).run Γ.P w = .ok (.value v) w ∧ AVRel w G e y v := by
  have val : ∀ {s : Sem Value} {v : Value}, s.run Γ.P w = .ok v w → (do pure (.value (← s)) : Sem Next).run Γ.P w = .ok (.value v) w := by
    intro s v hs; simp [hs]
  cases hop : o.op <;> rw [hop] at h <;> try (simp only [pureOp] at h; cases h; done)
  case move x =>
    simp only [pureOp] at h
    obtain rfl := Option.some.inj h
    exact ⟨_, by simp [execOp, hop], hev x⟩
  case pick c x z =>
    simp only [pureOp] at h
    split at h
    · rename_i t hc
      obtain rfl := Option.some.inj h
      have hcv := hev c
      rw [hc] at hcv
      have hb : a.eval c = .bool t := Den_bool (w := w) (com := G.com) hcv
      cases t
      · exact ⟨_, by simp [execOp, hop, hb, asBool], hev z⟩
      · exact ⟨_, by simp [execOp, hop, hb, asBool], hev x⟩
    · cases h
  case nilCheck x =>
    simp only [pureOp] at h
    have hx := hev x
    split at h
    · rename_i b g o' hx'
      rw [hx'] at hx
      obtain rfl := Option.some.inj h
      obtain ⟨h1, h2⟩ := hx
      exact ⟨_, by simp [execOp, hop, h2], h1, rfl⟩
    · rename_i d hx'
      rw [hx'] at hx
      obtain rfl := Option.some.inj h
      obtain ⟨b, o', h2, h1⟩ := rp_den hx
      exact ⟨_, by simp [execOp, hop, h2], b, o', rfl, h1⟩
    · cases h
  case binOp op t x z yt =>
    simp only [pureOp] at h
    split at h
    · rename_i d1 d2 h1 h2
      cases hb : binD Γ.P op t d1 d2 with
      | none => rw [hb] at h; cases h
      | some d =>
        rw [hb] at h; obtain rfl := Option.some.inj h
        obtain ⟨v, q1, q2⟩ := run_binD (P := Γ.P) x z hb ((hev x).den h1) ((hev z).den h2)
        exact ⟨v, by simp only [execOp, hop]; exact val q1, q2⟩
    · cases h
  case unOp op t x =>
    simp only [pureOp] at h
    split at h
    · rename_i d1 h1
      cases hb : unD op d1 with
      | none => rw [hb] at h; cases h
      | some d =>
        rw [hb] at h; obtain rfl := Option.some.inj h
        obtain ⟨v, q1, q2⟩ := run_unD (P := Γ.P) hb ((hev x).den h1)
        exact ⟨v, by simp only [execOp, hop]; exact val q1, q2⟩
    · cases h
  case convert src dst x =>
    simp only [pureOp] at h
    split at h
    · rename_i d1 h1
      cases hb : convD Γ.P src dst d1 with
      | none => rw [hb] at h; cases h
      | some d =>
        rw [hb] at h; obtain rfl := Option.some.inj h
        obtain ⟨v, q1, q2⟩ := run_convD (P := Γ.P) hb ((hev x).den h1)
        exact ⟨v, by simp only [execOp, hop]; exact val q1, q2⟩
    · cases h
  case fieldAddr s x i =>
    obtain ⟨v, q1, q2⟩ := exec_fieldAddr hev h
    exact ⟨v, by simp only [execOp, hop]; exact val q1, q2⟩
  case field s x i =>
    obtain ⟨v, q1, q2⟩ := exec_field hev h
    exact ⟨v, by simp only [execOp, hop]; exact val q1, q2⟩
  case indexAddr t x i =>
    obtain ⟨v, q1, q2⟩ := exec_indexAddr hev h
    exact ⟨v, by simp only [execOp, hop]; exact val q1, q2⟩
  case index t x i =>
    obtain ⟨v, q1, q2⟩ := exec_index hev h
    exact ⟨v, by simp only [execOp, hop]; exact val q1, q2⟩
  case makeFunc fn fs cs =>
    obtain ⟨v, q1, q2⟩ := exec_makeFunc hev h
    exact ⟨v, by simp only [execOp, hop]; exact val q1, q2⟩
  case extract x i =>
    obtain ⟨v, q1, q2⟩ := exec_extract hev h
    exact ⟨v, by simp only [execOp, hop]; exact val q1, q2⟩
  case slice t x lo hi mx =>
    cases mx with
    | some m => simp only [pureOp] at h; cases h
    | none =>
      obtain ⟨v, q1, q2⟩ := exec_slice hev h
      exact ⟨v, by simp only [execOp, hop]; exact val q1, q2⟩
  case build t parts =>
    obtain ⟨v, q1, q2⟩ := exec_build hev h
    exact ⟨v, by simp only [execOp, hop]; exact val q1, q2⟩
  case call c =>
    obtain ⟨callee, as, ts⟩ := c
    cases callee with
    | value f => simp only [pureOp] at h; cases h
    | invoke r m => simp only [pureOp] at h; cases h
    | builtin b =>
      cases b <;> try (simp only [pureOp] at h; cases h; done)
      obtain ⟨v, q1, q2⟩ := exec_len (ty := o.type) hev h
      exact ⟨v, by simp only [execOp, hop, resolve, Sem.run_bind, Sem.run_pure, Result.andThen, invoke, builtin, q1], q2⟩
end
end Go.Proofs.YtebkaacflocfcaaDoor.Ab

/- Memory: what a store into a box, a new box, a new row leave of Rel. -/
namespace Go.Proofs.YtebkaacflocfcaaDoor.Ab
open Go
set_option linter.unusedVariables false
set_option linter.unusedSimpArgs false

theorem setB_setB (e : Env) (b g o : Nat) (x y : AV) : (e.setB b g o x).setB b g o y = e.setB b g o y := by
  simp only [Env.setB, Env.mk.injEq, true_and, and_true]
  funext b' g' o'
  by_cases h : b' = b ∧ g' = g ∧ o' = o <;> simp [h]

theorem flat_of_one {w : World} {com : Nat → Nat} {d : D} {v : Value} (h : Den w com d v) (hv : v.oneCell' = true) : d.flat = true := by
  cases d <;> simp [D.flat]
  · simp only [Den] at h; obtain ⟨vs, rfl, _⟩ := h; simp [Value.oneCell'] at hv
  · simp only [Den] at h; obtain ⟨vs, rfl, _⟩ := h; simp [Value.oneCell'] at hv

section
variable {Γ : Ctx} {nt : Nat} {w0 : World} {com0 : (Nat → Nat) × (Nat → Nat)} {os ps : List Nat} {G : Gh} {e : Env} {a : Act} {w : World}

/-- a cell of a box becomes known -/
theorem Rel.know (h : Rel Γ nt w0 com0 os ps G e a w) {b g o : Nat} (hg : g < e.gb b) {y : AV} {v : Value} (hc : w.cell? ⟨G.β b g, o, none⟩ = some v) (h1 : v.oneCell' = true)
    (hy : AVRel w G e y v) : Rel Γ nt w0 com0 os ps G (e.setB b g o y) a w := by
  have cg : ∀ x u, AVRel w G (e.setB b g o y) x u = AVRel w G e x u := fun x u => AVRel_congr (e := e) (e' := e.setB b g o y) rfl rfl rfl x u
  refine ⟨h.nt, fun t => by rw [cg]; exact h.tm t, h.defers, fun b' g' hg' => ?_, h.ext, h.com_new, h.glob, h.fr, h.rb⟩
  obtain ⟨r1, r2, arr, E, r3, r4⟩ := h.bx b' g' hg'
  refine ⟨r1, r2, arr, E, r3, fun o' ho' => ?_⟩
  simp only [Env.setB] at ho' ⊢
  by_cases hh : b' = b ∧ g' = g ∧ o' = o
  · obtain ⟨rfl, rfl, rfl⟩ := hh
    simp only [and_self, if_true]
    refine ⟨v, ?_, h1, by have := cg y v; simp only [Env.setB] at this; rw [this]; exact hy⟩
    simpa [World.cell?, r3] using hc
  · rw [if_neg hh] at ho' ⊢
    obtain ⟨u, q1, q2, q3⟩ := r4 o' ho'
    exact ⟨u, q1, q2, by have := cg (e.bx b' g' o') u; simp only [Env.setB] at this; rw [this]; exact q3⟩

/-- a step that changes one box's block alone -/
theorem Rel.poke (h : Rel Γ nt w0 com0 os ps G e a w) {b g o : Nat} (hg : g < e.gb b) (v : Value) :
    Mv w G e (w.setCell ⟨G.β b g, o, none⟩ v) G (e.setB b g o .no) ∧ Rel Γ nt w0 com0 os ps G (e.setB b g o .no) a (w.setCell ⟨G.β b g, o, none⟩ v) := by
  obtain ⟨p1, p2, parr, pE, p3, p4⟩ := h.bx b g hg
  have heap : ∀ k, k ≠ G.β b g → (w.setCell ⟨G.β b g, o, none⟩ v).heap[k]? = w.heap[k]? := fun k hk => by
    simp only [World.setCell, Array.getElem?_modify]; rw [if_neg (by omega)]
  have here : (w.setCell ⟨G.β b g, o, none⟩ v).heap[G.β b g]? = some (.cells (parr.setIfInBounds o v) pE (0, 0)) := by
    simp [World.setCell, Array.getElem?_modify, p3]
  have hk : G.β b g < w.heap.size := by
    rcases Nat.lt_or_ge (G.β b g) w.heap.size with hlt | hge
    · exact hlt
    · rw [Array.getElem?_eq_none hge] at p3; cases p3
  have ag : Agree w (w.setCell ⟨G.β b g, o, none⟩ v) G.com G.com := ⟨fun b' o' ho' => by
    by_cases hb : b' = G.β b g
    · subst hb; omega
    · exact World.cell?_of_block (a := ⟨b', o', none⟩) (heap b' hb), fun _ => Nat.le_refl _⟩
  have m : Mv w G e (w.setCell ⟨G.β b g, o, none⟩ v) G (e.setB b g o .no) := by
    refine ⟨ag, fun _ => Nat.le_refl _, fun _ _ _ => rfl, fun _ _ => Nat.le_refl _, fun c k g' hg' hl => ⟨hl, rfl, fun hr => ⟨hr, heap _ ?_, rfl⟩⟩⟩
    intro he; rw [he, p1] at hr; cases hr
  refine ⟨m, h.nt, fun t => (h.tm t).mono m, h.defers, fun b' g' hg' => ?_, ?_, ?_, fun g' d hd => DenC.mono ag d g' 0 (h.glob g' d hd), ?_, h.rb⟩
  · obtain ⟨r1, r2, arr, E, r3, r4⟩ := h.bx b' g' hg'
    by_cases hb : b' = b ∧ g' = g
    · obtain ⟨rfl, rfl⟩ := hb
      rw [r3] at p3; injection p3 with p3; injection p3 with e1 e2 e3
      subst e1 e2
      refine ⟨r1, r2, arr.setIfInBounds o v, E, here, fun o' ho' => ?_⟩
      by_cases hoo : o' = o
      · subst hoo; simp [Env.setB] at ho'
      · have hbx : (e.setB b' g' o .no).bx b' g' o' = e.bx b' g' o' := by simp [Env.setB, hoo]
        rw [hbx] at ho' ⊢
        obtain ⟨u, q1, q2, q3⟩ := r4 o' ho'
        exact ⟨u, by rw [Array.getElem?_setIfInBounds_ne (Ne.symm hoo)]; exact q1, q2, q3.mono m⟩
    · have hne : G.β b' g' ≠ G.β b g := by
        intro he; rw [he, p1] at r1; injection r1 with r1 r2; exact hb ⟨r1.symm, r2.symm⟩
      refine ⟨r1, r2, arr, E, by rw [heap _ hne]; exact r3, fun o' ho' => ?_⟩
      have hbx : (e.setB b g o .no).bx b' g' o' = e.bx b' g' o' := by
        simp only [Env.setB]; rw [if_neg (fun hh => hb ⟨hh.1, hh.2.1⟩)]
      rw [hbx] at ho' ⊢
      obtain ⟨u, q1, q2, q3⟩ := r4 o' ho'
      exact ⟨u, q1, q2, q3.mono m⟩
  · intro b' hb'; exact h.ext b' (by simpa using hb')
  · intro b' hb'; exact h.com_new b' (by simpa using hb')
  · have f := h.fr
    refine ⟨f.osame, f.tape, f.output, by simpa using f.size, fun b' h1 h2 h3 => ?_, f.com_old, f.agree.trans ag, fun k hk arr E hw => ?_, f.ext_old, f.pbox⟩
    · have hne : b' ≠ G.β b g := by
        intro he; have := f.ext_old b' h1 h2 h3; rw [he, p1] at this; cases this
      rw [heap _ hne]; exact f.old b' h1 h2 h3
    · obtain ⟨arr', q1, q2⟩ := f.psz k hk arr E hw
      by_cases he : k = G.β b g
      · subst he
        rw [q1] at p3; injection p3 with p3; injection p3 with e1 e2 e3
        subst e1 e2
        exact ⟨_, here, by simpa using q2⟩
      · exact ⟨arr', by rw [heap _ he]; exact q1, q2⟩

/-- a store of one cell -/
theorem Rel.setB (h : Rel Γ nt w0 com0 os ps G e a w) {b g o : Nat} (hg : g < e.gb b) (hc : e.bx b g o ≠ .no) {y : AV} {v : Value} (h1 : v.oneCell' = true) (hy : AVRel w G e y v) :
    (w.cell? ⟨G.β b g, o, none⟩).isSome = true ∧ w.frozen? ⟨G.β b g, o, none⟩ = false ∧ Rel Γ nt w0 com0 os ps G (e.setB b g o y) a (w.setCell ⟨G.β b g, o, none⟩ v) := by
  obtain ⟨p1, p2, arr, E, p3, p4⟩ := h.bx b g hg
  obtain ⟨u, hu, _, _⟩ := p4 o hc
  have hcell : w.cell? ⟨G.β b g, o, none⟩ = some u := by simp [World.cell?, p3, hu]
  obtain ⟨m, r⟩ := h.poke (o := o) hg v
  refine ⟨by rw [hcell]; rfl, by simp [World.frozen?, p3], ?_⟩
  have := r.know (b := b) (g := g) (o := o) (y := y) (v := v) hg (World.cell?_setCell_same w _ v hcell) h1 (hy.mono m)
  rwa [setB_setB] at this

theorem hasCells_ne : ∀ {n : Nat} {b g o : Nat} {e : Env}, e.hasCells b g o n = true → ∀ j, j < n → e.bx b g (o + j) ≠ .no := by
  intro n
  induction n with
  | zero => intro b g o e _ j hj; omega
  | succ n ih =>
    intro b g o e h j hj
    simp only [Env.hasCells, Bool.and_eq_true] at h
    cases j with
    | zero => intro he; simp only [Nat.add_zero] at he; rw [he] at h; simp at h
    | succ j => rw [show o + (j + 1) = o + 1 + j by omega]; exact ih h.2 j (by omega)

theorem land_gb (e : Env) (x : AV) (c k : Nat) : (e.land x c k).1.gb = e.gb := by
  unfold Env.land; split
  · split <;> rfl
  · rfl
  · rfl
theorem land_bx (e : Env) (x : AV) (c k : Nat) : (e.land x c k).1.bx = e.bx := by
  unfold Env.land; split
  · split <;> rfl
  · rfl
  · rfl
theorem land_tm (e : Env) (x : AV) (c k : Nat) : (e.land x c k).1.tm = e.tm := by
  unfold Env.land; split
  · split <;> rfl
  · rfl
  · rfl

/-- a store of a struct, cell by cell -/
theorem Rel.storeCells : ∀ {vs : List Value} {ds : List D} {i : Nat} {G : Gh} {e : Env} {w : World}, Rel Γ nt w0 com0 os ps G e a w → ∀ {b g o : Nat}, g < e.gb b →
    (∀ j, j < vs.length → e.bx b g (o + i + j) ≠ .no) → DenL w G.com ds vs → ds.all D.flat = true →
    ∃ w' G', (storeCells ⟨G.β b g, o, none⟩ vs i).run Γ.P w = .ok () w' ∧ Rel Γ nt w0 com0 os ps G' (e.wrCells b g (o + i) ds) a w' := by
  intro vs
  induction vs with
  | nil =>
    intro ds i G e w h b g o hg hn hl hf
    have : ds = [] := by have := DenL_length hl; simpa using this.symm
    subst this
    exact ⟨w, G, rfl, h⟩
  | cons v vs ih =>
    intro ds i G e w h b g o hg hn hl hf
    cases ds with
    | nil => simp [DenL] at hl
    | cons d ds =>
      simp only [DenL] at hl
      obtain ⟨v', r', heq, hv, hr⟩ := hl
      injection heq with e1 e2; subst e1 e2
      simp only [List.all_cons, Bool.and_eq_true] at hf
      have hone := Den_flat_one hf.1 hv
      obtain ⟨G1, g1, g2, m1, r1, y1⟩ := h.land (.val d) v b (o + i + 1) hv
      have hg1 : g < (e.land (.val d) b (o + i + 1)).1.gb b := by rw [land_gb]; exact hg
      have hc1 : (e.land (.val d) b (o + i + 1)).1.bx b g (o + i) ≠ .no := by rw [land_bx]; have := hn 0 (by simp); simpa using this
      obtain ⟨s1, s2, s3⟩ := r1.setB hg1 hc1 hone y1
      obtain ⟨m2, _⟩ := r1.poke (o := o + i) hg1 v
      rw [g2] at s1 s2 s3 m2
      have hst : (store ((⟨G.β b g, o, none⟩ : Addr).add i) v).run Γ.P w = .ok () (w.setCell ⟨G.β b g, o + i, none⟩ v) := by
        rw [add_none, run_store Γ.P w _ v _ hone]
        obtain ⟨u, hu⟩ := Option.isSome_iff_exists.1 s1
        simp [hu, s2]
      obtain ⟨w', G', q1, q2⟩ := ih (ds := ds) (i := i + 1) s3 (b := b) (g := g) (o := o) hg1 (fun j hj => by
          show (if b = b ∧ g = g ∧ o + (i + 1) + j = o + i then _ else (e.land (.val d) b (o + i + 1)).1.bx b g (o + (i + 1) + j)) ≠ .no
          rw [if_neg (by omega), land_bx]
          have := hn (j + 1) (by simp; omega)
          rwa [show o + i + (j + 1) = o + (i + 1) + j by omega] at this)
        (by rw [g1]; exact DenL.mono (by have := m2.agree; rw [g1] at this; exact this) ds vs hr) hf.2
      refine ⟨w', G', ?_, by simp only [Env.wrCells]; rw [show o + i + 1 = o + (i + 1) by omega]; exact q2⟩
      rw [g2] at q1
      simp only [Go.storeCells, Sem.run_bind, hst, Result.andThen, q1]

/-- a new box's cells become known -/
theorem Rel.knowCells : ∀ {vs : List Value} {ds : List D} {o : Nat} {G : Gh} {e : Env}, Rel Γ nt w0 com0 os ps G e a w → ∀ {b g : Nat}, g < e.gb b →
    (∀ j v, vs[j]? = some v → w.cell? ⟨G.β b g, o + j, none⟩ = some v) → DenL w G.com ds vs → ds.all D.flat = true →
    ∃ G', G'.com = G.com ∧ G'.β = G.β ∧ Rel Γ nt w0 com0 os ps G' (e.wrCells b g o ds) a w := by
  intro vs
  induction vs with
  | nil =>
    intro ds o G e h b g hg hn hl hf
    have : ds = [] := by have := DenL_length hl; simpa using this.symm
    subst this
    exact ⟨G, rfl, rfl, h⟩
  | cons v vs ih =>
    intro ds o G e h b g hg hn hl hf
    cases ds with
    | nil => simp [DenL] at hl
    | cons d ds =>
      simp only [DenL] at hl
      obtain ⟨v', r', heq, hv, hr⟩ := hl
      injection heq with e1 e2; subst e1 e2
      simp only [List.all_cons, Bool.and_eq_true] at hf
      have hone := Den_flat_one hf.1 hv
      obtain ⟨G1, g1, g2, m1, r1, y1⟩ := h.land (.val d) v b (o + 1) hv
      have hg1 : g < (e.land (.val d) b (o + 1)).1.gb b := by rw [land_gb]; exact hg
      have s3 := r1.know (o := o) hg1 (by rw [g2]; simpa using hn 0 v rfl) hone y1
      obtain ⟨G', q1, q2, q3⟩ := ih (ds := ds) (o := o + 1) s3 (b := b) (g := g) hg1 (fun j u hu => by
        rw [g2, show o + 1 + j = o + (j + 1) by omega]; exact hn (j + 1) u (by simpa using hu)) (by rw [g1]; exact hr) hf.2
      exact ⟨G', q1.trans g1, q2.trans g2, by simp only [Env.wrCells]; exact q3⟩

/-- a new block that is a box -/
theorem Rel.newBlock (h : Rel Γ nt w0 com0 os ps G e a w) (b : Nat) (arr : Array Value) (E : TypeId) :
    ∃ G', G'.com = G.com ∧ G'.β b (e.gb b) = w.heap.size ∧ Mv w G e (w.alloc (.cells arr E)) G' (e.newGen b) ∧ Rel Γ nt w0 com0 os ps G' (e.newGen b) a (w.alloc (.cells arr E)) := by
  let G' : Gh := { G with β := fun b' g' => if b' = b ∧ g' = e.gb b then w.heap.size else G.β b' g', ρ := fun k => if k = w.heap.size then .box b (e.gb b) else G.ρ k }
  have heap : ∀ k, k < w.heap.size → (w.alloc (.cells arr E)).heap[k]? = w.heap[k]? := fun k hk => by
    simp only [World.alloc, Array.getElem?_push]; rw [if_neg (by omega)]
  have ag : Agree w (w.alloc (.cells arr E)) G.com G.com := ⟨fun b' o' ho' => by
    have : b' < w.heap.size := by
      rcases Nat.lt_or_ge b' w.heap.size with hlt | hge
      · exact hlt
      · rw [h.com_new b' hge] at ho'; omega
    exact World.cell?_of_block (a := ⟨b', o', none⟩) (heap b' this), fun _ => Nat.le_refl _⟩
  have hρ : ∀ k, G.ρ k ≠ .ext → k < w.heap.size := fun k hk => by
    rcases Nat.lt_or_ge k w.heap.size with hlt | hge
    · exact hlt
    · exact absurd (h.ext k hge) hk
  have m : Mv w G e (w.alloc (.cells arr E)) G' (e.newGen b) := by
    refine ⟨ag, fun b' => ?_, fun b' g' hg' => ?_, fun _ _ => Nat.le_refl _, fun c k g' hg' hl => ⟨hl, rfl, fun hr => ?_⟩⟩
    · simp only [Env.newGen]; split
      · subst b'; omega
      · exact Nat.le_refl _
    · simp only [G']; rw [if_neg]; rintro ⟨rfl, rfl⟩; omega
    · have hlt := hρ _ (by rw [hr]; simp)
      refine ⟨?_, heap _ hlt, rfl⟩
      simp only [G']; rw [if_neg (by omega)]; exact hr
  refine ⟨G', rfl, by simp [G'], m, h.nt, fun t => (h.tm t).mono m, h.defers, fun b' g' hg' => ?_, fun k hk => ?_, fun k hk => h.com_new k (by simp at hk; omega), fun g' d hd => DenC.mono ag d g' 0 (h.glob g' d hd), ?_, fun k b' g' hk => ?_⟩
  rotate_right
  · simp only [G'] at hk ⊢
    split at hk
    · injection hk with e1 e2; subst e1 e2; exact ⟨by simp [Env.newGen], by rename_i hk; simp [hk]⟩
    · obtain ⟨r1, r2⟩ := h.rb k b' g' hk
      refine ⟨Nat.lt_of_lt_of_le r1 (m.gb b'), ?_⟩
      rw [if_neg]
      · exact r2
      · rintro ⟨rfl, rfl⟩; omega
  · by_cases hb : b' = b ∧ g' = e.gb b
    · obtain ⟨rfl, rfl⟩ := hb
      refine ⟨by simp [G'], by simp [G', h.com_new], arr, E, by simp only [G', and_self, if_true]; exact heap_alloc_new w _, fun o' ho' => ?_⟩
      simp [Env.newGen] at ho'
    · have hg2 : g' < e.gb b' := by
        simp only [Env.newGen] at hg'
        split at hg'
        · subst b'
          rcases Nat.lt_or_ge g' (e.gb b) with hlt | hge
          · exact hlt
          · exact absurd ⟨rfl, by omega⟩ hb
        · exact hg'
      obtain ⟨r1, r2, arr', E', r3, r4⟩ := h.bx b' g' hg2
      have hlt := hρ _ (by rw [r1]; simp)
      have hβ : G'.β b' g' = G.β b' g' := by simp only [G']; rw [if_neg hb]
      rw [BoxRel, hβ]
      refine ⟨by simp only [G']; rw [if_neg (by omega)]; exact r1, r2, arr', E', by rw [heap _ hlt]; exact r3, fun o' ho' => ?_⟩
      have hbx : (e.newGen b).bx b' g' o' = e.bx b' g' o' := by simp only [Env.newGen]; rw [if_neg hb]
      rw [hbx] at ho' ⊢
      obtain ⟨u, q1, q2, q3⟩ := r4 o' ho'
      exact ⟨u, q1, q2, q3.mono m⟩
  · simp at hk; simp only [G']; rw [if_neg (by omega)]; exact h.ext k (by omega)
  · have f := h.fr
    refine ⟨f.osame, f.tape, f.output, by have := f.size; simp; omega, fun b' h1 h2 h3 => ?_, f.com_old, f.agree.trans ag, fun k hk arr' E' hw => ?_, fun k h1 h2 h3 => ?_, fun k hk => ?_⟩
    · rw [heap b' (Nat.lt_of_lt_of_le h1 f.size)]; exact f.old b' h1 h2 h3
    · obtain ⟨arr'', q1, q2⟩ := f.psz k hk arr' E' hw
      have hlt : k < w.heap.size := by
        rcases Nat.lt_or_ge k w.heap.size with hlt | hge
        · exact hlt
        · rw [Array.getElem?_eq_none hge] at q1; cases q1
      exact ⟨arr'', by rw [heap _ hlt]; exact q1, q2⟩
    · have := f.size; simp only [G']; rw [if_neg (by omega)]; exact f.ext_old k h1 h2 h3
    · obtain ⟨b', g', hb', hpp⟩ := f.pbox k hk
      have := hρ k (by rw [hb']; simp)
      exact ⟨b', g', by simp only [G']; rw [if_neg (by omega)]; exact hb', hpp⟩

/-- a box is made, its cells known -/
theorem Rel.newBox (h : Rel Γ nt w0 com0 os ps G e a w) (b : Nat) (hb : b < nt) (E : TypeId) {v : Value} {z : D} (hz : Den w G.com z v) (hf : z.cells.all D.flat = true) :
    ∃ G', Rel Γ nt w0 com0 os ps G' ((e.newBox b z.cells).setT b (.bx b (e.gb b) 0)) (a.put (some b) (.pointer (some ⟨w.heap.size, 0, none⟩))) (w.alloc (.cells v.cells E)) := by
  obtain ⟨G1, g1, g2, m, r⟩ := h.newBlock b v.cells E
  have hlt : e.gb b < (e.newGen b).gb b := by simp [Env.newGen]
  obtain ⟨G2, k1, k2, r2⟩ := r.knowCells (vs := v.cells.toList) (ds := z.cells) (o := 0) (b := b) (g := e.gb b) hlt
    (fun j u hu => by rw [g2]; simpa using hu)
    (by rw [g1]; exact DenL.mono (by have := m.agree; rwa [g1] at this) _ _ (Den_cells hz)) hf
  have hgb : (e.newBox b z.cells).gb = (e.newGen b).gb := by
    have : ∀ (ds : List D) (e : Env) (o : Nat) (g : Nat), (e.wrCells b g o ds).gb = e.gb := by
      intro ds
      induction ds with
      | nil => intro e o g; rfl
      | cons d ds ih => intro e o g; simp only [Env.wrCells]; rw [ih]; show (e.land (.val d) b (o + 1)).1.gb = e.gb; exact land_gb _ _ _ _
    exact this _ _ _ _
  refine ⟨G2, r2.setT hb ⟨by rw [show (Env.wrCells (e.newGen b) b (e.gb b) 0 z.cells) = e.newBox b z.cells from rfl, hgb]; exact hlt, by rw [k2, g2]⟩⟩
end
end Go.Proofs.YtebkaacflocfcaaDoor.Ab

/- Rows of a call's own: made anew, grown in place. -/
namespace Go.Proofs.YtebkaacflocfcaaDoor.Ab
open Go
set_option linter.unusedVariables false
set_option linter.unusedSimpArgs false

/-- cells that are these elements' -/
def Lay (w : World) (com : Nat → Nat) (xs : List D) (sz : Nat) (vs : List Value) : Prop :=
  vs.length = xs.length * sz ∧ ∀ (i : Nat) (x : D), xs[i]? = some x → x.cnt = sz ∧ x.cells.all D.flat = true ∧ DenL w com x.cells ((vs.drop (i * sz)).take sz)

section
variable {w w' : World} {com com' : Nat → Nat}

theorem Lay.mono (a : Agree w w' com com') {xs : List D} {sz : Nat} {vs : List Value} (h : Lay w com xs sz vs) : Lay w' com' xs sz vs :=
  ⟨h.1, fun i x hi => ⟨(h.2 i x hi).1, (h.2 i x hi).2.1, DenL.mono a _ _ (h.2 i x hi).2.2⟩⟩

theorem Lay.nil (sz : Nat) : Lay w com [] sz [] := ⟨by simp, fun i x h => by simp at h⟩

theorem Lay.cons {x : D} {xs : List D} {sz : Nat} {us vs : List Value} (h1 : x.cnt = sz) (h2 : x.cells.all D.flat = true) (h3 : DenL w com x.cells us) (h : Lay w com xs sz vs) :
    Lay w com (x :: xs) sz (us ++ vs) := by
  have hl : us.length = sz := by rw [DenL_length h3]; exact h1
  refine ⟨by simp [hl, h.1, Nat.add_mul, Nat.add_comm], fun i y hi => ?_⟩
  cases i with
  | zero =>
    simp only [List.getElem?_cons_zero, Option.some.injEq] at hi
    subst hi
    refine ⟨h1, h2, ?_⟩
    simp only [Nat.zero_mul, List.drop_zero]
    rw [List.take_append_of_le_length (by omega), List.take_of_length_le (by omega)]; exact h3
  | succ i =>
    have := h.2 i y (by simpa using hi)
    refine ⟨this.1, this.2.1, ?_⟩
    rw [show (i + 1) * sz = us.length + i * sz by rw [hl, Nat.add_mul]; omega, List.drop_append, List.drop_eq_nil_of_le (by omega), List.nil_append, Nat.add_sub_cancel_left]
    exact this.2.2

theorem Lay.append {xs ys : List D} {sz : Nat} {vs us : List Value} (h : Lay w com xs sz vs) (k : Lay w com ys sz us) : Lay w com (xs ++ ys) sz (vs ++ us) := by
  induction xs generalizing vs with
  | nil =>
    have : vs = [] := List.eq_nil_of_length_eq_zero (by simpa using h.1)
    subst this; simpa using k
  | cons x xs ih =>
    have h0 := h.2 0 x rfl
    simp only [Nat.zero_mul, List.drop_zero] at h0
    have hlen : sz ≤ vs.length := by rw [h.1]; simp [Nat.add_mul]
    have hr : Lay w com xs sz (vs.drop sz) := by
      refine ⟨by rw [List.length_drop, h.1]; simp [Nat.add_mul], fun i y hi => ?_⟩
      have := h.2 (i + 1) y (by simpa using hi)
      refine ⟨this.1, this.2.1, ?_⟩
      rw [List.drop_drop, show sz + i * sz = (i + 1) * sz by rw [Nat.add_mul]; omega]
      exact this.2.2
    have := Lay.cons h0.1 h0.2.1 h0.2.2 (ih hr)
    rwa [← List.append_assoc, List.take_append_drop] at this

theorem Lay.one {xs : List D} {sz : Nat} {vs : List Value} (h : Lay w com xs sz vs) : ∀ v ∈ vs, v.oneCell' = true := by
  intro v hv
  obtain ⟨j, hj⟩ := List.mem_iff_getElem?.1 hv
  have hlt : j < xs.length * sz := by
    rw [← h.1]
    rcases Nat.lt_or_ge j vs.length with h' | h'
    · exact h'
    · rw [List.getElem?_eq_none h'] at hj; cases hj
  have hsz : 0 < sz := by
    rcases Nat.eq_zero_or_pos sz with h0 | h0
    · subst h0; simp at hlt
    · exact h0
  have hi : j / sz < xs.length := (Nat.div_lt_iff_lt_mul hsz).2 hlt
  obtain ⟨h1, h2, h3⟩ := h.2 (j / sz) _ (List.getElem?_eq_getElem hi)
  have hu : ((vs.drop (j / sz * sz)).take sz)[j % sz]? = some v := by
    rw [List.getElem?_take, if_pos (Nat.mod_lt _ hsz), List.getElem?_drop, Nat.mul_comm, Nat.div_add_mod]; exact hj
  have hlen : (xs[j / sz]).cells.length = sz := h1
  obtain ⟨d, hd⟩ : ∃ d, (xs[j / sz]).cells[j % sz]? = some d := ⟨_, List.getElem?_eq_getElem (i := j % sz) (by rw [hlen]; exact Nat.mod_lt j hsz)⟩
  obtain ⟨u, hu', hden⟩ := DenL_get h3 _ _ hd
  rw [hu] at hu'; obtain rfl := Option.some.inj hu'
  exact Den_flat_one (List.all_eq_true.1 h2 d (List.mem_of_getElem? hd)) hden

theorem DenC_cells {x : D} {b o : Nat} (h : DenC w com x b o) : x.cells.all D.flat = true ∧ ∃ us, DenL w com x.cells us ∧ ∀ j v, us[j]? = some v → At w com b (o + j) v := by
  have row : ∀ (ds : List D) (o : Nat), DenR w com ds b o → ds.all D.flat = true ∧ ∃ us, DenL w com ds us ∧ ∀ (j : Nat) (v : Value), us[j]? = some v → At w com b (o + j) v := by
    intro ds
    induction ds with
    | nil => intro o _; exact ⟨rfl, [], by simp [DenL], fun j v h => by simp at h⟩
    | cons d ds ih =>
      intro o h
      simp only [DenR] at h
      obtain ⟨⟨v, h1, h2, h3⟩, hr⟩ := h
      obtain ⟨k1, us, k2, k3⟩ := ih (o + 1) hr
      refine ⟨by simp [h2, k1], v :: us, by simp only [DenL]; exact ⟨v, us, rfl, h3, k2⟩, fun j u hj => ?_⟩
      cases j with
      | zero => simp at hj; subst hj; exact h1
      | succ j => rw [show o + (j + 1) = o + 1 + j by omega]; exact k3 j u (by simpa using hj)
  have one : ∀ d : D, d.cells = [d] → (∃ v, At w com b o v ∧ d.flat = true ∧ Den w com d v) → d.cells.all D.flat = true ∧ ∃ us, DenL w com d.cells us ∧ ∀ (j : Nat) (v : Value), us[j]? = some v → At w com b (o + j) v := by
    intro d hd ⟨v, h1, h2, h3⟩
    rw [hd]
    refine ⟨by simp [h2], [v], by simp only [DenL]; exact ⟨v, [], rfl, h3, rfl⟩, fun j u hj => ?_⟩
    cases j with
    | zero => simp at hj; subst hj; exact h1
    | succ j => simp at hj
  cases x with
  | agg ds => exact row ds o h
  | _ => exact one _ rfl h

theorem DenC_of_cells {x : D} {b o : Nat} {us : List Value} (hf : x.cells.all D.flat = true) (h : DenL w com x.cells us) (hat : ∀ (j : Nat) (v : Value), us[j]? = some v → At w com b (o + j) v) : DenC w com x b o := by
  have one : ∀ d : D, d.cells = [d] → d.flat = true → DenL w com d.cells us → ∃ v, At w com b o v ∧ d.flat = true ∧ Den w com d v := by
    intro d hd hfl hl
    rw [hd] at hl
    simp only [DenL] at hl
    obtain ⟨v, r, rfl, hv, rfl⟩ := hl
    exact ⟨v, hat 0 v rfl, hfl, hv⟩
  cases x with
  | agg ds =>
    refine DenR_of fun i x hi => ?_
    obtain ⟨v, q1, q2⟩ := DenL_get h i x hi
    exact ⟨v, hat i v q1, List.all_eq_true.1 hf x (List.mem_of_getElem? hi), q2⟩
  | _ => exact one _ rfl (by simpa [D.cells] using hf) h

theorem Lay_of_DenM {xs : List D} {sz b o : Nat} (h : DenM w com xs sz b o) : ∃ vs, Lay w com xs sz vs ∧ ∀ (j : Nat) (v : Value), vs[j]? = some v → At w com b (o + j) v := by
  induction xs generalizing o with
  | nil => exact ⟨[], Lay.nil sz, fun j v h => by simp at h⟩
  | cons x xs ih =>
    obtain ⟨h1, h2, h3⟩ := DenM_cons.1 h
    obtain ⟨k1, us, k2, k3⟩ := DenC_cells h2
    obtain ⟨vs, l1, l2⟩ := ih h3
    have hl : us.length = sz := by rw [DenL_length k2]; exact h1
    refine ⟨us ++ vs, Lay.cons h1 k1 k2 l1, fun j v hj => ?_⟩
    rw [List.getElem?_append] at hj
    split at hj
    · exact k3 j v hj
    · have := l2 _ v hj
      rwa [show o + sz + (j - us.length) = o + j by omega] at this

theorem DenM_of_Lay {xs : List D} {sz b o : Nat} {vs : List Value} (h : Lay w com xs sz vs) (hat : ∀ (j : Nat) (v : Value), vs[j]? = some v → At w com b (o + j) v) : DenM w com xs sz b o := by
  refine DenM_of fun i x hi => ?_
  obtain ⟨h1, h2, h3⟩ := h.2 i x hi
  refine ⟨h1, DenC_of_cells h2 h3 fun j v hj => ?_⟩
  rw [List.getElem?_take] at hj
  split at hj
  · rw [List.getElem?_drop] at hj
    have := hat _ v hj
    rwa [show o + i * sz + j = o + (i * sz + j) by omega]
  · cases hj
end

section
variable {Γ : Ctx} {nt : Nat} {w0 : World} {com0 : (Nat → Nat) × (Nat → Nat)} {os ps : List Nat} {G : Gh} {e : Env} {a : Act} {w : World}

/-- a new block that is a row of the class t 0 -/
theorem Rel.newRow (h : Rel Γ nt w0 com0 os ps G e a w) (t : Nat) (arr : Array Value) (E : TypeId) {xs : List D} {sz cap : Nat} {vs : List Value} (hlay : Lay w G.com xs sz vs)
    (hne : xs ≠ []) (hsz : 0 < sz) (harr : arr.size = cap * sz) (hcap : xs.length ≤ cap) (htake : arr.toList.take vs.length = vs) :
    ∃ G', Rel Γ nt w0 com0 os ps G' (e.birth t 0) a (w.alloc (.cells arr E)) ∧
      AVRel (w.alloc (.cells arr E)) G' (e.birth t 0) (.own t 0 (e.gc t 0) (.sl xs)) (.slice (some ⟨w.heap.size, 0, none⟩) xs.length cap) := by
  let G' : Gh := { G with
    com := fun k => if k = w.heap.size then xs.length * sz else G.com k
    κ := fun c' k' g' => if c' = t ∧ k' = 0 ∧ g' = e.gc t 0 then w.heap.size else G.κ c' k' g'
    ρ := fun k => if k = w.heap.size then .cls t 0 (e.gc t 0) else G.ρ k }
  have heap : ∀ k, k < w.heap.size → (w.alloc (.cells arr E)).heap[k]? = w.heap[k]? := fun k hk => heap_alloc_old w _ k hk
  have hnew : (w.alloc (.cells arr E)).heap[w.heap.size]? = some (.cells arr E (0, 0)) := heap_alloc_new w _
  have lt_of : ∀ b o, o < G.com b → b < w.heap.size := fun b o ho => by
    rcases Nat.lt_or_ge b w.heap.size with hlt | hge
    · exact hlt
    · rw [h.com_new b hge] at ho; omega
  have ag : Agree w (w.alloc (.cells arr E)) G.com G'.com := by
    refine ⟨fun b' o' ho' => World.cell?_of_block (a := ⟨b', o', none⟩) (heap b' (lt_of b' o' ho')), fun b => ?_⟩
    simp only [G']; split
    · subst b; rw [h.com_new _ (Nat.le_refl _)]; exact Nat.zero_le _
    · exact Nat.le_refl _
  have hρ : ∀ k, G.ρ k ≠ .ext → k < w.heap.size := fun k hk => by
    rcases Nat.lt_or_ge k w.heap.size with hlt | hge
    · exact hlt
    · exact absurd (h.ext k hge) hk
  have m : Mv w G e (w.alloc (.cells arr E)) G' (e.birth t 0) := by
    refine ⟨ag, fun _ => Nat.le_refl _, fun _ _ _ => rfl, fun c' k' => ?_, fun c' k' g hg hl => ?_⟩
    · simp only [Env.birth]; split
      · rename_i h; obtain ⟨rfl, rfl⟩ := h; omega
      · exact Nat.le_refl _
    · replace hl : (if c' = t ∧ k' = 0 ∧ g = e.gc t 0 then true else e.lv c' k' g) = true := hl
      by_cases hn : c' = t ∧ k' = 0 ∧ g = e.gc t 0
      · obtain ⟨rfl, rfl, rfl⟩ := hn; omega
      · rw [if_neg hn] at hl
        refine ⟨hl, by simp only [G']; rw [if_neg hn], fun hr => ?_⟩
        have hlt := hρ _ (by rw [hr]; simp)
        refine ⟨by simp only [G']; rw [if_neg (by omega)]; exact hr, heap _ hlt, by simp only [G']; rw [if_neg (by omega)]⟩
  have f := h.fr
  have hw0 : ∀ b, b < w0.heap.size → b ≠ w.heap.size := fun b hb => by have := f.size; omega
  refine ⟨G', h.move m rfl rfl rfl (fun b g hg => ?_) (fun k hk => ?_) (fun k hk => ?_) ?_ (fun k b g hk => by simp only [G'] at hk; split at hk <;> first | exact hk | cases hk), birth_lt e t 0, ?_, fun _ => .inr ⟨xs, rfl, by simp [G'], ?_⟩⟩
  · obtain ⟨r1, r2, _⟩ := h.bx b g hg
    have hlt := hρ _ (by rw [r1]; simp)
    exact ⟨by simp only [G']; rw [if_neg (by omega)]; exact r1, heap _ hlt, by simp only [G']; rw [if_neg (by omega)]; exact r2⟩
  · simp at hk; simp only [G']; rw [if_neg (by omega)]; exact h.ext k (by omega)
  · simp at hk; simp only [G']; rw [if_neg (by omega)]; exact h.com_new k (by omega)
  · refine ⟨f.osame, f.tape, f.output, by have := f.size; simp; omega, fun b' h1 h2 h3 => ?_, fun b h1 h2 => ?_, f.agree.trans ag, fun k hk arr' E' hw => ?_, fun k h1 h2 h3 => ?_, fun k hk => ?_⟩
    · rw [heap b' (Nat.lt_of_lt_of_le h1 f.size)]; exact f.old b' h1 h2 h3
    · simp only [G']; rw [if_neg (hw0 b h1)]; exact f.com_old b h1 h2
    · obtain ⟨arr'', q1, q2⟩ := f.psz k hk arr' E' hw
      have hlt : k < w.heap.size := by
        rcases Nat.lt_or_ge k w.heap.size with hlt | hge
        · exact hlt
        · rw [Array.getElem?_eq_none hge] at q1; cases q1
      exact ⟨arr'', by rw [heap _ hlt]; exact q1, q2⟩
    · simp only [G']; rw [if_neg (hw0 k h1)]; exact f.ext_old k h1 h2 h3
    · obtain ⟨b', g', hb', hpp⟩ := f.pbox k hk
      have := hρ k (by rw [hb']; simp)
      exact ⟨b', g', by simp only [G']; rw [if_neg (by omega)]; exact hb', hpp⟩
  · simp only [Den]
    refine ⟨_, _, rfl, hcap, rfl, sz, DenM_of_Lay (hlay.mono ag) fun j v hj => ?_⟩
    have hjl : j < vs.length := by
      rcases Nat.lt_or_ge j vs.length with h' | h'
      · exact h'
      · rw [List.getElem?_eq_none h'] at hj; cases hj
    refine ⟨?_, ?_⟩
    · simp only [G', Nat.zero_add, if_true]; rw [← hlay.1]; exact hjl
    · have : arr.toList[j]? = some v := by rw [← htake, List.getElem?_take, if_pos hjl] at hj; exact hj
      simp only [World.cell?, hnew, Nat.zero_add]
      simpa using this
  · refine ⟨cap, sz, arr, E, by simp [G'], hne, hcap, hsz, by simpa [G'] using hnew, harr, by simp [G'], fun x hx => ?_⟩
    obtain ⟨i, hi⟩ := List.mem_iff_getElem?.1 hx
    exact (hlay.2 i x hi).1

/-- a row grows in its place; what stands in it moves to the class t 0 -/
theorem Rel.growRow (h : Rel Γ nt w0 com0 os ps G e a w) (t : Nat) {c k g : Nat} (hl : e.lv c k g = true) {xs ys : List D} {cap sz : Nat} {arr : Array Value} {E : TypeId}
    (hg : g < e.gc c k) (hρ0 : G.ρ (G.κ c k g) = .cls c k g) (hne : xs ≠ []) (hsz : 0 < sz) (hheap : w.heap[G.κ c k g]? = some (.cells arr E (0, 0))) (harr : arr.size = cap * sz)
    (hcom : G.com (G.κ c k g) = xs.length * sz) (hcnt : ∀ x ∈ xs, x.cnt = sz) (hden : DenM w G.com xs sz (G.κ c k g) 0) {us : List Value} (hlay : Lay w G.com ys sz us)
    (hroom : xs.length + ys.length ≤ cap) :
    ∃ G', Rel Γ nt w0 com0 os ps G' ((e.kill c k g).birth t 0) a (w.setRow (G.κ c k g) (arr.toList.take (xs.length * sz) ++ us ++ arr.toList.drop (xs.length * sz + us.length)).toArray) ∧
      AVRel (w.setRow (G.κ c k g) (arr.toList.take (xs.length * sz) ++ us ++ arr.toList.drop (xs.length * sz + us.length)).toArray) G' ((e.kill c k g).birth t 0)
        (.own t 0 (e.gc t 0) (.sl (xs ++ ys))) (.slice (some ⟨G.κ c k g, 0, none⟩) (xs.length + ys.length) cap) := by
  generalize hkk : G.κ c k g = kk at *
  have hul : us.length = ys.length * sz := hlay.1
  have hfit : xs.length * sz + us.length ≤ arr.size := by rw [hul, harr, ← Nat.add_mul]; exact Nat.mul_le_mul_right _ hroom
  generalize hnewarr : (arr.toList.take (xs.length * sz) ++ us ++ arr.toList.drop (xs.length * sz + us.length)).toArray = arr'
  have hsz' : arr'.size = arr.size := by
    subst hnewarr; simp only [List.size_toArray, List.length_append, List.length_take, List.length_drop, Array.length_toList]; omega
  let G' : Gh := { G with
    com := fun b => if b = kk then (xs.length + ys.length) * sz else G.com b
    κ := fun c' k' g' => if c' = t ∧ k' = 0 ∧ g' = e.gc t 0 then kk else G.κ c' k' g'
    ρ := fun b => if b = kk then .cls t 0 (e.gc t 0) else G.ρ b }
  have heap : ∀ b, b ≠ kk → (w.setRow kk arr').heap[b]? = w.heap[b]? := fun b hb => setRow_other w kk b _ hb
  have here : (w.setRow kk arr').heap[kk]? = some (.cells arr' E (0, 0)) := setRow_heap w kk arr arr' E _ hheap
  have hsize : (w.setRow kk arr').heap.size = w.heap.size := by simp [World.setRow]
  have hlt : kk < w.heap.size := by
    rcases Nat.lt_or_ge kk w.heap.size with hlt | hge
    · exact hlt
    · rw [Array.getElem?_eq_none hge] at hheap; cases hheap
  have ag : Agree w (w.setRow kk arr') G.com G'.com := by
    refine ⟨fun b' o' ho' => ?_, fun b => ?_⟩
    · by_cases hb : b' = kk
      · subst hb
        rw [hcom] at ho'
        simp only [World.cell?, here, hheap]
        have : arr'[o']? = arr[o']? := by
          subst hnewarr
          rw [List.getElem?_toArray, List.append_assoc, List.getElem?_append_left (by simp; omega), List.getElem?_take, if_pos ho', Array.getElem?_toList]
        simp [this]
      · exact World.cell?_of_block (a := ⟨b', o', none⟩) (heap b' hb)
    · simp only [G']; split
      · subst b; rw [hcom]; exact Nat.mul_le_mul_right _ (by omega)
      · exact Nat.le_refl _
  have m : Mv w G e (w.setRow kk arr') G' ((e.kill c k g).birth t 0) := by
    refine ⟨ag, fun _ => Nat.le_refl _, fun _ _ _ => rfl, fun c' k' => ?_, fun c' k' g' hg' hl' => ?_⟩
    · simp only [Env.birth, Env.kill]; split
      · rename_i h; obtain ⟨rfl, rfl⟩ := h; omega
      · exact Nat.le_refl _
    · replace hl' : (if c' = t ∧ k' = 0 ∧ g' = e.gc t 0 then true else if c' = c ∧ k' = k ∧ g' = g then false else e.lv c' k' g') = true := hl'
      by_cases hn : c' = t ∧ k' = 0 ∧ g' = e.gc t 0
      · obtain ⟨rfl, rfl, rfl⟩ := hn; omega
      · rw [if_neg hn] at hl'
        by_cases hn0 : c' = c ∧ k' = k ∧ g' = g
        · rw [if_pos hn0] at hl'; cases hl'
        · rw [if_neg hn0] at hl'
          refine ⟨hl', by simp only [G']; rw [if_neg hn], fun hr => ?_⟩
          have hne' : G.κ c' k' g' ≠ kk := by
            intro he
            rw [he, hρ0] at hr
            injection hr with r1 r2 r3
            exact hn0 ⟨r1.symm, r2.symm, r3.symm⟩
          exact ⟨by simp only [G']; rw [if_neg hne']; exact hr, heap _ hne', by simp only [G']; rw [if_neg hne']⟩
  have f := h.fr
  have hbox : ∀ b g', g' < e.gb b → G.β b g' ≠ kk := fun b g' hg' he => by
    have := (h.bx b g' hg').1; rw [he, hρ0] at this; cases this
  refine ⟨G', h.move m rfl rfl rfl (fun b g' hg' => ?_) (fun b hb => ?_) (fun b hb => ?_) ?_ (fun k b g hk => by simp only [G'] at hk; split at hk <;> first | exact hk | cases hk), birth_lt (e.kill c k g) t 0, ?_, fun _ => .inr ⟨xs ++ ys, rfl, ?_, ?_⟩⟩
  · obtain ⟨r1, r2, _⟩ := h.bx b g' hg'
    have hb := hbox b g' hg'
    exact ⟨by simp only [G']; rw [if_neg hb]; exact r1, heap _ hb, by simp only [G']; rw [if_neg hb]; exact r2⟩
  · rw [hsize] at hb; simp only [G']; rw [if_neg (by omega)]; exact h.ext b hb
  · rw [hsize] at hb; simp only [G']; rw [if_neg (by omega)]; exact h.com_new b hb
  · refine ⟨f.osame, f.tape, f.output, by rw [hsize]; exact f.size, fun b' h1 h2 h3 => ?_, fun b h1 h2 => ?_, f.agree.trans ag, fun b hb arr2 E2 hw => ?_, fun b h1 h2 h3 => ?_, fun b hb => ?_⟩
    · have hb : b' ≠ kk := fun he => by have := f.ext_old b' h1 h2 h3; rw [he, hρ0] at this; cases this
      rw [heap b' hb]; exact f.old b' h1 h2 h3
    · have hb : b ≠ kk := fun he => by
        by_cases hp : b ∈ ps
        · obtain ⟨b2, g2, hb2, _⟩ := f.pbox b hp; rw [he, hρ0] at hb2; cases hb2
        · have := f.ext_old b h1 h2 hp; rw [he, hρ0] at this; cases this
      simp only [G']; rw [if_neg hb]; exact f.com_old b h1 h2
    · have hb' : b ≠ kk := fun he => by obtain ⟨b2, g2, hb2, _⟩ := f.pbox b hb; rw [he, hρ0] at hb2; cases hb2
      obtain ⟨arr3, q1, q2⟩ := f.psz b hb arr2 E2 hw
      exact ⟨arr3, by rw [heap _ hb']; exact q1, q2⟩
    · have hb : b ≠ kk := fun he => by have := f.ext_old b h1 h2 h3; rw [he, hρ0] at this; cases this
      simp only [G']; rw [if_neg hb]; exact f.ext_old b h1 h2 h3
    · obtain ⟨b2, g2, hb2, hpp⟩ := f.pbox b hb
      have hb' : b ≠ kk := fun he => by rw [he, hρ0] at hb2; cases hb2
      exact ⟨b2, g2, by simp only [G']; rw [if_neg hb']; exact hb2, hpp⟩
  · simp only [Den]
    refine ⟨some ⟨kk, 0, none⟩, cap, by rw [List.length_append], by rw [List.length_append]; exact hroom, rfl, sz, ?_⟩
    obtain ⟨vs, l1, l2⟩ := Lay_of_DenM hden
    refine DenM_of_Lay (o := 0) ((l1.append hlay).mono ag) fun j v hj => ?_
    have hvl : vs.length = xs.length * sz := l1.1
    rw [List.getElem?_append] at hj
    split at hj
    · exact (l2 j v hj).mono ag
    · rename_i hge
      have hjl : j - vs.length < us.length := by
        rcases Nat.lt_or_ge (j - vs.length) us.length with h' | h'
        · exact h'
        · rw [List.getElem?_eq_none h'] at hj; cases hj
      refine ⟨?_, ?_⟩
      · simp only [G', Nat.zero_add, if_true]; rw [Nat.add_mul]; omega
      · simp only [World.cell?, here, Nat.zero_add]
        have : arr'[j]? = some v := by
          subst hnewarr
          rw [List.getElem?_toArray, List.append_assoc, List.getElem?_append_right (by simp; omega)]
          have e1 : (arr.toList.take (xs.length * sz)).length = xs.length * sz := by simp; omega
          rw [e1, List.getElem?_append_left (by omega), ← hvl]; exact hj
        simp [this]
  · simp [G', Env.kill]
  · refine ⟨cap, sz, arr', E, by simp [G', Env.kill], by simp [hne], by rw [List.length_append]; exact hroom, hsz, by simpa [G', Env.kill] using here, by rw [hsz']; exact harr,
      by simp [G', Env.kill], fun x hx => ?_⟩
    rcases List.mem_append.1 hx with hx | hx
    · exact hcnt x hx
    · obtain ⟨i, hi⟩ := List.mem_iff_getElem?.1 hx
      exact (hlay.2 i x hi).1
end
end Go.Proofs.YtebkaacflocfcaaDoor.Ab

/- append, and the other operations that make memory. -/
namespace Go.Proofs.YtebkaacflocfcaaDoor.Ab
open Go
set_option linter.unusedVariables false
set_option linter.unusedSimpArgs false

section
variable {P : Program} {w : World}

/-- what an append takes: a slice's or a string's elements -/
structure Src (P : Program) (w : World) (x : Value) (m sz : Nat) (news : List Value) : Prop where
  len : ∀ W, (Builtin.lenOf x).run P W = .ok m W
  cells : ∀ n, (Builtin.firstCells sz m x).run P { w with drawn := n } = .ok news.toArray { w with drawn := n }

theorem run_append_stay {ts tx ty el : TypeId} {i : TypeInfo} {u : TypeDesc} (ht : P.underlying ts = some (.slice el)) (hi : P.info? el = some i) (hx : P.underlying tx = some u) (hu : (∃ e', u = .slice e') ∨ u = .string)
    {x : Value} {news : List Value} (h : Src P w x 0 i.size news) : (Builtin.append_ #[ts, tx] ty #[.slice none 0 0, x]).run P w = .ok (.slice none 0 0) w := by
  have hc := h.cells w.drawn
  rcases hu with ⟨e', rfl⟩ | rfl <;> simp [Builtin.append_, run_underlying ht, run_underlying hx, sizeOf, typeInfo, hi, h.len, hc]

theorem run_append_in {ts tx ty el : TypeId} {i : TypeInfo} {u : TypeDesc} (ht : P.underlying ts = some (.slice el)) (hi : P.info? el = some i) (hx : P.underlying tx = some u) (hu : (∃ e', u = .slice e') ∨ u = .string)
    {x : Value} {m : Nat} {news : List Value} (h : Src P w x m i.size news) {g n cap : Nat} {cur : Array Value} {E : TypeId} (hg : w.heap[g]? = some (.cells cur E (0, 0)))
    (h1 : ∀ v ∈ news, v.oneCell' = true) (hroom : n + m ≤ cap) (hfit : n * i.size + news.length ≤ cur.size) :
    (Builtin.append_ #[ts, tx] ty #[.slice (some ⟨g, 0, none⟩) n cap, x]).run P w =
      .ok (.slice (some ⟨g, 0, none⟩) (n + m) cap) (w.setRow g (cur.toList.take (n * i.size) ++ news ++ cur.toList.drop (n * i.size + news.length)).toArray) := by
  have hc := h.cells w.drawn
  have hst := run_storeCells_at P g (n * i.size) E news 0 cur w hg (by simpa using hfit) h1
  simp only [Nat.add_zero] at hst
  rcases hu with ⟨e', rfl⟩ | rfl <;> simp [Builtin.append_, run_underlying ht, run_underlying hx, sizeOf, typeInfo, hi, h.len, hc, hroom, add_none, hst]

theorem run_append_new {ts tx ty el : TypeId} {i : TypeInfo} {z : Value} {u : TypeDesc} (ht : P.underlying ts = some (.slice el)) (hi : P.info? el = some i) (hzr : i.zero = some z) (hx : P.underlying tx = some u) (hu : (∃ e', u = .slice e') ∨ u = .string)
    {x : Value} {m : Nat} {news : List Value} (h : Src P w x m i.size news) {A : Option Addr} {n cap : Nat} {olds : List Value}
    (holds : ∀ k, (Builtin.firstCells i.size n (.slice A n cap)).run P { w with drawn := k } = .ok olds.toArray { w with drawn := k })
    (hg : cap < n + m) (h63 : n + m ≤ 9223372036854775807) (hfit : Builtin.nextslicecap (n + m) cap * i.bytes ≤ 281474976710656) :
    (Builtin.append_ #[ts, tx] ty #[.slice A n cap, x]).run P w =
      .ok (.slice (some ⟨w.heap.size, 0, none⟩) (n + m) (grownCap w (n + m) cap el)) (w.drew.alloc (.cells (olds.toArray ++ news.toArray ++ Builtin.zeroCells z.cells (grownCap w (n + m) cap el - (n + m))) el)) := by
  have hc : (Builtin.firstCells i.size m x).run P w.drew = .ok news.toArray w.drew := h.cells (w.drawn + 1)
  have ho : (Builtin.firstCells i.size n (.slice A n cap)).run P w.drew = .ok olds.toArray w.drew := holds (w.drawn + 1)
  have hn : ¬ (n + m ≤ cap) := by omega
  have h63' : ¬ (9223372036854775807 < ((n : Int) + (m : Int))) := by omega
  have h48' : ¬ (281474976710656 < Builtin.nextslicecap (n + m) cap * i.bytes) := by omega
  rcases hu with ⟨e', rfl⟩ | rfl
  all_goals
    simp [Builtin.append_, run_underlying ht, run_underlying hx, sizeOf, typeInfo, zeroValue, hi, hzr, h.len, hc, ho, hn, h63', h48', Question.forced, newRow, grownCap]
    congr 2
    apply Array.ext'
    simp [List.append_assoc]

theorem src_spec {com : Nat → Nat} {d : D} {v : Value} {ys : List D} {sz : Nat} (hs : srcD d = some ys) (hd : Den w com d v) (hrow : rowB sz ys = true) (hsz : 0 < sz) :
    ∃ news, Src P w v ys.length sz news ∧ Lay w com ys sz news := by
  have fromList : ∀ d', d'.list = some ys → Den w com d' v → ∃ news, Src P w v ys.length sz news ∧ Lay w com ys sz news := by
    intro d' hl hd'
    obtain ⟨A, c, rfl, hc, hA⟩ := Den_list hl hd'
    cases A with
    | none =>
      simp only at hA; subst hA
      exact ⟨[], ⟨fun W => by simp [Builtin.lenOf], fun n => by simp [Builtin.firstCells]⟩, Lay.nil sz⟩
    | some ad =>
      obtain ⟨hsp, sz', hM⟩ := hA
      obtain ⟨vs, l1, l2⟩ := Lay_of_DenM hM
      have key : ∃ news, Lay w com ys sz news ∧ ∀ (j : Nat) (v : Value), news[j]? = some v → At w com ad.block (ad.off + j) v := by
        cases ys with
        | nil => exact ⟨[], Lay.nil sz, fun j v h => by simp at h⟩
        | cons y ys =>
          have h1 := (l1.2 0 y rfl).1
          simp only [rowB, List.all_cons, Bool.and_eq_true, beq_iff_eq] at hrow
          have : sz' = sz := by omega
          subst this
          exact ⟨vs, l1, l2⟩
      obtain ⟨news, k1, k2⟩ := key
      refine ⟨news, ⟨fun W => by simp [Builtin.lenOf], fun n => ?_⟩, k1⟩
      simp only [Builtin.firstCells]
      rw [← k1.1]
      exact run_loadCells_list (P := P) { w with drawn := n } ad news fun j v hj => by rw [add_spot ad hsp]; exact (k2 j v hj).2
  cases d with
  | nil => simp only [srcD, Option.some.injEq] at hs; subst hs; exact fromList .nil rfl hd
  | sl xs => simp only [srcD, Option.some.injEq] at hs; subst hs; exact fromList (.sl xs) rfl hd
  | str s =>
    simp only [srcD, Option.some.injEq] at hs
    subst hs
    rw [Den_str hd]
    have hlen : (ofBytes s).length = s.length := by simp [ofBytes]
    have hS : ∀ k : Nat, Src P w (.string ⟨s.toArray⟩) s.length k (s.map fun b => Value.int .u8 b.toNat) := by
      intro k
      refine ⟨fun W => by simp [Builtin.lenOf]; rfl, fun n => ?_⟩
      simp only [Builtin.firstCells, Sem.run_pure]
      congr 1
      apply Array.ext'
      simp [ByteArray.data_extract, List.extract_eq_take_drop]
    rw [hlen]
    refine ⟨_, hS sz, ?_⟩
    cases s with
    | nil => exact Lay.nil sz
    | cons b s =>
      have hone : sz = 1 := by
        simp only [ofBytes, List.map_cons, rowB, List.all_cons, Bool.and_eq_true, beq_iff_eq, D.cnt, D.cells, List.length_cons, List.length_nil] at hrow
        omega
      subst hone
      have : ∀ l : List UInt8, Lay w com (ofBytes l) 1 (l.map fun b => Value.int .u8 b.toNat) := by
        intro l
        induction l with
        | nil => exact Lay.nil 1
        | cons b l ih =>
          exact Lay.cons (us := [.int .u8 b.toNat]) rfl rfl (by simp [D.cells, DenL, Den]) ih
      exact this (b :: s)
  | _ => simp [srcD] at hs
end

section
variable {Γ : Ctx} {nt : Nat} {w0 : World} {com0 : (Nat → Nat) × (Nat → Nat)} {os ps : List Nat} {G : Gh} {e : Env} {a : Act} {w : World}

theorem take_toArray_append {α : Type} (l r : List α) (x : Array α) : (((l ++ r).toArray ++ x).toList).take (l ++ r).length = l ++ r := by
  rw [Array.toList_append, List.take_left']; simp

theorem roomy_ok {k b : Nat} (h : k * b ≤ roomy) (hb : b ≠ 0) : k ≤ 9223372036854775807 ∧ k * b ≤ 140737488355328 := by
  unfold roomy at h
  have : k ≤ k * b := Nat.le_mul_of_pos_right k (Nat.pos_of_ne_zero hb)
  omega

theorem evAppend_sound (h : Rel Γ nt w0 com0 os ps G e a w) {t : Nat} (ht : t < nt) {s x : AV} {vs vx : Value} (hs : AVRel w G e s vs) (hx : AVRel w G e x vx) {ts tx ty : TypeId} {K : Env → Prop}
    (hk : evAppend Γ (some t) s x ts tx e K) :
    ∃ v' w' G' e', (Builtin.append_ #[ts, tx] ty #[vs, vx]).run Γ.P w = .ok v' w' ∧ Rel Γ nt w0 com0 os ps G' e' (a.put (some t) v') w' ∧ K e' := by
  unfold evAppend at hk
  split at hk
  · rename_i _ _ _ _ t' el n ag by_ u d heq hE hu hd
    obtain rfl := Option.some.inj heq
    obtain ⟨q1, q2, q3, i, q4, rfl, q6, q7, z, q8, q9⟩ := elT_spec hE
    have hsz : 0 < i.size := by omega
    split at hk
    · rename_i ys hys
      have hu' : (∃ e', u = .slice e') ∨ u = .string := by
        split at hys
        · exact .inl ⟨_, rfl⟩
        · exact .inr rfl
        · cases hys
      have hys' : srcD d = some ys := by rcases hu' with ⟨e', rfl⟩ | rfl <;> exact hys
      have hxd := hx.den hd
      -- a new row, of what was there and what comes
      have new : ∀ {G : Gh} {e : Env}, Rel Γ nt w0 com0 os ps G e a w → ∀ (xs : List D) (A : Option Addr) (c : Nat) (olds : List Value), vs = .slice A xs.length c → Lay w G.com xs i.size olds → Lay w G.com ys i.size olds.tail.tail ∨ True →
          (∀ k, (Builtin.firstCells i.size xs.length (.slice A xs.length c)).run Γ.P { w with drawn := k } = .ok olds.toArray { w with drawn := k }) →
          Den w G.com d vx → rowB n ys = true → c < xs.length + ys.length → (xs.length + ys.length) * i.bytes ≤ roomy →
          ∃ v' w' G', (Builtin.append_ #[ts, tx] ty #[vs, vx]).run Γ.P w = .ok v' w' ∧ Rel Γ nt w0 com0 os ps G' ((e.birth t 0).setT t (.own t 0 (e.gc t 0) (.sl (xs ++ ys)))) (a.put (some t) v') w' := by
        intro G e h xs A c olds hvs hlo _ hfc hden hrow hc hb
        obtain ⟨news, hsrc, hln⟩ := src_spec (P := Γ.P) hys' hden hrow (by omega)
        obtain ⟨b1, b2⟩ := roomy_ok hb q7
        rw [← q6] at hsrc
        have hrun := run_append_new (P := Γ.P) (w := w) (ty := ty) q1 q4 q8 hu hu' hsrc hfc hc b1 (growslice_fits hc b2)
        have hd0 : Rel Γ nt w0 com0 os ps G e a w.drew := h.drew (w.drawn + 1)
        have agd : Agree w w.drew G.com G.com := ⟨fun _ _ _ => rfl, fun _ => Nat.le_refl _⟩
        have hlay : Lay w.drew G.com (xs ++ ys) i.size (olds ++ news) := (hlo.append (by rw [q6]; exact hln)).mono agd
        have hge : xs.length + ys.length ≤ grownCap w (xs.length + ys.length) c el := grownCap_ge w _ _ _
        obtain ⟨G', r, y⟩ := hd0.newRow t (olds.toArray ++ news.toArray ++ Builtin.zeroCells z.cells (grownCap w (xs.length + ys.length) c el - (xs.length + ys.length))) el hlay
          (cap := grownCap w (xs.length + ys.length) c el)
          (by intro he; have := congrArg List.length he; rw [List.length_append, List.length_nil] at this; omega) hsz
          (by
            have e1 := hlay.1
            rw [List.length_append, List.length_append] at e1
            simp only [Array.size_append, List.size_toArray, size_zeroCells, q9, ← q6]
            rw [e1, ← Nat.add_mul]; congr 1; omega)
          (by rw [List.length_append]; exact hge)
          (by have := take_toArray_append olds news (Builtin.zeroCells z.cells (grownCap w (xs.length + ys.length) c el - (xs.length + ys.length))); simpa using this)
        rw [List.length_append] at y
        exact ⟨_, _, G', by rw [hvs]; exact hrun, r.setT ht y⟩
      split at hk
      · obtain ⟨k1, k2, k3⟩ := hk
        have hvs : vs = .slice none 0 0 := by simpa [AVRel, Den] using hs
        by_cases hy : ys = []
        · subst hy
          obtain ⟨news, hsrc, hln⟩ := src_spec (P := Γ.P) hys' hxd k1 (by omega)
          rw [← q6] at hsrc
          obtain ⟨m, r⟩ := h.birth t 0
          have hr := run_append_stay (P := Γ.P) (ty := ty) q1 q4 hu hu' hsrc
          exact ⟨_, w, G, _, by rw [hvs]; exact hr, r.setT ht (show AVRel w G (e.birth t 0) (.own t 0 (e.gc t 0) (.sl [])) (.slice none 0 0) from
            ⟨birth_lt e t 0, Den.nil_sl (by simp [Den]), fun _ => .inl ⟨rfl, rfl⟩⟩), k3⟩
        · have hpos : 0 < ys.length := List.length_pos_iff.2 hy
          obtain ⟨v', w', G', hr, r⟩ := new h [] none 0 [] hvs (Lay.nil _) (.inr trivial) (fun k => by simp [Builtin.firstCells]) hxd k1 (by simpa using hpos) (by simpa using k2)
          exact ⟨v', w', G', _, hr, by simpa using r, k3⟩
      · rename_i c0 k0 g0 d0
        split at hk
        · rename_i xs hl
          obtain ⟨k1, k2, k3, k4⟩ := hk
          obtain ⟨p1, p2, p3⟩ := hs
          rcases p3 hl with ⟨hvs, hnil⟩ | ⟨xs', heq, hρ, hh⟩
          · -- nil till now
            obtain rfl : xs = [] := by simpa using hnil
            obtain ⟨mk, rk⟩ := h.kill c0 k0 g0
            by_cases hy : ys = []
            · subst hy
              obtain ⟨news, hsrc, hln⟩ := src_spec (P := Γ.P) hys' hxd k1 (by omega)
              rw [← q6] at hsrc
              obtain ⟨m, r⟩ := rk.birth t 0
              have hr := run_append_stay (P := Γ.P) (ty := ty) q1 q4 hu hu' hsrc
              exact ⟨_, w, G, _, by rw [hvs]; exact hr, r.setT ht (show AVRel w G ((e.kill c0 k0 g0).birth t 0) (.own t 0 (e.gc t 0) (.sl [])) (.slice none 0 0) from
                ⟨birth_lt (e.kill c0 k0 g0) t 0, Den.nil_sl (by simp [Den]), fun _ => .inl ⟨rfl, rfl⟩⟩), k4⟩
            · have hpos : 0 < ys.length := List.length_pos_iff.2 hy
              obtain ⟨v', w', G', hr, r⟩ := new rk [] none 0 [] hvs (Lay.nil _) (.inr trivial) (fun k => by simp [Builtin.firstCells]) hxd k1 (by simpa using hpos) (by simpa using k3)
              exact ⟨v', w', G', _, hr, r, k4⟩
          · injection heq with heq; subst heq
            obtain ⟨cap, sz, arr, E, s1, s2, s3, s4, s5, s6, s7, s8⟩ := hh
            obtain ⟨x0, hx0⟩ := List.exists_mem_of_ne_nil xs s2
            have hszn : sz = i.size := by
              have e1 := s8 x0 hx0
              simp only [rowB, List.all_eq_true, beq_iff_eq] at k2
              have e2 := k2 x0 hx0
              omega
            subst hszn
            obtain ⟨A, c', e1, e2, e3⟩ := Den_list (d := .sl xs) rfl p2
            rw [s1] at e1
            injection e1 with e1 e1' e1''
            subst e1 e1''
            obtain ⟨hsp, sz', hM⟩ := e3
            obtain ⟨i0, hi0⟩ := List.mem_iff_getElem?.1 hx0
            have hsz' : sz' = i.size := by have := (DenM_get hM i0 x0 hi0).1; have := s8 x0 hx0; omega
            subst hsz'
            by_cases hroom : xs.length + ys.length ≤ cap
            · obtain ⟨news, hsrc, hln⟩ := src_spec (P := Γ.P) hys' hxd k1 (by omega)
              rw [← q6] at hsrc hln
              have hfit : xs.length * i.size + news.length ≤ arr.size := by rw [hln.1, s6, ← Nat.add_mul]; exact Nat.mul_le_mul_right _ hroom
              have hr := run_append_in (P := Γ.P) (ty := ty) q1 q4 hu hu' hsrc s5 hln.one hroom hfit
              obtain ⟨G', r, y⟩ := h.growRow t hl p1 hρ s2 hsz s5 s6 s7 s8 hM hln hroom
              exact ⟨_, _, G', _, by rw [s1]; exact hr, r.setT ht y, k4⟩
            · obtain ⟨olds, l1, l2⟩ := Lay_of_DenM hM
              obtain ⟨mk, rk⟩ := h.kill c0 k0 g0
              obtain ⟨v', w', G', hr, r⟩ := new rk xs _ cap olds s1 l1 (.inr trivial) (fun k => by
                simp only [Builtin.firstCells]
                rw [← l1.1]
                exact run_loadCells_list (P := Γ.P) { w with drawn := k } _ olds fun j v hj => by rw [add_none]; exact (l2 j v hj).2) hxd k1 (by omega) k3
              exact ⟨v', w', G', _, hr, r, k4⟩
        · exact hk.elim
      · exact hk.elim
    · exact hk.elim
  · exact hk.elim
end
end Go.Proofs.YtebkaacflocfcaaDoor.Ab
