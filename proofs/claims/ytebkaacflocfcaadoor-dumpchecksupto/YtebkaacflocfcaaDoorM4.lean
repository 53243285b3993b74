/- The program in its context, and contracts of the small functions of the reference: sums, numbers, heads, keywords. -/
import Derived.KernelRfl
import Derived.IntWalk
import Derived.Test.YtebkaacflocfcaaDoorProg
import Derived.Test.YtebkaacflocfcaaDoorM3
set_option linter.unusedVariables false
set_option linter.unusedSimpArgs false
set_option linter.defProp false
/- The program's context: which package-level variables are known, which arguments are handed over. -/
namespace Go.Proofs.YtebkaacflocfcaaDoor.Ab
open Go

def kindsD : D := .agg [.str [], .int .i64 0, .str [105, 110, 116], .int .i64 10, .str [98, 111, 111, 108], .int .i64 1, .str [98, 121, 116, 101, 115], .int .i64 21]
def mdT : Nat → List Mode
  | 19 => [.o, .v]
  | 20 => [.o, .v, .v, .v]
  | 63 => [.o, .v]
  | 15 => [.p 4]
  | 25 => [.p 4, .v, .v]
  | 27 => [.p 4, .v, .p 3]
  | 28 => [.v, .v, .p 3]
  | _ => []
def mrT : Nat → Bool
  | 19 => true
  | 20 => true
  | 63 => true
  | 29 => true
  | 5 => true
  | _ => false
noncomputable def Γ : Ctx := { P := Tryd.prog, G := fun g => if g = 0 then some kindsD else none, md := mdT, mr := mrT }
theorem ΓP : Γ.P = Tryd.prog := rfl
theorem Γmd (f : Nat) : Γ.md f = mdT f := rfl
theorem Γmr (f : Nat) : Γ.mr f = mrT f := rfl
theorem ΓG (g : Nat) : Γ.G g = if g = 0 then some kindsD else none := rfl
/-- the types' table -/
theorem TT :
    Γ.P.underlying 2 = some (.int .i64) ∧
    Γ.P.underlying 3 = some (.int .i64) ∧
    Γ.P.underlying 4 = some .bool ∧
    Γ.P.underlying 5 = some (.int .u8) ∧
    Γ.P.underlying 9 = some .string ∧
    Γ.P.underlying 22 = some (.slice 5) ∧
    Γ.P.underlying 24 = some (.slice 37) ∧
    Γ.P.underlying 27 = some (.int .u64) ∧
    Γ.P.underlying 30 = some (.int .i64) ∧
    Γ.P.underlying 40 = some (.slice 39) ∧
    Γ.P.underlying 43 = some (.slice 42) ∧
    Γ.P.underlying 51 = some (.int .u32) ∧
    Γ.P.underlying 69 = some (.int .u64) ∧
    Γ.P.underlying 94 = some (.array 4 93) ∧
    Γ.P.underlying 124 = some (.slice 9) ∧
    szT Γ.P 2 = some (1, false) ∧
    szT Γ.P 3 = some (1, false) ∧
    szT Γ.P 4 = some (1, false) ∧
    szT Γ.P 5 = some (1, false) ∧
    szT Γ.P 9 = some (1, false) ∧
    szT Γ.P 22 = some (1, false) ∧
    szT Γ.P 24 = some (1, false) ∧
    szT Γ.P 26 = some (1, true) ∧
    szT Γ.P 27 = some (1, false) ∧
    szT Γ.P 29 = some (3, true) ∧
    szT Γ.P 30 = some (1, false) ∧
    szT Γ.P 37 = some (3, true) ∧
    szT Γ.P 39 = some (3, true) ∧
    szT Γ.P 40 = some (1, false) ∧
    szT Γ.P 42 = some (2, true) ∧
    szT Γ.P 43 = some (1, false) ∧
    szT Γ.P 51 = some (1, false) ∧
    szT Γ.P 53 = some (4, true) ∧
    szT Γ.P 76 = some (3, true) ∧
    szT Γ.P 93 = some (2, true) ∧
    szT Γ.P 94 = some (8, true) ∧
    szT Γ.P 124 = some (1, false) ∧
    elT Γ.P 22 = some (5, 1, false, 1) ∧
    elT Γ.P 24 = some (37, 3, true, 32) ∧
    elT Γ.P 40 = some (39, 3, true, 32) ∧
    elT Γ.P 43 = some (42, 2, true, 40) ∧
    elT Γ.P 124 = some (9, 1, false, 16) ∧
    fldT Γ.P 26 0 = some (0, 1, false) ∧
    placesT Γ.P 26 = some [(0, 1)] ∧
    fldT Γ.P 29 0 = some (0, 1, true) ∧
    fldT Γ.P 29 1 = some (1, 1, false) ∧
    fldT Γ.P 29 2 = some (2, 1, false) ∧
    placesT Γ.P 29 = some [(0, 1), (1, 1), (2, 1)] ∧
    fldT Γ.P 37 0 = some (0, 1, false) ∧
    fldT Γ.P 37 1 = some (1, 1, false) ∧
    fldT Γ.P 37 2 = some (2, 1, false) ∧
    placesT Γ.P 37 = some [(0, 1), (1, 1), (2, 1)] ∧
    fldT Γ.P 39 0 = some (0, 1, false) ∧
    fldT Γ.P 39 1 = some (1, 1, false) ∧
    fldT Γ.P 39 2 = some (2, 1, false) ∧
    placesT Γ.P 39 = some [(0, 1), (1, 1), (2, 1)] ∧
    fldT Γ.P 42 0 = some (0, 1, false) ∧
    fldT Γ.P 42 1 = some (1, 1, false) ∧
    placesT Γ.P 42 = some [(0, 1), (1, 1)] ∧
    fldT Γ.P 53 0 = some (0, 1, false) ∧
    fldT Γ.P 53 1 = some (1, 1, false) ∧
    fldT Γ.P 53 2 = some (2, 1, false) ∧
    fldT Γ.P 53 3 = some (3, 1, false) ∧
    placesT Γ.P 53 = some [(0, 1), (1, 1), (2, 1), (3, 1)] ∧
    fldT Γ.P 76 0 = some (0, 1, false) ∧
    fldT Γ.P 76 1 = some (1, 1, false) ∧
    fldT Γ.P 76 2 = some (2, 1, false) ∧
    placesT Γ.P 76 = some [(0, 1), (1, 1), (2, 1)] ∧
    fldT Γ.P 93 0 = some (0, 1, false) ∧
    fldT Γ.P 93 1 = some (1, 1, false) ∧
    placesT Γ.P 93 = some [(0, 1), (1, 1)] ∧
    zeroT Γ.P 26 = some (.agg [.nil]) ∧
    zeroT Γ.P 29 = some (.agg [.nil, .int .u64 0, .int .i64 0]) ∧
    zeroT Γ.P 37 = some (.agg [.str [], .int .i64 0, .bool false]) ∧
    zeroT Γ.P 39 = some (.agg [.int .i64 0, .int .i64 0, .str []]) ∧
    zeroT Γ.P 42 = some (.agg [.str [], .nil]) ∧
    zeroT Γ.P 76 = some (.agg [.int .u8 0, .int .u64 0, .nil]) ∧
    zeroT Γ.P 53 = some (.agg [.nil, .int .i64 0, .bool false, .int .u32 0]) ∧
    zeroT Γ.P 2 = some (.int .i64 0) ∧
    zeroT Γ.P 3 = some (.int .i64 0) ∧
    zeroT Γ.P 4 = some (.bool false) ∧
    zeroT Γ.P 9 = some (.str []) ∧
    zeroT Γ.P 22 = some (.nil) ∧
    zeroT Γ.P 24 = some (.nil) ∧
    zeroT Γ.P 43 = some (.nil) ∧
    zeroT Γ.P 40 = some (.nil) ∧
    zeroT Γ.P 27 = some (.int .u64 0) ∧
    zeroT Γ.P 5 = some (.int .u8 0) ∧
    zeroT Γ.P 93 = some (.agg [.str [], .int .i64 0]) ∧
    arT Γ.P 94 = some (4, 2, true) := by
  refine ⟨?_, ?_, ?_, ?_, ?_, ?_, ?_, ?_, ?_, ?_, ?_, ?_, ?_, ?_, ?_, ?_, ?_, ?_, ?_, ?_, ?_, ?_, ?_, ?_, ?_, ?_, ?_, ?_, ?_, ?_, ?_, ?_, ?_, ?_, ?_, ?_, ?_, ?_, ?_, ?_, ?_, ?_, ?_, ?_, ?_, ?_, ?_, ?_, ?_, ?_, ?_, ?_, ?_, ?_, ?_, ?_, ?_, ?_, ?_, ?_, ?_, ?_, ?_, ?_, ?_, ?_, ?_, ?_, ?_, ?_, ?_, ?_, ?_, ?_, ?_, ?_, ?_, ?_, ?_, ?_, ?_, ?_, ?_, ?_, ?_, ?_, ?_, ?_, ?_, ?_⟩ <;> kernel_rfl

/-- small rules -/
theorem E6 :
    (∀ (α : Type) (a : α) (l : List α), (a :: l)[0]? = some a) ∧ (∀ (α : Type) (a : α) (l : List α) (n : Nat), (a :: l)[n + 1]? = l[n]?) ∧ (∀ (α : Type) (l : List α) (n : Nat), (List.toArray l)[n]? = l[n]?) ∧
    (∀ (α : Type) (l : List α), (List.toArray l).toList = l) ∧
    (∀ (α β : Type) (f : α → β) (a : α), (some a).map f = some (f a)) ∧ (∀ (α β : Type) (f : α → Option β) (a : α), (some a).bind f = f a) ∧
    (∀ b : Bool, (b == true) = b) ∧ (∀ b : Bool, (b == false) = !b) ∧ (∀ p : Prop, (True → p) = p) ∧ (∀ p : Prop, (False → p) = True) ∧ (∀ p : Prop, (True ∧ p) = p) ∧ (∀ p : Prop, (p ∧ True) = p) ∧ (∀ p : Prop, (False ∧ p) = False) ∧ (∀ p : Prop, (p ∧ False) = False) ∧
    (∀ p : Prop, (p ∨ True) = True) ∧ (∀ p : Prop, (False ∨ p) = p) ∧ ((!true) = false) ∧ ((!false) = true) ∧
    (∀ n : Nat, rowB n [] = true) ∧ (∀ k i n, rowB n [D.int k i] = decide (1 = n)) ∧ (∀ (α : Type) (a : α), (a = a) = True) ∧ ((false = true) = False) ∧ ((true = false) = False) ∧
    (decide True = true) ∧ (decide False = false) ∧ (∀ (f : AV → Prop), True) := by
  refine ⟨fun _ _ _ => rfl, fun _ _ _ _ => rfl, fun _ _ _ => by simp, fun _ _ => rfl, fun _ _ _ _ => rfl, fun _ _ _ _ => rfl, fun b => by cases b <;> rfl, fun b => by cases b <;> rfl, fun p => by simp, fun p => by simp, fun p => by simp, fun p => by simp, fun p => by simp, fun p => by simp,
    fun p => by simp, fun p => by simp, rfl, rfl, fun n => rfl, fun k i n => ?_, fun α a => by simp, by simp, by simp, by simp, by simp, fun f => trivial⟩
  simp only [rowB, List.all_cons, D.cnt, List.all_nil, Bool.and_true]
  rfl
def srcU (u : TypeDesc) (d : D) : Option (List D) := match u with
  | .slice _ => srcD d
  | .string => srcD d
  | _ => none
/-- appending, and lists of operands -/
theorem E7 :
    (∀ Γ t c k g xs x ts tx e K, evAppendH Γ (some t) (.own c k g (.sl xs)) x ts tx e K = bindO (elT Γ.P ts) fun q => bindO (Γ.P.underlying tx) fun u => bindO x.d fun d => bindO (srcU u d) fun ys => Bq (e.lv c k g)
      (fun _ => rowB q.2.1 ys = true ∧ rowB q.2.1 xs = true ∧ (xs.length + ys.length) * q.2.2.2 ≤ roomy ∧ K (((e.kill c k g).birth t 0).setT t (.own t 0 (e.gc t 0) (.sl (xs ++ ys))))) (fun _ => False)) ∧
    (∀ Γ t x ts tx e K, evAppendH Γ (some t) (.val .nil) x ts tx e K = bindO (elT Γ.P ts) fun q => bindO (Γ.P.underlying tx) fun u => bindO x.d fun d => bindO (srcU u d) fun ys =>
      rowB q.2.1 ys = true ∧ ys.length * q.2.2.2 ≤ roomy ∧ K ((e.birth t 0).setT t (.own t 0 (e.gc t 0) (.sl ys)))) ∧
    (∀ e d, srcU (.slice e) d = srcD d) ∧ (∀ d, srcU .string d = srcD d) ∧ (srcD .nil = some []) ∧ (∀ ys, srcD (.sl ys) = some ys) ∧ (∀ s, srcD (.str s) = some (ofBytes s)) ∧
    ((([] : List (Option D)).mapM (m := Option) id) = some []) ∧ (∀ (d : D) (r : List (Option D)), (some d :: r).mapM (m := Option) id = (r.mapM (m := Option) id).map (d :: ·)) ∧
    (([0] = List.range 1) = True) ∧ (([0, 1, 2, 3, 4, 5, 6, 7, 8, 9, 10, 11, 12, 13, 14, 15, 16] = List.range 17) = True) ∧
    (∀ k n, D.cnt (.int k n) = 1) ∧ (∀ b, D.cnt (.bool b) = 1) ∧ (∀ s, D.cnt (.str s) = 1) ∧ (D.cnt .nil = 1) ∧ (∀ s, D.cnt (.sl s) = 1) ∧ (∀ s, D.cnt (.agg s) = s.length) ∧
    (∀ k n, D.cells (.int k n) = [.int k n]) ∧ (∀ b, D.cells (.bool b) = [.bool b]) ∧ (∀ s, D.cells (.str s) = [.str s]) ∧ (D.cells .nil = [.nil]) ∧ (∀ s, D.cells (.sl s) = [.sl s]) ∧ (∀ s, D.cells (.agg s) = s) ∧
    (∀ k n, D.isAgg (.int k n) = false) ∧ (∀ b, D.isAgg (.bool b) = false) ∧ (∀ s, D.isAgg (.str s) = false) ∧ (D.isAgg .nil = false) ∧ (∀ s, D.isAgg (.sl s) = false) ∧ (∀ s, D.isAgg (.agg s) = true) ∧
    (∀ k n, D.isTup (.int k n) = false) ∧ (∀ b, D.isTup (.bool b) = false) ∧ (∀ s, D.isTup (.str s) = false) ∧ (D.isTup .nil = false) ∧ (∀ s, D.isTup (.sl s) = false) ∧ (∀ s, D.isTup (.agg s) = false) ∧
    (∀ k n, D.flat (.int k n) = true) ∧ (∀ b, D.flat (.bool b) = true) ∧ (∀ s, D.flat (.str s) = true) ∧ (D.flat .nil = true) ∧ (∀ s, D.flat (.sl s) = true) ∧
    (∀ (α β : Type) (f : α → β), [].map f = []) ∧ (∀ (α β : Type) (f : α → β) (a : α) (l : List α), (a :: l).map f = f a :: l.map f) ∧
    (∀ (α : Type), ([] : List α).length = 0) ∧ (∀ (α : Type) (a : α) (l : List α), (a :: l).length = l.length + 1) ∧ (∀ (p : D → Bool), [].all p = true) ∧ (∀ (p : D → Bool) a l, (a :: l).all p = (p a && l.all p)) ∧
    (∀ b : Bool, (true && b) = b) ∧ (∀ n : Nat, n * 1 = n) ∧ (∀ (α : Type) (a : α) (l : List α), (a :: l ≠ []) = True) := by
  refine ⟨fun Γ t c k g xs x ts tx e K => ?ao, fun Γ t x ts tx e K => ?an, fun _ _ => rfl, fun _ => rfl, rfl, fun _ => rfl, fun _ => rfl, rfl, fun d r => ?mm, by simp, by simp; rfl, fun _ _ => rfl, fun _ => rfl, fun _ => rfl, rfl, fun _ => rfl, fun _ => rfl,
    fun _ _ => rfl, fun _ => rfl, fun _ => rfl, rfl, fun _ => rfl, fun _ => rfl, fun _ _ => rfl, fun _ => rfl, fun _ => rfl, rfl, fun _ => rfl, fun _ => rfl, fun _ _ => rfl, fun _ => rfl, fun _ => rfl, rfl, fun _ => rfl, fun _ => rfl,
    fun _ _ => rfl, fun _ => rfl, fun _ => rfl, rfl, fun _ => rfl, fun _ _ _ => rfl, fun _ _ _ _ _ => rfl, fun _ => rfl, fun _ _ _ => rfl, fun _ => rfl, fun _ _ _ => rfl, fun _ => rfl, fun n => Nat.mul_one n, fun _ _ _ => by simp⟩
  case ao =>
    simp only [evAppendH, evAppend, bindO]
    cases elT Γ.P ts with
    | none => rfl
    | some q =>
      obtain ⟨q1, n, a, by_⟩ := q
      cases Γ.P.underlying tx with
      | none => rfl
      | some u =>
        cases x.d with
        | none => rfl
        | some d =>
          dsimp only
          change (match srcU u d with | some ys => _ | none => _) = _
          cases srcU u d with
          | none => rfl
          | some ys => cases e.lv c k g <;> simp [Bq, Br]
  case an =>
    simp only [evAppendH, evAppend, bindO]
    cases elT Γ.P ts with
    | none => rfl
    | some q =>
      obtain ⟨q1, n, a, by_⟩ := q
      cases Γ.P.underlying tx with
      | none => rfl
      | some u =>
        cases x.d with
        | none => rfl
        | some d =>
          dsimp only
          change (match srcU u d with | some ys => _ | none => _) = _
          cases srcU u d with
          | none => rfl
          | some ys => rfl
  case mm => cases h : r.mapM (m := Option) id <;> simp [List.mapM_cons, h]
/-- arguments -/
theorem E8 :
    (∀ (e : Env) ms, e.argsA ms [] = some []) ∧ (∀ (e : Env) x xs, e.argsA [] (x :: xs) = x.d.bind fun d => (e.argsA [] xs).bind fun zs => some (A.v d :: zs)) ∧
    (∀ (e : Env) m ms x xs, e.argsA (m :: ms) (x :: xs) = (e.argA m x).bind fun a => (e.argsA ms xs).bind fun zs => some (a :: zs)) ∧ (∀ (e : Env) x, e.argA .v x = x.d.map A.v) ∧
    (∀ (e : Env) c k g d, e.argA .o (.own c k g d) = if e.lv c k g = true then some (A.o d) else none) ∧ (∀ e : Env, e.argA .o (.val .nil) = some (A.o (.sl []))) := by
  refine ⟨fun e ms => by cases ms <;> rfl, fun e x xs => ?_, fun e m ms x xs => ?_, fun e x => ?_, fun e c k g d => ?_, fun _ => rfl⟩
  · simp only [Env.argsA, Env.argA]; cases x.d <;> cases e.argsA [] xs <;> rfl
  · simp only [Env.argsA]; cases e.argA m x <;> cases e.argsA ms xs <;> rfl
  · simp only [Env.argA]; cases x.d <;> rfl
  · simp only [Env.argA]; cases e.lv c k g <;> rfl
theorem callV {f : FuncId} {xs : List AV} {zs : List A} {e : Env} {K : Env → Prop} {dst : Option Nat} {res : ARes} (h : ACalls Γ f zs res) (hm : mdT f = []) (hr : mrT f = false) (hk : K (e.setD dst (.val res.ret))) :
    evCallA Γ dst f xs zs e K := by
  refine evCallA_mk res h ?_ ?_
  · rw [Γmd, hm]; simp [argIds]
  · rw [Γmr, hr, Γmd, hm]
    have : e.after [] xs res.outs = e := by simp [Env.after, Env.strip, Env.fillIn]
    rw [this]
    cases dst <;> exact hk
theorem callO {f : FuncId} {xs : List AV} {zs : List A} {e : Env} {K : Env → Prop} {t : Nat} {res : ARes} (h : ACalls Γ f zs res) (hm : mdT f = []) (hr : mrT f = true) (hk : K ((e.birth t 0).setT t (.own t 0 (e.gc t 0) res.ret))) :
    evCallA Γ (some t) f xs zs e K := by
  refine evCallA_mk res h ?_ ?_
  · rw [Γmd, hm]; simp [argIds]
  · rw [Γmr, hr, Γmd, hm]
    have : e.after [] xs res.outs = e := by simp [Env.after, Env.strip, Env.fillIn]
    rw [this]
    exact hk
def S1 := And.intro E1 (And.intro E2 E5o)
def S2 := And.intro E4 (And.intro E5 (And.intro E (And.intro E3 (And.intro TT (And.intro E6 (And.intro E7 (And.intro E8 (And.intro @Br_true (And.intro @Br_false (And.intro @Br_not (And.intro Γmd Γmr)))))))))))
end Go.Proofs.YtebkaacflocfcaaDoor.Ab

/- Aids for the walks: numbers, bytes, loops. -/
namespace Go.Proofs.YtebkaacflocfcaaDoor.Ab
open Go

theorem evW_loop {Γ : Ctx} {c : Code} {Q : X → Env → Prop} {e : Env} (I : Nat → Env → Prop) (n : Nat) (h0 : I n e)
    (h : ∀ J : Nat → Env → Prop, (∀ n e, I n e → J n e) → ∀ n e, I n e → evW Γ c (X.then (fun e' => ∃ n', n' < n ∧ J n' e') Q) e) : evW Γ (.loop c) Q e := ⟨I, n, h0, h I fun _ _ h => h⟩

def bD (b : List UInt8) : D := .sl (ofBytes b)
theorem bD_def (b : List UInt8) : D.sl (ofBytes b) = bD b := rfl
theorem atI_nat {α : Type} (xs : List α) (i : Nat) : atI xs (i : Int) = xs[i]? := by simp [atI]
theorem get_ofBytes (b : List UInt8) (i : Nat) : (ofBytes b)[i]? = (b[i]?).map fun c => D.int .u8 c.toNat := by simp [ofBytes]
theorem len_ofBytes (b : List UInt8) : (ofBytes b).length = b.length := by simp [ofBytes]
theorem row_ofBytes (b : List UInt8) : rowB 1 (ofBytes b) = true := by
  simp only [rowB, ofBytes, List.all_map, List.all_eq_true]
  intro c _; rfl
theorem add_ofBytes (a b : List UInt8) : ofBytes a ++ ofBytes b = ofBytes (a ++ b) := by simp [ofBytes]
theorem one_ofBytes (c : UInt8) : [D.int .u8 c.toNat] = ofBytes [c] := rfl
theorem nil_ofBytes : ([] : List D) = ofBytes [] := rfl
theorem cut_ofBytes (b : List UInt8) (i j : Nat) : ((ofBytes b).take j).drop i = ofBytes ((b.take j).drop i) := by simp [ofBytes]
theorem w64 {n : Int} (h : -9223372036854775808 ≤ n ∧ n ≤ 9223372036854775807) : IntKind.i64.wrap n = n := by
  simp only [IntKind.wrap, IntKind.bits, IntKind.signed, Bool.true_and, Bool.false_and, ge_iff_le, decide_eq_true_eq, Nat.reduceSub, Int.reducePow, Bool.false_eq_true, if_false]; omega
theorem wu64 {n : Int} (h : 0 ≤ n ∧ n ≤ 18446744073709551615) : IntKind.u64.wrap n = n := by
  simp only [IntKind.wrap, IntKind.bits, IntKind.signed, Bool.true_and, Bool.false_and, ge_iff_le, decide_eq_true_eq, Nat.reduceSub, Int.reducePow, Bool.false_eq_true, if_false]; omega
theorem wu32 {n : Int} (h : 0 ≤ n ∧ n ≤ 4294967295) : IntKind.u32.wrap n = n := by
  simp only [IntKind.wrap, IntKind.bits, IntKind.signed, Bool.true_and, Bool.false_and, ge_iff_le, decide_eq_true_eq, Nat.reduceSub, Int.reducePow, Bool.false_eq_true, if_false]; omega
theorem wu8 {n : Int} (h : 0 ≤ n ∧ n ≤ 255) : IntKind.u8.wrap n = n := by
  simp only [IntKind.wrap, IntKind.bits, IntKind.signed, Bool.true_and, Bool.false_and, ge_iff_le, decide_eq_true_eq, Nat.reduceSub, Int.reducePow, Bool.false_eq_true, if_false]; omega
theorem wu8m (n : Int) : IntKind.u8.wrap n = n % 256 := by
  simp only [IntKind.wrap, IntKind.bits, IntKind.signed, Bool.true_and, Bool.false_and, ge_iff_le, decide_eq_true_eq, Nat.reduceSub, Int.reducePow, Bool.false_eq_true, if_false]
theorem succ64 {i : Nat} (h : i < 4611686018427387904) : IntKind.i64.wrap ((i : Int) + 1) = ((i + 1 : Nat) : Int) := by
  rw [w64 (by omega)]; rfl
theorem take_succ {α : Type} {l : List α} {i : Nat} {c : α} (h : l[i]? = some c) : l.take i ++ [c] = l.take (i + 1) := by
  rw [List.take_add_one, h]; rfl
end Go.Proofs.YtebkaacflocfcaaDoor.Ab

/- Bits of unsigned numbers. -/
namespace Go.Proofs.YtebkaacflocfcaaDoor.Ab
open Go
set_option linter.unusedSimpArgs false

theorem ofInt_nat {w m : Nat} (h : m < 2 ^ w) : (BitVec.ofInt w (m : Int)).toNat = m := by
  rw [BitVec.ofInt_natCast, BitVec.toNat_ofNat, Nat.mod_eq_of_lt h]
theorem wrapU {k : IntKind} (hk : k.signed = false) {m : Nat} (h : m < 2 ^ k.bits) : k.wrap (m : Int) = m := by
  simp only [IntKind.wrap, hk, Bool.false_and, Bool.false_eq_true, if_false]
  rw [Int.emod_eq_of_lt (by omega)]
  exact_mod_cast h
theorem xorU {k : IntKind} (hk : k.signed = false) {a b : Int} (m n : Nat) (ha : a = m) (hb : b = n) (hm : m < 2 ^ k.bits) (hn : n < 2 ^ k.bits) : bitsD .xor k a b = some ((m ^^^ n : Nat) : Int) := by
  subst ha hb
  simp only [bitsD, BitVec.toNat_xor, ofInt_nat hm, ofInt_nat hn]
  rw [wrapU hk (Nat.xor_lt_two_pow hm hn)]
theorem andU {k : IntKind} (hk : k.signed = false) {a b : Int} (m n : Nat) (ha : a = m) (hb : b = n) (hm : m < 2 ^ k.bits) (hn : n < 2 ^ k.bits) : bitsD .and k a b = some ((m &&& n : Nat) : Int) := by
  subst ha hb
  simp only [bitsD, BitVec.toNat_and, ofInt_nat hm, ofInt_nat hn]
  rw [wrapU hk (Nat.and_lt_two_pow _ hn)]
theorem orU {k : IntKind} (hk : k.signed = false) {a b : Int} (m n : Nat) (ha : a = m) (hb : b = n) (hm : m < 2 ^ k.bits) (hn : n < 2 ^ k.bits) : bitsD .or k a b = some ((m ||| n : Nat) : Int) := by
  subst ha hb
  simp only [bitsD, BitVec.toNat_or, ofInt_nat hm, ofInt_nat hn]
  rw [wrapU hk (Nat.or_lt_two_pow hm hn)]
theorem notU32 (m : Nat) (hm : m < 4294967296) : unD .xor (.int .u32 (m : Int)) = some (.int .u32 ((4294967295 - m : Nat) : Int)) := by
  simp only [unD, IntKind.signed, Bool.false_eq_true, if_false]
  have h : bitsD .xor .u32 (IntKind.max .u32) (m : Int) = some ((4294967295 - m : Nat) : Int) := by
    have h0 : IntKind.max .u32 = ((4294967295 : Nat) : Int) := by decide
    rw [h0, xorU (k := .u32) rfl 4294967295 m rfl rfl (by decide) hm]
    congr 2
    have := congrArg BitVec.toNat (BitVec.allOnes_xor (w := 32) (x := BitVec.ofNat 32 m))
    simp only [BitVec.toNat_xor, BitVec.toNat_not, BitVec.toNat_allOnes, BitVec.toNat_ofNat] at this
    rw [Nat.mod_eq_of_lt (by omega : m < 2 ^ 32)] at this
    simpa using this
  rw [h]; rfl
theorem tmodN {a b : Int} (m n : Nat) (ha : a = m) (hb : b = n) : a.tmod b = ((m % n : Nat) : Int) := by
  subst ha hb; rw [Int.tmod_eq_emod_of_nonneg (by omega)]; rfl
theorem tdivN {a b : Int} (m n : Nat) (ha : a = m) (hb : b = n) : a.tdiv b = ((m / n : Nat) : Int) := by
  subst ha hb; rw [Int.tdiv_eq_ediv_of_nonneg (by omega)]; rfl
theorem fdivN {a b : Int} (m n : Nat) (ha : a = m) (hb : b = n) : a.fdiv b = ((m / n : Nat) : Int) := by
  subst ha hb; rw [Int.fdiv_eq_ediv_of_nonneg _ (by omega)]; rfl

theorem E9 :
    (∀ P k a k' b t, binD P .xor t (.int k a) (.int k' b) = if k = k' then (bitsD .xor k a b).map (D.int k) else none) ∧
    (∀ P k a k' b t, binD P .and t (.int k a) (.int k' b) = if k = k' then (bitsD .and k a b).map (D.int k) else none) ∧
    (∀ P k a k' b t, binD P .or t (.int k a) (.int k' b) = if k = k' then (bitsD .or k a b).map (D.int k) else none) := by
  refine ⟨fun _ _ _ _ _ _ => rfl, fun _ _ _ _ _ _ => rfl, fun _ _ _ _ _ _ => rfl⟩

/-! the sum of bytes, bit by bit -/
def poly : Nat := 3988292384
def turnN (r bit : Nat) : Nat := if r % 2 = bit then r / 2 else r / 2 ^^^ poly
def turns : Nat → Nat → Nat → Nat
  | 0, r, _ => r
  | k + 1, r, c => turns k (turnN r (c % 2)) (c / 2)
def crcR (r : Nat) (b : List UInt8) : Nat := b.foldl (fun r c => turns 8 r c.toNat) r
def extN (s : Nat) (b : List UInt8) : Nat := 4294967295 - crcR (4294967295 - s) b
theorem turnN_lt {r bit : Nat} (h : r < 4294967296) : turnN r bit < 4294967296 := by
  unfold turnN
  split
  · omega
  · exact Nat.xor_lt_two_pow (n := 32) (by omega) (by decide)
theorem turns_lt : ∀ (k : Nat) {r c : Nat}, r < 4294967296 → turns k r c < 4294967296 := by
  intro k
  induction k with
  | zero => intro r c h; exact h
  | succ k ih => intro r c h; exact ih (turnN_lt h)
theorem crcR_lt : ∀ (b : List UInt8) {r : Nat}, r < 4294967296 → crcR r b < 4294967296 := by
  intro b
  induction b with
  | nil => intro r h; exact h
  | cons c b ih => intro r h; exact ih (turns_lt 8 h)
theorem extN_lt (s : Nat) (b : List UInt8) : extN s b < 4294967296 := by unfold extN; omega
theorem crcR_append (r : Nat) (a b : List UInt8) : crcR r (a ++ b) = crcR (crcR r a) b := by simp [crcR]
theorem extN_append (s : Nat) (a b : List UInt8) : extN s (a ++ b) = extN (extN s a) b := by
  unfold extN
  have := crcR_lt a (r := 4294967295 - s) (by omega)
  rw [crcR_append]
  congr 2
  omega
/-- one turn of the sum without the bit, which was laid into it -/
def stepN (r : Nat) : Nat := if r % 2 = 1 then r / 2 ^^^ poly else r / 2
def steps : Nat → Nat → Nat
  | 0, r => r
  | k + 1, r => steps k (stepN r)
theorem stepN_lt {r : Nat} (h : r < 4294967296) : stepN r < 4294967296 := by
  unfold stepN
  split
  · exact Nat.xor_lt_two_pow (n := 32) (by omega) (by decide)
  · omega
theorem steps_succ : ∀ (k r : Nat), steps (k + 1) r = stepN (steps k r) := by
  intro k
  induction k with
  | zero => intro r; rfl
  | succ k ih => intro r; exact ih (stepN r)
theorem turns_succ : ∀ (k r c : Nat), turns (k + 1) r c = turnN (turns k r c) ((c / 2 ^ k) % 2) := by
  intro k
  induction k with
  | zero => intro r c; simp [turns]
  | succ k ih =>
    intro r c
    rw [turns, ih, turns]
    rw [Nat.div_div_eq_div_mul, Nat.pow_succ, Nat.mul_comm]
theorem xor_half (a b : Nat) : (a ^^^ b) / 2 = a / 2 ^^^ b / 2 := by
  apply Nat.eq_of_testBit_eq
  intro i
  simp [Nat.testBit_div_two]
theorem xor_mod2 (a b : Nat) : (a ^^^ b) % 2 = (a % 2 + b % 2) % 2 := by
  have h := Nat.testBit_xor a b 0
  simp only [Nat.testBit_zero] at h
  rcases Nat.mod_two_eq_zero_or_one a with ha | ha <;> rcases Nat.mod_two_eq_zero_or_one b with hb | hb <;>
    rcases Nat.mod_two_eq_zero_or_one (a ^^^ b) with hc | hc <;> simp_all
theorem xor_swap (a b c : Nat) : a ^^^ b ^^^ c = a ^^^ c ^^^ b := by rw [Nat.xor_assoc, Nat.xor_comm b c, ← Nat.xor_assoc]
theorem step_turn (r c : Nat) : stepN (r ^^^ c) = turnN r (c % 2) ^^^ c / 2 := by
  unfold stepN turnN
  rw [xor_half, xor_mod2]
  rcases Nat.mod_two_eq_zero_or_one r with ha | ha <;> rcases Nat.mod_two_eq_zero_or_one c with hb | hb <;> simp only [ha, hb] <;> simp <;> rw [xor_swap (r / 2) (c / 2) poly]
theorem steps_turns : ∀ (k r c : Nat), steps k (r ^^^ c) = turns k r c ^^^ c / 2 ^ k := by
  intro k
  induction k with
  | zero => intro r c; simp [steps, turns]
  | succ k ih =>
    intro r c
    rw [steps, step_turn, ih, turns, Nat.div_div_eq_div_mul, Nat.pow_succ, Nat.mul_comm]
theorem steps8 (r : Nat) (c : UInt8) : steps 8 (r ^^^ c.toNat) = turns 8 r c.toNat := by
  rw [steps_turns]
  have : c.toNat / 2 ^ 8 = 0 := Nat.div_eq_of_lt c.toNat_lt
  rw [this]; simp
end Go.Proofs.YtebkaacflocfcaaDoor.Ab

/- Numbers as bytes, the lowest first. -/
namespace Go.Proofs.YtebkaacflocfcaaDoor.Ab
open Go
set_option linter.unusedSimpArgs false

def low : Nat → Nat → List UInt8
  | _, 0 => []
  | x, n + 1 => UInt8.ofNat (x % 256) :: low (x / 256) n
def num : List UInt8 → Nat
  | [] => 0
  | c :: r => c.toNat + 256 * num r
theorem low_len : ∀ (n x : Nat), (low x n).length = n := by
  intro n
  induction n with
  | zero => intro x; rfl
  | succ n ih => intro x; simp [low, ih]
theorem low_succ : ∀ (n x : Nat), low x (n + 1) = low x n ++ [UInt8.ofNat (x / 256 ^ n % 256)] := by
  intro n
  induction n with
  | zero => intro x; simp [low]
  | succ n ih =>
    intro x
    rw [low, ih, low, List.cons_append, Nat.div_div_eq_div_mul, Nat.pow_succ, Nat.mul_comm]
theorem num_lt : ∀ (b : List UInt8), num b < 256 ^ b.length := by
  intro b
  induction b with
  | nil => decide
  | cons c b ih =>
    simp only [num, List.length_cons, Nat.pow_succ]
    have := c.toNat_lt
    omega
theorem num_append : ∀ (a b : List UInt8), num (a ++ b) = num a + 256 ^ a.length * num b := by
  intro a
  induction a with
  | nil => intro b; simp [num]
  | cons c a ih =>
    intro b
    simp only [List.cons_append, num, ih, List.length_cons, Nat.pow_succ]
    rw [Nat.mul_add, Nat.add_assoc, ← Nat.mul_assoc, Nat.mul_comm 256 (256 ^ a.length)]
theorem num_low : ∀ (n x : Nat), num (low x n) = x % 256 ^ n := by
  intro n
  induction n with
  | zero => intro x; simp [low, num, Nat.mod_one]
  | succ n ih =>
    intro x
    simp only [low, num, ih]
    have h1 : (UInt8.ofNat (x % 256)).toNat = x % 256 := by simp
    rw [h1, Nat.pow_succ, Nat.mul_comm (256 ^ n) 256, Nat.mod_mul]
theorem low_num : ∀ (b : List UInt8), low (num b) b.length = b := by
  intro b
  induction b with
  | nil => rfl
  | cons c b ih =>
    have hc := c.toNat_lt
    have h1 : (c.toNat + 256 * num b) % 256 = c.toNat := by omega
    have h2 : (c.toNat + 256 * num b) / 256 = num b := by omega
    simp only [List.length_cons, low, num, h1, h2, ih]
    rw [UInt8.ofNat_toNat]
theorem num_low64 (x : Nat) (h : x < 18446744073709551616) : num (low x 8) = x := by
  rw [num_low, Nat.mod_eq_of_lt (by simpa using h)]
theorem or_add (m c i : Nat) (h : m < 256 ^ i) : m ||| c * 256 ^ i = m + 256 ^ i * c := by
  have h2 : (256 : Nat) ^ i = 2 ^ (8 * i) := by rw [Nat.pow_mul]
  rw [h2] at h ⊢
  rw [Nat.mul_comm c, Nat.or_comm, ← Nat.two_pow_add_eq_or_of_lt h, Nat.add_comm]
theorem take_num {b : List UInt8} {i : Nat} {c : UInt8} (h : b[i]? = some c) : num (b.take (i + 1)) = num (b.take i) + 256 ^ i * c.toNat := by
  rw [← take_succ h, num_append]
  have : (b.take i).length = i := by
    have hlt : i < b.length := by
      rcases Nat.lt_or_ge i b.length with h' | h'
      · exact h'
      · rw [List.getElem?_eq_none h'] at h; cases h
    simp; omega
  rw [this]; simp [num]
theorem drop_num {L : List UInt8} {j : Nat} {c : UInt8} (h : L[j]? = some c) : num (L.drop j) = num (L.drop (j + 1)) * 256 + c.toNat := by
  have hlt : j < L.length := by
    rcases Nat.lt_or_ge j L.length with h' | h'
    · exact h'
    · rw [List.getElem?_eq_none h'] at h; cases h
  rw [List.drop_eq_getElem_cons hlt]
  rw [List.getElem?_eq_getElem hlt] at h
  rw [Option.some.inj h, num]; omega
end Go.Proofs.YtebkaacflocfcaaDoor.Ab

/- Schemas, values, entries, frames as data. -/
namespace Go.Proofs.YtebkaacflocfcaaDoor.Ab
open Go
set_option linter.unusedSimpArgs false

abbrev Str := List UInt8
structure Fld where
  name : Str
  type : Int
  opt : Bool
  deriving DecidableEq
structure Val where
  kind : Int
  n : Int
  s : Str
  deriving DecidableEq
structure Ent where
  key : Str
  vals : List Val
  deriving DecidableEq
structure Frm where
  kind : UInt8
  gen : Nat
  body : Str
  deriving DecidableEq

def fD (f : Fld) : D := .agg [.str f.name, .int .i64 f.type, .bool f.opt]
def sD (s : List Fld) : D := .agg [.sl (s.map fD)]
def vD (v : Val) : D := .agg [.int .i64 v.kind, .int .i64 v.n, .str v.s]
def vsD (l : List Val) : D := .sl (l.map vD)
def eD (x : Ent) : D := .agg [.str x.key, vsD x.vals]
def esD (l : List Ent) : D := .sl (l.map eD)
def frD (f : Frm) : D := .agg [.int .u8 f.kind.toNat, .int .u64 f.gen, bD f.body]
def u32 (n : Nat) : D := .int .u32 (n : Int)
def u64 (n : Nat) : D := .int .u64 (n : Int)
def i64 (n : Int) : D := .int .i64 n

theorem row_map {α : Type} (f : α → D) (n : Nat) (h : ∀ x, (f x).cnt = n) (l : List α) : rowB n (l.map f) = true := by
  simp only [rowB, List.all_map, List.all_eq_true]
  intro x _
  simp [h]
theorem row_f (s : List Fld) : rowB 3 (s.map fD) = true := row_map fD 3 (fun _ => rfl) s
theorem row_v (s : List Val) : rowB 3 (s.map vD) = true := row_map vD 3 (fun _ => rfl) s
theorem row_e (s : List Ent) : rowB 2 (s.map eD) = true := row_map eD 2 (fun _ => rfl) s
theorem row_s (s : List Str) : rowB 1 (s.map D.str) = true := row_map D.str 1 (fun _ => rfl) s

theorem init_gb (l : List A) (b : Nat) (h : (100000 ≤ b) = False) : (Env.init l).gb b = 0 := by
  have : ¬ 100000 ≤ b := by simp [h]
  simp [Env.init, this]
/-- what is read out of lists and boxes -/
theorem E10 :
    (∀ (α β : Type) (f : α → β) (l : List α) (i : Nat), (l.map f)[i]? = (l[i]?).map f) ∧ (∀ (α β : Type) (f : α → β) (l : List α), (l.map f).length = l.length) ∧
    (∀ n : Nat, (n < n + 1) = True) ∧ (∀ n : Nat, (0 < n + 1) = True) ∧
    (∀ (ds : List D) off n, subD ds off n false = ds[off]?) ∧ (∀ (ds : List D) off n, subD ds off n true = if off + n ≤ ds.length then some (.agg ((ds.drop off).take n)) else none) ∧
    (∀ (e : Env) b g o, e.rdCells b g o 0 = some []) ∧ (∀ (e : Env) b g o n, e.rdCells b g o (n + 1) = (e.bx b g o).d.bind fun d => (e.rdCells b g (o + 1) n).bind fun ds => some (d :: ds)) ∧
    (∀ (e : Env) b g o, e.hasCells b g o 0 = true) ∧ (∀ (e : Env) b g o n, e.hasCells b g o (n + 1) = ((match e.bx b g o with | .no => false | _ => true) && e.hasCells b g (o + 1) n)) ∧
    (∀ (e : Env) b g o, e.rdCells b g o 1 = (e.bx b g o).d.bind fun d => some [d]) ∧ (∀ (e : Env) b g o, e.rdCells b g o 2 = (e.bx b g o).d.bind fun d => (e.rdCells b g (o + 1) 1).bind fun ds => some (d :: ds)) ∧
    (∀ (e : Env) b g o, e.rdCells b g o 3 = (e.bx b g o).d.bind fun d => (e.rdCells b g (o + 1) 2).bind fun ds => some (d :: ds)) ∧ (∀ (e : Env) b g o, e.rdCells b g o 4 = (e.bx b g o).d.bind fun d => (e.rdCells b g (o + 1) 3).bind fun ds => some (d :: ds)) ∧
    (∀ (e : Env) b g o, e.hasCells b g o 1 = ((match e.bx b g o with | .no => false | _ => true) && true)) ∧ (∀ (e : Env) b g o, e.hasCells b g o 2 = ((match e.bx b g o with | .no => false | _ => true) && e.hasCells b g (o + 1) 1)) ∧
    (∀ (e : Env) b g o, e.hasCells b g o 3 = ((match e.bx b g o with | .no => false | _ => true) && e.hasCells b g (o + 1) 2)) ∧ (∀ (e : Env) b g o, e.hasCells b g o 4 = ((match e.bx b g o with | .no => false | _ => true) && e.hasCells b g (o + 1) 3)) ∧
    (∀ l b, (100000 ≤ b) = False → (Env.init l).gb b = 0) := by
  have hrd : ∀ (e : Env) b g o n, e.rdCells b g o (n + 1) = (e.bx b g o).d.bind fun d => (e.rdCells b g (o + 1) n).bind fun ds => some (d :: ds) := by
    intro e b g o n
    simp only [Env.rdCells]
    cases (e.bx b g o).d <;> cases e.rdCells b g (o + 1) n <;> rfl
  refine ⟨fun _ _ f l i => by simp, fun _ _ f l => by simp, fun n => by simp, fun n => by simp, fun _ _ _ => rfl, fun _ _ _ => rfl, fun _ _ _ _ => rfl, hrd,
    fun _ _ _ _ => rfl, fun _ _ _ _ _ => rfl, fun e b g o => hrd e b g o 0, fun e b g o => hrd e b g o 1, fun e b g o => hrd e b g o 2, fun e b g o => hrd e b g o 3, fun _ _ _ _ => rfl, fun _ _ _ _ => rfl, fun _ _ _ _ => rfl, fun _ _ _ _ => rfl, init_gb⟩
theorem E11 :
    (∀ (α : Type) (l : List α), l.take 0 = []) ∧ (∀ (α : Type) (a : α) (l : List α) (n : Nat), (a :: l).take (n + 1) = a :: l.take n) ∧ (∀ (α : Type) (l : List α), l.drop 0 = l) ∧ (∀ (α : Type) (a : α) (l : List α) (n : Nat), (a :: l).drop (n + 1) = l.drop n) ∧
    (∀ (α : Type) (l : List α), [] ++ l = l) ∧ (∀ (α : Type) (a : α) (l m : List α), (a :: l) ++ m = a :: (l ++ m)) ∧ (∀ (α : Type) (n : Nat), ([] : List α).take n = []) ∧ (∀ (α : Type) (n : Nat), ([] : List α).drop n = []) ∧
    (∀ b : Bool, (b && true) = b) := by
  refine ⟨fun _ _ => rfl, fun _ _ _ _ => rfl, fun _ _ => rfl, fun _ _ _ _ => rfl, fun _ _ => rfl, fun _ _ _ _ => rfl, fun _ n => by simp, fun _ n => by simp, fun b => by cases b <;> rfl⟩
def S3 := And.intro E9 (And.intro E10 E11)
end Go.Proofs.YtebkaacflocfcaaDoor.Ab

/- Walks: bytes. -/
namespace Go.Proofs.YtebkaacflocfcaaDoor.Ab
open Go
set_option maxRecDepth 100000
set_option linter.unusedSimpArgs false
set_option linter.unusedVariables false

theorem copyBytes_ok (b : List UInt8) (hn : b.length ≤ 1000000000) : ACalls Γ 5 [.v (bD b)] ⟨bD b, []⟩ := by
  refine acalls_of Tryd.func5 rfl rfl (by kernel_rfl) ?_
  have hr : Tryd.f5.results.toList = [.tmp 2] := rfl
  simp only [↓S1, S2, S3, pureOp, fillD, ↓reduceIte, reduceCtorEq, Nat.reduceEqDiff, Nat.reduceAdd, Nat.reduceLeDiff, mdT, mrT]
  refine evW_loop (fun n e => ∃ (i g : Nat), n = b.length - i ∧ i ≤ b.length ∧ e.tm 4 = .val (.int .i64 i) ∧ e.tm 0 = .val (bD b) ∧ e.tm 3 = .own 3 0 g (bD (b.take i)) ∧ e.lv 3 0 g = true) b.length ?_ ?_
  · exact ⟨0, 1, by simp, by simp, rfl, rfl, rfl, rfl⟩
  · rintro J hJ n e ⟨i, g, rfl, hi, h4, h0, h3, hg⟩
    simp only [↓S1, S2, S3, pureOp, fillD, ↓reduceIte, reduceCtorEq, Nat.reduceEqDiff, Nat.reduceAdd, Nat.reduceLeDiff, mdT, mrT, h4, h0, h3, bD, len_ofBytes]
    refine Br_dec (fun h => ?_) (fun h => ?_)
    · have hlt : i < b.length := by omega
      obtain ⟨c, hc⟩ : ∃ c, b[i]? = some c := ⟨_, List.getElem?_eq_getElem hlt⟩
      have hw : IntKind.i64.wrap ((i : Int) + 1) = ((i + 1 : Nat) : Int) := succ64 (by omega)
      simp only [↓S1, S2, S3, pureOp, fillD, ↓reduceIte, reduceCtorEq, Nat.reduceEqDiff, Nat.reduceAdd, Nat.reduceLeDiff, mdT, mrT, h4, h0, h3, h, atI_nat, get_ofBytes, hc, bD, hg, hw, row_ofBytes]
      refine ⟨by simp only [len_ofBytes, List.length_take, roomy]; omega, _, ?_, hJ _ _ ⟨i + 1, e.gc 3 0, rfl, by omega, rfl, h0, ?_, ?_⟩⟩
      · omega
      · simp only [↓S1, S2, S3, pureOp, fillD, ↓reduceIte, reduceCtorEq, Nat.reduceEqDiff, Nat.reduceAdd, Nat.reduceLeDiff, mdT, mrT]
        rw [one_ofBytes, add_ofBytes, take_succ hc]; rfl
      · simp only [↓S1, S2, S3, pureOp, fillD, ↓reduceIte, reduceCtorEq, Nat.reduceEqDiff, Nat.reduceAdd, Nat.reduceLeDiff, mdT, mrT]
    · simp only [↓S1, S2, S3, pureOp, fillD, ↓reduceIte, reduceCtorEq, Nat.reduceEqDiff, Nat.reduceAdd, Nat.reduceLeDiff, mdT, mrT, h4, h0, h3, hg, h, postF, retOk, hr, Env.ress, Env.resOf, Env.outsOk, bD]
      rw [List.take_of_length_le (by omega)]
      exact .refl _

theorem eqBytes_ok (a b : List UInt8) (ha : a.length ≤ 1000000000000) (hb : b.length ≤ 1000000000000) : ACalls Γ 8 [.v (bD a), .v (bD b)] ⟨.bool (decide (a = b)), []⟩ := by
  refine acalls_of Tryd.func8 rfl rfl (by kernel_rfl) ?_
  have hr : Tryd.f8.results.toList = [.tmp 4] := rfl
  simp only [↓S1, S2, S3, pureOp, fillD, ↓reduceIte, reduceCtorEq, Nat.reduceEqDiff, Nat.reduceAdd, Nat.reduceLeDiff, mdT, mrT, bD, len_ofBytes]
  refine Br_dec (fun h => ?_) (fun h => ?_)
  · refine evW_loop (fun n e => ∃ i : Nat, n = b.length - i ∧ i ≤ b.length ∧ e.tm 5 = .val (.int .i64 i) ∧ e.tm 0 = .val (bD a) ∧ e.tm 1 = .val (bD b) ∧ a.take i = b.take i) b.length ?_ ?_
    · exact ⟨0, by simp, by simp, rfl, rfl, rfl, rfl⟩
    · rintro J hJ n e ⟨i, rfl, hi, h5, h0, h1, ht⟩
      simp only [↓S1, S2, S3, pureOp, fillD, ↓reduceIte, reduceCtorEq, Nat.reduceEqDiff, Nat.reduceAdd, Nat.reduceLeDiff, mdT, mrT, h5, h0, h1, bD, len_ofBytes]
      refine Br_dec (fun h => ?_) (fun h => ?_)
      · have hlt : i < b.length := by omega
        obtain ⟨c, hc⟩ : ∃ c, b[i]? = some c := ⟨_, List.getElem?_eq_getElem hlt⟩
        obtain ⟨c', hc'⟩ : ∃ c, a[i]? = some c := ⟨_, List.getElem?_eq_getElem (show i < a.length by omega)⟩
        have hw : IntKind.i64.wrap ((i : Int) + 1) = ((i + 1 : Nat) : Int) := succ64 (by omega)
        simp only [↓S1, S2, S3, pureOp, fillD, ↓reduceIte, reduceCtorEq, Nat.reduceEqDiff, Nat.reduceAdd, Nat.reduceLeDiff, mdT, mrT, h5, h0, h1, h, atI_nat, get_ofBytes, hc, hc', bD, hw]
        refine Br_dec (fun h => ?_) (fun h => ?_)
        · have hcc : c' = c := UInt8.toNat_inj.1 (by omega)
          simp only [↓S1, S2, S3, pureOp, fillD, ↓reduceIte, reduceCtorEq, Nat.reduceEqDiff, Nat.reduceAdd, Nat.reduceLeDiff, mdT, mrT, h5, h0, h1, hw]
          refine ⟨_, ?_, hJ _ _ ⟨i + 1, rfl, by omega, rfl, h0, h1, ?_⟩⟩
          · omega
          · rw [← take_succ hc, ← take_succ hc', ht, hcc]
        · have : a ≠ b := by
            rintro rfl
            rw [hc] at hc'
            cases hc'
            exact h rfl
          simp only [↓S1, S2, S3, pureOp, fillD, ↓reduceIte, reduceCtorEq, Nat.reduceEqDiff, Nat.reduceAdd, Nat.reduceLeDiff, mdT, mrT, h5, h0, h1, postF, retOk, hr, Env.ress, Env.resOf, Env.outsOk, this]
          exact .refl _
      · have : a = b := by
          rw [List.take_of_length_le (by omega), List.take_of_length_le (by omega)] at ht
          exact ht
        simp only [↓S1, S2, S3, pureOp, fillD, ↓reduceIte, reduceCtorEq, Nat.reduceEqDiff, Nat.reduceAdd, Nat.reduceLeDiff, mdT, mrT, h5, h0, h1, h, postF, retOk, hr, Env.ress, Env.resOf, Env.outsOk, this]
        exact .refl _
  · have : a ≠ b := by rintro rfl; exact h rfl
    simp only [↓S1, S2, S3, pureOp, fillD, ↓reduceIte, reduceCtorEq, Nat.reduceEqDiff, Nat.reduceAdd, Nat.reduceLeDiff, mdT, mrT, postF, retOk, hr, Env.ress, Env.resOf, Env.outsOk, this]
    exact .refl _

theorem isSize22_ok (n : Int) : ACalls Γ 13 [.v (.int .i64 n)] ⟨.bool (decide (160 ≤ n ∧ n ≤ 8192)), []⟩ := by
  refine acalls_of Tryd.func13 rfl rfl (by kernel_rfl) ?_
  have hr : Tryd.f13.results.toList = [.tmp 2] := rfl
  simp only [↓S1, S2, S3, pureOp, fillD, ↓reduceIte, reduceCtorEq, Nat.reduceEqDiff, Nat.reduceAdd, Nat.reduceLeDiff, mdT, mrT]
  refine Br_dec (fun h => ?_) (fun h => ?_)
  · simp only [↓S1, S2, S3, pureOp, fillD, ↓reduceIte, reduceCtorEq, Nat.reduceEqDiff, Nat.reduceAdd, Nat.reduceLeDiff, mdT, mrT, h, postF, retOk, hr, Env.ress, Env.resOf, Env.outsOk]
    exact .refl _
  · simp only [↓S1, S2, S3, pureOp, fillD, ↓reduceIte, reduceCtorEq, Nat.reduceEqDiff, Nat.reduceAdd, Nat.reduceLeDiff, mdT, mrT, h, postF, retOk, hr, Env.ress, Env.resOf, Env.outsOk]
    exact .refl _

theorem isSize2_ok (n : Int) : ACalls Γ 39 [.v (.int .i64 n)] ⟨.bool (decide (15 ≤ n ∧ n ≤ 8192)), []⟩ := by
  refine acalls_of Tryd.func39 rfl rfl (by kernel_rfl) ?_
  have hr : Tryd.f39.results.toList = [.tmp 2] := rfl
  simp only [↓S1, S2, S3, pureOp, fillD, ↓reduceIte, reduceCtorEq, Nat.reduceEqDiff, Nat.reduceAdd, Nat.reduceLeDiff, mdT, mrT]
  refine Br_dec (fun h => ?_) (fun h => ?_)
  · simp only [↓S1, S2, S3, pureOp, fillD, ↓reduceIte, reduceCtorEq, Nat.reduceEqDiff, Nat.reduceAdd, Nat.reduceLeDiff, mdT, mrT, h, postF, retOk, hr, Env.ress, Env.resOf, Env.outsOk]
    exact .refl _
  · simp only [↓S1, S2, S3, pureOp, fillD, ↓reduceIte, reduceCtorEq, Nat.reduceEqDiff, Nat.reduceAdd, Nat.reduceLeDiff, mdT, mrT, h, postF, retOk, hr, Env.ress, Env.resOf, Env.outsOk]
    exact .refl _

def room (n : Int) : Int := if 15 ≤ n ∧ n ≤ 8192 then n - 15 else 0
theorem room2_ok (n : Int) : ACalls Γ 22 [.v (.int .i64 n)] ⟨.int .i64 (room n), []⟩ := by
  refine acalls_of Tryd.func22 rfl rfl (by kernel_rfl) ?_
  have hr : Tryd.f22.results.toList = [.tmp 2] := rfl
  simp only [↓S1, S2, S3, pureOp, fillD, ↓reduceIte, reduceCtorEq, Nat.reduceEqDiff, Nat.reduceAdd, Nat.reduceLeDiff, mdT, mrT]
  refine callV (isSize2_ok n) rfl rfl ?_
  simp only [↓S1, S2, S3, pureOp, fillD, ↓reduceIte, reduceCtorEq, Nat.reduceEqDiff, Nat.reduceAdd, Nat.reduceLeDiff, mdT, mrT]
  refine Br_dec (fun h => ?_) (fun h => ?_)
  · have h1 : IntKind.i64.wrap (n - 11) = n - 11 := w64 (by omega)
    have h2 : IntKind.i64.wrap (n - 11 - 4) = n - 15 := by rw [w64 (by omega)]; omega
    simp only [↓S1, S2, S3, pureOp, fillD, ↓reduceIte, reduceCtorEq, Nat.reduceEqDiff, Nat.reduceAdd, Nat.reduceLeDiff, mdT, mrT, h, postF, retOk, hr, Env.ress, Env.resOf, Env.outsOk, h1, h2, room]
    exact .refl _
  · simp only [↓S1, S2, S3, pureOp, fillD, ↓reduceIte, reduceCtorEq, Nat.reduceEqDiff, Nat.reduceAdd, Nat.reduceLeDiff, mdT, mrT, h, postF, retOk, hr, Env.ress, Env.resOf, Env.outsOk, room]
    exact .refl _
theorem room_ok (n : Int) : ACalls Γ 48 [.v (.int .i64 n)] ⟨.int .i64 (room n), []⟩ := by
  refine acalls_of Tryd.func48 rfl rfl (by kernel_rfl) ?_
  have hr : Tryd.f48.results.toList = [.tmp 2] := rfl
  simp only [↓S1, S2, S3, pureOp, fillD, ↓reduceIte, reduceCtorEq, Nat.reduceEqDiff, Nat.reduceAdd, Nat.reduceLeDiff, mdT, mrT]
  refine Br_dec (fun h => ?_) (fun h => ?_)
  · have : ¬ (15 ≤ n ∧ n ≤ 8192) := by omega
    simp only [↓S1, S2, S3, pureOp, fillD, ↓reduceIte, reduceCtorEq, Nat.reduceEqDiff, Nat.reduceAdd, Nat.reduceLeDiff, mdT, mrT, h, postF, retOk, hr, Env.ress, Env.resOf, Env.outsOk, this, room]
    exact .refl _
  · simp only [↓S1, S2, S3, pureOp, fillD, ↓reduceIte, reduceCtorEq, Nat.reduceEqDiff, Nat.reduceAdd, Nat.reduceLeDiff, mdT, mrT, h]
    refine Br_dec (fun h' => ?_) (fun h' => ?_)
    · have : ¬ (15 ≤ n ∧ n ≤ 8192) := by omega
      simp only [↓S1, S2, S3, pureOp, fillD, ↓reduceIte, reduceCtorEq, Nat.reduceEqDiff, Nat.reduceAdd, Nat.reduceLeDiff, mdT, mrT, h, h', postF, retOk, hr, Env.ress, Env.resOf, Env.outsOk, this, room]
      exact .refl _
    · have : 15 ≤ n ∧ n ≤ 8192 := by omega
      have h1 : IntKind.i64.wrap (n - 15) = n - 15 := w64 (by omega)
      simp only [↓S1, S2, S3, pureOp, fillD, ↓reduceIte, reduceCtorEq, Nat.reduceEqDiff, Nat.reduceAdd, Nat.reduceLeDiff, mdT, mrT, h, h', postF, retOk, hr, Env.ress, Env.resOf, Env.outsOk, this, h1, room]
      exact .refl _
end Go.Proofs.YtebkaacflocfcaaDoor.Ab

/- Walks: the sum of bytes. -/
namespace Go.Proofs.YtebkaacflocfcaaDoor.Ab
open Go
set_option maxRecDepth 100000
set_option linter.unusedSimpArgs false
set_option linter.unusedVariables false


theorem turn_ok (r b : Nat) (hr : r < 4294967296) (hb : b < 2) : ACalls Γ 64 [.v (u32 r), .v (u32 b)] ⟨u32 (turnN r b), []⟩ := by
  refine acalls_of Tryd.func64 rfl rfl (by kernel_rfl) ?_
  have hr : Tryd.f64.results.toList = [.tmp 4] := rfl
  have h1 : (r : Int).tmod 2 = ((r % 2 : Nat) : Int) := tmodN _ 2 rfl rfl
  have h2 : (r : Int).tdiv 2 = ((r / 2 : Nat) : Int) := tdivN _ 2 rfl rfl
  have h3 : IntKind.u32.wrap ((r / 2 : Nat) : Int) = ((r / 2 : Nat) : Int) := wrapU rfl (show r / 2 < 2 ^ 32 by omega)
  have h4 : bitsD .xor .u32 ((r / 2 : Nat) : Int) 3988292384 = some ((r / 2 ^^^ poly : Nat) : Int) := xorU rfl _ _ rfl rfl (show r / 2 < 2 ^ 32 by omega) (by decide)
  simp only [↓S1, S2, S3, pureOp, fillD, ↓reduceIte, reduceCtorEq, Nat.reduceEqDiff, Nat.reduceAdd, Nat.reduceLeDiff, mdT, mrT, u32, h1, h2, h3, h4, Int.reduceEq]
  refine Br_dec (fun h => ?_) (fun h => ?_)
  · have : turnN r b = r / 2 := by unfold turnN; rw [if_pos (by omega)]
    simp only [↓S1, S2, S3, pureOp, fillD, ↓reduceIte, reduceCtorEq, Nat.reduceEqDiff, Nat.reduceAdd, Nat.reduceLeDiff, mdT, mrT, postF, retOk, hr, Env.ress, Env.resOf, Env.outsOk, this, u32]
    exact .refl _
  · have : turnN r b = r / 2 ^^^ poly := by unfold turnN; rw [if_neg (by omega)]
    simp only [↓S1, S2, S3, pureOp, fillD, ↓reduceIte, reduceCtorEq, Nat.reduceEqDiff, Nat.reduceAdd, Nat.reduceLeDiff, mdT, mrT, postF, retOk, hr, Env.ress, Env.resOf, Env.outsOk, this, u32, h4]
    exact .refl _

theorem extend2_ok (s : Nat) (b : List UInt8) (hs : s < 4294967296) (hb : b.length ≤ 1000000000) : ACalls Γ 40 [.v (u32 s), .v (bD b)] ⟨u32 (extN s b), []⟩ := by
  refine acalls_of Tryd.func40 rfl rfl (by kernel_rfl) ?_
  have hr : Tryd.f40.results.toList = [.tmp 4] := rfl
  have h1 := notU32 s hs
  simp only [↓S1, S2, S3, pureOp, fillD, ↓reduceIte, reduceCtorEq, Nat.reduceEqDiff, Nat.reduceAdd, Nat.reduceLeDiff, mdT, mrT, u32, h1]
  refine evW_loop (fun n e => ∃ i : Nat, n = b.length - i ∧ i ≤ b.length ∧ e.tm 5 = .val (u32 (crcR (4294967295 - s) (b.take i))) ∧ e.tm 6 = .val (.int .i64 i) ∧ e.tm 1 = .val (bD b)) b.length ?_ ?_
  · exact ⟨0, by simp, by simp, rfl, rfl, rfl⟩
  · rintro J hJ n e ⟨i, rfl, hi, h5, h6, h1'⟩
    have hlt0 : crcR (4294967295 - s) (b.take i) < 4294967296 := crcR_lt _ (by omega)
    simp only [↓S1, S2, S3, pureOp, fillD, ↓reduceIte, reduceCtorEq, Nat.reduceEqDiff, Nat.reduceAdd, Nat.reduceLeDiff, mdT, mrT, h5, h6, h1', bD, len_ofBytes]
    refine Br_dec (fun h => ?_) (fun h => ?_)
    · have hlt : i < b.length := by omega
      obtain ⟨c, hc⟩ : ∃ c, b[i]? = some c := ⟨_, List.getElem?_eq_getElem hlt⟩
      have hw : IntKind.i64.wrap ((i : Int) + 1) = ((i + 1 : Nat) : Int) := succ64 (by omega)
      have hcl : c.toNat < 256 := c.toNat_lt
      have hc32 : IntKind.u32.wrap (c.toNat : Int) = (c.toNat : Int) := wrapU rfl (show c.toNat < 2 ^ 32 by omega)
      simp only [↓S1, S2, S3, pureOp, fillD, ↓reduceIte, reduceCtorEq, Nat.reduceEqDiff, Nat.reduceAdd, Nat.reduceLeDiff, mdT, mrT, h5, h6, h1', h, bD, atI_nat, get_ofBytes, hc, hc32, convD]
      refine evW_loop (fun n e => ∃ k : Nat, n = 8 - k ∧ k ≤ 8 ∧ e.tm 5 = .val (u32 (turns k (crcR (4294967295 - s) (b.take i)) c.toNat)) ∧ e.tm 6 = .val (.int .i64 i) ∧ e.tm 1 = .val (bD b) ∧ e.tm 7 = .val (u32 (c.toNat / 2 ^ k)) ∧ e.tm 8 = .val (.int .i64 k)) 8 ?_ ?_
      · refine ⟨0, rfl, by omega, h5, h6, h1', ?_, rfl⟩
        simp only [Nat.pow_zero, Nat.div_one]; rfl
      · rintro J' hJ' n e ⟨k, rfl, hk, h5, h6, h1', h7, h8⟩
        have ht := turns_lt k (r := crcR (4294967295 - s) (b.take i)) (c := c.toNat) hlt0
        have hw' : IntKind.i64.wrap ((k : Int) + 1) = ((k + 1 : Nat) : Int) := succ64 (by omega)
        have hck : c.toNat / 2 ^ k ≤ c.toNat := Nat.div_le_self _ _
        have q1 : ((c.toNat / 2 ^ k : Nat) : Int).tmod 2 = ((c.toNat / 2 ^ k % 2 : Nat) : Int) := tmodN _ 2 rfl rfl
        have q2 : ((c.toNat / 2 ^ k : Nat) : Int).tdiv 2 = ((c.toNat / 2 ^ k / 2 : Nat) : Int) := tdivN _ 2 rfl rfl
        have q3 : IntKind.u32.wrap ((c.toNat / 2 ^ k / 2 : Nat) : Int) = ((c.toNat / 2 ^ k / 2 : Nat) : Int) := wrapU rfl (show c.toNat / 2 ^ k / 2 < 2 ^ 32 by omega)
        simp only [↓S1, S2, S3, pureOp, fillD, ↓reduceIte, reduceCtorEq, Nat.reduceEqDiff, Nat.reduceAdd, Nat.reduceLeDiff, mdT, mrT, h5, h6, h1', h7, h8]
        refine Br_dec (fun h' => ?_) (fun h' => ?_)
        · simp only [↓S1, S2, S3, pureOp, fillD, ↓reduceIte, reduceCtorEq, Nat.reduceEqDiff, Nat.reduceAdd, Nat.reduceLeDiff, mdT, mrT, h5, h6, h1', h7, h8, h', u32, Int.reduceEq, q1]
          refine callV (turn_ok _ _ ht (Nat.mod_lt _ (by omega))) rfl rfl ?_
          simp only [↓S1, S2, S3, pureOp, fillD, ↓reduceIte, reduceCtorEq, Nat.reduceEqDiff, Nat.reduceAdd, Nat.reduceLeDiff, mdT, mrT, h5, h6, h1', h7, h8, h', u32, Int.reduceEq, q2, q3, hw']
          refine ⟨_, ?_, hJ' _ _ ⟨k + 1, rfl, by omega, ?_, h6, h1', ?_, rfl⟩⟩
          · omega
          · rw [turns_succ]; rfl
          · rw [Nat.pow_succ, ← Nat.div_div_eq_div_mul]; rfl
        · have hk8 : k = 8 := by omega
          subst hk8
          simp only [↓S1, S2, S3, pureOp, fillD, ↓reduceIte, reduceCtorEq, Nat.reduceEqDiff, Nat.reduceAdd, Nat.reduceLeDiff, mdT, mrT, h5, h6, h1', h7, h8, h', hw]
          refine ⟨_, ?_, hJ _ _ ⟨i + 1, rfl, by omega, ?_, rfl, h1'⟩⟩
          · omega
          · rw [← take_succ hc, crcR_append]; exact h5
    · have h9 := notU32 _ hlt0
      have hfin : 4294967295 - crcR (4294967295 - s) (b.take i) = extN s b := by rw [List.take_of_length_le (by omega)]; rfl
      rw [hfin] at h9
      simp only [↓S1, S2, S3, pureOp, fillD, ↓reduceIte, reduceCtorEq, Nat.reduceEqDiff, Nat.reduceAdd, Nat.reduceLeDiff, mdT, mrT, h5, h6, h1', h, postF, retOk, hr, Env.ress, Env.resOf, Env.outsOk, u32, h9]
      exact .refl _

theorem sum2_ok (b : List UInt8) (hb : b.length ≤ 1000000000) : ACalls Γ 23 [.v (bD b)] ⟨u32 (extN 0 b), []⟩ := by
  refine acalls_of Tryd.func23 rfl rfl (by kernel_rfl) ?_
  have hr : Tryd.f23.results.toList = [.tmp 2] := rfl
  simp only [↓S1, S2, S3, pureOp, fillD, ↓reduceIte, reduceCtorEq, Nat.reduceEqDiff, Nat.reduceAdd, Nat.reduceLeDiff, mdT, mrT]
  refine callV (extend2_ok 0 b (by omega) hb) rfl rfl ?_
  simp only [↓S1, S2, S3, pureOp, fillD, ↓reduceIte, reduceCtorEq, Nat.reduceEqDiff, Nat.reduceAdd, Nat.reduceLeDiff, mdT, mrT, postF, retOk, hr, Env.ress, Env.resOf, Env.outsOk, u32]
  exact .refl _
theorem extend_ok (s : Nat) (b : List UInt8) (hs : s < 4294967296) (hb : b.length ≤ 1000000000) : ACalls Γ 43 [.v (u32 s), .v (bD b)] ⟨u32 (extN s b), []⟩ := by
  refine acalls_of Tryd.func43 rfl rfl (by kernel_rfl) ?_
  have hr : Tryd.f43.results.toList = [.tmp 4] := rfl
  have h1 := notU32 s hs
  simp only [↓S1, S2, S3, pureOp, fillD, ↓reduceIte, reduceCtorEq, Nat.reduceEqDiff, Nat.reduceAdd, Nat.reduceLeDiff, mdT, mrT, u32, h1, bD, len_ofBytes]
  refine evW_loop (fun n e => ∃ i : Nat, n = b.length - i ∧ i ≤ b.length ∧ e.tm 5 = .val (u32 (crcR (4294967295 - s) (b.take i))) ∧ e.tm 12 = .val (.int .i64 i) ∧ e.tm 10 = .val (bD b) ∧ e.tm 11 = .val (.int .i64 b.length)) b.length ?_ ?_
  · exact ⟨0, by simp, by simp, rfl, rfl, rfl, rfl⟩
  · rintro J hJ n e ⟨i, rfl, hi, h5, h6, h1', hl⟩
    have hlt0 : crcR (4294967295 - s) (b.take i) < 4294967296 := crcR_lt _ (by omega)
    simp only [↓S1, S2, S3, pureOp, fillD, ↓reduceIte, reduceCtorEq, Nat.reduceEqDiff, Nat.reduceAdd, Nat.reduceLeDiff, mdT, mrT, h5, h6, h1', hl, bD, len_ofBytes]
    refine Br_dec (fun h => ?_) (fun h => ?_)
    · have hlt : i < b.length := by omega
      obtain ⟨c, hc⟩ : ∃ c, b[i]? = some c := ⟨_, List.getElem?_eq_getElem hlt⟩
      have hw : IntKind.i64.wrap ((i : Int) + 1) = ((i + 1 : Nat) : Int) := succ64 (by omega)
      have hcl : c.toNat < 256 := c.toNat_lt
      have hc32 : IntKind.u32.wrap (c.toNat : Int) = (c.toNat : Int) := wrapU rfl (show c.toNat < 2 ^ 32 by omega)
      have hx : bitsD .xor .u32 (crcR (4294967295 - s) (b.take i) : Int) (c.toNat : Int) = some ((crcR (4294967295 - s) (b.take i) ^^^ c.toNat : Nat) : Int) := xorU rfl _ _ rfl rfl hlt0 (show c.toNat < 2 ^ 32 by omega)
      have hx0 : crcR (4294967295 - s) (b.take i) ^^^ c.toNat < 4294967296 := Nat.xor_lt_two_pow (n := 32) hlt0 (by omega)
      simp only [↓S1, S2, S3, pureOp, fillD, ↓reduceIte, reduceCtorEq, Nat.reduceEqDiff, Nat.reduceAdd, Nat.reduceLeDiff, mdT, mrT, h5, h6, h1', hl, h, bD, atI_nat, get_ofBytes, hc, hc32, convD, u32, hx]
      refine evW_loop (fun n e => ∃ k : Nat, n = 8 - k ∧ k ≤ 8 ∧ e.tm 5 = .val (u32 (steps k (crcR (4294967295 - s) (b.take i) ^^^ c.toNat))) ∧ e.tm 12 = .val (.int .i64 i) ∧ e.tm 10 = .val (bD b) ∧ e.tm 11 = .val (.int .i64 b.length) ∧ e.tm 20 = .val (.int .i64 k)) 8 ?_ ?_
      · exact ⟨0, rfl, by omega, rfl, h6, h1', hl, rfl⟩
      · rintro J' hJ' n e ⟨k, rfl, hk, h5, h6, h1', hl, h8⟩
        have hq : ∀ k, steps k (crcR (4294967295 - s) (b.take i) ^^^ c.toNat) < 4294967296 := by
          intro k
          induction k with
          | zero => exact hx0
          | succ k ih => rw [steps_succ]; exact stepN_lt ih
        have hqk := hq k
        have hss := steps_succ k (crcR (4294967295 - s) (b.take i) ^^^ c.toNat)
        have h8e : k = 8 → steps k (crcR (4294967295 - s) (b.take i) ^^^ c.toNat) = crcR (4294967295 - s) (b.take (i + 1)) := by
          rintro rfl
          rw [← take_succ hc, crcR_append, steps8]; rfl
        generalize steps k (crcR (4294967295 - s) (b.take i) ^^^ c.toNat) = q at h5 hqk hss h8e
        have hw' : IntKind.i64.wrap ((k : Int) + 1) = ((k + 1 : Nat) : Int) := succ64 (by omega)
        have q1 : bitsD .and .u32 (q : Int) 1 = some ((q % 2 : Nat) : Int) := (andU (k := .u32) rfl q 1 rfl rfl hqk (by decide)).trans (by rw [Nat.and_one_is_mod])
        have q2 : (q : Int).fdiv (2 ^ min (Int.toNat 1) IntKind.u32.bits) = ((q / 2 : Nat) : Int) := fdivN q 2 rfl rfl
        have q3 : bitsD .xor .u32 ((q / 2 : Nat) : Int) 3988292384 = some ((q / 2 ^^^ poly : Nat) : Int) := xorU rfl _ _ rfl rfl (show q / 2 < 2 ^ 32 by omega) (by decide)
        simp only [↓S1, S2, S3, pureOp, fillD, ↓reduceIte, reduceCtorEq, Nat.reduceEqDiff, Nat.reduceAdd, Nat.reduceLeDiff, mdT, mrT, h5, h6, h1', hl, h8]
        refine Br_dec (fun h' => ?_) (fun h' => ?_)
        · simp only [↓S1, S2, S3, pureOp, fillD, ↓reduceIte, reduceCtorEq, Nat.reduceEqDiff, Nat.reduceAdd, Nat.reduceLeDiff, mdT, mrT, h5, h6, h1', hl, h8, h', u32, q1, q2, Int.reduceLT]
          refine Br_dec (fun h'' => ?_) (fun h'' => ?_)
          · have hs1 : stepN q = q / 2 ^^^ poly := by unfold stepN; rw [if_pos (by omega)]
            simp only [↓S1, S2, S3, pureOp, fillD, ↓reduceIte, reduceCtorEq, Nat.reduceEqDiff, Nat.reduceAdd, Nat.reduceLeDiff, mdT, mrT, h5, h6, h1', hl, h8, h', u32, q1, q2, q3, hw', Int.reduceLT]
            refine ⟨_, ?_, hJ' _ _ ⟨k + 1, rfl, by omega, ?_, h6, h1', hl, rfl⟩⟩
            · omega
            · rw [hss, hs1]; rfl
          · have hs1 : stepN q = q / 2 := by unfold stepN; rw [if_neg (by omega)]
            simp only [↓S1, S2, S3, pureOp, fillD, ↓reduceIte, reduceCtorEq, Nat.reduceEqDiff, Nat.reduceAdd, Nat.reduceLeDiff, mdT, mrT, h5, h6, h1', hl, h8, h', u32, q1, q2, q3, hw', Int.reduceLT]
            refine ⟨_, ?_, hJ' _ _ ⟨k + 1, rfl, by omega, ?_, h6, h1', hl, rfl⟩⟩
            · omega
            · rw [hss, hs1]; rfl
        · have hk8 : k = 8 := by omega
          simp only [↓S1, S2, S3, pureOp, fillD, ↓reduceIte, reduceCtorEq, Nat.reduceEqDiff, Nat.reduceAdd, Nat.reduceLeDiff, mdT, mrT, h5, h6, h1', hl, h8, h', hw]
          refine ⟨_, ?_, hJ _ _ ⟨i + 1, rfl, by omega, ?_, rfl, h1', hl⟩⟩
          · omega
          · rw [← h8e hk8]; exact h5
    · have h9 := notU32 _ hlt0
      have hfin : 4294967295 - crcR (4294967295 - s) (b.take i) = extN s b := by rw [List.take_of_length_le (by omega)]; rfl
      rw [hfin] at h9
      simp only [↓S1, S2, S3, pureOp, fillD, ↓reduceIte, reduceCtorEq, Nat.reduceEqDiff, Nat.reduceAdd, Nat.reduceLeDiff, mdT, mrT, h5, h6, h1', hl, h, postF, retOk, hr, Env.ress, Env.resOf, Env.outsOk, u32, h9]
      exact .refl _

theorem sum_ok (b : List UInt8) (hb : b.length ≤ 1000000000) : ACalls Γ 65 [.v (bD b)] ⟨u32 (extN 0 b), []⟩ := by
  refine acalls_of Tryd.func65 rfl rfl (by kernel_rfl) ?_
  have hr : Tryd.f65.results.toList = [.tmp 2] := rfl
  simp only [↓S1, S2, S3, pureOp, fillD, ↓reduceIte, reduceCtorEq, Nat.reduceEqDiff, Nat.reduceAdd, Nat.reduceLeDiff, mdT, mrT]
  refine callV (extend_ok 0 b (by omega) hb) rfl rfl ?_
  simp only [↓S1, S2, S3, pureOp, fillD, ↓reduceIte, reduceCtorEq, Nat.reduceEqDiff, Nat.reduceAdd, Nat.reduceLeDiff, mdT, mrT, postF, retOk, hr, Env.ress, Env.resOf, Env.outsOk, u32]
  exact .refl _
end Go.Proofs.YtebkaacflocfcaaDoor.Ab

/- Walks: numbers as bytes. -/
namespace Go.Proofs.YtebkaacflocfcaaDoor.Ab
open Go
set_option maxRecDepth 100000
set_option linter.unusedSimpArgs false
set_option linter.unusedVariables false


theorem mod8 (x : Nat) : IntKind.u8.wrap ((x % 256 : Nat) : Int) = ((UInt8.ofNat (x % 256)).toNat : Int) := by
  rw [wrapU rfl (show x % 256 < 2 ^ 8 by omega)]; simp
theorem low_ok (x k : Nat) (hx : x < 18446744073709551616) (hk : k ≤ 8) : ACalls Γ 61 [.v (u64 x), .v (.int .i64 k)] ⟨bD (low x k), []⟩ := by
  refine acalls_of Tryd.func61 rfl rfl (by kernel_rfl) ?_
  have hr : Tryd.f61.results.toList = [.tmp 4] := rfl
  simp only [↓S1, S2, S3, pureOp, fillD, ↓reduceIte, reduceCtorEq, Nat.reduceEqDiff, Nat.reduceAdd, Nat.reduceLeDiff, mdT, mrT]
  refine evW_loop (fun n e => ∃ i g : Nat, n = k - i ∧ i ≤ k ∧ e.tm 0 = .val (u64 (x / 256 ^ i)) ∧ e.tm 1 = .val (.int .i64 k) ∧ e.tm 6 = .val (.int .i64 i) ∧ e.tm 5 = .own 5 0 g (bD (low x i)) ∧ e.lv 5 0 g = true) k ?_ ?_
  · refine ⟨0, 1, by simp, by simp, ?_, rfl, rfl, rfl, rfl⟩
    simp only [Nat.pow_zero, Nat.div_one]; rfl
  · rintro J hJ n e ⟨i, g, rfl, hi, h0, h1, h6, h5, hg⟩
    simp only [↓S1, S2, S3, pureOp, fillD, ↓reduceIte, reduceCtorEq, Nat.reduceEqDiff, Nat.reduceAdd, Nat.reduceLeDiff, mdT, mrT, h0, h1, h6, h5, hg]
    refine Br_dec (fun h => ?_) (fun h => ?_)
    · have hq : x / 256 ^ i ≤ x := Nat.div_le_self _ _
      have q1 : ((x / 256 ^ i : Nat) : Int).tmod 256 = ((x / 256 ^ i % 256 : Nat) : Int) := tmodN _ 256 rfl rfl
      have q2 : ((x / 256 ^ i : Nat) : Int).tdiv 256 = ((x / 256 ^ i / 256 : Nat) : Int) := tdivN _ 256 rfl rfl
      have q3 : IntKind.u64.wrap ((x / 256 ^ i / 256 : Nat) : Int) = ((x / 256 ^ i / 256 : Nat) : Int) := wrapU rfl (show x / 256 ^ i / 256 < 2 ^ 64 by omega)
      have q4 := mod8 (x / 256 ^ i)
      have hw : IntKind.i64.wrap ((i : Int) + 1) = ((i + 1 : Nat) : Int) := succ64 (by omega)
      simp only [↓S1, S2, S3, pureOp, fillD, ↓reduceIte, reduceCtorEq, Nat.reduceEqDiff, Nat.reduceAdd, Nat.reduceLeDiff, mdT, mrT, h0, h1, h6, h5, hg, h, u64, bD, Int.reduceEq, q1, q2, q3, q4, hw, convD, row_ofBytes]
      refine ⟨by simp only [len_ofBytes, low_len, roomy]; omega, _, ?_, hJ _ _ ⟨i + 1, e.gc 5 0, rfl, by omega, ?_, h1, rfl, ?_, ?_⟩⟩
      · omega
      · rw [Nat.pow_succ, ← Nat.div_div_eq_div_mul]; rfl
      · simp only [↓S1, S2, S3, pureOp, fillD, ↓reduceIte, reduceCtorEq, Nat.reduceEqDiff, Nat.reduceAdd, Nat.reduceLeDiff, mdT, mrT]
        rw [one_ofBytes, add_ofBytes, ← low_succ]; rfl
      · simp only [↓S1, S2, S3, pureOp, fillD, ↓reduceIte, reduceCtorEq, Nat.reduceEqDiff, Nat.reduceAdd, Nat.reduceLeDiff, mdT, mrT]
    · have hik : i = k := by omega
      simp only [↓S1, S2, S3, pureOp, fillD, ↓reduceIte, reduceCtorEq, Nat.reduceEqDiff, Nat.reduceAdd, Nat.reduceLeDiff, mdT, mrT, h0, h1, h6, h5, hg, h, postF, retOk, hr, Env.ress, Env.resOf, Env.outsOk, hik]
      exact .refl _

theorem number_ok (x k : Nat) (hx : x < 18446744073709551616) (hk : k ≤ 8) : ACalls Γ 29 [.v (u64 x), .v (.int .i64 k)] ⟨bD (low x k), []⟩ := by
  refine acalls_of Tryd.func29 rfl rfl (by kernel_rfl) ?_
  have hr : Tryd.f29.results.toList = [.tmp 4] := rfl
  simp only [↓S1, S2, S3, pureOp, fillD, ↓reduceIte, reduceCtorEq, Nat.reduceEqDiff, Nat.reduceAdd, Nat.reduceLeDiff, mdT, mrT]
  refine evW_loop (fun n e => ∃ i g : Nat, n = k - i ∧ i ≤ k ∧ e.tm 0 = .val (u64 (x / 256 ^ i)) ∧ e.tm 6 = .val (.int .i64 k) ∧ e.tm 7 = .val (.int .i64 i) ∧ e.tm 5 = .own 5 0 g (bD (low x i)) ∧ e.lv 5 0 g = true) k ?_ ?_
  · refine ⟨0, 1, by simp, by simp, ?_, rfl, rfl, rfl, rfl⟩
    simp only [Nat.pow_zero, Nat.div_one]; rfl
  · rintro J hJ n e ⟨i, g, rfl, hi, h0, h1, h6, h5, hg⟩
    simp only [↓S1, S2, S3, pureOp, fillD, ↓reduceIte, reduceCtorEq, Nat.reduceEqDiff, Nat.reduceAdd, Nat.reduceLeDiff, mdT, mrT, h0, h1, h6, h5, hg]
    refine Br_dec (fun h => ?_) (fun h => ?_)
    · have hq : x / 256 ^ i ≤ x := Nat.div_le_self _ _
      have q1 : IntKind.u8.wrap ((x / 256 ^ i : Nat) : Int) = ((UInt8.ofNat (x / 256 ^ i % 256)).toNat : Int) := by rw [wu8m]; simp
      have q2 : ((x / 256 ^ i : Nat) : Int).fdiv (2 ^ min (Int.toNat 8) IntKind.u64.bits) = ((x / 256 ^ i / 256 : Nat) : Int) := fdivN _ 256 rfl rfl
      have hw : IntKind.i64.wrap ((i : Int) + 1) = ((i + 1 : Nat) : Int) := succ64 (by omega)
      simp only [↓S1, S2, S3, pureOp, fillD, ↓reduceIte, reduceCtorEq, Nat.reduceEqDiff, Nat.reduceAdd, Nat.reduceLeDiff, mdT, mrT, h0, h1, h6, h5, hg, h, u64, bD, Int.reduceLT, q1, q2, hw, convD, row_ofBytes]
      refine ⟨by simp only [len_ofBytes, low_len, roomy]; omega, _, ?_, hJ _ _ ⟨i + 1, e.gc 5 0, rfl, by omega, ?_, h1, rfl, ?_, ?_⟩⟩
      · omega
      · rw [Nat.pow_succ, ← Nat.div_div_eq_div_mul]; rfl
      · simp only [↓S1, S2, S3, pureOp, fillD, ↓reduceIte, reduceCtorEq, Nat.reduceEqDiff, Nat.reduceAdd, Nat.reduceLeDiff, mdT, mrT]
        rw [one_ofBytes, add_ofBytes, ← low_succ]; rfl
      · simp only [↓S1, S2, S3, pureOp, fillD, ↓reduceIte, reduceCtorEq, Nat.reduceEqDiff, Nat.reduceAdd, Nat.reduceLeDiff, mdT, mrT]
    · have hik : i = k := by omega
      simp only [↓S1, S2, S3, pureOp, fillD, ↓reduceIte, reduceCtorEq, Nat.reduceEqDiff, Nat.reduceAdd, Nat.reduceLeDiff, mdT, mrT, h0, h1, h6, h5, hg, h, postF, retOk, hr, Env.ress, Env.resOf, Env.outsOk, hik]
      exact .refl _

theorem addU64_ok (b : List UInt8) (x : Nat) (hb : b.length ≤ 1000000000) (hx : x < 18446744073709551616) : ACalls Γ 19 [.o (bD b), .v (u64 x)] ⟨bD (b ++ low x 8), []⟩ := by
  refine acalls_of Tryd.func19 rfl rfl (by kernel_rfl) ?_
  have hr : Tryd.f19.results.toList = [.tmp 4] := rfl
  simp only [↓S1, S2, S3, pureOp, fillD, ↓reduceIte, reduceCtorEq, Nat.reduceEqDiff, Nat.reduceAdd, Nat.reduceLeDiff, mdT, mrT]
  refine evW_loop (fun n e => ∃ i g : Nat, n = 8 - i ∧ i ≤ 8 ∧ e.tm 1 = .val (u64 (x / 256 ^ i)) ∧ e.tm 5 = .val (.int .i64 i) ∧ e.tm 0 = .own 0 0 g (bD (b ++ low x i)) ∧ e.lv 0 0 g = true) 8 ?_ ?_
  · refine ⟨0, 0, by simp, by simp, ?_, rfl, ?_, rfl⟩
    · simp only [Nat.pow_zero, Nat.div_one]; rfl
    · simp only [low, List.append_nil]; rfl
  · rintro J hJ n e ⟨i, g, rfl, hi, h0, h6, h5, hg⟩
    simp only [↓S1, S2, S3, pureOp, fillD, ↓reduceIte, reduceCtorEq, Nat.reduceEqDiff, Nat.reduceAdd, Nat.reduceLeDiff, mdT, mrT, h0, h6, h5, hg]
    refine Br_dec (fun h => ?_) (fun h => ?_)
    · have hq : x / 256 ^ i ≤ x := Nat.div_le_self _ _
      have q1 : ((x / 256 ^ i : Nat) : Int).tmod 256 = ((x / 256 ^ i % 256 : Nat) : Int) := tmodN _ 256 rfl rfl
      have q2 : ((x / 256 ^ i : Nat) : Int).tdiv 256 = ((x / 256 ^ i / 256 : Nat) : Int) := tdivN _ 256 rfl rfl
      have q3 : IntKind.u64.wrap ((x / 256 ^ i / 256 : Nat) : Int) = ((x / 256 ^ i / 256 : Nat) : Int) := wrapU rfl (show x / 256 ^ i / 256 < 2 ^ 64 by omega)
      have q4 := mod8 (x / 256 ^ i)
      have hw : IntKind.i64.wrap ((i : Int) + 1) = ((i + 1 : Nat) : Int) := succ64 (by omega)
      simp only [↓S1, S2, S3, pureOp, fillD, ↓reduceIte, reduceCtorEq, Nat.reduceEqDiff, Nat.reduceAdd, Nat.reduceLeDiff, mdT, mrT, h0, h6, h5, hg, h, u64, bD, Int.reduceEq, q1, q2, q3, q4, hw, convD, row_ofBytes]
      refine ⟨by simp only [len_ofBytes, List.length_append, low_len, roomy]; omega, _, ?_, hJ _ _ ⟨i + 1, e.gc 0 0, rfl, by omega, ?_, rfl, ?_, ?_⟩⟩
      · omega
      · rw [Nat.pow_succ, ← Nat.div_div_eq_div_mul]; rfl
      · simp only [↓S1, S2, S3, pureOp, fillD, ↓reduceIte, reduceCtorEq, Nat.reduceEqDiff, Nat.reduceAdd, Nat.reduceLeDiff, mdT, mrT]
        rw [one_ofBytes, add_ofBytes, List.append_assoc, ← low_succ]; rfl
      · simp only [↓S1, S2, S3, pureOp, fillD, ↓reduceIte, reduceCtorEq, Nat.reduceEqDiff, Nat.reduceAdd, Nat.reduceLeDiff, mdT, mrT]
    · have hik : i = 8 := by omega
      subst hik
      simp only [↓S1, S2, S3, pureOp, fillD, ↓reduceIte, reduceCtorEq, Nat.reduceEqDiff, Nat.reduceAdd, Nat.reduceLeDiff, mdT, mrT, h0, h6, h5, hg, h, postF, retOk, hr, Env.ress, Env.resOf, Env.outsOk]
      exact .refl _

theorem get_ok (b : List UInt8) (k : Nat) (hk : k ≤ 8) (hb : k ≤ b.length) : ACalls Γ 66 [.v (bD b), .v (.int .i64 k)] ⟨u64 (num (b.take k)), []⟩ := by
  refine acalls_of Tryd.func66 rfl rfl (by kernel_rfl) ?_
  have hr : Tryd.f66.results.toList = [.tmp 4] := rfl
  simp only [↓S1, S2, S3, pureOp, fillD, ↓reduceIte, reduceCtorEq, Nat.reduceEqDiff, Nat.reduceAdd, Nat.reduceLeDiff, mdT, mrT]
  refine evW_loop (fun n e => ∃ i : Nat, n = k - i ∧ i ≤ k ∧ e.tm 0 = .val (bD b) ∧ e.tm 7 = .val (.int .i64 k) ∧ e.tm 8 = .val (.int .i64 i) ∧ e.tm 5 = .val (u64 (num (b.take i)))) k ?_ ?_
  · exact ⟨0, by simp, by simp, rfl, rfl, rfl, rfl⟩
  · rintro J hJ n e ⟨i, rfl, hi, h0, h7, h8, h5⟩
    simp only [↓S1, S2, S3, pureOp, fillD, ↓reduceIte, reduceCtorEq, Nat.reduceEqDiff, Nat.reduceAdd, Nat.reduceLeDiff, mdT, mrT, h0, h7, h8, h5]
    refine Br_dec (fun h => ?_) (fun h => ?_)
    · have hlt : i < b.length := by omega
      obtain ⟨c, hc⟩ : ∃ c, b[i]? = some c := ⟨_, List.getElem?_eq_getElem hlt⟩
      have hcl := c.toNat_lt
      have hi8 : i < 8 := by omega
      have hw : IntKind.i64.wrap ((i : Int) + 1) = ((i + 1 : Nat) : Int) := succ64 (by omega)
      have h8i : IntKind.i64.wrap (8 * (i : Int)) = 8 * (i : Int) := w64 (by omega)
      have hneg : ¬ (8 * (i : Int) < 0) := by omega
      have hc64 : IntKind.u64.wrap (c.toNat : Int) = (c.toNat : Int) := wrapU rfl (show c.toNat < 2 ^ 64 by omega)
      have hmin : min (8 * (i : Int)).toNat IntKind.u64.bits = 8 * i := by simp only [IntKind.bits]; omega
      have hpw : 256 ^ i * 256 ≤ 256 ^ 8 := by rw [← Nat.pow_succ]; exact Nat.pow_le_pow_right (by omega) (by omega)
      have hp8 : (256 : Nat) ^ 8 = 18446744073709551616 := by decide
      have hmul : c.toNat * 256 ^ i < 2 ^ 64 := by
        have : c.toNat * 256 ^ i ≤ 255 * 256 ^ i := Nat.mul_le_mul_right _ (by omega)
        have hpos : 0 < 256 ^ i := Nat.pow_pos (by omega)
        omega
      have hpc : (c.toNat : Int) * 2 ^ (8 * i) = ((c.toNat * 256 ^ i : Nat) : Int) := by
        have : (256 : Nat) ^ i = 2 ^ (8 * i) := by rw [Nat.pow_mul]
        rw [this]; simp
      have hsh : IntKind.u64.wrap ((c.toNat * 256 ^ i : Nat) : Int) = ((c.toNat * 256 ^ i : Nat) : Int) := wrapU rfl hmul
      have hnl : num (b.take i) < 256 ^ i := by
        have := num_lt (b.take i)
        rwa [List.length_take, Nat.min_eq_left (by omega)] at this
      have hor : bitsD .or .u64 (num (b.take i) : Int) ((c.toNat * 256 ^ i : Nat) : Int) = some ((num (b.take (i + 1)) : Nat) : Int) := by
        rw [orU (k := .u64) rfl _ _ rfl rfl (show num (b.take i) < 2 ^ 64 by omega) hmul, or_add _ _ _ hnl, ← take_num hc]
      simp only [↓S1, S2, S3, pureOp, fillD, ↓reduceIte, reduceCtorEq, Nat.reduceEqDiff, Nat.reduceAdd, Nat.reduceLeDiff, mdT, mrT, h0, h7, h8, h5, h, u64, bD, atI_nat, get_ofBytes, hc, convD, hw, h8i, hneg, hc64, hmin, hpc, hsh, hor]
      exact ⟨_, by omega, hJ _ _ ⟨i + 1, rfl, by omega, h0, h7, rfl, rfl⟩⟩
    · have hik : i = k := by omega
      simp only [↓S1, S2, S3, pureOp, fillD, ↓reduceIte, reduceCtorEq, Nat.reduceEqDiff, Nat.reduceAdd, Nat.reduceLeDiff, mdT, mrT, h0, h7, h8, h5, h, postF, retOk, hr, Env.ress, Env.resOf, Env.outsOk, hik, u64]
      exact .refl _
theorem number2_ok (b : List UInt8) (at' k : Nat) (hk : k ≤ 8) (hb : at' + k ≤ b.length) (hbl : b.length ≤ 1000000000) : ACalls Γ 52 [.v (bD b), .v (.int .i64 at'), .v (.int .i64 k)] ⟨u64 (num ((b.drop at').take k)), []⟩ := by
  refine acalls_of Tryd.func52 rfl rfl (by kernel_rfl) ?_
  have hr : Tryd.f52.results.toList = [.tmp 6] := rfl
  have hk1 : IntKind.i64.wrap ((k : Int) - 1) = (k : Int) - 1 := w64 (by omega)
  simp only [↓S1, S2, S3, pureOp, fillD, ↓reduceIte, reduceCtorEq, Nat.reduceEqDiff, Nat.reduceAdd, Nat.reduceLeDiff, mdT, mrT, hk1]
  refine evW_loop (fun n e => ∃ j : Nat, n = j ∧ j ≤ k ∧ e.tm 0 = .val (bD b) ∧ e.tm 1 = .val (.int .i64 at') ∧ e.tm 8 = .val (.int .i64 ((j : Int) - 1)) ∧ e.tm 7 = .val (u64 (num (((b.drop at').take k).drop j)))) k ?_ ?_
  · refine ⟨k, rfl, by omega, rfl, rfl, rfl, ?_⟩
    rw [List.drop_eq_nil_of_le (by simp; omega)]; rfl
  · rintro J hJ n e ⟨j, rfl, hi, h0, h1, h8, h7⟩
    simp only [↓S1, S2, S3, pureOp, fillD, ↓reduceIte, reduceCtorEq, Nat.reduceEqDiff, Nat.reduceAdd, Nat.reduceLeDiff, mdT, mrT, h0, h1, h8, h7]
    refine Br_dec (fun h => ?_) (fun h => ?_)
    · obtain ⟨i, rfl⟩ : ∃ i, n = i + 1 := ⟨n - 1, by omega⟩
      have hlt : at' + i < b.length := by omega
      obtain ⟨c, hc⟩ : ∃ c, b[at' + i]? = some c := ⟨_, List.getElem?_eq_getElem hlt⟩
      have hcl := c.toNat_lt
      have hL : ((b.drop at').take k)[i]? = some c := by rw [List.getElem?_take_of_lt (by omega), List.getElem?_drop]; exact hc
      have hdn := drop_num hL
      have hll : (((b.drop at').take k).drop (i + 1)).length ≤ 7 := by simp; omega
      have hnl := num_lt (((b.drop at').take k).drop (i + 1))
      have hpw : 256 ^ (((b.drop at').take k).drop (i + 1)).length ≤ 256 ^ 7 := Nat.pow_le_pow_right (by omega) hll
      have hp7 : (256 : Nat) ^ 7 = 72057594037927936 := by decide
      generalize num (((b.drop at').take k).drop (i + 1)) = m at h7 hdn hnl
      have e1 : IntKind.i64.wrap ((at' : Int) + (((i + 1 : Nat) : Int) - 1)) = ((at' + i : Nat) : Int) := by rw [w64 (by omega)]; omega
      have e2 : IntKind.u64.wrap ((m : Int) * 256) = ((m * 256 : Nat) : Int) := by
        have := wrapU (k := .u64) rfl (m := m * 256) (show m * 256 < 2 ^ 64 by omega)
        rw [← this]; congr 1
      have e3 : IntKind.u64.wrap (c.toNat : Int) = (c.toNat : Int) := wrapU rfl (show c.toNat < 2 ^ 64 by omega)
      have e4 : IntKind.u64.wrap (((m * 256 : Nat) : Int) + (c.toNat : Int)) = ((m * 256 + c.toNat : Nat) : Int) := by
        have := wrapU (k := .u64) rfl (m := m * 256 + c.toNat) (show m * 256 + c.toNat < 2 ^ 64 by omega)
        rw [← this]; congr 1
      have e5 : IntKind.i64.wrap ((((i + 1 : Nat) : Int) - 1) - 1) = (i : Int) - 1 := by rw [w64 (by omega)]; omega
      simp only [↓S1, S2, S3, pureOp, fillD, ↓reduceIte, reduceCtorEq, Nat.reduceEqDiff, Nat.reduceAdd, Nat.reduceLeDiff, mdT, mrT, h0, h1, h8, h7, h, u64, bD, atI_nat, get_ofBytes, hc, convD, e1, e2, e3, e4, e5]
      refine ⟨_, ?_, hJ _ _ ⟨i, rfl, by omega, h0, h1, rfl, ?_⟩⟩
      · omega
      · rw [hdn]; rfl
    · have hik : n = 0 := by omega
      subst hik
      simp only [↓S1, S2, S3, pureOp, fillD, ↓reduceIte, reduceCtorEq, Nat.reduceEqDiff, Nat.reduceAdd, Nat.reduceLeDiff, mdT, mrT, h0, h1, h8, h7, h, postF, retOk, hr, Env.ress, Env.resOf, Env.outsOk, u64]
      exact .refl _

theorem u64_ok (b : List UInt8) (hb : 8 ≤ b.length) (hbl : b.length ≤ 1000000000) : ACalls Γ 33 [.v (bD b), .v (.int .i64 0)] ⟨u64 (num (b.take 8)), []⟩ := by
  refine acalls_of Tryd.func33 rfl rfl (by kernel_rfl) ?_
  have hr : Tryd.f33.results.toList = [.tmp 4] := rfl
  have h08 : IntKind.i64.wrap (0 + 8) = 8 := w64 (by omega)
  have hgt : ¬ ((b.length : Int) < 8) := by omega
  simp only [↓S1, S2, S3, pureOp, fillD, ↓reduceIte, reduceCtorEq, Nat.reduceEqDiff, Nat.reduceAdd, Nat.reduceLeDiff, mdT, mrT, bD, len_ofBytes, h08, hgt, Int.reduceLT]
  refine evW_loop (fun n e => ∃ j : Nat, n = j ∧ j ≤ 8 ∧ e.tm 0 = .val (bD b) ∧ e.tm 1 = .val (.int .i64 0) ∧ e.tm 6 = .val (.int .i64 ((j : Int) - 1)) ∧ e.tm 5 = .val (u64 (num ((b.take 8).drop j)))) 8 ?_ ?_
  · refine ⟨8, rfl, by omega, rfl, rfl, rfl, ?_⟩
    rw [List.drop_eq_nil_of_le (by simp; omega)]; rfl
  · rintro J hJ n e ⟨j, rfl, hi, h0, h1, h8, h7⟩
    simp only [↓S1, S2, S3, pureOp, fillD, ↓reduceIte, reduceCtorEq, Nat.reduceEqDiff, Nat.reduceAdd, Nat.reduceLeDiff, mdT, mrT, h0, h1, h8, h7]
    refine Br_dec (fun h => ?_) (fun h => ?_)
    · obtain ⟨i, rfl⟩ : ∃ i, n = i + 1 := ⟨n - 1, by omega⟩
      have hlt : i < b.length := by omega
      obtain ⟨c, hc⟩ : ∃ c, b[i]? = some c := ⟨_, List.getElem?_eq_getElem hlt⟩
      have hcl := c.toNat_lt
      have hL : (b.take 8)[i]? = some c := by rw [List.getElem?_take_of_lt (by omega)]; exact hc
      have hdn := drop_num hL
      have hll : ((b.take 8).drop (i + 1)).length ≤ 7 := by simp; omega
      have hnl := num_lt ((b.take 8).drop (i + 1))
      have hpw : 256 ^ ((b.take 8).drop (i + 1)).length ≤ 256 ^ 7 := Nat.pow_le_pow_right (by omega) hll
      have hp7 : (256 : Nat) ^ 7 = 72057594037927936 := by decide
      generalize num ((b.take 8).drop (i + 1)) = m at h7 hdn hnl
      have e1 : IntKind.i64.wrap (0 + (((i + 1 : Nat) : Int) - 1)) = ((i : Nat) : Int) := by rw [w64 (by omega)]; omega
      have e2 : IntKind.u64.wrap ((m : Int) * 256) = ((m * 256 : Nat) : Int) := by
        have := wrapU (k := .u64) rfl (m := m * 256) (show m * 256 < 2 ^ 64 by omega)
        rw [← this]; congr 1
      have e3 : IntKind.u64.wrap (c.toNat : Int) = (c.toNat : Int) := wrapU rfl (show c.toNat < 2 ^ 64 by omega)
      have e4 : IntKind.u64.wrap (((m * 256 : Nat) : Int) + (c.toNat : Int)) = ((m * 256 + c.toNat : Nat) : Int) := by
        have := wrapU (k := .u64) rfl (m := m * 256 + c.toNat) (show m * 256 + c.toNat < 2 ^ 64 by omega)
        rw [← this]; congr 1
      have e5 : IntKind.i64.wrap ((((i + 1 : Nat) : Int) - 1) - 1) = (i : Int) - 1 := by rw [w64 (by omega)]; omega
      simp only [↓S1, S2, S3, pureOp, fillD, ↓reduceIte, reduceCtorEq, Nat.reduceEqDiff, Nat.reduceAdd, Nat.reduceLeDiff, mdT, mrT, h0, h1, h8, h7, h, u64, bD, atI_nat, get_ofBytes, hc, convD, e1, e2, e3, e4, e5]
      refine ⟨_, ?_, hJ _ _ ⟨i, rfl, by omega, h0, h1, rfl, ?_⟩⟩
      · omega
      · rw [hdn]; rfl
    · have hik : n = 0 := by omega
      subst hik
      simp only [↓S1, S2, S3, pureOp, fillD, ↓reduceIte, reduceCtorEq, Nat.reduceEqDiff, Nat.reduceAdd, Nat.reduceLeDiff, mdT, mrT, h0, h1, h8, h7, h, postF, retOk, hr, Env.ress, Env.resOf, Env.outsOk, u64]
      exact .refl _
end Go.Proofs.YtebkaacflocfcaaDoor.Ab

/- Walks: names and widths in the reference. -/
namespace Go.Proofs.YtebkaacflocfcaaDoor.Ab
open Go
set_option maxRecDepth 100000
set_option linter.unusedSimpArgs false
set_option linter.unusedVariables false

theorem wk_bool {a b : Bool} (h : a = b) : Wk (.bool a) (.bool b) := by rw [h]; exact .refl _
theorem wk_int {k : IntKind} {a b : Int} (h : a = b) : Wk (.int k a) (.int k b) := by rw [h]; exact .refl _
def part (c : UInt8) : Bool := decide (97 ≤ c.toNat ∧ c.toNat ≤ 122 ∨ 65 ≤ c.toNat ∧ c.toNat ≤ 90 ∨ 48 ≤ c.toNat ∧ c.toNat ≤ 57 ∨ c.toNat = 95)
theorem part_ok (c : UInt8) : ACalls Γ 72 [.v (.int .u8 c.toNat)] ⟨.bool (part c), []⟩ := by
  refine acalls_of Tryd.func72 rfl rfl (by kernel_rfl) ?_
  have hr : Tryd.f72.results.toList = [.tmp 2] := rfl
  simp only [↓S1, S2, S3, pureOp, fillD, ↓reduceIte, reduceCtorEq, Nat.reduceEqDiff, Nat.reduceAdd, Nat.reduceLeDiff, mdT, mrT]
  repeat' (refine Br_dec (fun _ => ?_) (fun _ => ?_) <;> simp only [↓S1, S2, S3, pureOp, fillD, ↓reduceIte, reduceCtorEq, Nat.reduceEqDiff, Nat.reduceAdd, Nat.reduceLeDiff, mdT, mrT, postF, retOk, hr, Env.ress, Env.resOf, Env.outsOk, *])
  all_goals
    refine wk_bool ?_
    first
      | (symm; simp only [part, decide_eq_true_eq]; omega)
      | (simp only [part, decide_eq_decide]; omega)
      | (symm; simp only [part, decide_eq_false_iff_not]; omega)

def kws : List Str := [[97, 110, 100], [99, 97, 116], [99, 108, 101, 97, 114], [100, 101, 108, 101, 116, 101], [101, 108, 115, 101], [102, 97, 108, 115, 101], [104, 97, 115], [104, 101, 114, 101], [105, 102], [108, 101, 110], [109, 97, 120], [109, 105, 110], [110, 101, 119], [110, 111, 116], [111, 114], [112, 105, 99, 107], [116, 114, 117, 101]]
theorem keywords_ok : ACalls Γ 83 [] ⟨.sl (kws.map D.str), []⟩ := by
  refine acalls_of Tryd.func83 rfl rfl (by kernel_rfl) ?_
  have hr : Tryd.f83.results.toList = [.tmp 0] := rfl
  simp only [↓S1, S2, S3, pureOp, fillD, ↓reduceIte, reduceCtorEq, Nat.reduceEqDiff, Nat.reduceAdd, Nat.reduceLeDiff, mdT, mrT, postF, retOk, hr, Env.ress, Env.resOf, Env.outsOk]
  exact ⟨rfl, .refl _⟩

theorem keyword_ok (w : Str) : ACalls Γ 75 [.v (.str w)] ⟨.bool (decide (w ∈ kws)), []⟩ := by
  refine acalls_of Tryd.func75 rfl rfl (by kernel_rfl) ?_
  have hr : Tryd.f75.results.toList = [.tmp 2] := rfl
  simp only [↓S1, S2, S3, pureOp, fillD, ↓reduceIte, reduceCtorEq, Nat.reduceEqDiff, Nat.reduceAdd, Nat.reduceLeDiff, mdT, mrT]
  refine callV keywords_ok rfl rfl ?_
  simp only [↓S1, S2, S3, pureOp, fillD, ↓reduceIte, reduceCtorEq, Nat.reduceEqDiff, Nat.reduceAdd, Nat.reduceLeDiff, mdT, mrT]
  refine evW_loop (fun n e => ∃ i : Nat, n = 17 - i ∧ i ≤ 17 ∧ e.tm 0 = .val (.str w) ∧ e.tm 3 = .val (.sl (kws.map D.str)) ∧ e.tm 4 = .val (.int .i64 i) ∧ w ∉ kws.take i) 17 ?_ ?_
  · exact ⟨0, rfl, by omega, rfl, rfl, rfl, by simp⟩
  · rintro J hJ n e ⟨i, rfl, hi, h0, h3, h4, hn⟩
    have hk : kws.length = 17 := rfl
    simp only [↓S1, S2, S3, pureOp, fillD, ↓reduceIte, reduceCtorEq, Nat.reduceEqDiff, Nat.reduceAdd, Nat.reduceLeDiff, mdT, mrT, h0, h3, h4, hk]
    refine Br_dec (fun h => ?_) (fun h => ?_)
    · have hlt : i < kws.length := by rw [hk]; omega
      obtain ⟨c, hc⟩ : ∃ c, kws[i]? = some c := ⟨_, List.getElem?_eq_getElem hlt⟩
      have hw : IntKind.i64.wrap ((i : Int) + 1) = ((i + 1 : Nat) : Int) := succ64 (by omega)
      simp only [↓S1, S2, S3, pureOp, fillD, ↓reduceIte, reduceCtorEq, Nat.reduceEqDiff, Nat.reduceAdd, Nat.reduceLeDiff, mdT, mrT, h0, h3, h4, hk, h, atI_nat, hc, hw]
      refine Br_dec (fun h' => ?_) (fun h' => ?_)
      · have : w ∈ kws := h' ▸ List.mem_of_getElem? hc
        simp only [↓S1, S2, S3, pureOp, fillD, ↓reduceIte, reduceCtorEq, Nat.reduceEqDiff, Nat.reduceAdd, Nat.reduceLeDiff, mdT, mrT, postF, retOk, hr, Env.ress, Env.resOf, Env.outsOk, this]
        exact .refl _
      · simp only [↓S1, S2, S3, pureOp, fillD, ↓reduceIte, reduceCtorEq, Nat.reduceEqDiff, Nat.reduceAdd, Nat.reduceLeDiff, mdT, mrT, h0, h3, h4, hw]
        refine ⟨_, ?_, hJ _ _ ⟨i + 1, rfl, by omega, h0, h3, rfl, ?_⟩⟩
        · omega
        · rw [← take_succ hc]
          simp only [List.mem_append, List.mem_singleton, not_or]
          exact ⟨hn, fun hh => h' hh.symm⟩
    · rw [List.take_of_length_le (by rw [hk]; omega)] at hn
      simp only [↓S1, S2, S3, pureOp, fillD, ↓reduceIte, reduceCtorEq, Nat.reduceEqDiff, Nat.reduceAdd, Nat.reduceLeDiff, mdT, mrT, h0, h3, h4, hk, h, postF, retOk, hr, Env.ress, Env.resOf, Env.outsOk, hn]
      exact .refl _

def nameOk (w : Str) : Bool := decide (w ≠ [] ∧ w.length ≤ 8 ∧ ¬ (48 ≤ (w.headD 0).toNat ∧ (w.headD 0).toNat ≤ 57)) && w.all part && decide (w ∉ kws)
theorem name_ok (w : Str) (hw8 : w.length ≤ 1000000000) : ACalls Γ 58 [.v (.str w)] ⟨.bool (nameOk w), []⟩ := by
  refine acalls_of Tryd.func58 rfl rfl (by kernel_rfl) ?_
  have hr : Tryd.f58.results.toList = [.tmp 2] := rfl
  cases w with
  | nil =>
    simp only [↓S1, S2, S3, pureOp, fillD, ↓reduceIte, reduceCtorEq, Nat.reduceEqDiff, Nat.reduceAdd, Nat.reduceLeDiff, mdT, mrT, postF, retOk, hr, Env.ress, Env.resOf, Env.outsOk]
    exact wk_bool rfl
  | cons c0 w0 =>
    have hne : (c0 :: w0 = []) = False := by simp
    simp only [↓S1, S2, S3, pureOp, fillD, ↓reduceIte, reduceCtorEq, Nat.reduceEqDiff, Nat.reduceAdd, Nat.reduceLeDiff, mdT, mrT, hne, Array.toList_empty]
    refine Br_dec (fun h1 => ?_) (fun h1 => ?_)
    · simp only [↓S1, S2, S3, pureOp, fillD, ↓reduceIte, reduceCtorEq, Nat.reduceEqDiff, Nat.reduceAdd, Nat.reduceLeDiff, mdT, mrT, postF, retOk, hr, Env.ress, Env.resOf, Env.outsOk, h1]
      refine wk_bool ?_
      simp only [nameOk]
      rw [decide_eq_false]
      · rfl
      · simp only [List.length_cons]; omega
    · have hat : atI (c0 :: w0) 0 = some c0 := rfl
      simp only [↓S1, S2, S3, pureOp, fillD, ↓reduceIte, reduceCtorEq, Nat.reduceEqDiff, Nat.reduceAdd, Nat.reduceLeDiff, mdT, mrT, h1, hat]
      by_cases hd : (48 ≤ (c0.toNat : Int)) ∧ ((c0.toNat : Int) ≤ 57)
      · simp only [↓S1, S2, S3, pureOp, fillD, ↓reduceIte, reduceCtorEq, Nat.reduceEqDiff, Nat.reduceAdd, Nat.reduceLeDiff, mdT, mrT, h1, hat, hd, postF, retOk, hr, Env.ress, Env.resOf, Env.outsOk]
        refine wk_bool ?_
        simp only [nameOk]
        rw [decide_eq_false]
        · rfl
        · simp only [List.headD_cons]; omega
      · have hx : ¬ (48 ≤ (c0.toNat : Int)) ∨ ((48 ≤ (c0.toNat : Int)) ∧ ¬ ((c0.toNat : Int) ≤ 57)) := by omega
        have hnd : (decide (c0 :: w0 ≠ [] ∧ (c0 :: w0).length ≤ 8 ∧ ¬ (48 ≤ ((c0 :: w0).headD 0).toNat ∧ ((c0 :: w0).headD 0).toNat ≤ 57))) = true := by
          rw [decide_eq_true_eq]
          refine ⟨by simp, by simp only [List.length_cons]; omega, ?_⟩
          simp only [List.headD_cons]; omega
        have hno : nameOk (c0 :: w0) = ((c0 :: w0).all part && decide (c0 :: w0 ∉ kws)) := by simp only [nameOk, hnd, Bool.true_and]
        generalize hww : c0 :: w0 = w at *
        rcases hx with hx | hx
        all_goals
          simp only [↓S1, S2, S3, pureOp, fillD, ↓reduceIte, reduceCtorEq, Nat.reduceEqDiff, Nat.reduceAdd, Nat.reduceLeDiff, mdT, mrT, h1, hat, hx]
          refine evW_loop (fun n e => ∃ i : Nat, n = w.length - i ∧ i ≤ w.length ∧ e.tm 0 = .val (.str w) ∧ e.tm 3 = .val (.int .i64 i) ∧ (w.take i).all part = true) w.length ?_ ?_
          · exact ⟨0, by simp, by simp, rfl, rfl, by simp⟩
          · rintro J hJ n e ⟨i, rfl, hi, h0, h3, hp⟩
            simp only [↓S1, S2, S3, pureOp, fillD, ↓reduceIte, reduceCtorEq, Nat.reduceEqDiff, Nat.reduceAdd, Nat.reduceLeDiff, mdT, mrT, h0, h3]
            refine Br_dec (fun h => ?_) (fun h => ?_)
            · have hlt : i < w.length := by omega
              obtain ⟨c, hc⟩ : ∃ c, w[i]? = some c := ⟨_, List.getElem?_eq_getElem hlt⟩
              have hw : IntKind.i64.wrap ((i : Int) + 1) = ((i + 1 : Nat) : Int) := succ64 (by omega)
              simp only [↓S1, S2, S3, pureOp, fillD, ↓reduceIte, reduceCtorEq, Nat.reduceEqDiff, Nat.reduceAdd, Nat.reduceLeDiff, mdT, mrT, h0, h3, h, atI_nat, hc]
              refine callV (part_ok c) rfl rfl ?_
              cases hpc : part c with
              | true =>
                simp only [↓S1, S2, S3, pureOp, fillD, ↓reduceIte, reduceCtorEq, Nat.reduceEqDiff, Nat.reduceAdd, Nat.reduceLeDiff, mdT, mrT, h0, h3, hw]
                refine ⟨_, ?_, hJ _ _ ⟨i + 1, rfl, by omega, h0, rfl, ?_⟩⟩
                · omega
                · rw [← take_succ hc, List.all_append, hp]
                  simp [hpc]
              | false =>
                have : w.all part = false := by
                  rw [List.all_eq_false]
                  exact ⟨c, List.mem_of_getElem? hc, by simp [hpc]⟩
                simp only [↓S1, S2, S3, pureOp, fillD, ↓reduceIte, reduceCtorEq, Nat.reduceEqDiff, Nat.reduceAdd, Nat.reduceLeDiff, mdT, mrT, h0, h3, postF, retOk, hr, Env.ress, Env.resOf, Env.outsOk, hno, this]
                exact wk_bool rfl
            · rw [List.take_of_length_le (by omega)] at hp
              simp only [↓S1, S2, S3, pureOp, fillD, ↓reduceIte, reduceCtorEq, Nat.reduceEqDiff, Nat.reduceAdd, Nat.reduceLeDiff, mdT, mrT, h0, h3, h]
              refine callV (keyword_ok w) rfl rfl ?_
              simp only [↓S1, S2, S3, pureOp, fillD, ↓reduceIte, reduceCtorEq, Nat.reduceEqDiff, Nat.reduceAdd, Nat.reduceLeDiff, mdT, mrT, h0, h3, postF, retOk, hr, Env.ress, Env.resOf, Env.outsOk, hno, hp]
              refine wk_bool ?_
              simp
end Go.Proofs.YtebkaacflocfcaaDoor.Ab

/- Walks: schemas in the reference. -/
namespace Go.Proofs.YtebkaacflocfcaaDoor.Ab
open Go
set_option maxRecDepth 100000
set_option linter.unusedSimpArgs false
set_option linter.unusedVariables false

def wideN (t : Int) : Int := if t = 1 then 10 else if t = 2 then 1 else if t = 3 then 21 else -1
theorem wide_ok (t : Int) : ACalls Γ 59 [.v (.int .i64 t)] ⟨.int .i64 (wideN t), []⟩ := by
  refine acalls_of Tryd.func59 rfl rfl (by kernel_rfl) ?_
  have hr : Tryd.f59.results.toList = [.tmp 2] := rfl
  simp only [↓S1, S2, S3, pureOp, fillD, ↓reduceIte, reduceCtorEq, Nat.reduceEqDiff, Nat.reduceAdd, Nat.reduceLeDiff, mdT, mrT]
  refine Br_dec (fun h1 => ?_) (fun h1 => ?_)
  · simp only [↓S1, S2, S3, pureOp, fillD, ↓reduceIte, reduceCtorEq, Nat.reduceEqDiff, Nat.reduceAdd, Nat.reduceLeDiff, mdT, mrT, postF, retOk, hr, Env.ress, Env.resOf, Env.outsOk, wideN, h1]
    exact .refl _
  · simp only [↓S1, S2, S3, pureOp, fillD, ↓reduceIte, reduceCtorEq, Nat.reduceEqDiff, Nat.reduceAdd, Nat.reduceLeDiff, mdT, mrT, h1]
    refine Br_dec (fun h2 => ?_) (fun h2 => ?_)
    · have : wideN t = 1 := by rw [wideN, if_neg h1, if_pos h2]
      simp only [↓S1, S2, S3, pureOp, fillD, ↓reduceIte, reduceCtorEq, Nat.reduceEqDiff, Nat.reduceAdd, Nat.reduceLeDiff, mdT, mrT, postF, retOk, hr, Env.ress, Env.resOf, Env.outsOk, this]
      exact .refl _
    · simp only [↓S1, S2, S3, pureOp, fillD, ↓reduceIte, reduceCtorEq, Nat.reduceEqDiff, Nat.reduceAdd, Nat.reduceLeDiff, mdT, mrT, h1, h2]
      refine Br_dec (fun h3 => ?_) (fun h3 => ?_)
      · have : wideN t = 21 := by rw [wideN, if_neg h1, if_neg h2, if_pos h3]
        simp only [↓S1, S2, S3, pureOp, fillD, ↓reduceIte, reduceCtorEq, Nat.reduceEqDiff, Nat.reduceAdd, Nat.reduceLeDiff, mdT, mrT, postF, retOk, hr, Env.ress, Env.resOf, Env.outsOk, this]
        exact .refl _
      · have : wideN t = -1 := by rw [wideN, if_neg h1, if_neg h2, if_neg h3]
        simp only [↓S1, S2, S3, pureOp, fillD, ↓reduceIte, reduceCtorEq, Nat.reduceEqDiff, Nat.reduceAdd, Nat.reduceLeDiff, mdT, mrT, postF, retOk, hr, Env.ress, Env.resOf, Env.outsOk, this]
        exact .refl _

def opts (s : List Fld) : Nat := s.countP Fld.opt
def headN (s : List Fld) : Nat := (opts s + 7) / 8
theorem head6_ok (s : List Fld) (hs : s.length ≤ 1000000000) : ACalls Γ 73 [.v (sD s)] ⟨.int .i64 (headN s), []⟩ := by
  refine acalls_of Tryd.func73 rfl rfl (by kernel_rfl) ?_
  have hr : Tryd.f73.results.toList = [.tmp 2] := rfl
  simp only [↓S1, S2, S3, pureOp, fillD, ↓reduceIte, reduceCtorEq, Nat.reduceEqDiff, Nat.reduceAdd, Nat.reduceLeDiff, mdT, mrT, sD]
  refine evW_loop (fun n e => ∃ i : Nat, n = s.length - i ∧ i ≤ s.length ∧ e.tm 1 = .bx 1 0 0 ∧ e.bx 1 0 0 = .val (.sl (s.map fD)) ∧ e.gb 1 = 1 ∧ e.tm 4 = .val (.int .i64 i) ∧ e.tm 3 = .val (.int .i64 (opts (s.take i)))) s.length ?_ ?_
  · exact ⟨0, by simp, by simp, rfl, rfl, rfl, rfl, rfl⟩
  · rintro J hJ n e ⟨i, rfl, hi, h1, hb, hg, h4, h3⟩
    simp only [↓S1, S2, S3, pureOp, fillD, ↓reduceIte, reduceCtorEq, Nat.reduceEqDiff, Nat.reduceAdd, Nat.reduceLeDiff, mdT, mrT, h1, hb, hg, h4, h3]
    refine Br_dec (fun h => ?_) (fun h => ?_)
    · have hlt : i < s.length := by omega
      obtain ⟨f, hf⟩ : ∃ f, s[i]? = some f := ⟨_, List.getElem?_eq_getElem hlt⟩
      have hw : IntKind.i64.wrap ((i : Int) + 1) = ((i + 1 : Nat) : Int) := succ64 (by omega)
      have hle : opts (s.take i) ≤ i := by
        have := List.countP_le_length (p := Fld.opt) (l := s.take i)
        simp only [List.length_take] at this; unfold opts; omega
      have hw2 : IntKind.i64.wrap ((opts (s.take i) : Int) + 1) = ((opts (s.take i) + 1 : Nat) : Int) := succ64 (by omega)
      have hnx : opts (s.take (i + 1)) = opts (s.take i) + if f.opt then 1 else 0 := by
        rw [← take_succ hf]; unfold opts; rw [List.countP_append, List.countP_singleton]
      simp only [↓S1, S2, S3, pureOp, fillD, ↓reduceIte, reduceCtorEq, Nat.reduceEqDiff, Nat.reduceAdd, Nat.reduceLeDiff, mdT, mrT, h1, hb, hg, h4, h3, h, atI_nat, hf, fD]
      cases hfo : f.opt with
      | true =>
        simp only [↓S1, S2, S3, pureOp, fillD, ↓reduceIte, reduceCtorEq, Nat.reduceEqDiff, Nat.reduceAdd, Nat.reduceLeDiff, mdT, mrT, h1, hb, hg, h4, h3, hw, hw2]
        refine ⟨_, ?_, hJ _ _ ⟨i + 1, rfl, by omega, h1, hb, hg, rfl, ?_⟩⟩
        · omega
        · rw [hnx, hfo]; rfl
      | false =>
        simp only [↓S1, S2, S3, pureOp, fillD, ↓reduceIte, reduceCtorEq, Nat.reduceEqDiff, Nat.reduceAdd, Nat.reduceLeDiff, mdT, mrT, h1, hb, hg, h4, h3, hw]
        refine ⟨_, ?_, hJ _ _ ⟨i + 1, rfl, by omega, h1, hb, hg, rfl, ?_⟩⟩
        · omega
        · rw [hnx, hfo]; exact h3
    · have hle : opts s ≤ s.length := List.countP_le_length
      rw [List.take_of_length_le (by omega)] at h3
      have w1 : IntKind.i64.wrap ((opts s : Int) + 7) = ((opts s + 7 : Nat) : Int) := by rw [w64 (by omega)]; rfl
      have w2 : ((opts s + 7 : Nat) : Int).tdiv 8 = ((headN s : Nat) : Int) := tdivN _ 8 rfl rfl
      have w3 : IntKind.i64.wrap ((headN s : Nat) : Int) = ((headN s : Nat) : Int) := w64 (by unfold headN; omega)
      simp only [↓S1, S2, S3, pureOp, fillD, ↓reduceIte, reduceCtorEq, Nat.reduceEqDiff, Nat.reduceAdd, Nat.reduceLeDiff, mdT, mrT, h1, hb, hg, h4, h3, h, w1, w2, w3, Int.reduceEq, postF, retOk, hr, Env.ress, Env.resOf, Env.outsOk]
      exact .refl _

def widesN (s : List Fld) : Int := (s.map fun f => wideN f.type).sum
def widthN (s : List Fld) : Int := headN s + widesN s
theorem wideN_le (t : Int) : -1 ≤ wideN t ∧ wideN t ≤ 21 := by unfold wideN; split <;> (try split) <;> (try split) <;> omega
theorem widesN_le : ∀ s : List Fld, -(s.length : Int) ≤ widesN s ∧ widesN s ≤ 21 * (s.length : Int) := by
  intro s
  induction s with
  | nil => simp [widesN]
  | cons f s ih =>
    have := wideN_le f.type
    simp only [widesN, List.map_cons, List.sum_cons, List.length_cons] at ih ⊢
    omega
theorem widesN_succ {s : List Fld} {i : Nat} {f : Fld} (h : s[i]? = some f) : widesN (s.take (i + 1)) = widesN (s.take i) + wideN f.type := by
  rw [← take_succ h]; simp [widesN]
theorem headN_le (s : List Fld) : headN s ≤ s.length + 7 := by
  have : opts s ≤ s.length := List.countP_le_length
  unfold headN; omega
theorem width_ok (s : List Fld) (hs : s.length ≤ 1000000000) : ACalls Γ 60 [.v (sD s)] ⟨.int .i64 (widthN s), []⟩ := by
  refine acalls_of Tryd.func60 rfl rfl (by kernel_rfl) ?_
  have hr : Tryd.f60.results.toList = [.tmp 2] := rfl
  simp only [↓S1, S2, S3, pureOp, fillD, ↓reduceIte, reduceCtorEq, Nat.reduceEqDiff, Nat.reduceAdd, Nat.reduceLeDiff, mdT, mrT, sD]
  refine callV (head6_ok s hs) rfl rfl ?_
  simp only [↓S1, S2, S3, pureOp, fillD, ↓reduceIte, reduceCtorEq, Nat.reduceEqDiff, Nat.reduceAdd, Nat.reduceLeDiff, mdT, mrT, sD]
  refine evW_loop (fun n e => ∃ i : Nat, n = s.length - i ∧ i ≤ s.length ∧ e.tm 1 = .bx 1 0 0 ∧ e.bx 1 0 0 = .val (.sl (s.map fD)) ∧ e.gb 1 = 1 ∧ e.tm 4 = .val (.int .i64 i) ∧ e.tm 3 = .val (.int .i64 (headN s + widesN (s.take i)))) s.length ?_ ?_
  · refine ⟨0, by simp, by simp, rfl, rfl, rfl, rfl, ?_⟩
    simp only [List.take_zero, widesN, List.map_nil, List.sum_nil, Int.add_zero]; rfl
  · rintro J hJ n e ⟨i, rfl, hi, h1, hb, hg, h4, h3⟩
    have hhl := headN_le s
    simp only [↓S1, S2, S3, pureOp, fillD, ↓reduceIte, reduceCtorEq, Nat.reduceEqDiff, Nat.reduceAdd, Nat.reduceLeDiff, mdT, mrT, h1, hb, hg, h4, h3]
    refine Br_dec (fun h => ?_) (fun h => ?_)
    · have hlt : i < s.length := by omega
      obtain ⟨f, hf⟩ : ∃ f, s[i]? = some f := ⟨_, List.getElem?_eq_getElem hlt⟩
      have hw : IntKind.i64.wrap ((i : Int) + 1) = ((i + 1 : Nat) : Int) := succ64 (by omega)
      have hwl := widesN_le (s.take i)
      rw [List.length_take] at hwl
      have hww := wideN_le f.type
      have hw2 : IntKind.i64.wrap ((headN s : Int) + widesN (s.take i) + wideN f.type) = (headN s : Int) + widesN (s.take (i + 1)) := by
        rw [widesN_succ hf, w64 (by omega)]; omega
      simp only [↓S1, S2, S3, pureOp, fillD, ↓reduceIte, reduceCtorEq, Nat.reduceEqDiff, Nat.reduceAdd, Nat.reduceLeDiff, mdT, mrT, h1, hb, hg, h4, h3, h, atI_nat, hf, fD]
      refine callV (wide_ok f.type) rfl rfl ?_
      simp only [↓S1, S2, S3, pureOp, fillD, ↓reduceIte, reduceCtorEq, Nat.reduceEqDiff, Nat.reduceAdd, Nat.reduceLeDiff, mdT, mrT, h1, hb, hg, h4, h3, hw, hw2]
      exact ⟨_, by omega, hJ _ _ ⟨i + 1, rfl, by omega, h1, hb, hg, rfl, rfl⟩⟩
    · rw [List.take_of_length_le (by omega)] at h3
      simp only [↓S1, S2, S3, pureOp, fillD, ↓reduceIte, reduceCtorEq, Nat.reduceEqDiff, Nat.reduceAdd, Nat.reduceLeDiff, mdT, mrT, h1, hb, hg, h4, h3, h, postF, retOk, hr, Env.ress, Env.resOf, Env.outsOk]
      exact .refl _

def fldOk (f : Fld) : Bool := nameOk f.name && decide (0 ≤ wideN f.type)
def schemaOk (s : List Fld) : Bool := decide (1 ≤ s.length ∧ s.length ≤ 8) && s.all fldOk && decide ((s.map Fld.name).Nodup) && decide (widthN s ≤ 64)
def errS (s : List Fld) : Int := if schemaOk s = true then 0 else 60
theorem errS_no {s : List Fld} (h : schemaOk s = false) : errS s = 60 := by simp [errS, h]
theorem checkSchema6_ok (s : List Fld) (hs : s.length ≤ 1000000000) (hn : ∀ f ∈ s, f.name.length ≤ 1000000000) : ACalls Γ 35 [.v (sD s)] ⟨.int .i64 (errS s), []⟩ := by
  refine acalls_of Tryd.func35 rfl rfl (by kernel_rfl) ?_
  have hr : Tryd.f35.results.toList = [.tmp 2] := rfl
  simp only [↓S1, S2, S3, pureOp, fillD, ↓reduceIte, reduceCtorEq, Nat.reduceEqDiff, Nat.reduceAdd, Nat.reduceLeDiff, mdT, mrT, sD]
  refine Br_dec (fun h1 => ?_) (fun h1 => ?_)
  · have : errS s = 60 := errS_no (by simp only [schemaOk]; rw [decide_eq_false (by omega)]; rfl)
    simp only [↓S1, S2, S3, pureOp, fillD, ↓reduceIte, reduceCtorEq, Nat.reduceEqDiff, Nat.reduceAdd, Nat.reduceLeDiff, mdT, mrT, h1, postF, retOk, hr, Env.ress, Env.resOf, Env.outsOk, this]
    exact .refl _
  · simp only [↓S1, S2, S3, pureOp, fillD, ↓reduceIte, reduceCtorEq, Nat.reduceEqDiff, Nat.reduceAdd, Nat.reduceLeDiff, mdT, mrT, h1]
    refine Br_dec (fun h2 => ?_) (fun h2 => ?_)
    · have : errS s = 60 := errS_no (by simp only [schemaOk]; rw [decide_eq_false (by omega)]; rfl)
      simp only [↓S1, S2, S3, pureOp, fillD, ↓reduceIte, reduceCtorEq, Nat.reduceEqDiff, Nat.reduceAdd, Nat.reduceLeDiff, mdT, mrT, h1, h2, postF, retOk, hr, Env.ress, Env.resOf, Env.outsOk, this]
      exact .refl _
    · simp only [↓S1, S2, S3, pureOp, fillD, ↓reduceIte, reduceCtorEq, Nat.reduceEqDiff, Nat.reduceAdd, Nat.reduceLeDiff, mdT, mrT, h1, h2]
      refine evW_loop (fun n e => ∃ i : Nat, n = s.length - i ∧ i ≤ s.length ∧ e.tm 1 = .bx 1 0 0 ∧ e.bx 1 0 0 = .val (.sl (s.map fD)) ∧ e.gb 1 = 1 ∧ e.tm 3 = .val (.int .i64 i) ∧ (s.take i).all fldOk = true ∧ ((s.take i).map Fld.name).Nodup) s.length ?_ ?_
      · exact ⟨0, by simp, by simp, rfl, rfl, rfl, rfl, by simp, by simp⟩
      · rintro J hJ n e ⟨i, rfl, hi, g1, hb, hg, g3, ha, hnd⟩
        simp only [↓S1, S2, S3, pureOp, fillD, ↓reduceIte, reduceCtorEq, Nat.reduceEqDiff, Nat.reduceAdd, Nat.reduceLeDiff, mdT, mrT, g1, hb, hg, g3]
        refine Br_dec (fun h => ?_) (fun h => ?_)
        · have hlt : i < s.length := by omega
          obtain ⟨f, hf⟩ : ∃ f, s[i]? = some f := ⟨_, List.getElem?_eq_getElem hlt⟩
          have hw : IntKind.i64.wrap ((i : Int) + 1) = ((i + 1 : Nat) : Int) := succ64 (by omega)
          have hfm := List.mem_of_getElem? hf
          simp only [↓S1, S2, S3, pureOp, fillD, ↓reduceIte, reduceCtorEq, Nat.reduceEqDiff, Nat.reduceAdd, Nat.reduceLeDiff, mdT, mrT, g1, hb, hg, g3, h, atI_nat, hf, fD]
          refine callV (name_ok f.name (hn f hfm)) rfl rfl ?_
          simp only [↓S1, S2, S3, pureOp, fillD, ↓reduceIte, reduceCtorEq, Nat.reduceEqDiff, Nat.reduceAdd, Nat.reduceLeDiff, mdT, mrT, g1, hb, hg, g3]
          refine callV (wide_ok f.type) rfl rfl ?_
          have bad : fldOk f = false → errS s = 60 := by
            intro hb
            refine errS_no ?_
            have : s.all fldOk = false := by
              rw [List.all_eq_false]; exact ⟨f, hfm, by simp [hb]⟩
            simp only [schemaOk, this, Bool.and_false, Bool.false_and]
          cases hnm : nameOk f.name with
          | false =>
            have e60 : errS s = 60 := bad (by simp [fldOk, hnm])
            simp only [↓S1, S2, S3, pureOp, fillD, ↓reduceIte, reduceCtorEq, Nat.reduceEqDiff, Nat.reduceAdd, Nat.reduceLeDiff, mdT, mrT, g1, hb, hg, g3, postF, retOk, hr, Env.ress, Env.resOf, Env.outsOk, e60]
            exact .refl _
          | true =>
            simp only [↓S1, S2, S3, pureOp, fillD, ↓reduceIte, reduceCtorEq, Nat.reduceEqDiff, Nat.reduceAdd, Nat.reduceLeDiff, mdT, mrT, g1, hb, hg, g3]
            refine Br_dec (fun h3 => ?_) (fun h3 => ?_)
            · have e60 : errS s = 60 := bad (by simp only [fldOk]; rw [decide_eq_false (by omega)]; simp)
              simp only [↓S1, S2, S3, pureOp, fillD, ↓reduceIte, reduceCtorEq, Nat.reduceEqDiff, Nat.reduceAdd, Nat.reduceLeDiff, mdT, mrT, g1, hb, hg, g3, h3, postF, retOk, hr, Env.ress, Env.resOf, Env.outsOk, e60]
              exact .refl _
            · have hfo : fldOk f = true := by simp only [fldOk, hnm]; rw [decide_eq_true (by omega)]; rfl
              simp only [↓S1, S2, S3, pureOp, fillD, ↓reduceIte, reduceCtorEq, Nat.reduceEqDiff, Nat.reduceAdd, Nat.reduceLeDiff, mdT, mrT, g1, hb, hg, g3, h3]
              refine evW_loop (fun n e => ∃ (j g : Nat), n = i - j ∧ j ≤ i ∧ e.tm 1 = .bx 1 0 0 ∧ e.bx 1 0 0 = .val (.sl (s.map fD)) ∧ e.gb 1 = 1 ∧ e.tm 3 = .val (.int .i64 i) ∧ e.tm 7 = .val (.int .i64 j) ∧ e.tm 4 = .bx 4 g 0 ∧ e.bx 4 g 0 = .val (.str f.name) ∧
                  g < e.gb 4 ∧ f.name ∉ ((s.take j).map Fld.name)) i ?_ ?_
              · refine ⟨0, e.gb 4, by simp, by simp, g1, ?_, ?_, g3, rfl, rfl, ?_, ?_, by simp⟩
                · simp only [↓S1, S2, S3, pureOp, fillD, ↓reduceIte, reduceCtorEq, Nat.reduceEqDiff, Nat.reduceAdd, Nat.reduceLeDiff, mdT, mrT, hb]
                · simp only [↓S1, S2, S3, pureOp, fillD, ↓reduceIte, reduceCtorEq, Nat.reduceEqDiff, Nat.reduceAdd, Nat.reduceLeDiff, mdT, mrT, hg]
                · simp only [↓S1, S2, S3, pureOp, fillD, ↓reduceIte, reduceCtorEq, Nat.reduceEqDiff, Nat.reduceAdd, Nat.reduceLeDiff, mdT, mrT]
                · simp only [↓S1, S2, S3, pureOp, fillD, ↓reduceIte, reduceCtorEq, Nat.reduceEqDiff, Nat.reduceAdd, Nat.reduceLeDiff, mdT, mrT]
              · rintro J' hJ' n e ⟨j, g, rfl, hj, g1, hb, hg, g3, g7, g4, hb4, hg4, hnin⟩
                simp only [↓S1, S2, S3, pureOp, fillD, ↓reduceIte, reduceCtorEq, Nat.reduceEqDiff, Nat.reduceAdd, Nat.reduceLeDiff, mdT, mrT, g1, hb, hg, g3, g7, g4, hb4]
                refine Br_dec (fun h4 => ?_) (fun h4 => ?_)
                · have hjl : j < s.length := by omega
                  obtain ⟨f', hf'⟩ : ∃ f, s[j]? = some f := ⟨_, List.getElem?_eq_getElem hjl⟩
                  have hw' : IntKind.i64.wrap ((j : Int) + 1) = ((j + 1 : Nat) : Int) := succ64 (by omega)
                  simp only [↓S1, S2, S3, pureOp, fillD, ↓reduceIte, reduceCtorEq, Nat.reduceEqDiff, Nat.reduceAdd, Nat.reduceLeDiff, mdT, mrT, g1, hb, hg, g3, g7, g4, hb4, hg4, h4, atI_nat, hf', fD]
                  refine Br_dec (fun h5 => ?_) (fun h5 => ?_)
                  · have e60 : errS s = 60 := by
                      refine errS_no ?_
                      have : ¬ (s.map Fld.name).Nodup := by
                        intro hnn
                        have q1 : (s.map Fld.name)[j]? = some f.name := by rw [List.getElem?_map, hf']; simp [h5]
                        have q2 : (s.map Fld.name)[i]? = some f.name := by rw [List.getElem?_map, hf]; rfl
                        have := (List.getElem?_inj (l := s.map Fld.name) (i := j) (j := i) (by simp; omega) hnn).1 (q1.trans q2.symm)
                        omega
                      simp only [schemaOk]; rw [decide_eq_false this]; simp
                    simp only [↓S1, S2, S3, pureOp, fillD, ↓reduceIte, reduceCtorEq, Nat.reduceEqDiff, Nat.reduceAdd, Nat.reduceLeDiff, mdT, mrT, g1, hb, hg, g3, g7, g4, hb4, postF, retOk, hr, Env.ress, Env.resOf, Env.outsOk, e60]
                    exact .refl _
                  · simp only [↓S1, S2, S3, pureOp, fillD, ↓reduceIte, reduceCtorEq, Nat.reduceEqDiff, Nat.reduceAdd, Nat.reduceLeDiff, mdT, mrT, g1, hb, hg, g3, g7, g4, hb4, hw']
                    refine ⟨_, ?_, hJ' _ _ ⟨j + 1, g, rfl, by omega, g1, hb, hg, g3, rfl, g4, hb4, hg4, ?_⟩⟩
                    · omega
                    · rw [← take_succ hf', List.map_append, List.mem_append, not_or]
                      exact ⟨hnin, by simpa using fun hh => h5 hh.symm⟩
                · have hji : j = i := by omega
                  subst hji
                  simp only [↓S1, S2, S3, pureOp, fillD, ↓reduceIte, reduceCtorEq, Nat.reduceEqDiff, Nat.reduceAdd, Nat.reduceLeDiff, mdT, mrT, g1, hb, hg, g3, g7, g4, hb4, h4, hw]
                  refine ⟨_, ?_, hJ _ _ ⟨j + 1, rfl, by omega, g1, hb, hg, rfl, ?_, ?_⟩⟩
                  · omega
                  · rw [← take_succ hf, List.all_append, ha]; simp [hfo]
                  · rw [← take_succ hf, List.map_append, List.nodup_append]
                    refine ⟨hnd, by simp, fun a ha b hb' => ?_⟩
                    simp only [List.map_cons, List.map_nil, List.mem_singleton] at hb'
                    subst hb'
                    intro hh; subst hh; exact hnin ha
        · rw [List.take_of_length_le (by omega)] at ha hnd
          simp only [↓S1, S2, S3, pureOp, fillD, ↓reduceIte, reduceCtorEq, Nat.reduceEqDiff, Nat.reduceAdd, Nat.reduceLeDiff, mdT, mrT, g1, hb, hg, g3, h]
          refine callV (width_ok s hs) rfl rfl ?_
          simp only [↓S1, S2, S3, pureOp, fillD, ↓reduceIte, reduceCtorEq, Nat.reduceEqDiff, Nat.reduceAdd, Nat.reduceLeDiff, mdT, mrT]
          refine Br_dec (fun h3 => ?_) (fun h3 => ?_)
          · have e60 : errS s = 60 := errS_no (by simp only [schemaOk]; rw [decide_eq_false (p := widthN s ≤ 64) (by omega)]; simp)
            simp only [↓S1, S2, S3, pureOp, fillD, ↓reduceIte, reduceCtorEq, Nat.reduceEqDiff, Nat.reduceAdd, Nat.reduceLeDiff, mdT, mrT, h3, postF, retOk, hr, Env.ress, Env.resOf, Env.outsOk, e60]
            exact .refl _
          · have e0 : errS s = 0 := by
              have : schemaOk s = true := by
                simp only [schemaOk, ha]
                rw [decide_eq_true hnd, decide_eq_true (p := widthN s ≤ 64) (by omega), decide_eq_true (by omega)]; rfl
              simp [errS, this]
            simp only [↓S1, S2, S3, pureOp, fillD, ↓reduceIte, reduceCtorEq, Nat.reduceEqDiff, Nat.reduceAdd, Nat.reduceLeDiff, mdT, mrT, h3, postF, retOk, hr, Env.ress, Env.resOf, Env.outsOk, e0]
            exact .refl _
end Go.Proofs.YtebkaacflocfcaaDoor.Ab
