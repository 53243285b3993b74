/- Contracts of the reference functions that write and read a schema, a frame and an entry. -/
import Derived.Test.YtebkaacflocfcaaDoorM5
import Derived.Test.YtebkaacflocfcaaDoorM4
set_option linter.unusedVariables false
set_option linter.unusedSimpArgs false
set_option linter.defProp false
/- Walks: the text of a schema in the reference. -/
namespace Go.Proofs.YtebkaacflocfcaaDoor.Ab
open Go
set_option maxRecDepth 100000
set_option linter.unusedSimpArgs false
set_option linter.unusedVariables false

def wordS (t : Int) : Str := if t = 1 then [105, 110, 116] else if t = 2 then [98, 111, 111, 108] else [98, 121, 116, 101, 115]
theorem word_ok (t : Int) : ACalls Γ 36 [.v (.int .i64 t)] ⟨.str (wordS t), []⟩ := by
  refine acalls_of Tryd.func36 rfl rfl (by kernel_rfl) ?_
  have hr : Tryd.f36.results.toList = [.tmp 2] := rfl
  simp only [↓S1, S2, S3, pureOp, fillD, ↓reduceIte, reduceCtorEq, Nat.reduceEqDiff, Nat.reduceAdd, Nat.reduceLeDiff, mdT, mrT]
  refine Br_dec (fun h1 => ?_) (fun h1 => ?_)
  · simp only [↓S1, S2, S3, pureOp, fillD, ↓reduceIte, reduceCtorEq, Nat.reduceEqDiff, Nat.reduceAdd, Nat.reduceLeDiff, mdT, mrT, h1, postF, retOk, hr, Env.ress, Env.resOf, Env.outsOk, wordS]
    exact .refl _
  · simp only [↓S1, S2, S3, pureOp, fillD, ↓reduceIte, reduceCtorEq, Nat.reduceEqDiff, Nat.reduceAdd, Nat.reduceLeDiff, mdT, mrT, h1]
    refine Br_dec (fun h2 => ?_) (fun h2 => ?_)
    · simp only [↓S1, S2, S3, pureOp, fillD, ↓reduceIte, reduceCtorEq, Nat.reduceEqDiff, Nat.reduceAdd, Nat.reduceLeDiff, mdT, mrT, h1, h2, postF, retOk, hr, Env.ress, Env.resOf, Env.outsOk, wordS]
      exact .refl _
    · simp only [↓S1, S2, S3, pureOp, fillD, ↓reduceIte, reduceCtorEq, Nat.reduceEqDiff, Nat.reduceAdd, Nat.reduceLeDiff, mdT, mrT, h1, h2, postF, retOk, hr, Env.ress, Env.resOf, Env.outsOk, wordS]
      exact .refl _
def fldS (f : Fld) : Str := f.name ++ [58] ++ wordS f.type ++ (if f.opt then [63] else [])
def joinS : List Fld → Str
  | [] => []
  | f :: r => fldS f ++ r.flatMap fun f => 44 :: fldS f
def printD (s : List Fld) : Str := if errS s = 0 then joinS s else []
theorem joinS_add (l : List Fld) (f : Fld) : joinS (l ++ [f]) = joinS l ++ (if 0 < l.length then [44] else []) ++ fldS f := by
  cases l with
  | nil => simp [joinS]
  | cons a l => simp [joinS]
theorem wordS_len (t : Int) : (wordS t).length ≤ 5 := by unfold wordS; split <;> (try split) <;> simp
theorem fldS_len (f : Fld) : (fldS f).length ≤ f.name.length + 7 := by
  unfold fldS
  have := wordS_len f.type
  simp only [List.length_append, List.length_cons, List.length_nil]
  split <;> simp <;> omega
theorem joinS_len (s : List Fld) (hn : ∀ f ∈ s, f.name.length ≤ 1000000000) : (joinS s).length ≤ s.length * 1000000008 := by
  have key : ∀ r : List Fld, (∀ f ∈ r, f.name.length ≤ 1000000000) → (r.flatMap fun f => 44 :: fldS f).length ≤ r.length * 1000000008 := by
    intro r
    induction r with
    | nil => intro _; simp
    | cons f r ih =>
      intro h
      have h1 := ih fun g hg => h g (by simp [hg])
      have h2 := fldS_len f
      have h3 := h f (by simp)
      simp only [List.flatMap_cons, List.length_append, List.length_cons]
      omega
  cases s with
  | nil => simp [joinS]
  | cons f r =>
    have h1 := key r fun g hg => hn g (by simp [hg])
    have h2 := fldS_len f
    have h3 := hn f (by simp)
    simp only [joinS, List.length_append, List.length_cons]
    omega
theorem schema_len8 {s : List Fld} (h : errS s = 0) : 1 ≤ s.length ∧ s.length ≤ 8 := by
  have hsl : schemaOk s = true := by
    by_cases hh : schemaOk s = true
    · exact hh
    · simp [errS, hh] at h
  simp only [schemaOk, Bool.and_eq_true, decide_eq_true_eq] at hsl
  exact hsl.1.1.1
theorem wk_tup2' {a b c d : D} (h1 : Wk a c) (h2 : Wk b d) : Wk (.tup [a, b]) (.tup [c, d]) := by
  refine .tup rfl fun i x y hx hy => ?_
  match i with
  | 0 => simp at hx hy; subst hx hy; exact h1
  | 1 => simp at hx hy; subst hx hy; exact h2
  | n + 2 => simp at hx
theorem printSchema6_ok (s : List Fld) (hs : SchB s) : ACalls Γ 18 [.v (sD s)] ⟨.tup [.str (printD s), .int .i64 (errS s)], []⟩ := by
  refine acalls_of Tryd.func18 rfl rfl (by kernel_rfl) ?_
  have hr : Tryd.f18.results.toList = [.tmp 2, .tmp 3] := rfl
  simp only [↓S1, S2, S3, pureOp, fillD, ↓reduceIte, reduceCtorEq, Nat.reduceEqDiff, Nat.reduceAdd, Nat.reduceLeDiff, mdT, mrT, sD]
  refine callV (checkSchema6_ok s hs.1 hs.2) rfl rfl ?_
  simp only [↓S1, S2, S3, pureOp, fillD, ↓reduceIte, reduceCtorEq, Nat.reduceEqDiff, Nat.reduceAdd, Nat.reduceLeDiff, mdT, mrT]
  refine Br_dec (fun h1 => ?_) (fun h1 => ?_)
  · obtain ⟨_, k4⟩ := schema_len8 h1
    simp only [↓S1, S2, S3, pureOp, fillD, ↓reduceIte, reduceCtorEq, Nat.reduceEqDiff, Nat.reduceAdd, Nat.reduceLeDiff, mdT, mrT, h1]
    refine evW_loop (fun n e => ∃ (i : Nat), n = s.length - i ∧ i ≤ s.length ∧ e.tm 1 = .bx 1 0 0 ∧ e.bx 1 0 0 = .val (.sl (s.map fD)) ∧ e.gb 1 = 1 ∧ e.tm 6 = .val (.int .i64 i) ∧ e.tm 5 = .val (.str (joinS (s.take i)))) s.length ?_ ?_
    · exact ⟨0, by simp, by simp, rfl, rfl, rfl, rfl, rfl⟩
    · rintro J hJ n e ⟨i, rfl, hi, g1, hb, hg, g6, g5⟩
      simp only [↓S1, S2, S3, pureOp, fillD, ↓reduceIte, reduceCtorEq, Nat.reduceEqDiff, Nat.reduceAdd, Nat.reduceLeDiff, mdT, mrT, g1, hb, hg, g6, g5]
      refine Br_dec (fun h => ?_) (fun h => ?_)
      · have hlt : i < s.length := by omega
        obtain ⟨f, hf⟩ : ∃ f, s[i]? = some f := ⟨_, List.getElem?_eq_getElem hlt⟩
        have hw : IntKind.i64.wrap ((i : Int) + 1) = ((i + 1 : Nat) : Int) := succ64 (by omega)
        have hti : (s.take i).length = i := by simp; omega
        have hnx := joinS_add (s.take i) f
        rw [take_succ hf, hti] at hnx
        have hjl := joinS_len (s.take i) fun g hg => hs.2 g (List.mem_of_mem_take hg)
        rw [hti] at hjl
        have hfn := hs.2 f (List.mem_of_getElem? hf)
        have hwl := wordS_len f.type
        have hi0 : (0 < (i : Int)) = (0 < i) := by simp
        simp only [↓S1, S2, S3, pureOp, fillD, ↓reduceIte, reduceCtorEq, Nat.reduceEqDiff, Nat.reduceAdd, Nat.reduceLeDiff, mdT, mrT, g1, hb, hg, g6, g5, h, hi0, atI_nat, hf, fD]
        by_cases hp : 0 < i
        all_goals
          rw [fldS] at hnx
          simp only [hp, if_true, if_false] at hnx
          have l1 : ((joinS (s.take i)).length + (0 + 1) ≤ 4611686018427387904) = True := by simp only [eq_iff_iff, iff_true]; omega
          have l2 : ((joinS (s.take i)).length + f.name.length ≤ 4611686018427387904) = True := by simp only [eq_iff_iff, iff_true]; omega
          simp only [↓S1, S2, S3, pureOp, fillD, ↓reduceIte, reduceCtorEq, Nat.reduceEqDiff, Nat.reduceAdd, Nat.reduceLeDiff, mdT, mrT, g1, hb, hg, g6, g5, hp, strD, l1]
          refine callV (word_ok f.type) rfl rfl ?_
          cases hfo : f.opt
          all_goals
            rw [hfo] at hnx
            simp only [Bool.false_eq_true, if_true, if_false] at hnx
            simp only [↓S1, S2, S3, pureOp, fillD, ↓reduceIte, reduceCtorEq, Nat.reduceEqDiff, Nat.reduceAdd, Nat.reduceLeDiff, mdT, mrT, g1, hb, hg, g6, g5, strD, List.length_append, l2, List.append_assoc]
            repeat (rw [if_pos (by omega)]; try simp only [↓S1, S2, S3, pureOp, fillD, ↓reduceIte, reduceCtorEq, Nat.reduceEqDiff, Nat.reduceAdd, Nat.reduceLeDiff, mdT, mrT, g1, hb, hg, g6, g5, strD, List.length_append, hw])
            refine ⟨_, ?_, hJ _ _ ⟨i + 1, rfl, by omega, g1, hb, hg, rfl, ?_⟩⟩
            · omega
            · simp only [↓S1, S2, S3, pureOp, fillD, ↓reduceIte, reduceCtorEq, Nat.reduceEqDiff, Nat.reduceAdd, Nat.reduceLeDiff, mdT, mrT]
              rw [hnx]; simp
      · have hti : s.take i = s := List.take_of_length_le (by omega)
        rw [hti] at g5
        have hd : printD s = joinS s := by simp [printD, h1]
        simp only [↓S1, S2, S3, pureOp, fillD, ↓reduceIte, reduceCtorEq, Nat.reduceEqDiff, Nat.reduceAdd, Nat.reduceLeDiff, mdT, mrT, g1, hb, hg, g6, g5, h, postF, retOk, hr, Env.ress, Env.resOf, Env.outsOk, hd, h1]
        exact .refl _
  · have hd : printD s = [] := by simp [printD, h1]
    simp only [↓S1, S2, S3, pureOp, fillD, ↓reduceIte, reduceCtorEq, Nat.reduceEqDiff, Nat.reduceAdd, Nat.reduceLeDiff, mdT, mrT, h1, postF, retOk, hr, Env.ress, Env.resOf, Env.outsOk, hd]
    exact .refl _
end Go.Proofs.YtebkaacflocfcaaDoor.Ab

/- Walks: the text of a schema is read in the reference. -/
namespace Go.Proofs.YtebkaacflocfcaaDoor.Ab
open Go
set_option maxRecDepth 100000
set_option linter.unusedSimpArgs false
set_option linter.unusedVariables false

/-- so many bytes ahead of the first c -/
def upN (c : UInt8) : Str → Nat
  | [] => 0
  | x :: l => if x = c then 0 else upN c l + 1
theorem upN_le (c : UInt8) : ∀ l : Str, upN c l ≤ l.length := by
  intro l
  induction l with
  | nil => simp [upN]
  | cons x l ih => simp only [upN, List.length_cons]; split <;> omega
theorem drop_cons' {α : Type} {l : List α} {i : Nat} {c : α} (h : l[i]? = some c) : l.drop i = c :: l.drop (i + 1) := by
  have hlt : i < l.length := by
    rcases Nat.lt_or_ge i l.length with h' | h'
    · exact h'
    · rw [List.getElem?_eq_none h'] at h; cases h
  rw [List.drop_eq_getElem_cons hlt]
  rw [List.getElem?_eq_getElem hlt] at h
  rw [Option.some.inj h]
theorem upTo_ok (w : Str) (at' : Nat) (c : UInt8) (ha : at' ≤ w.length) (hl : w.length ≤ 1000000000) : ACalls Γ 53 [.v (.str w), .v (.int .i64 at'), .v (.int .u8 c.toNat)] ⟨.int .i64 ((at' + upN c (w.drop at') : Nat)), []⟩ := by
  refine acalls_of Tryd.func53 rfl rfl (by kernel_rfl) ?_
  have hr : Tryd.f53.results.toList = [.tmp 6] := rfl
  simp only [↓S1, S2, S3, pureOp, fillD, ↓reduceIte, reduceCtorEq, Nat.reduceEqDiff, Nat.reduceAdd, Nat.reduceLeDiff, mdT, mrT]
  refine evW_loop (fun n e => ∃ i : Nat, n = w.length - i ∧ i ≤ w.length ∧ e.tm 0 = .val (.str w) ∧ e.tm 1 = .val (.int .i64 i) ∧ e.tm 2 = .val (.int .u8 c.toNat) ∧ i + upN c (w.drop i) = at' + upN c (w.drop at')) (w.length - at') ?_ ?_
  · exact ⟨at', rfl, ha, rfl, rfl, rfl, rfl⟩
  · rintro J hJ n e ⟨i, rfl, hi, g0, g1, g2, hu⟩
    simp only [↓S1, S2, S3, pureOp, fillD, ↓reduceIte, reduceCtorEq, Nat.reduceEqDiff, Nat.reduceAdd, Nat.reduceLeDiff, mdT, mrT, g0, g1, g2]
    refine Br_dec (fun h => ?_) (fun h => ?_)
    · have hlt : i < w.length := by omega
      obtain ⟨x, hx⟩ : ∃ x, w[i]? = some x := ⟨_, List.getElem?_eq_getElem hlt⟩
      have hw : IntKind.i64.wrap ((i : Int) + 1) = ((i + 1 : Nat) : Int) := succ64 (by omega)
      rw [drop_cons' hx, upN] at hu
      have hxc : ((x.toNat : Int) = (c.toNat : Int)) ↔ x = c := by
        rw [Int.natCast_inj]; exact UInt8.toNat_inj
      simp only [↓S1, S2, S3, pureOp, fillD, ↓reduceIte, reduceCtorEq, Nat.reduceEqDiff, Nat.reduceAdd, Nat.reduceLeDiff, mdT, mrT, g0, g1, g2, h, atI_nat, hx]
      refine Br_dec (fun h2 => ?_) (fun h2 => ?_)
      · rw [if_pos (hxc.1 h2), Nat.add_zero] at hu
        simp only [↓S1, S2, S3, pureOp, fillD, ↓reduceIte, reduceCtorEq, Nat.reduceEqDiff, Nat.reduceAdd, Nat.reduceLeDiff, mdT, mrT, g0, g1, g2, postF, retOk, hr, Env.ress, Env.resOf, Env.outsOk]
        exact wk_int (by rw [hu])
      · rw [if_neg (fun hh => h2 (hxc.2 hh))] at hu
        simp only [↓S1, S2, S3, pureOp, fillD, ↓reduceIte, reduceCtorEq, Nat.reduceEqDiff, Nat.reduceAdd, Nat.reduceLeDiff, mdT, mrT, g0, g1, g2, hw]
        exact ⟨_, by omega, hJ _ _ ⟨i + 1, rfl, by omega, g0, rfl, g2, by omega⟩⟩
    · have hdn : w.drop i = [] := List.drop_eq_nil_of_le (by omega)
      rw [hdn, upN, Nat.add_zero] at hu
      simp only [↓S1, S2, S3, pureOp, fillD, ↓reduceIte, reduceCtorEq, Nat.reduceEqDiff, Nat.reduceAdd, Nat.reduceLeDiff, mdT, mrT, g0, g1, g2, h, postF, retOk, hr, Env.ress, Env.resOf, Env.outsOk]
      exact wk_int (by rw [hu])

def intS : Str := [105, 110, 116]
def boolS : Str := [98, 111, 111, 108]
def bytesS : Str := [98, 121, 116, 101, 115]
def typeN (t : Str) : Option Int := if t = intS then some 1 else if t = boolS then some 2 else if t = bytesS then some 3 else none
/-- a field out of its text -/
def pieceR (p : Str) : Option Fld :=
  if upN 58 p = 0 ∨ upN 58 p = p.length then none
  else if (p.take (upN 58 p)).all part = true then
    (if (p.drop (upN 58 p + 1)).getLast? = some 63 then (typeN (p.drop (upN 58 p + 1)).dropLast).map fun n => ⟨p.take (upN 58 p), n, true⟩
    else (typeN (p.drop (upN 58 p + 1))).map fun n => ⟨p.take (upN 58 p), n, false⟩)
  else none
def fld0 : Fld := ⟨[], 0, false⟩
def pieceD (p : Str) : D := match pieceR p with
  | some f => .tup [fD f, .bool true]
  | none => .tup [fD fld0, .bool false]
end Go.Proofs.YtebkaacflocfcaaDoor.Ab

/- Walks: the text of a schema is read, piece by piece, in the reference. -/
namespace Go.Proofs.YtebkaacflocfcaaDoor.Ab
open Go
set_option maxRecDepth 100000
set_option linter.unusedSimpArgs false
set_option linter.unusedVariables false

theorem getLast_at {t : Str} (h : t ≠ []) : atI t ((t.length : Int) - 1) = t.getLast? := by
  have : ((t.length : Int) - 1) = ((t.length - 1 : Nat) : Int) := by have := List.length_pos_iff.2 h; omega
  rw [this, atI_nat, List.getLast?_eq_getElem?]
theorem piece_ok (p : Str) (hl : p.length ≤ 1000000000) : ACalls Γ 54 [.v (.str p)] ⟨pieceD p, []⟩ := by
  refine acalls_of Tryd.func54 rfl rfl (by kernel_rfl) ?_
  have hr : Tryd.f54.results.toList = [.cell 2 37, .tmp 3] := rfl
  simp only [↓S1, S2, S3, pureOp, fillD, ↓reduceIte, reduceCtorEq, Nat.reduceEqDiff, Nat.reduceAdd, Nat.reduceLeDiff, mdT, mrT]
  have h53 := upTo_ok p 0 58 (Nat.zero_le _) hl
  simp only [List.drop_zero, Nat.zero_add] at h53
  refine callV h53 rfl rfl ?_
  have hul := upN_le 58 p
  have hfail : pieceR p = none → pieceD p = .tup [fD fld0, .bool false] := fun h => by unfold pieceD; rw [h]
  obtain ⟨k, hk⟩ : ∃ k, k = upN 58 p := ⟨_, rfl⟩
  have hpr : pieceR p = if k = 0 ∨ k = p.length then none
    else if (p.take k).all part = true then
    (if (p.drop (k + 1)).getLast? = some 63 then (typeN (p.drop (k + 1)).dropLast).map fun n => ⟨p.take k, n, true⟩
    else (typeN (p.drop (k + 1))).map fun n => ⟨p.take k, n, false⟩)
    else none := by rw [hk]; rfl
  rw [← hk] at hul ⊢
  clear hk h53
  simp only [↓S1, S2, S3, pureOp, fillD, ↓reduceIte, reduceCtorEq, Nat.reduceEqDiff, Nat.reduceAdd, Nat.reduceLeDiff, mdT, mrT]
  refine Br_dec (fun h1 => ?_) (fun h1 => ?_)
  · have : pieceR p = none := by rw [hpr, if_pos (by omega)]
    simp only [↓S1, S2, S3, pureOp, fillD, ↓reduceIte, reduceCtorEq, Nat.reduceEqDiff, Nat.reduceAdd, Nat.reduceLeDiff, mdT, mrT, h1, postF, retOk, hr, Env.ress, Env.resOf, Env.outsOk, hfail this, fD, fld0]
    exact .refl _
  · simp only [↓S1, S2, S3, pureOp, fillD, ↓reduceIte, reduceCtorEq, Nat.reduceEqDiff, Nat.reduceAdd, Nat.reduceLeDiff, mdT, mrT, h1]
    refine Br_dec (fun h2 => ?_) (fun h2 => ?_)
    · have : pieceR p = none := by rw [hpr, if_pos (by omega)]
      simp only [↓S1, S2, S3, pureOp, fillD, ↓reduceIte, reduceCtorEq, Nat.reduceEqDiff, Nat.reduceAdd, Nat.reduceLeDiff, mdT, mrT, h1, h2, postF, retOk, hr, Env.ress, Env.resOf, Env.outsOk, hfail this, fD, fld0]
      exact .refl _
    · rw [if_neg (by omega)] at hpr
      simp only [↓S1, S2, S3, pureOp, fillD, ↓reduceIte, reduceCtorEq, Nat.reduceEqDiff, Nat.reduceAdd, Nat.reduceLeDiff, mdT, mrT, h1, h2]
      refine evW_loop (fun n e => ∃ i : Nat, n = k - i ∧ i ≤ k ∧ e.tm 0 = .val (.str p) ∧ e.tm 2 = .bx 2 0 0 ∧ e.gb 2 = 1 ∧ e.bx 2 0 0 = .val (.str []) ∧ e.bx 2 0 1 = .val (.int .i64 0) ∧ e.bx 2 0 2 = .val (.bool false) ∧ e.gb 7 = 0 ∧
        e.tm 4 = .val (.int .i64 k) ∧ e.tm 5 = .val (.int .i64 i) ∧ (p.take i).all part = true) k ?_ ?_
      · exact ⟨0, by simp, by simp, rfl, rfl, rfl, rfl, rfl, rfl, rfl, rfl, rfl, by simp⟩
      · rintro J hJ n e ⟨i, rfl, hi, g0, g2, hg2, b0, b1, b2, hg7, g4, g5, hall⟩
        simp only [↓S1, S2, S3, pureOp, fillD, ↓reduceIte, reduceCtorEq, Nat.reduceEqDiff, Nat.reduceAdd, Nat.reduceLeDiff, mdT, mrT, g0, g2, g4, g5]
        refine Br_dec (fun h => ?_) (fun h => ?_)
        · have hlt : i < p.length := by omega
          obtain ⟨x, hx⟩ : ∃ x, p[i]? = some x := ⟨_, List.getElem?_eq_getElem hlt⟩
          have hw : IntKind.i64.wrap ((i : Int) + 1) = ((i + 1 : Nat) : Int) := succ64 (by omega)
          simp only [↓S1, S2, S3, pureOp, fillD, ↓reduceIte, reduceCtorEq, Nat.reduceEqDiff, Nat.reduceAdd, Nat.reduceLeDiff, mdT, mrT, g0, g2, g4, g5, h, atI_nat, hx]
          refine callV (part_ok x) rfl rfl ?_
          cases hpx : part x with
          | true =>
            simp only [↓S1, S2, S3, pureOp, fillD, ↓reduceIte, reduceCtorEq, Nat.reduceEqDiff, Nat.reduceAdd, Nat.reduceLeDiff, mdT, mrT, g0, g2, g4, g5, hw]
            refine ⟨_, by omega, hJ _ _ ⟨i + 1, rfl, by omega, g0, g2, hg2, b0, b1, b2, hg7, g4, rfl, ?_⟩⟩
            rw [← take_succ hx, List.all_append, hall]
            simp [hpx]
          | false =>
            have hnall : (p.take k).all part = false := by
              rw [List.all_eq_false]
              refine ⟨x, ?_, by simp [hpx]⟩
              have : (p.take k)[i]? = some x := by rw [List.getElem?_take_of_lt (by omega)]; exact hx
              exact List.mem_of_getElem? this
            have : pieceR p = none := by rw [hpr, hnall]; rfl
            simp only [↓S1, S2, S3, pureOp, fillD, ↓reduceIte, reduceCtorEq, Nat.reduceEqDiff, Nat.reduceAdd, Nat.reduceLeDiff, mdT, mrT, g0, g2, g4, g5, hg2, b0, b1, b2, postF, retOk, hr, Env.ress, Env.resOf, Env.outsOk, hfail this, fD, fld0]
            exact .refl _
        · have hik : i = k := by omega
          subst hik
          rw [hall, if_pos rfl] at hpr
          have hk1 : IntKind.i64.wrap ((i : Int) + 1) = ((i + 1 : Nat) : Int) := succ64 (by omega)
          have hc1 : cutL p (some 0) (some (i : Int)) = some (p.take i) := by
            simp only [cutL]; rw [if_pos (by omega)]; simp
          have hc2 : cutL p (some ((i + 1 : Nat) : Int)) (some (p.length : Int)) = some (p.drop (i + 1)) := by
            simp only [cutL]; rw [if_pos (by omega)]; simp
          obtain ⟨t, ht⟩ : ∃ t, t = p.drop (i + 1) := ⟨_, rfl⟩
          have htl : t.length ≤ p.length := by rw [ht]; simp
          rw [← ht] at hpr hc2
          simp only [↓S1, S2, S3, pureOp, fillD, ↓reduceIte, reduceCtorEq, Nat.reduceEqDiff, Nat.reduceAdd, Nat.reduceLeDiff, mdT, mrT, g0, g2, g4, g5, hg2, hg7, b0, b1, b2, h, boundD, hc1, hk1, hc2]
          have hend : ∀ (o : Bool) (u : Str), pieceR p = (typeN u).map (fun n => (⟨p.take i, n, o⟩ : Fld)) →
              (u = intS ∧ pieceD p = .tup [fD ⟨p.take i, 1, o⟩, .bool true]) ∨ (u ≠ intS ∧ u = boolS ∧ pieceD p = .tup [fD ⟨p.take i, 2, o⟩, .bool true]) ∨ (u ≠ intS ∧ u ≠ boolS ∧ u = bytesS ∧ pieceD p = .tup [fD ⟨p.take i, 3, o⟩, .bool true]) ∨
              (u ≠ intS ∧ u ≠ boolS ∧ u ≠ bytesS ∧ pieceD p = .tup [fD fld0, .bool false]) := by
            intro o u hu
            unfold pieceD
            rw [hu]
            unfold typeN
            by_cases a1 : u = intS
            · left; exact ⟨a1, by rw [if_pos a1]; rfl⟩
            · by_cases a2 : u = boolS
              · right; left; exact ⟨a1, a2, by rw [if_neg a1, if_pos a2]; rfl⟩
              · by_cases a3 : u = bytesS
                · right; right; left; exact ⟨a1, a2, a3, by rw [if_neg a1, if_neg a2, if_pos a3]; rfl⟩
                · right; right; right; exact ⟨a1, a2, a3, by rw [if_neg a1, if_neg a2, if_neg a3]; rfl⟩
          simp only [intS, boolS, bytesS] at hend
          refine Br_dec (fun h3 => ?_) (fun h3 => ?_)
          · rw [h3] at hpr
            rcases hend false [] (by rw [hpr]; simp) with ⟨a1, a5⟩ | ⟨a1, a2, a5⟩ | ⟨a1, a2, a3, a5⟩ | ⟨a1, a2, a3, a5⟩
            all_goals try (exfalso; revert a1; decide)
            all_goals try (exfalso; revert a2; decide)
            all_goals try (exfalso; revert a3; decide)
            simp only [↓S1, S2, S3, pureOp, fillD, ↓reduceIte, reduceCtorEq, Nat.reduceEqDiff, Nat.reduceAdd, Nat.reduceLeDiff, mdT, mrT, h3, a1, a2, a3, a5, g0, g2, g4, g5, hg2, hg7, b0, b1, b2, postF, retOk, hr, Env.ress, Env.resOf, Env.outsOk, fD, fld0, strD, decide_true, decide_false]
            exact .refl _
          · have hla := getLast_at h3
            have htp := List.length_pos_iff.2 h3
            obtain ⟨x, hx⟩ : ∃ x, t.getLast? = some x := by
              rw [List.getLast?_eq_getElem?]; exact ⟨_, List.getElem?_eq_getElem (show t.length - 1 < t.length by omega)⟩
            rw [hx] at hla hpr
            have hs1 : IntKind.i64.wrap ((t.length : Int) - 1) = (t.length : Int) - 1 := w64 (by omega)
            have hc3 : cutL t (some 0) (some ((t.length : Int) - 1)) = some t.dropLast := by
              simp only [cutL]; rw [if_pos (by omega)]
              rw [List.dropLast_eq_take]; simp
            simp only [↓S1, S2, S3, pureOp, fillD, ↓reduceIte, reduceCtorEq, Nat.reduceEqDiff, Nat.reduceAdd, Nat.reduceLeDiff, mdT, mrT, h3, g0, g2, g4, g5, hg2, hg7, b0, b1, b2, hs1, hla]
            refine Br_dec (fun h4 => ?_) (fun h4 => ?_)
            · have hx63 : x = 63 := by
                apply UInt8.toNat_inj.1; have : (63 : UInt8).toNat = 63 := rfl; omega
              rw [hx63, if_pos rfl] at hpr
              simp only [↓S1, S2, S3, pureOp, fillD, ↓reduceIte, reduceCtorEq, Nat.reduceEqDiff, Nat.reduceAdd, Nat.reduceLeDiff, mdT, mrT, h3, h4, g0, g2, g4, g5, hg2, hg7, b0, b1, b2, hs1, boundD, hc3]
              rcases hend true _ hpr with ⟨a1, a5⟩ | ⟨a1, a2, a5⟩ | ⟨a1, a2, a3, a5⟩ | ⟨a1, a2, a3, a5⟩
              · simp only [↓S1, S2, S3, pureOp, fillD, ↓reduceIte, reduceCtorEq, Nat.reduceEqDiff, Nat.reduceAdd, Nat.reduceLeDiff, mdT, mrT, a1, a5, g0, g2, g4, g5, hg2, hg7, b0, b1, b2, postF, retOk, hr, Env.ress, Env.resOf, Env.outsOk, fD, fld0, strD]
                exact .refl _
              · simp only [↓S1, S2, S3, pureOp, fillD, ↓reduceIte, reduceCtorEq, Nat.reduceEqDiff, Nat.reduceAdd, Nat.reduceLeDiff, mdT, mrT, a2, a5, g0, g2, g4, g5, hg2, hg7, b0, b1, b2, postF, retOk, hr, Env.ress, Env.resOf, Env.outsOk, fD, fld0, strD, decide_false, show (([98, 111, 111, 108] : Str) = [105, 110, 116]) = False by simp]
                exact .refl _
              · simp only [↓S1, S2, S3, pureOp, fillD, ↓reduceIte, reduceCtorEq, Nat.reduceEqDiff, Nat.reduceAdd, Nat.reduceLeDiff, mdT, mrT, a3, a5, g0, g2, g4, g5, hg2, hg7, b0, b1, b2, postF, retOk, hr, Env.ress, Env.resOf, Env.outsOk, fD, fld0, strD, decide_false, show (([98, 121, 116, 101, 115] : Str) = [105, 110, 116]) = False by simp, show (([98, 121, 116, 101, 115] : Str) = [98, 111, 111, 108]) = False by simp]
                exact .refl _
              · simp only [↓S1, S2, S3, pureOp, fillD, ↓reduceIte, reduceCtorEq, Nat.reduceEqDiff, Nat.reduceAdd, Nat.reduceLeDiff, mdT, mrT, a1, a2, a3, a5, g0, g2, g4, g5, hg2, hg7, b0, b1, b2, postF, retOk, hr, Env.ress, Env.resOf, Env.outsOk, fD, fld0, strD, decide_false]
                exact .refl _
            · have hx63 : ¬ (some x = some (63 : UInt8)) := by
                intro hh; have : x = 63 := Option.some.inj hh
                rw [this] at h4; exact h4 rfl
              rw [if_neg hx63] at hpr
              simp only [↓S1, S2, S3, pureOp, fillD, ↓reduceIte, reduceCtorEq, Nat.reduceEqDiff, Nat.reduceAdd, Nat.reduceLeDiff, mdT, mrT, h3, h4, g0, g2, g4, g5, hg2, hg7, b0, b1, b2, hs1, boundD]
              rcases hend false _ hpr with ⟨a1, a5⟩ | ⟨a1, a2, a5⟩ | ⟨a1, a2, a3, a5⟩ | ⟨a1, a2, a3, a5⟩
              · simp only [↓S1, S2, S3, pureOp, fillD, ↓reduceIte, reduceCtorEq, Nat.reduceEqDiff, Nat.reduceAdd, Nat.reduceLeDiff, mdT, mrT, a1, a5, g0, g2, g4, g5, hg2, hg7, b0, b1, b2, postF, retOk, hr, Env.ress, Env.resOf, Env.outsOk, fD, fld0, strD]
                exact .refl _
              · simp only [↓S1, S2, S3, pureOp, fillD, ↓reduceIte, reduceCtorEq, Nat.reduceEqDiff, Nat.reduceAdd, Nat.reduceLeDiff, mdT, mrT, a2, a5, g0, g2, g4, g5, hg2, hg7, b0, b1, b2, postF, retOk, hr, Env.ress, Env.resOf, Env.outsOk, fD, fld0, strD, decide_false, show (([98, 111, 111, 108] : Str) = [105, 110, 116]) = False by simp]
                exact .refl _
              · simp only [↓S1, S2, S3, pureOp, fillD, ↓reduceIte, reduceCtorEq, Nat.reduceEqDiff, Nat.reduceAdd, Nat.reduceLeDiff, mdT, mrT, a3, a5, g0, g2, g4, g5, hg2, hg7, b0, b1, b2, postF, retOk, hr, Env.ress, Env.resOf, Env.outsOk, fD, fld0, strD, decide_false, show (([98, 121, 116, 101, 115] : Str) = [105, 110, 116]) = False by simp, show (([98, 121, 116, 101, 115] : Str) = [98, 111, 111, 108]) = False by simp]
                exact .refl _
              · simp only [↓S1, S2, S3, pureOp, fillD, ↓reduceIte, reduceCtorEq, Nat.reduceEqDiff, Nat.reduceAdd, Nat.reduceLeDiff, mdT, mrT, a1, a2, a3, a5, g0, g2, g4, g5, hg2, hg7, b0, b1, b2, postF, retOk, hr, Env.ress, Env.resOf, Env.outsOk, fD, fld0, strD, decide_false]
                exact .refl _
end Go.Proofs.YtebkaacflocfcaaDoor.Ab

/- Walks: ParseSchema in the reference. -/
namespace Go.Proofs.YtebkaacflocfcaaDoor.Ab
open Go
set_option maxRecDepth 100000
set_option linter.unusedSimpArgs false
set_option linter.unusedVariables false

theorem cut_nat {α : Type} (xs : List α) {i j : Nat} (h1 : i ≤ j) (h2 : j ≤ xs.length) : cutL xs (some (i : Int)) (some (j : Int)) = some ((xs.take j).drop i) := by
  simp only [cutL]; rw [if_pos (by omega), Int.toNat_natCast, Int.toNat_natCast]
def parseF (l : Str) : Option (List Fld) := match pieceR (l.take (upN 44 l)) with
  | none => none
  | some f => if h : upN 44 l < l.length then (parseF (l.drop (upN 44 l + 1))).map (f :: ·) else some [f]
termination_by l.length
decreasing_by simp; omega
theorem parseF_eq (l : Str) : parseF l = match pieceR (l.take (upN 44 l)) with
  | none => none
  | some f => if h : upN 44 l < l.length then (parseF (l.drop (upN 44 l + 1))).map (f :: ·) else some [f] := by rw [parseF]
def parseR (l : Str) : List Fld × Int := match parseF l with
  | none => ([], 63)
  | some s => if errS s = 0 then (s, 0) else ([], errS s)
theorem pieceR_name {p : Str} {f : Fld} (h : pieceR p = some f) : f.name.length ≤ p.length := by
  have hn : f.name = p.take (upN 58 p) := by
    unfold pieceR at h
    split at h
    · cases h
    · split at h
      · split at h
        · simp only [Option.map_eq_some_iff] at h; obtain ⟨_, _, rfl⟩ := h; rfl
        · simp only [Option.map_eq_some_iff] at h; obtain ⟨_, _, rfl⟩ := h; rfl
      · cases h
  rw [hn]; simp; omega
theorem parseSchema6_ok (w : Str) (hl : w.length ≤ 100000000) : ACalls Γ 31 [.v (.str w)] ⟨.tup [sD (parseR w).1, .int .i64 (parseR w).2], []⟩ := by
  refine acalls_of Tryd.func31 rfl rfl (by kernel_rfl) ?_
  have hr : Tryd.f31.results.toList = [.cell 2 26, .tmp 3] := rfl
  simp only [↓S1, S2, S3, pureOp, fillD, ↓reduceIte, reduceCtorEq, Nat.reduceEqDiff, Nat.reduceAdd, Nat.reduceLeDiff, mdT, mrT]
  refine evW_loop (fun n e => ∃ (at' g g' : Nat) (acc : List Fld), n = w.length + 1 - at' ∧ at' ≤ w.length + 1 ∧ e.tm 0 = .val (.str w) ∧ e.tm 2 = .bx 2 0 0 ∧ e.gb 2 = 1 ∧ e.bx 2 0 0 = .own 2 1 g' (.sl []) ∧ e.tm 4 = .bx 4 0 0 ∧ e.gb 4 = 1 ∧
    e.bx 4 0 0 = .own 4 1 g (.sl (acc.map fD)) ∧ e.lv 4 1 g = true ∧ e.tm 5 = .val (.int .i64 at') ∧ acc.length ≤ at' ∧ (∀ f ∈ acc, f.name.length ≤ 1000000000) ∧
    ((at' ≤ w.length ∧ parseF w = (parseF (w.drop at')).map (acc ++ ·)) ∨ (at' = w.length + 1 ∧ parseF w = some acc))) (w.length + 1) ?_ ?_
  · refine ⟨0, _, _, [], rfl, by omega, rfl, rfl, rfl, rfl, rfl, rfl, rfl, rfl, rfl, by simp, by simp, .inl ⟨by omega, ?_⟩⟩
    simp only [List.drop_zero]
    cases parseF w <;> rfl
  · rintro J hJ n e ⟨i, g, g', acc, rfl, hi, g0, g2, hg2, b2, g4, hg4, b4, hl4, g5, hal, han, hor⟩
    simp only [↓S1, S2, S3, pureOp, fillD, ↓reduceIte, reduceCtorEq, Nat.reduceEqDiff, Nat.reduceAdd, Nat.reduceLeDiff, mdT, mrT, g0, g2, g4, g5]
    refine Br_dec (fun h => ?_) (fun h => ?_)
    · have hile : i ≤ w.length := by omega
      have hpf : parseF w = (parseF (w.drop i)).map (acc ++ ·) := by
        rcases hor with hh | hh
        · exact hh.2
        · omega
      simp only [↓S1, S2, S3, pureOp, fillD, ↓reduceIte, reduceCtorEq, Nat.reduceEqDiff, Nat.reduceAdd, Nat.reduceLeDiff, mdT, mrT, g0, g2, g4, g5, h]
      refine callV (upTo_ok w i 44 hile (by omega)) rfl rfl ?_
      have hul := upN_le 44 (w.drop i)
      rw [List.length_drop] at hul
      obtain ⟨k, hk⟩ : ∃ k, k = upN 44 (w.drop i) := ⟨_, rfl⟩
      rw [parseF_eq (w.drop i), List.length_drop, ← hk] at hpf
      rw [← hk] at hul ⊢
      have hc1 : cutL w (some (i : Int)) (some ((i + k : Nat) : Int)) = some ((w.drop i).take k) := by
        rw [cut_nat _ (by omega) (by omega), List.take_drop]
      have hpl : ((w.drop i).take k).length ≤ w.length := by simp; omega
      simp only [↓S1, S2, S3, pureOp, fillD, ↓reduceIte, reduceCtorEq, Nat.reduceEqDiff, Nat.reduceAdd, Nat.reduceLeDiff, mdT, mrT, g0, g2, g4, g5, boundD, hc1]
      refine callV (piece_ok _ (by omega)) rfl rfl ?_
      have hw : IntKind.i64.wrap (((i + k : Nat) : Int) + 1) = ((i + k + 1 : Nat) : Int) := succ64 (by omega)
      cases hp : pieceR ((w.drop i).take k) with
      | none =>
        rw [hp] at hpf
        have hd : pieceD ((w.drop i).take k) = .tup [fD fld0, .bool false] := by unfold pieceD; rw [hp]
        have hpr : parseR w = ([], 63) := by unfold parseR; rw [hpf]; rfl
        simp only [↓S1, S2, S3, pureOp, fillD, ↓reduceIte, reduceCtorEq, Nat.reduceEqDiff, Nat.reduceAdd, Nat.reduceLeDiff, mdT, mrT, hd, fD, g0, g2, g4, g5, hg2, b2, postF, retOk, hr, Env.ress, Env.resOf, Env.outsOk, hpr, sD]
        exact .refl _
      | some f =>
        rw [hp] at hpf
        have hd : pieceD ((w.drop i).take k) = .tup [fD f, .bool true] := by unfold pieceD; rw [hp]
        have hfn := pieceR_name hp
        have hrow : rowB 3 (acc.map fD) = true := row_f acc
        simp only [↓S1, S2, S3, pureOp, fillD, ↓reduceIte, reduceCtorEq, Nat.reduceEqDiff, Nat.reduceAdd, Nat.reduceLeDiff, mdT, mrT, hd, fD, g0, g2, g4, g5, hg2, hg4, b2, b4, hl4, hw, hrow]
        refine ⟨rfl, by omega, rfl, by simp only [List.length_map, roomy]; omega, _, ?_, hJ _ _ ⟨i + k + 1, e.gc 4 1, g', acc ++ [f], rfl, by omega, g0, g2, hg2, ?_, g4, hg4, ?_, ?_, rfl, by simp; omega, ?_, ?_⟩⟩
        · omega
        · simp only [↓S1, S2, S3, pureOp, fillD, ↓reduceIte, reduceCtorEq, Nat.reduceEqDiff, Nat.reduceAdd, Nat.reduceLeDiff, mdT, mrT, b2]
        · simp only [↓S1, S2, S3, pureOp, fillD, ↓reduceIte, reduceCtorEq, Nat.reduceEqDiff, Nat.reduceAdd, Nat.reduceLeDiff, mdT, mrT]
          rw [List.map_append]; rfl
        · simp only [↓S1, S2, S3, pureOp, fillD, ↓reduceIte, reduceCtorEq, Nat.reduceEqDiff, Nat.reduceAdd, Nat.reduceLeDiff, mdT, mrT]
        · intro x hx
          rcases List.mem_append.1 hx with hx | hx
          · exact han x hx
          · rw [List.mem_singleton.1 hx]; omega
        · by_cases hlt : k < w.length - i
          · left
            simp only [hlt, dif_pos, List.drop_drop] at hpf
            refine ⟨by omega, ?_⟩
            rw [hpf, Nat.add_assoc]
            cases parseF (w.drop (i + (k + 1))) with
            | none => rfl
            | some r => simp
          · right
            simp only [hlt, dif_neg, not_false_eq_true] at hpf
            exact ⟨by omega, by rw [hpf]; simp⟩
    · have hpf : parseF w = some acc := by
        rcases hor with hh | hh
        · omega
        · exact hh.2
      simp only [↓S1, S2, S3, pureOp, fillD, ↓reduceIte, reduceCtorEq, Nat.reduceEqDiff, Nat.reduceAdd, Nat.reduceLeDiff, mdT, mrT, g0, g2, g4, g5, h, hg4, b4]
      have hc := checkSchema6_ok acc (by omega) han
      simp only [sD] at hc
      refine callV hc rfl rfl ?_
      simp only [↓S1, S2, S3, pureOp, fillD, ↓reduceIte, reduceCtorEq, Nat.reduceEqDiff, Nat.reduceAdd, Nat.reduceLeDiff, mdT, mrT]
      refine Br_dec (fun h1 => ?_) (fun h1 => ?_)
      · have hpr : parseR w = (acc, 0) := by unfold parseR; rw [hpf]; simp [h1]
        simp only [↓S1, S2, S3, pureOp, fillD, ↓reduceIte, reduceCtorEq, Nat.reduceEqDiff, Nat.reduceAdd, Nat.reduceLeDiff, mdT, mrT, h1, g2, g4, hg4, hg2, b2, b4, postF, retOk, hr, Env.ress, Env.resOf, Env.outsOk, hpr, sD]
        exact .refl _
      · have hpr : parseR w = ([], errS acc) := by unfold parseR; rw [hpf]; simp [h1]
        simp only [↓S1, S2, S3, pureOp, fillD, ↓reduceIte, reduceCtorEq, Nat.reduceEqDiff, Nat.reduceAdd, Nat.reduceLeDiff, mdT, mrT, h1, g2, g4, hg4, hg2, b2, b4, postF, retOk, hr, Env.ress, Env.resOf, Env.outsOk, hpr, sD]
        exact .refl _
end Go.Proofs.YtebkaacflocfcaaDoor.Ab

/- Walks: Seal in the reference. -/
namespace Go.Proofs.YtebkaacflocfcaaDoor.Ab
open Go
set_option maxRecDepth 100000
set_option linter.unusedSimpArgs false
set_option linter.unusedVariables false

def hdrB (f : Frm) (n : Nat) : Str := [f.kind] ++ low f.body.length 2 ++ low f.gen 8 ++ f.body ++ List.replicate (n - 15 - f.body.length) 0
def sealB (f : Frm) (n : Nat) : Str := hdrB f n ++ low (extN 0 (hdrB f n)) 4
def sealR (f : Frm) (n : Int) : Str × Int := if 15 ≤ n ∧ n ≤ 8192 then (if (f.body.length : Int) ≤ n - 15 then (sealB f n.toNat, 0) else ([], 21)) else ([], 1)
theorem hdrB_len {f : Frm} {n : Nat} (h1 : 15 ≤ n) (h : f.body.length ≤ n - 15) : (hdrB f n).length = n - 4 := by
  simp only [hdrB, List.length_append, low_len, List.length_replicate, List.length_cons, List.length_nil]; omega
theorem sealB_len {f : Frm} {n : Nat} (h1 : 15 ≤ n) (h : f.body.length ≤ n - 15) : (sealB f n).length = n := by
  simp only [sealB, List.length_append, low_len, hdrB_len h1 h]; omega
theorem seal2_ok (f : Frm) (n : Int) (hg : f.gen < 18446744073709551616) (hb : f.body.length ≤ 1000000000) : ACalls Γ 37 [.v (frD f), .v (.int .i64 n)] ⟨.tup [bD (sealR f n).1, .int .i64 (sealR f n).2], []⟩ := by
  refine acalls_of Tryd.func37 rfl rfl (by kernel_rfl) ?_
  have hr : Tryd.f37.results.toList = [.tmp 4, .tmp 5] := rfl
  simp only [↓S1, S2, S3, pureOp, fillD, ↓reduceIte, reduceCtorEq, Nat.reduceEqDiff, Nat.reduceAdd, Nat.reduceLeDiff, mdT, mrT, frD, bD]
  refine callV (isSize2_ok n) rfl rfl ?_
  simp only [↓S1, S2, S3, pureOp, fillD, ↓reduceIte, reduceCtorEq, Nat.reduceEqDiff, Nat.reduceAdd, Nat.reduceLeDiff, mdT, mrT]
  refine Br_dec (fun h1 => ?_) (fun h1 => ?_)
  · simp only [↓S1, S2, S3, pureOp, fillD, ↓reduceIte, reduceCtorEq, Nat.reduceEqDiff, Nat.reduceAdd, Nat.reduceLeDiff, mdT, mrT, h1, len_ofBytes]
    refine callV (room2_ok n) rfl rfl ?_
    have hro : room n = n - 15 := by unfold room; rw [if_pos h1]
    simp only [↓S1, S2, S3, pureOp, fillD, ↓reduceIte, reduceCtorEq, Nat.reduceEqDiff, Nat.reduceAdd, Nat.reduceLeDiff, mdT, mrT, hro]
    refine Br_dec (fun h2 => ?_) (fun h2 => ?_)
    · have hd : sealR f n = ([], 21) := by unfold sealR; rw [if_pos h1, if_neg (by omega)]
      simp only [↓S1, S2, S3, pureOp, fillD, ↓reduceIte, reduceCtorEq, Nat.reduceEqDiff, Nat.reduceAdd, Nat.reduceLeDiff, mdT, mrT, h2, postF, retOk, hr, Env.ress, Env.resOf, Env.outsOk, hd]
      exact .refl _
    · have hd : sealR f n = (sealB f n.toNat, 0) := by unfold sealR; rw [if_pos h1, if_pos (by omega)]
      obtain ⟨m, hm⟩ : ∃ m : Nat, n = m := ⟨n.toNat, by omega⟩
      subst hm
      have q1 : IntKind.u64.wrap (f.body.length : Int) = (f.body.length : Int) := wu64 (by omega)
      simp only [↓S1, S2, S3, pureOp, fillD, ↓reduceIte, reduceCtorEq, Nat.reduceEqDiff, Nat.reduceAdd, Nat.reduceLeDiff, mdT, mrT, h2, len_ofBytes, convD, q1]
      refine callV (low_ok f.body.length 2 (by omega) (by omega)) rfl rfl ?_
      simp only [↓S1, S2, S3, pureOp, fillD, ↓reduceIte, reduceCtorEq, Nat.reduceEqDiff, Nat.reduceAdd, Nat.reduceLeDiff, mdT, mrT, bD, one_ofBytes, row_ofBytes, len_ofBytes, low_len, add_ofBytes]
      refine ⟨by simp only [roomy, List.length_cons, List.length_nil]; omega, callV (low_ok f.gen 8 hg (by omega)) rfl rfl ?_⟩
      simp only [↓S1, S2, S3, pureOp, fillD, ↓reduceIte, reduceCtorEq, Nat.reduceEqDiff, Nat.reduceAdd, Nat.reduceLeDiff, mdT, mrT, bD, row_ofBytes, len_ofBytes, low_len, add_ofBytes, List.length_append]
      refine ⟨by simp only [roomy]; omega, by simp only [roomy]; omega, ?_⟩
      refine evW_loop (fun k e => ∃ (i g : Nat), k = m - 15 - f.body.length - i ∧ i ≤ m - 15 - f.body.length ∧ e.tm 1 = .val (.int .i64 m) ∧ e.tm 6 = .own 6 0 g (bD ([f.kind] ++ low f.body.length 2 ++ low f.gen 8 ++ f.body ++ List.replicate i 0)) ∧ e.lv 6 0 g = true) (m - 15 - f.body.length) ?_ ?_
      · refine ⟨0, 4, by simp, by simp, rfl, ?_, ?_⟩
        · simp only [↓S1, S2, S3, pureOp, fillD, ↓reduceIte, reduceCtorEq, Nat.reduceEqDiff, Nat.reduceAdd, Nat.reduceLeDiff, mdT, mrT]
          simp only [List.replicate_zero, List.append_nil]; rfl
        · simp only [↓S1, S2, S3, pureOp, fillD, ↓reduceIte, reduceCtorEq, Nat.reduceEqDiff, Nat.reduceAdd, Nat.reduceLeDiff, mdT, mrT]
      · rintro J hJ k e ⟨i, g, rfl, hi, g1, g6, hl⟩
        have hs : IntKind.i64.wrap ((m : Int) - 4) = (m : Int) - 4 := w64 (by omega)
        have hL : ([f.kind] ++ low f.body.length 2 ++ low f.gen 8 ++ f.body ++ List.replicate i 0).length = 11 + f.body.length + i := by
          simp only [List.length_append, low_len, List.length_replicate, List.length_cons, List.length_nil]
        obtain ⟨L, hLL⟩ : ∃ L, L = [f.kind] ++ low f.body.length 2 ++ low f.gen 8 ++ f.body ++ List.replicate i 0 := ⟨_, rfl⟩
        rw [← hLL] at g6 hL
        simp only [↓S1, S2, S3, pureOp, fillD, ↓reduceIte, reduceCtorEq, Nat.reduceEqDiff, Nat.reduceAdd, Nat.reduceLeDiff, mdT, mrT, g1, g6, hl, bD, len_ofBytes, hs, hL]
        refine Br_dec (fun h => ?_) (fun h => ?_)
        · have hone : [D.int IntKind.u8 0] = ofBytes [0] := rfl
          simp only [↓S1, S2, S3, pureOp, fillD, ↓reduceIte, reduceCtorEq, Nat.reduceEqDiff, Nat.reduceAdd, Nat.reduceLeDiff, mdT, mrT, g1, g6, hl, bD, row_ofBytes, len_ofBytes, hL]
          refine ⟨by simp only [roomy]; omega, _, ?_, hJ _ _ ⟨i + 1, e.gc 6 0, rfl, by omega, g1, ?_, ?_⟩⟩
          · omega
          · simp only [↓S1, S2, S3, pureOp, fillD, ↓reduceIte, reduceCtorEq, Nat.reduceEqDiff, Nat.reduceAdd, Nat.reduceLeDiff, mdT, mrT]
            rw [hone, add_ofBytes, hLL, List.append_assoc _ (List.replicate i 0), List.replicate_succ']; rfl
          · simp only [↓S1, S2, S3, pureOp, fillD, ↓reduceIte, reduceCtorEq, Nat.reduceEqDiff, Nat.reduceAdd, Nat.reduceLeDiff, mdT, mrT]
        · have hLh : L = hdrB f m := by
            rw [hLL]; unfold hdrB; congr 2; omega
          have hsm := sum2_ok (hdrB f m) (by rw [← hLh]; omega)
          have hel := extN_lt 0 (hdrB f m)
          simp only [↓S1, S2, S3, pureOp, fillD, ↓reduceIte, reduceCtorEq, Nat.reduceEqDiff, Nat.reduceAdd, Nat.reduceLeDiff, mdT, mrT, g1, g6, hl, bD, h]
          rw [hLh]
          refine callV hsm rfl rfl ?_
          have q2 : IntKind.u64.wrap (extN 0 (hdrB f m) : Int) = (extN 0 (hdrB f m) : Int) := wu64 (by omega)
          simp only [↓S1, S2, S3, pureOp, fillD, ↓reduceIte, reduceCtorEq, Nat.reduceEqDiff, Nat.reduceAdd, Nat.reduceLeDiff, mdT, mrT, u32, convD, q2]
          refine callV (low_ok (extN 0 (hdrB f m)) 4 (by omega) (by omega)) rfl rfl ?_
          simp only [↓S1, S2, S3, pureOp, fillD, ↓reduceIte, reduceCtorEq, Nat.reduceEqDiff, Nat.reduceAdd, Nat.reduceLeDiff, mdT, mrT, g1, g6, hl, bD, row_ofBytes, len_ofBytes, low_len, add_ofBytes, hL, postF, retOk, hr, Env.ress, Env.resOf, Env.outsOk, hd]
          refine ⟨by simp only [roomy]; omega, ?_⟩
          simp only [Int.toNat_natCast, sealB, hLh]
          exact .refl _
  · have hd : sealR f n = ([], 1) := by unfold sealR; rw [if_neg h1]
    simp only [↓S1, S2, S3, pureOp, fillD, ↓reduceIte, reduceCtorEq, Nat.reduceEqDiff, Nat.reduceAdd, Nat.reduceLeDiff, mdT, mrT, h1, postF, retOk, hr, Env.ress, Env.resOf, Env.outsOk, hd]
    exact .refl _
end Go.Proofs.YtebkaacflocfcaaDoor.Ab

/- Walks: Open in the reference. -/
namespace Go.Proofs.YtebkaacflocfcaaDoor.Ab
open Go
set_option maxRecDepth 100000
set_option linter.unusedSimpArgs false
set_option linter.unusedVariables false

def fr0 : Frm := ⟨0, 0, []⟩
/-- the frame that the bytes could be -/
def asFrm (b : Str) : Frm := ⟨b.headD 0, num ((b.drop 3).take 8), (b.drop 11).take (num ((b.drop 1).take 2))⟩
def openR (b : Str) : Frm × Int :=
  if (15 ≤ b.length ∧ b.length ≤ 8192) ∧ num ((b.drop 1).take 2) ≤ b.length - 15 ∧ sealB (asFrm b) b.length = b then (asFrm b, 0) else (fr0, 20)
theorem num_lt8 {l : Str} {k : Nat} (h : k ≤ 8) : num (l.take k) < 18446744073709551616 := by
  have h1 := num_lt (l.take k)
  have h2 : (l.take k).length ≤ 8 := by simp; omega
  have h3 : (256 : Nat) ^ (l.take k).length ≤ 256 ^ 8 := Nat.pow_le_pow_right (by omega) h2
  have h4 : (256 : Nat) ^ 8 = 18446744073709551616 := by decide
  omega
theorem num_lt2 {l : Str} : num (l.take 2) < 65536 := by
  have h1 := num_lt (l.take 2)
  have h2 : (l.take 2).length ≤ 2 := by simp; omega
  have h3 : (256 : Nat) ^ (l.take 2).length ≤ 256 ^ 2 := Nat.pow_le_pow_right (by omega) h2
  have h4 : (256 : Nat) ^ 2 = 65536 := by decide
  omega
theorem take_eq_succ {a b : Str} {i : Nat} {x y : UInt8} (ha : a[i]? = some x) (hb : b[i]? = some y) (h : a.take i = b.take i) (hxy : x = y) : a.take (i + 1) = b.take (i + 1) := by
  rw [← take_succ ha, ← take_succ hb, h, hxy]
theorem open2_ok (b : Str) (hb : b.length ≤ 1000000000) : ACalls Γ 30 [.v (bD b)] ⟨.tup [frD (openR b).1, .int .i64 (openR b).2], []⟩ := by
  refine acalls_of Tryd.func30 rfl rfl (by kernel_rfl) ?_
  have hr : Tryd.f30.results.toList = [.cell 2 76, .tmp 3] := rfl
  simp only [↓S1, S2, S3, pureOp, fillD, ↓reduceIte, reduceCtorEq, Nat.reduceEqDiff, Nat.reduceAdd, Nat.reduceLeDiff, mdT, mrT, bD, len_ofBytes]
  refine callV (isSize2_ok b.length) rfl rfl ?_
  simp only [↓S1, S2, S3, pureOp, fillD, ↓reduceIte, reduceCtorEq, Nat.reduceEqDiff, Nat.reduceAdd, Nat.reduceLeDiff, mdT, mrT]
  refine Br_dec (fun h1 => ?_) (fun h1 => ?_)
  · obtain ⟨n, hn⟩ : ∃ n, n = num ((b.drop 1).take 2) := ⟨_, rfl⟩
    have h2ok := number2_ok b 1 2 (by omega) (by omega) hb
    rw [← hn] at h2ok
    have hnl : n < 65536 := by rw [hn]; exact num_lt2
    simp only [↓S1, S2, S3, pureOp, fillD, ↓reduceIte, reduceCtorEq, Nat.reduceEqDiff, Nat.reduceAdd, Nat.reduceLeDiff, mdT, mrT, h1]
    refine callV h2ok rfl rfl ?_
    have q1 : IntKind.i64.wrap (n : Int) = (n : Int) := w64 (by omega)
    simp only [↓S1, S2, S3, pureOp, fillD, ↓reduceIte, reduceCtorEq, Nat.reduceEqDiff, Nat.reduceAdd, Nat.reduceLeDiff, mdT, mrT, u64, convD, q1, len_ofBytes]
    refine callV (room2_ok b.length) rfl rfl ?_
    have hro : room (b.length : Int) = (b.length : Int) - 15 := by unfold room; rw [if_pos h1]
    simp only [↓S1, S2, S3, pureOp, fillD, ↓reduceIte, reduceCtorEq, Nat.reduceEqDiff, Nat.reduceAdd, Nat.reduceLeDiff, mdT, mrT, hro]
    refine Br_dec (fun h2 => ?_) (fun h2 => ?_)
    · have hd : openR b = (fr0, 20) := by unfold openR; rw [if_neg (by omega)]
      simp only [↓S1, S2, S3, pureOp, fillD, ↓reduceIte, reduceCtorEq, Nat.reduceEqDiff, Nat.reduceAdd, Nat.reduceLeDiff, mdT, mrT, h2, postF, retOk, hr, Env.ress, Env.resOf, Env.outsOk, hd, fr0, frD]
      exact .refl _
    · have hat : ∃ c, b[0]? = some c ∧ b.headD 0 = c := by
        cases b with
        | nil => simp at h1
        | cons x y => exact ⟨x, rfl, rfl⟩
      obtain ⟨c, hc, hhd⟩ := hat
      have hat0 : atI (ofBytes b) 0 = some (D.int .u8 c.toNat) := by
        have := atI_nat (ofBytes b) 0
        rw [get_ofBytes, hc] at this
        exact this
      simp only [↓S1, S2, S3, pureOp, fillD, ↓reduceIte, reduceCtorEq, Nat.reduceEqDiff, Nat.reduceAdd, Nat.reduceLeDiff, mdT, mrT, h2, hat0]
      refine callV (number2_ok b 3 8 (by omega) (by omega) hb) rfl rfl ?_
      obtain ⟨m, hm⟩ : ∃ m, m = num ((b.drop 3).take 8) := ⟨_, rfl⟩
      have hml : m < 18446744073709551616 := by rw [hm]; exact num_lt8 (by omega)
      rw [← hm]
      simp only [↓S1, S2, S3, pureOp, fillD, ↓reduceIte, reduceCtorEq, Nat.reduceEqDiff, Nat.reduceAdd, Nat.reduceLeDiff, mdT, mrT, u64]
      refine evW_loop (fun k e => ∃ (i g g' : Nat), k = n - i ∧ i ≤ n ∧ e.tm 0 = .val (bD b) ∧ e.tm 2 = .bx 2 0 0 ∧ e.gb 2 = 1 ∧ e.bx 2 0 0 = .val (.int .u8 0) ∧ e.bx 2 0 1 = .val (.int .u64 0) ∧ e.bx 2 0 2 = .own 2 3 g' (.sl []) ∧
        e.tm 5 = .bx 5 0 0 ∧ e.gb 5 = 1 ∧ e.bx 5 0 0 = .val (.int .u8 c.toNat) ∧ e.bx 5 0 1 = .val (.int .u64 m) ∧ e.bx 5 0 2 = .own 5 3 g (bD ((b.drop 11).take i)) ∧ e.lv 5 3 g = true ∧ e.tm 4 = .val (.int .i64 n) ∧ e.tm 6 = .val (.int .i64 i)) n ?_ ?_
      · exact ⟨0, _, _, by simp, by simp, rfl, rfl, rfl, rfl, rfl, rfl, rfl, rfl, rfl, rfl, rfl, rfl, rfl, rfl⟩
      · rintro J hJ k e ⟨i, g, g', rfl, hi, g0, g2, hg2, b20, b21, b22, g5, hg5, b50, b51, b52, hl, g4, g6⟩
        simp only [↓S1, S2, S3, pureOp, fillD, ↓reduceIte, reduceCtorEq, Nat.reduceEqDiff, Nat.reduceAdd, Nat.reduceLeDiff, mdT, mrT, g0, g2, g4, g5, g6]
        refine Br_dec (fun h => ?_) (fun h => ?_)
        · have hlt : 11 + i < b.length := by omega
          obtain ⟨x, hx⟩ : ∃ x, b[11 + i]? = some x := ⟨_, List.getElem?_eq_getElem hlt⟩
          have hx' : (b.drop 11)[i]? = some x := by rw [List.getElem?_drop]; exact hx
          have hw : IntKind.i64.wrap ((i : Int) + 1) = ((i + 1 : Nat) : Int) := succ64 (by omega)
          have hw2 : IntKind.i64.wrap (11 + (i : Int)) = ((11 + i : Nat) : Int) := by rw [w64 (by omega)]; simp
          have hll : ((b.drop 11).take i).length = i := by simp; omega
          simp only [↓S1, S2, S3, pureOp, fillD, ↓reduceIte, reduceCtorEq, Nat.reduceEqDiff, Nat.reduceAdd, Nat.reduceLeDiff, mdT, mrT, g0, g2, g4, g5, g6, hg5, b52, hl, hw2, atI_nat, get_ofBytes, hx, bD, row_ofBytes, len_ofBytes, hw, hll]
          refine ⟨by simp only [roomy]; omega, _, ?_, hJ _ _ ⟨i + 1, e.gc 5 3, g', rfl, by omega, g0, g2, hg2, ?_, ?_, ?_, g5, hg5, ?_, ?_, ?_, ?_, g4, rfl⟩⟩
          · omega
          · simp only [↓S1, S2, S3, pureOp, fillD, ↓reduceIte, reduceCtorEq, Nat.reduceEqDiff, Nat.reduceAdd, Nat.reduceLeDiff, mdT, mrT, b20]
          · simp only [↓S1, S2, S3, pureOp, fillD, ↓reduceIte, reduceCtorEq, Nat.reduceEqDiff, Nat.reduceAdd, Nat.reduceLeDiff, mdT, mrT, b21]
          · simp only [↓S1, S2, S3, pureOp, fillD, ↓reduceIte, reduceCtorEq, Nat.reduceEqDiff, Nat.reduceAdd, Nat.reduceLeDiff, mdT, mrT, b22]
          · simp only [↓S1, S2, S3, pureOp, fillD, ↓reduceIte, reduceCtorEq, Nat.reduceEqDiff, Nat.reduceAdd, Nat.reduceLeDiff, mdT, mrT, b50]
          · simp only [↓S1, S2, S3, pureOp, fillD, ↓reduceIte, reduceCtorEq, Nat.reduceEqDiff, Nat.reduceAdd, Nat.reduceLeDiff, mdT, mrT, b51]
          · simp only [↓S1, S2, S3, pureOp, fillD, ↓reduceIte, reduceCtorEq, Nat.reduceEqDiff, Nat.reduceAdd, Nat.reduceLeDiff, mdT, mrT]
            rw [one_ofBytes, add_ofBytes, take_succ hx']; rfl
          · simp only [↓S1, S2, S3, pureOp, fillD, ↓reduceIte, reduceCtorEq, Nat.reduceEqDiff, Nat.reduceAdd, Nat.reduceLeDiff, mdT, mrT]
        · have hin : i = n := by omega
          subst hin
          have haf : asFrm b = ⟨c, m, (b.drop 11).take i⟩ := by unfold asFrm; rw [hhd, ← hm, ← hn]
          have hbl : ((b.drop 11).take i).length = i := by simp; omega
          have hsr : sealR ⟨c, m, (b.drop 11).take i⟩ b.length = (sealB ⟨c, m, (b.drop 11).take i⟩ b.length, 0) := by
            unfold sealR; rw [if_pos h1, if_pos (by simp only [hbl]; omega), Int.toNat_natCast]
          have hsl : (sealB ⟨c, m, (b.drop 11).take i⟩ b.length).length = b.length := sealB_len (by omega) (by simp only [hbl]; omega)
          have hs2 := seal2_ok ⟨c, m, (b.drop 11).take i⟩ b.length hml (by simp only [hbl]; omega)
          rw [hsr] at hs2
          simp only [frD] at hs2
          simp only [↓S1, S2, S3, pureOp, fillD, ↓reduceIte, reduceCtorEq, Nat.reduceEqDiff, Nat.reduceAdd, Nat.reduceLeDiff, mdT, mrT, g0, g2, g4, g5, g6, h, hg5, b50, b51, b52, len_ofBytes, bD]
          rw [bD] at hs2
          refine callV hs2 rfl rfl ?_
          have hor : openR b = if sealB ⟨c, m, (b.drop 11).take i⟩ b.length = b then (⟨c, m, (b.drop 11).take i⟩, 0) else (fr0, 20) := by
            unfold openR
            rw [haf, ← hn]
            by_cases hh : sealB ⟨c, m, (b.drop 11).take i⟩ b.length = b
            · rw [if_pos hh, if_pos ⟨by omega, by omega, hh⟩]
            · rw [if_neg hh, if_neg (fun q => hh q.2.2)]
          obtain ⟨w, hw⟩ : ∃ w, w = sealB ⟨c, m, (b.drop 11).take i⟩ b.length := ⟨_, rfl⟩
          rw [← hw] at hor hsl ⊢
          simp only [↓S1, S2, S3, pureOp, fillD, ↓reduceIte, reduceCtorEq, Nat.reduceEqDiff, Nat.reduceAdd, Nat.reduceLeDiff, mdT, mrT, bD]
          refine evW_loop (fun k e => ∃ (j g' g : Nat), k = b.length - j ∧ j ≤ b.length ∧ e.tm 0 = .val (bD b) ∧ e.tm 2 = .bx 2 0 0 ∧ e.gb 2 = 1 ∧ e.bx 2 0 0 = .val (.int .u8 0) ∧ e.bx 2 0 1 = .val (.int .u64 0) ∧ e.bx 2 0 2 = .own 2 3 g' (.sl []) ∧
            e.tm 5 = .bx 5 0 0 ∧ e.gb 5 = 1 ∧ e.bx 5 0 0 = .val (.int .u8 c.toNat) ∧ e.bx 5 0 1 = .val (.int .u64 m) ∧ e.bx 5 0 2 = .own 5 3 g (bD ((b.drop 11).take i)) ∧ e.tm 7 = .val (bD w) ∧ e.tm 9 = .val (.int .i64 j) ∧ w.take j = b.take j) b.length ?_ ?_
          · refine ⟨0, g', g, by simp, by simp, g0, g2, hg2, b20, b21, b22, g5, hg5, b50, b51, ?_, rfl, rfl, by simp⟩
            rw [bD]; exact b52
          · clear g0 g2 hg2 b20 b21 b22 g5 hg5 b50 b51 b52 hl g4 g6 h hJ
            rintro J hJ k e ⟨j, g', g, rfl, hj, g0, g2, hg2, b20, b21, b22, g5, hg5, b50, b51, b52, g7, g9, htk⟩
            simp only [↓S1, S2, S3, pureOp, fillD, ↓reduceIte, reduceCtorEq, Nat.reduceEqDiff, Nat.reduceAdd, Nat.reduceLeDiff, mdT, mrT, g0, g2, g5, g7, g9, bD, len_ofBytes]
            refine Br_dec (fun h => ?_) (fun h => ?_)
            · have hlt : j < b.length := by omega
              obtain ⟨x, hx⟩ : ∃ x, b[j]? = some x := ⟨_, List.getElem?_eq_getElem hlt⟩
              obtain ⟨y, hy⟩ : ∃ y, w[j]? = some y := ⟨_, List.getElem?_eq_getElem (show j < w.length by omega)⟩
              have hw1 : IntKind.i64.wrap ((j : Int) + 1) = ((j + 1 : Nat) : Int) := succ64 (by omega)
              have hxy : ((y.toNat : Int) = (x.toNat : Int)) ↔ y = x := by
                rw [Int.natCast_inj]; exact UInt8.toNat_inj
              simp only [↓S1, S2, S3, pureOp, fillD, ↓reduceIte, reduceCtorEq, Nat.reduceEqDiff, Nat.reduceAdd, Nat.reduceLeDiff, mdT, mrT, g0, g2, g5, g7, g9, bD, h, atI_nat, get_ofBytes, hx, hy]
              refine Br_dec (fun h3 => ?_) (fun h3 => ?_)
              · simp only [↓S1, S2, S3, pureOp, fillD, ↓reduceIte, reduceCtorEq, Nat.reduceEqDiff, Nat.reduceAdd, Nat.reduceLeDiff, mdT, mrT, g0, g2, g5, g7, g9, hw1]
                exact ⟨_, by omega, hJ _ _ ⟨j + 1, g', g, rfl, by omega, g0, g2, hg2, b20, b21, b22, g5, hg5, b50, b51, b52, g7, rfl, take_eq_succ hy hx htk (hxy.1 h3)⟩⟩
              · have hne : w ≠ b := by
                  intro hh; rw [hh, hx] at hy; exact h3 (hxy.2 (Option.some.inj hy).symm)
                rw [if_neg hne] at hor
                simp only [↓S1, S2, S3, pureOp, fillD, ↓reduceIte, reduceCtorEq, Nat.reduceEqDiff, Nat.reduceAdd, Nat.reduceLeDiff, mdT, mrT, g0, g2, g5, g7, g9, hg2, b20, b21, b22, hg5, b50, b51, b52, postF, retOk, hr, Env.ress, Env.resOf, Env.outsOk, hor, fr0, frD, bD]
                exact .refl _
            · have he : w = b := by
                rw [List.take_of_length_le (by omega), List.take_of_length_le (by omega)] at htk
                exact htk
              rw [if_pos he] at hor
              simp only [↓S1, S2, S3, pureOp, fillD, ↓reduceIte, reduceCtorEq, Nat.reduceEqDiff, Nat.reduceAdd, Nat.reduceLeDiff, mdT, mrT, g0, g2, g5, g7, g9, h, hg2, b20, b21, b22, hg5, b50, b51, b52, postF, retOk, hr, Env.ress, Env.resOf, Env.outsOk, hor, fr0, frD, bD]
              first
                | exact .refl _
                | refine ⟨by omega, .refl _⟩
  · have hd : openR b = (fr0, 20) := by unfold openR; rw [if_neg (by omega)]
    simp only [↓S1, S2, S3, pureOp, fillD, ↓reduceIte, reduceCtorEq, Nat.reduceEqDiff, Nat.reduceAdd, Nat.reduceLeDiff, mdT, mrT, h1, postF, retOk, hr, Env.ress, Env.resOf, Env.outsOk, hd, fr0, frD]
    exact .refl _
end Go.Proofs.YtebkaacflocfcaaDoor.Ab

/- Walks: the entries of a body in the reference. -/
namespace Go.Proofs.YtebkaacflocfcaaDoor.Ab
open Go
set_option maxRecDepth 100000
set_option linter.unusedSimpArgs false
set_option linter.unusedVariables false

/-- bytes with their number ahead, and what is behind them -/
def pt : Str → Option (Str × Str)
  | [] => none
  | c :: r => if r.length < c.toNat then none else some (r.take c.toNat, r.drop c.toNat)
theorem pt_spec {l k r : Str} (h : pt l = some (k, r)) : l = UInt8.ofNat k.length :: (k ++ r) ∧ k.length ≤ 255 := by
  cases l with
  | nil => simp [pt] at h
  | cons c l =>
    have := c.toNat_lt
    simp only [pt] at h
    split at h
    · cases h
    · cases h
      have hl : (l.take c.toNat).length = c.toNat := by simp; omega
      rw [hl]
      simp; omega
def partRes (b : Str) (at' : Nat) : Str × Int := match pt (b.drop at') with
  | some (k, l) => (k, ((b.length - l.length : Nat) : Int))
  | none => ([], -1)
theorem partRes_some {b : Str} {at' : Nat} {k l : Str} (h : pt (b.drop at') = some (k, l)) : partRes b at' = (k, ((b.length - l.length : Nat) : Int)) ∧ b.drop (b.length - l.length) = l ∧ at' + 1 + k.length + l.length = b.length := by
  obtain ⟨h1, h2⟩ := pt_spec h
  have hlen := congrArg List.length h1
  simp only [List.length_drop, List.length_cons, List.length_append] at hlen
  refine ⟨by unfold partRes; rw [h], ?_, by omega⟩
  have hs : l <:+ b := (List.IsSuffix.trans ⟨UInt8.ofNat k.length :: k, by rw [h1]; simp⟩ (List.drop_suffix at' b))
  exact (List.suffix_iff_eq_drop.1 hs).symm
theorem partRes_none {b : Str} {at' : Nat} (h : pt (b.drop at') = none) : partRes b at' = ([], -1) := by unfold partRes; rw [h]
theorem part22_ok (b : Str) (at' : Nat) (hb : b.length ≤ 1000000000) (ha : at' ≤ 1000000000) : ACalls Γ 55 [.v (bD b), .v (.int .i64 at')] ⟨.tup [bD (partRes b at').1, .int .i64 (partRes b at').2], []⟩ := by
  refine acalls_of Tryd.func55 rfl rfl (by kernel_rfl) ?_
  have hr : Tryd.f55.results.toList = [.tmp 4, .tmp 5] := rfl
  have hw : IntKind.i64.wrap ((at' : Int) + 1) = ((at' + 1 : Nat) : Int) := succ64 (by omega)
  simp only [↓S1, S2, S3, pureOp, fillD, ↓reduceIte, reduceCtorEq, Nat.reduceEqDiff, Nat.reduceAdd, Nat.reduceLeDiff, mdT, mrT, bD, len_ofBytes]
  refine Br_dec (fun h1 => ?_) (fun h1 => ?_)
  · have hdn : b.drop at' = [] := List.drop_eq_nil_of_le (by omega)
    have hd : partRes b at' = ([], -1) := partRes_none (by rw [hdn]; rfl)
    simp only [↓S1, S2, S3, pureOp, fillD, ↓reduceIte, reduceCtorEq, Nat.reduceEqDiff, Nat.reduceAdd, Nat.reduceLeDiff, mdT, mrT, h1, postF, retOk, hr, Env.ress, Env.resOf, Env.outsOk, hd]
    exact .refl _
  · obtain ⟨c, hc⟩ : ∃ c, b[at']? = some c := ⟨_, List.getElem?_eq_getElem (show at' < b.length by omega)⟩
    have hcl := c.toNat_lt
    have q1 : IntKind.i64.wrap (c.toNat : Int) = (c.toNat : Int) := w64 (by omega)
    have q2 : IntKind.i64.wrap (((at' + 1 : Nat) : Int) + (c.toNat : Int)) = ((at' + 1 + c.toNat : Nat) : Int) := by rw [w64 (by omega)]; simp
    have hdr := drop_cons hc
    have hdl : (b.drop (at' + 1)).length = b.length - (at' + 1) := by simp
    simp only [↓S1, S2, S3, pureOp, fillD, ↓reduceIte, reduceCtorEq, Nat.reduceEqDiff, Nat.reduceAdd, Nat.reduceLeDiff, mdT, mrT, h1, bD, len_ofBytes, atI_nat, get_ofBytes, hc, convD, hw, q1, q2]
    refine Br_dec (fun h2 => ?_) (fun h2 => ?_)
    · have hd : partRes b at' = ([], -1) := by
        refine partRes_none ?_
        rw [hdr, pt, if_pos (by omega)]
      simp only [↓S1, S2, S3, pureOp, fillD, ↓reduceIte, reduceCtorEq, Nat.reduceEqDiff, Nat.reduceAdd, Nat.reduceLeDiff, mdT, mrT, h1, h2, postF, retOk, hr, Env.ress, Env.resOf, Env.outsOk, hd]
      exact .refl _
    · have hd : partRes b at' = ((b.drop (at' + 1)).take c.toNat, ((at' + 1 + c.toNat : Nat) : Int)) := by
        have hp : pt (b.drop at') = some ((b.drop (at' + 1)).take c.toNat, (b.drop (at' + 1)).drop c.toNat) := by rw [hdr, pt, if_neg (by omega)]
        rw [(partRes_some hp).1]
        congr 2
        simp; omega
      have hcut : cutL (ofBytes b) (some ((at' + 1 : Nat) : Int)) (some ((at' + 1 + c.toNat : Nat) : Int)) = some (ofBytes ((b.drop (at' + 1)).take c.toNat)) := by
        rw [cut_nat _ (by omega) (by rw [len_ofBytes]; omega), cut_ofBytes, List.take_drop]
      simp only [↓S1, S2, S3, pureOp, fillD, ↓reduceIte, reduceCtorEq, Nat.reduceEqDiff, Nat.reduceAdd, Nat.reduceLeDiff, mdT, mrT, h1, h2, bD, len_ofBytes, atI_nat, get_ofBytes, hc, convD, hw, q1, q2, boundD, row_ofBytes, hcut, postF, retOk, hr, Env.ress, Env.resOf, Env.outsOk, hd]
      exact .refl _

/-- the entries of a body -/
def readF (s : List Fld) : Nat → Str → Option (List Ent)
  | 0, _ => some []
  | n + 1, l => if l = [] then some [] else match pt l with
    | none => none
    | some (k, l1) => match pt l1 with
      | none => none
      | some (v, l2) => if (decR s v).2 = 0 ∧ errK k = 0 then (readF s n l2).map (⟨k, (decR s v).1⟩ :: ·) else none
def readE (s : List Fld) (l : Str) : Option (List Ent) := readF s l.length l
def readD (s : List Fld) (l : Str) : D := match readE s l with
  | some es => .tup [esD es, .bool true]
  | none => .tup [esD [], .bool false]
theorem read22_ok (s : List Fld) (b : Str) (hs : SchB s) (hb : b.length ≤ 100000000) : ACalls Γ 32 [.v (sD s), .v (bD b)] ⟨readD s b, []⟩ := by
  refine acalls_of Tryd.func32 rfl rfl (by kernel_rfl) ?_
  have hr : Tryd.f32.results.toList = [.tmp 4, .tmp 5] := rfl
  simp only [↓S1, S2, S3, pureOp, fillD, ↓reduceIte, reduceCtorEq, Nat.reduceEqDiff, Nat.reduceAdd, Nat.reduceLeDiff, mdT, mrT, sD, bD]
  refine evW_loop (fun n e => ∃ (i g m : Nat) (acc : List Ent), n = b.length - i ∧ i ≤ b.length ∧ e.tm 1 = .val (bD b) ∧ e.tm 2 = .bx 2 0 0 ∧ e.gb 2 = 1 ∧ e.bx 2 0 0 = .val (.sl (s.map fD)) ∧ e.tm 6 = .own 6 0 g (esD acc) ∧ e.lv 6 0 g = true ∧ e.tm 7 = .val (.int .i64 i) ∧
    acc.length ≤ i ∧ (b.drop i).length ≤ m ∧ readE s b = (readF s m (b.drop i)).map (acc ++ ·)) b.length ?_ ?_
  · refine ⟨0, _, b.length, [], by simp, by simp, rfl, rfl, rfl, rfl, rfl, rfl, rfl, by simp, by simp, ?_⟩
    simp only [List.drop_zero, readE]
    cases readF s b.length b <;> rfl
  · rintro J hJ n e ⟨i, g, m, acc, rfl, hi, g1, g2, hg2, b2, g6, hl, g7, hal, hm, hre⟩
    simp only [↓S1, S2, S3, pureOp, fillD, ↓reduceIte, reduceCtorEq, Nat.reduceEqDiff, Nat.reduceAdd, Nat.reduceLeDiff, mdT, mrT, g1, g2, g6, g7, bD, len_ofBytes]
    refine Br_dec (fun h => ?_) (fun h => ?_)
    · have hlt : i < b.length := by omega
      have hne : b.drop i ≠ [] := by intro hh; have := congrArg List.length hh; simp at this; omega
      obtain ⟨m', rfl⟩ : ∃ m', m = m' + 1 := ⟨m - 1, by simp at hm; omega⟩
      rw [readF, if_neg hne] at hre
      simp only [↓S1, S2, S3, pureOp, fillD, ↓reduceIte, reduceCtorEq, Nat.reduceEqDiff, Nat.reduceAdd, Nat.reduceLeDiff, mdT, mrT, g1, g2, g6, g7]
      refine callV (part22_ok b i (by omega) (by omega)) rfl rfl ?_
      cases hp : pt (b.drop i) with
      | none =>
        rw [hp] at hre
        have hd : readD s b = .tup [esD [], .bool false] := by unfold readD; rw [hre]; rfl
        simp only [↓S1, S2, S3, pureOp, fillD, ↓reduceIte, reduceCtorEq, Nat.reduceEqDiff, Nat.reduceAdd, Nat.reduceLeDiff, mdT, mrT, partRes_none hp, bD, Int.reduceLT, Int.reduceNeg, postF, retOk, hr, Env.ress, Env.resOf, Env.outsOk, hd, esD]
        exact .refl _
      | some q =>
        obtain ⟨k, l1⟩ := q
        rw [hp] at hre
        simp only [] at hre
        obtain ⟨z1, z2, z3⟩ := partRes_some hp
        have hneg : ¬ (((b.length - l1.length : Nat) : Int) < 0) := by omega
        simp only [↓S1, S2, S3, pureOp, fillD, ↓reduceIte, reduceCtorEq, Nat.reduceEqDiff, Nat.reduceAdd, Nat.reduceLeDiff, mdT, mrT, z1, g1, g2, g6, g7, hneg, bD]
        refine callV (part22_ok b (b.length - l1.length) (by omega) (by omega)) rfl rfl ?_
        have hp2 : pt (b.drop (b.length - l1.length)) = pt l1 := by rw [z2]
        cases hq : pt l1 with
        | none =>
          rw [hq] at hre
          have hd : readD s b = .tup [esD [], .bool false] := by unfold readD; rw [hre]; rfl
          simp only [↓S1, S2, S3, pureOp, fillD, ↓reduceIte, reduceCtorEq, Nat.reduceEqDiff, Nat.reduceAdd, Nat.reduceLeDiff, mdT, mrT, partRes_none (hp2.trans hq), bD, Int.reduceLT, Int.reduceNeg, postF, retOk, hr, Env.ress, Env.resOf, Env.outsOk, hd, esD]
          exact .refl _
        | some q =>
          obtain ⟨v, l2⟩ := q
          rw [hq] at hre
          simp only [] at hre
          obtain ⟨y1, y2, y3⟩ := partRes_some (hp2.trans hq)
          have hneg2 : ¬ (((b.length - l2.length : Nat) : Int) < 0) := by omega
          have hdec := decode6_ok s v hs (by omega)
          simp only [sD, bD] at hdec
          simp only [↓S1, S2, S3, pureOp, fillD, ↓reduceIte, reduceCtorEq, Nat.reduceEqDiff, Nat.reduceAdd, Nat.reduceLeDiff, mdT, mrT, y1, g1, g2, g6, g7, hneg2, hg2, b2, bD]
          refine callV hdec rfl rfl ?_
          simp only [↓S1, S2, S3, pureOp, fillD, ↓reduceIte, reduceCtorEq, Nat.reduceEqDiff, Nat.reduceAdd, Nat.reduceLeDiff, mdT, mrT, bD, vsD]
          refine Br_dec (fun h1 => ?_) (fun h1 => ?_)
          · simp only [↓S1, S2, S3, pureOp, fillD, ↓reduceIte, reduceCtorEq, Nat.reduceEqDiff, Nat.reduceAdd, Nat.reduceLeDiff, mdT, mrT, h1, convD, bytes_ofBytes]
            refine callV (checkKey14_ok k) rfl rfl ?_
            simp only [↓S1, S2, S3, pureOp, fillD, ↓reduceIte, reduceCtorEq, Nat.reduceEqDiff, Nat.reduceAdd, Nat.reduceLeDiff, mdT, mrT, h1]
            refine Br_dec (fun h2 => ?_) (fun h2 => ?_)
            · rw [if_pos ⟨h1, h2⟩] at hre
              have hrow : rowB 2 (acc.map eD) = true := row_e acc
              simp only [↓S1, S2, S3, pureOp, fillD, ↓reduceIte, reduceCtorEq, Nat.reduceEqDiff, Nat.reduceAdd, Nat.reduceLeDiff, mdT, mrT, g1, g2, g6, g7, hl, h1, h2, esD, vsD, convD, bytes_ofBytes, hrow]
              refine ⟨rfl, by omega, rfl, by simp only [List.length_map, roomy]; omega, _, ?_, hJ _ _ ⟨b.length - l2.length, e.gc 6 0, m', acc ++ [⟨k, (decR s v).1⟩], rfl, by omega, g1, g2, hg2, b2, ?_, ?_, rfl, by simp; omega, ?_, ?_⟩⟩
              · omega
              · simp only [↓S1, S2, S3, pureOp, fillD, ↓reduceIte, reduceCtorEq, Nat.reduceEqDiff, Nat.reduceAdd, Nat.reduceLeDiff, mdT, mrT]
                rw [esD, List.map_append]; rfl
              · simp only [↓S1, S2, S3, pureOp, fillD, ↓reduceIte, reduceCtorEq, Nat.reduceEqDiff, Nat.reduceAdd, Nat.reduceLeDiff, mdT, mrT]
              · rw [y2]; simp at hm; omega
              · rw [hre, y2]
                cases readF s m' l2 with
                | none => rfl
                | some r => simp
            · rw [if_neg (fun hh => h2 hh.2)] at hre
              have hd : readD s b = .tup [esD [], .bool false] := by unfold readD; rw [hre]; rfl
              simp only [↓S1, S2, S3, pureOp, fillD, ↓reduceIte, reduceCtorEq, Nat.reduceEqDiff, Nat.reduceAdd, Nat.reduceLeDiff, mdT, mrT, h1, h2, postF, retOk, hr, Env.ress, Env.resOf, Env.outsOk, hd, esD]
              exact .refl _
          · rw [if_neg (fun hh => h1 hh.1)] at hre
            have hd : readD s b = .tup [esD [], .bool false] := by unfold readD; rw [hre]; rfl
            simp only [↓S1, S2, S3, pureOp, fillD, ↓reduceIte, reduceCtorEq, Nat.reduceEqDiff, Nat.reduceAdd, Nat.reduceLeDiff, mdT, mrT, h1, postF, retOk, hr, Env.ress, Env.resOf, Env.outsOk, hd, esD]
            exact .refl _
    · have hdn : b.drop i = [] := List.drop_eq_nil_of_le (by omega)
      have hre2 : readE s b = some acc := by
        rw [hre, hdn]; cases m <;> simp [readF]
      have hd : readD s b = .tup [esD acc, .bool true] := by unfold readD; rw [hre2]
      simp only [↓S1, S2, S3, pureOp, fillD, ↓reduceIte, reduceCtorEq, Nat.reduceEqDiff, Nat.reduceAdd, Nat.reduceLeDiff, mdT, mrT, g1, g2, g6, g7, h, hl, postF, retOk, hr, Env.ress, Env.resOf, Env.outsOk, hd, esD]
      exact .refl _
end Go.Proofs.YtebkaacflocfcaaDoor.Ab

/- Walks: an entry's bytes, and one frame more, in the reference. -/
namespace Go.Proofs.YtebkaacflocfcaaDoor.Ab
open Go
set_option maxRecDepth 100000
set_option linter.unusedSimpArgs false
set_option linter.unusedVariables false

theorem fits_len {f : Fld} {v : Val} (hn : I64 v.n) (h : fits f v = true) : (encV v).length ≤ 21 := by
  have hg := groups64 (turned_lt hn)
  unfold encV
  unfold fits at h
  split
  · omega
  · split
    · simp
    · split
      · rename_i h1 h2 h3
        simp [h3] at h
        simp; omega
      · simp
theorem encD_len (s : List Fld) (r : List Val) (hv : ∀ v ∈ r, I64 v.n) : (encD s r).length ≤ 169 := by
  unfold encD
  split
  · rename_i h
    obtain ⟨k1, k2, k3⟩ := errR_0 h
    have k4 := schema_len k1
    have key : ∀ (s : List Fld) (r : List Val), r.length ≤ s.length → (∀ v ∈ r, I64 v.n) → fitsAll s r = true → (r.flatMap encV).length ≤ r.length * 21 := by
      intro s r
      induction r generalizing s with
      | nil => intro _ _ _; simp
      | cons v r ih =>
        intro hl hv hf
        cases s with
        | nil => simp at hl
        | cons f s =>
          simp only [fitsAll, List.zip_cons_cons, List.all_cons, Bool.and_eq_true] at hf
          have h1 := fits_len (hv v (by simp)) hf.1
          have h2 := ih s (by simpa using hl) (fun w hw => hv w (by simp [hw])) hf.2
          simp only [List.flatMap_cons, List.length_append, List.length_cons]
          omega
    have := key s r (by omega) hv k3
    unfold encR
    have h10 : (if 0 < opts s then [UInt8.ofNat (markN (s.zip r) % 256)] else []).length ≤ 1 := by split <;> simp
    rw [List.length_append]
    omega
  · simp
/-- an entry's bytes -/
def entB (s : List Fld) (x : Ent) : Str := [UInt8.ofNat (x.key.length % 256)] ++ x.key ++ [UInt8.ofNat ((encD s x.vals).length % 256)] ++ encD s x.vals
theorem len8 (n : Nat) : IntKind.u8.wrap (n : Int) = ((UInt8.ofNat (n % 256)).toNat : Int) := by rw [wu8m]; simp
theorem entry22_ok (s : List Fld) (x : Ent) (hs : SchB s) (hk : x.key.length ≤ 1000000000) (hv : ValB x.vals) : ACalls Γ 21 [.v (sD s), .v (eD x)] ⟨bD (entB s x), []⟩ := by
  refine acalls_of Tryd.func21 rfl rfl (by kernel_rfl) ?_
  have hr : Tryd.f21.results.toList = [.tmp 4] := rfl
  have q1 := len8 x.key.length
  have q2 := len8 (encD s x.vals).length
  have hel := encD_len s x.vals (fun v hv' => (hv.2 v hv').1)
  obtain ⟨E, hE⟩ : ∃ E, E = encD s x.vals := ⟨_, rfl⟩
  simp only [↓S1, S2, S3, pureOp, fillD, ↓reduceIte, reduceCtorEq, Nat.reduceEqDiff, Nat.reduceAdd, Nat.reduceLeDiff, mdT, mrT, sD, eD, vsD, convD, q1]
  refine evW_loop (fun n e => ∃ (i g : Nat), n = x.key.length - i ∧ i ≤ x.key.length ∧ e.tm 2 = .bx 2 0 0 ∧ e.gb 2 = 1 ∧ e.bx 2 0 0 = .val (.sl (s.map fD)) ∧ e.tm 3 = .bx 3 0 0 ∧ e.gb 3 = 1 ∧ e.bx 3 0 0 = .val (.str x.key) ∧ e.bx 3 0 1 = .val (.sl (x.vals.map vD)) ∧
    e.tm 6 = .val (.int .i64 i) ∧ e.tm 5 = .own 5 0 g (bD ([UInt8.ofNat (x.key.length % 256)] ++ x.key.take i)) ∧ e.lv 5 0 g = true) x.key.length ?_ ?_
  · exact ⟨0, _, by simp, by simp, rfl, rfl, rfl, rfl, rfl, rfl, rfl, rfl, rfl, rfl⟩
  · rintro J hJ n e ⟨i, g, rfl, hi, g2, hg2, b2, g3, hg3, b30, b31, g6, g5, hl⟩
    simp only [↓S1, S2, S3, pureOp, fillD, ↓reduceIte, reduceCtorEq, Nat.reduceEqDiff, Nat.reduceAdd, Nat.reduceLeDiff, mdT, mrT, g2, hg2, b2, g3, hg3, b30, b31, g6, g5, hl]
    refine Br_dec (fun h => ?_) (fun h => ?_)
    · have hlt : i < x.key.length := by omega
      obtain ⟨c, hc⟩ : ∃ c, x.key[i]? = some c := ⟨_, List.getElem?_eq_getElem hlt⟩
      have hw : IntKind.i64.wrap ((i : Int) + 1) = ((i + 1 : Nat) : Int) := succ64 (by omega)
      simp only [↓S1, S2, S3, pureOp, fillD, ↓reduceIte, reduceCtorEq, Nat.reduceEqDiff, Nat.reduceAdd, Nat.reduceLeDiff, mdT, mrT, g2, hg2, b2, g3, hg3, b30, b31, g6, g5, hl, h, atI_nat, hc, bD, row_ofBytes, len_ofBytes, hw]
      refine ⟨by simp only [List.length_append, List.length_take, List.length_cons, List.length_nil, roomy]; omega, _, ?_, hJ _ _ ⟨i + 1, e.gc 5 0, rfl, by omega, g2, hg2, b2, g3, hg3, b30, b31, rfl, ?_, ?_⟩⟩
      · omega
      · simp only [↓S1, S2, S3, pureOp, fillD, ↓reduceIte, reduceCtorEq, Nat.reduceEqDiff, Nat.reduceAdd, Nat.reduceLeDiff, mdT, mrT]
        rw [one_ofBytes, add_ofBytes, List.cons_append, take_succ hc]; rfl
      · simp only [↓S1, S2, S3, pureOp, fillD, ↓reduceIte, reduceCtorEq, Nat.reduceEqDiff, Nat.reduceAdd, Nat.reduceLeDiff, mdT, mrT]
    · have hto : x.key.take i = x.key := List.take_of_length_le (by omega)
      rw [hto] at g5
      have henc := encode6_ok s x.vals hs hv
      simp only [sD, vsD] at henc
      rw [← hE] at henc q2 hel
      simp only [↓S1, S2, S3, pureOp, fillD, ↓reduceIte, reduceCtorEq, Nat.reduceEqDiff, Nat.reduceAdd, Nat.reduceLeDiff, mdT, mrT, g2, hg2, b2, g3, hg3, b30, b31, g6, g5, hl, h]
      refine callV henc rfl rfl ?_
      simp only [↓S1, S2, S3, pureOp, fillD, ↓reduceIte, reduceCtorEq, Nat.reduceEqDiff, Nat.reduceAdd, Nat.reduceLeDiff, mdT, mrT, g5, hl, bD, row_ofBytes, len_ofBytes, convD, q2]
      refine ⟨by simp only [List.length_append, List.length_take, List.length_cons, List.length_nil, roomy]; omega, ?_⟩
      obtain ⟨H, hH⟩ : ∃ H, H = [UInt8.ofNat (x.key.length % 256)] ++ x.key ++ [UInt8.ofNat (E.length % 256)] := ⟨_, rfl⟩
      have hHl : H.length ≤ 1000000002 := by rw [hH]; simp only [List.length_append, List.length_cons, List.length_nil]; omega
      have hEB : entB s x = H ++ E := by unfold entB; rw [hH, hE]
      refine evW_loop (fun n e => ∃ (j g : Nat), n = E.length - j ∧ j ≤ E.length ∧ e.tm 7 = .val (bD E) ∧ e.tm 9 = .val (.int .i64 j) ∧ e.tm 5 = .own 5 0 g (bD (H ++ E.take j)) ∧ e.lv 5 0 g = true) E.length ?_ ?_
      · refine ⟨0, e.gc 5 0, by simp, by simp, rfl, rfl, ?_, ?_⟩
        · simp only [↓S1, S2, S3, pureOp, fillD, ↓reduceIte, reduceCtorEq, Nat.reduceEqDiff, Nat.reduceAdd, Nat.reduceLeDiff, mdT, mrT]
          rw [one_ofBytes, add_ofBytes, hH]; simp [bD]
        · simp only [↓S1, S2, S3, pureOp, fillD, ↓reduceIte, reduceCtorEq, Nat.reduceEqDiff, Nat.reduceAdd, Nat.reduceLeDiff, mdT, mrT]
      · clear g2 hg2 b2 g3 hg3 b30 b31 g6 g5 hl h hJ
        rintro J hJ n e ⟨j, g, rfl, hj, g7, g9, g5, hl⟩
        simp only [↓S1, S2, S3, pureOp, fillD, ↓reduceIte, reduceCtorEq, Nat.reduceEqDiff, Nat.reduceAdd, Nat.reduceLeDiff, mdT, mrT, g7, g9, g5, hl, bD, len_ofBytes]
        refine Br_dec (fun h => ?_) (fun h => ?_)
        · obtain ⟨c, hc⟩ : ∃ c, E[j]? = some c := ⟨_, List.getElem?_eq_getElem (show j < E.length by omega)⟩
          have hw : IntKind.i64.wrap ((j : Int) + 1) = ((j + 1 : Nat) : Int) := succ64 (by omega)
          simp only [↓S1, S2, S3, pureOp, fillD, ↓reduceIte, reduceCtorEq, Nat.reduceEqDiff, Nat.reduceAdd, Nat.reduceLeDiff, mdT, mrT, g7, g9, g5, hl, h, atI_nat, get_ofBytes, hc, bD, row_ofBytes, len_ofBytes, hw]
          refine ⟨by simp only [List.length_append, List.length_take, roomy]; omega, _, ?_, hJ _ _ ⟨j + 1, e.gc 5 0, rfl, by omega, g7, rfl, ?_, ?_⟩⟩
          · omega
          · simp only [↓S1, S2, S3, pureOp, fillD, ↓reduceIte, reduceCtorEq, Nat.reduceEqDiff, Nat.reduceAdd, Nat.reduceLeDiff, mdT, mrT]
            rw [one_ofBytes, add_ofBytes, List.append_assoc, take_succ hc]; rfl
          · simp only [↓S1, S2, S3, pureOp, fillD, ↓reduceIte, reduceCtorEq, Nat.reduceEqDiff, Nat.reduceAdd, Nat.reduceLeDiff, mdT, mrT]
        · have hto2 : E.take j = E := List.take_of_length_le (by omega)
          rw [hto2] at g5
          simp only [↓S1, S2, S3, pureOp, fillD, ↓reduceIte, reduceCtorEq, Nat.reduceEqDiff, Nat.reduceAdd, Nat.reduceLeDiff, mdT, mrT, g7, g9, g5, hl, h, postF, retOk, hr, Env.ress, Env.resOf, Env.outsOk, hEB]
          exact .refl _

/-- one frame more -/
def frB (b : Str) (kind : UInt8) (body : Str) (n : Nat) : Str := b ++ (sealR ⟨kind, b.length / n, body⟩ n).1
theorem frame22_ok (b : Str) (kind : UInt8) (body : Str) (n : Nat) (hn : 160 ≤ n ∧ n ≤ 8192) (hb : b.length ≤ 1000000000000) (hbo : body.length ≤ 1000000000) :
    ACalls Γ 20 [.o (bD b), .v (.int .u8 kind.toNat), .v (bD body), .v (.int .i64 n)] ⟨bD (frB b kind body n), []⟩ := by
  refine acalls_of Tryd.func20 rfl rfl (by kernel_rfl) ?_
  have hr : Tryd.f20.results.toList = [.tmp 8] := rfl
  have hn0 : ((n : Int) = 0) = False := by simp only [eq_iff_iff, iff_false]; omega
  have q1 : ((b.length : Nat) : Int).tdiv (n : Int) = ((b.length / n : Nat) : Int) := by rw [Int.ofNat_tdiv]
  have hdl : b.length / n ≤ b.length := Nat.div_le_self _ _
  have q2 : IntKind.i64.wrap ((b.length / n : Nat) : Int) = ((b.length / n : Nat) : Int) := by generalize b.length / n = Q at hdl ⊢; exact w64 (by omega)
  have q3 : IntKind.u64.wrap ((b.length / n : Nat) : Int) = ((b.length / n : Nat) : Int) := by generalize b.length / n = Q at hdl ⊢; exact wu64 (by omega)
  have hsl := seal2_ok ⟨kind, b.length / n, body⟩ n (show b.length / n < 18446744073709551616 by omega) hbo
  simp only [frD] at hsl
  rw [bD] at hsl
  obtain ⟨F, hF⟩ : ∃ F, F = (sealR ⟨kind, b.length / n, body⟩ n).1 := ⟨_, rfl⟩
  have hFl : F.length ≤ 8192 := by
    rw [hF]; unfold sealR
    split
    · split
      · rename_i h1 h2
        simp only [Int.toNat_natCast]
        have := sealB_len (f := ⟨kind, b.length / n, body⟩) (n := n) (by omega) (by simp only at h2 ⊢; omega)
        omega
      · simp
    · simp
  rw [← hF] at hsl
  have hfr : frB b kind body n = b ++ F := by unfold frB; rw [hF]
  simp only [↓S1, S2, S3, pureOp, fillD, ↓reduceIte, reduceCtorEq, Nat.reduceEqDiff, Nat.reduceAdd, Nat.reduceLeDiff, mdT, mrT, bD, len_ofBytes, hn0, q1, q2, q3, convD]
  refine callV hsl rfl rfl ?_
  simp only [↓S1, S2, S3, pureOp, fillD, ↓reduceIte, reduceCtorEq, Nat.reduceEqDiff, Nat.reduceAdd, Nat.reduceLeDiff, mdT, mrT, bD]
  refine evW_loop (fun k e => ∃ (i g : Nat), k = F.length - i ∧ i ≤ F.length ∧ e.tm 9 = .val (bD F) ∧ e.tm 11 = .val (.int .i64 i) ∧ e.tm 0 = .own 0 0 g (bD (b ++ F.take i)) ∧ e.lv 0 0 g = true) F.length ?_ ?_
  · refine ⟨0, 0, by simp, by simp, rfl, rfl, ?_, rfl⟩
    simp only [List.take_zero, List.append_nil]; rfl
  · rintro J hJ k e ⟨i, g, rfl, hi, g9, g11, g0, hl⟩
    simp only [↓S1, S2, S3, pureOp, fillD, ↓reduceIte, reduceCtorEq, Nat.reduceEqDiff, Nat.reduceAdd, Nat.reduceLeDiff, mdT, mrT, g9, g11, g0, hl, bD, len_ofBytes]
    refine Br_dec (fun h => ?_) (fun h => ?_)
    · obtain ⟨c, hc⟩ : ∃ c, F[i]? = some c := ⟨_, List.getElem?_eq_getElem (show i < F.length by omega)⟩
      have hw : IntKind.i64.wrap ((i : Int) + 1) = ((i + 1 : Nat) : Int) := succ64 (by omega)
      simp only [↓S1, S2, S3, pureOp, fillD, ↓reduceIte, reduceCtorEq, Nat.reduceEqDiff, Nat.reduceAdd, Nat.reduceLeDiff, mdT, mrT, g9, g11, g0, hl, h, atI_nat, get_ofBytes, hc, bD, row_ofBytes, len_ofBytes, hw]
      refine ⟨by simp only [List.length_append, List.length_take, roomy]; omega, _, ?_, hJ _ _ ⟨i + 1, e.gc 0 0, rfl, by omega, g9, rfl, ?_, ?_⟩⟩
      · omega
      · simp only [↓S1, S2, S3, pureOp, fillD, ↓reduceIte, reduceCtorEq, Nat.reduceEqDiff, Nat.reduceAdd, Nat.reduceLeDiff, mdT, mrT]
        rw [one_ofBytes, add_ofBytes, List.append_assoc, take_succ hc]; rfl
      · simp only [↓S1, S2, S3, pureOp, fillD, ↓reduceIte, reduceCtorEq, Nat.reduceEqDiff, Nat.reduceAdd, Nat.reduceLeDiff, mdT, mrT]
    · have hto : F.take i = F := List.take_of_length_le (by omega)
      rw [hto] at g0
      simp only [↓S1, S2, S3, pureOp, fillD, ↓reduceIte, reduceCtorEq, Nat.reduceEqDiff, Nat.reduceAdd, Nat.reduceLeDiff, mdT, mrT, g9, g11, g0, hl, h, postF, retOk, hr, Env.ress, Env.resOf, Env.outsOk, hfr]
      exact .refl _
end Go.Proofs.YtebkaacflocfcaaDoor.Ab
