/- Contracts of the program functions that read the entries and the head of a dump, and of the law DumpChecks. -/
import Derived.Test.YtebkaacflocfcaaDoorM9
import Derived.Test.YtebkaacflocfcaaDoorM7
import Derived.Test.YtebkaacflocfcaaDoorM8
set_option linter.unusedVariables false
set_option linter.unusedSimpArgs false
set_option linter.defProp false
/- Walks: the entries of a dump in the program. -/
namespace Go.Proofs.YtebkaacflocfcaaDoor.Ab
open Go
set_option maxRecDepth 100000
set_option linter.unusedSimpArgs false
set_option linter.unusedVariables false

/-- one entry of a body, as the program reads it -/
def stepP (s : List Fld) (room before : Nat) (b : Str) (first : Bool) (last : Str) : Option (Str × Str) :=
  if (textR b).2.2 = true ∧ (textR (textR b).2.1).2.2 = true ∧ (decP s (textR (textR b).2.1).1).2 = 0 ∧ errK (textR b).1 = 0 ∧ keyLe (textR b).1 last = false ∧
    ¬ (first = true ∧ before + b.length - (textR (textR b).2.1).2.1.length ≤ room) then some ((textR b).1, (textR (textR b).2.1).2.1) else none
def inP (s : List Fld) (room before : Nat) : Nat → Str → Bool → Str → Nat → Bool × Str × Nat
  | 0, _, _, last, c => (false, last, c)
  | n + 1, b, first, last, c => if b = [] then (false, last, c) else match stepP s room before b first last with
    | none => (true, last, c)
    | some q => inP s room before n q.2 false q.1 (c + 1)
/-- so many frames from i on -/
def outP (s : List Fld) (b : Str) (n room : Nat) : Nat → Nat → Nat → Str → Nat → Nat → Bool × Nat × Nat
  | 0, _, sum, _, _, c => (false, sum, c)
  | k + 1, i, sum, last, before, c =>
    if frmBad b n i 69 = true ∨ (openP (blk b n i)).1.body = [] then (true, extN sum (openP (blk b n i)).1.body, c)
    else if (inP s room before (openP (blk b n i)).1.body.length (openP (blk b n i)).1.body true last c).1 = true then
      (true, extN sum (openP (blk b n i)).1.body, (inP s room before (openP (blk b n i)).1.body.length (openP (blk b n i)).1.body true last c).2.2)
    else outP s b n room k (i + 1) (extN sum (openP (blk b n i)).1.body) (inP s room before (openP (blk b n i)).1.body.length (openP (blk b n i)).1.body true last c).2.1
      (openP (blk b n i)).1.body.length (inP s room before (openP (blk b n i)).1.body.length (openP (blk b n i)).1.body true last c).2.2
theorem textR_len (b : Str) : (textR b).1.length ≤ b.length ∧ (textR b).2.1.length ≤ b.length ∧ ((textR b).2.2 = true → (textR b).2.1.length < b.length) := by
  unfold textR
  cases h : pt b with
  | none => simp
  | some q =>
    obtain ⟨k, l⟩ := q
    obtain ⟨h1, h2⟩ := pt_spec h
    have := congrArg List.length h1
    simp only [List.length_cons, List.length_append] at this
    dsimp only
    omega
theorem wkU : Wk (.tup []) (.tup []) := .refl _
set_option maxHeartbeats 2000000 in
theorem entries27_ok (b : Str) (n sum : Nat) (s : List Fld) (fs : List D) (q : Nat) (hb : b.length ≤ 1100000) (hn : 160 ≤ n ∧ n ≤ 8192) (hs : sum < 4294967296) (hsb : SchB s) :
    ACalls Γ 27 [.p none (rdrD b n false sum), .v (sD s), .p (some 28) [.sl fs, .int .u64 q, .int .i64 0]]
      ⟨.tup [], [rdrD b n (outP s b n (n - 15) (b.length / n - 2) 1 sum [] (n - 15) 0).1 (outP s b n (n - 15) (b.length / n - 2) 1 sum [] (n - 15) 0).2.1,
        [.sl fs, .int .u64 q, .int .i64 ((outP s b n (n - 15) (b.length / n - 2) 1 sum [] (n - 15) 0).2.2 : Int)]]⟩ := by
  refine acalls_of Tryd.func27 rfl rfl (by kernel_rfl) ?_
  have hr : Tryd.f27.results.toList = [] := rfl
  obtain ⟨RES, hRES⟩ : ∃ RES, RES = outP s b n (n - 15) (b.length / n - 2) 1 sum [] (n - 15) 0 := ⟨_, rfl⟩
  rw [← hRES]
  have hn0 : ((n : Int) = 0) = False := by simp only [eq_iff_iff, iff_false]; omega
  obtain ⟨N, hN⟩ : ∃ N, N = b.length / n := ⟨_, rfl⟩
  have q1 : ((b.length : Nat) : Int).tdiv (n : Int) = (N : Int) := by rw [hN, Int.ofNat_tdiv]
  have hNl : N ≤ b.length := by rw [hN]; exact Nat.div_le_self _ _
  have hNn : N * n ≤ b.length := by rw [hN]; exact Nat.div_mul_le_self _ _
  have q2 : IntKind.i64.wrap (N : Int) = (N : Int) := w64 (by omega)
  have q3 : IntKind.i64.wrap ((N : Int) - 1) = (N : Int) - 1 := w64 (by omega)
  rw [← hN] at hRES
  clear hN
  have hro : room (n : Int) = ((n - 15 : Nat) : Int) := by unfold room; rw [if_pos (by omega)]; omega
  obtain ⟨M, hM⟩ : ∃ M, M = n - 15 := ⟨_, rfl⟩
  rw [← hM] at hro hRES
  have hML : M ≤ 8192 := by omega
  have j0 : (Env.init [A.p none [D.sl (ofBytes b), .int .i64 n, .bool false, .int .u32 sum], A.v (.agg [.sl (s.map fD)]), A.p (some 28) [.sl fs, .int .u64 q, .int .i64 0]]).bx 100000 0 0 = .val (.sl (ofBytes b)) := rfl
  have j1 : (Env.init [A.p none [D.sl (ofBytes b), .int .i64 n, .bool false, .int .u32 sum], A.v (.agg [.sl (s.map fD)]), A.p (some 28) [.sl fs, .int .u64 q, .int .i64 0]]).bx 100000 0 1 = .val (.int .i64 n) := rfl
  have j4 : (Env.init [A.p none [D.sl (ofBytes b), .int .i64 n, .bool false, .int .u32 sum], A.v (.agg [.sl (s.map fD)]), A.p (some 28) [.sl fs, .int .u64 q, .int .i64 0]]).gb 100000 = 1 := rfl
  simp only [↓S1, S2, S3, pureOp, fillD, ↓reduceIte, reduceCtorEq, Nat.reduceEqDiff, Nat.reduceAdd, Nat.reduceLeDiff, mdT, mrT, sD, rdrD, j0, j1, j4]
  refine callV (room_ok n) rfl rfl ?_
  simp only [↓S1, S2, S3, pureOp, fillD, ↓reduceIte, reduceCtorEq, Nat.reduceEqDiff, Nat.reduceAdd, Nat.reduceLeDiff, mdT, mrT, hro]
  refine evW_loop (fun k e => ∃ (i sm bf c : Nat) (bad : Bool) (last : Str), k = (N + 1 - i) + (if bad then 0 else 1) ∧ 1 ≤ i ∧ i ≤ N + 1 ∧ sm < 4294967296 ∧ bf ≤ 8192 ∧ c ≤ i * 8192 ∧
    e.tm 0 = .bx 100000 0 0 ∧ e.gb 100000 = 1 ∧ e.bx 100000 0 0 = .val (.sl (ofBytes b)) ∧ e.bx 100000 0 1 = .val (.int .i64 n) ∧ e.bx 100000 0 2 = .val (.bool bad) ∧ e.bx 100000 0 3 = .val (.int .u32 sm) ∧
    e.tm 2 = .cl 28 100002 0 ∧ e.gb 100002 = 1 ∧ e.bx 100002 0 0 = .val (.sl fs) ∧ e.bx 100002 0 1 = .val (.int .u64 q) ∧ e.bx 100002 0 2 = .val (.int .i64 c) ∧
    e.tm 4 = .bx 4 0 0 ∧ e.gb 4 = 1 ∧ e.bx 4 0 0 = .val (.sl (s.map fD)) ∧ e.tm 6 = .val (.int .i64 M) ∧ e.tm 7 = .val (.str last) ∧ e.tm 8 = .val (.int .i64 bf) ∧ e.tm 9 = .val (.int .i64 i) ∧
    ((bad = false ∧ RES = outP s b n M (N - 1 - i) i sm last bf c) ∨ (bad = true ∧ RES = (true, sm, c)))) (N + 1) ?_ ?_
  · exact ⟨1, sum, M, 0, false, [], by simp, by omega, by omega, hs, hML, by omega, rfl, rfl, rfl, rfl, rfl, rfl, rfl, rfl, rfl, rfl, rfl, rfl, rfl, rfl, rfl, rfl, rfl, rfl, .inl ⟨rfl, by rw [hRES, show N - 1 - 1 = N - 2 by omega]⟩⟩
  · rintro J hJ k e ⟨i, sm, bf, c, bad, last, rfl, hi1, hi, hsm, hbf, hcb, g0, hg0, x0, x1, x2, x3, g2, hg2, y0, y1, y2, g4, hg4, b4, g6, g7, g8, g9, hor⟩
    simp only [↓S1, S2, S3, pureOp, fillD, ↓reduceIte, reduceCtorEq, Nat.reduceEqDiff, Nat.reduceAdd, Nat.reduceLeDiff, mdT, mrT, g0, hg0, x0, x1, x2, g9, len_ofBytes, hn0, q1, q2, q3]
    refine Br_dec (fun h => ?_) (fun h => ?_)
    · cases bad with
      | true =>
        have hres : RES = (true, sm, c) := by
          rcases hor with hh | hh
          · cases hh.1
          · exact hh.2
        simp only [↓S1, S2, S3, pureOp, fillD, ↓reduceIte, reduceCtorEq, Nat.reduceEqDiff, Nat.reduceAdd, Nat.reduceLeDiff, mdT, mrT, h, g0, hg0, x0, x1, x2, x3, y0, y1, y2, postF, retOk, hr, Env.ress, Env.resOf, Env.outsOk, hres]
        exact ⟨wkU, ⟨_, rfl, wkL_refl _⟩, _, rfl, wkL_refl _⟩
      | false =>
        have hres : RES = outP s b n M (N - 1 - i) i sm last bf c := by
          rcases hor with hh | hh
          · exact hh.2
          · cases hh.1
        obtain ⟨k', hk'⟩ : ∃ k', N - 1 - i = k' + 1 := ⟨N - 1 - i - 1, by omega⟩
        have hk2 : N - 1 - (i + 1) = k' := by omega
        rw [hk', outP] at hres
        have hin : (i + 1) * n ≤ N * n := Nat.mul_le_mul_right _ (by omega)
        have hf := frame25_ok b n i false sm 69 hb hn.2 (by omega) (by omega) hsm
        have hw : IntKind.i64.wrap ((i : Int) + 1) = ((i + 1 : Nat) : Int) := succ64 (by omega)
        have hFb := openP_body (blk b n i)
        have hbl := blk_len b n i
        simp only [rdrD, Bool.false_or] at hf
        simp only [↓S1, S2, S3, pureOp, fillD, ↓reduceIte, reduceCtorEq, Nat.reduceEqDiff, Nat.reduceAdd, Nat.reduceLeDiff, mdT, mrT, h, g0, hg0, x0, x1, x2, x3, g9]
        refine callP25 hf ?_
        have hexl := extN_lt sm (openP (blk b n i)).1.body
        generalize extN sm (openP (blk b n i)).1.body = sm' at *
        generalize frmBad b n i 69 = fb at *
        generalize (openP (blk b n i)).1.body = B at *
        have hBl : B.length ≤ 8192 := by omega
        have hB0 : (((B.length : Nat) : Int) = 0) ↔ B = [] := by
          constructor
          · intro hh; cases B with | nil => rfl | cons x y => simp at hh; omega
          · intro hh; rw [hh]; rfl
        simp only [↓S1, S2, S3, pureOp, fillD, ↓reduceIte, reduceCtorEq, Nat.reduceEqDiff, Nat.reduceAdd, Nat.reduceLeDiff, mdT, mrT, bD, g0, hg0]
        -- what is behind the inner loop
        have inner : ∀ (e : Env), e.tm 0 = .bx 100000 0 0 → e.gb 100000 = 1 → True := fun _ _ _ => trivial
        cases fb with
        | true =>
          rw [if_pos (.inl rfl)] at hres
          simp only [↓S1, S2, S3, pureOp, fillD, ↓reduceIte, reduceCtorEq, Nat.reduceEqDiff, Nat.reduceAdd, Nat.reduceLeDiff, mdT, mrT, g0, hg0, g2, hg2, g4, hg4, g6, g7, g8, g9]
          refine evW_loop (fun k e => ∃ o : Nat, e.tm 0 = .bx 100000 0 0 ∧ e.gb 100000 = 1 ∧ e.bx 100000 0 0 = .val (.sl (ofBytes b)) ∧ e.bx 100000 0 1 = .val (.int .i64 n) ∧ e.bx 100000 0 2 = .val (.bool true) ∧ e.bx 100000 0 3 = .val (.int .u32 sm') ∧
            e.tm 2 = .cl 28 100002 0 ∧ e.gb 100002 = 1 ∧ e.bx 100002 0 0 = .val (.sl fs) ∧ e.bx 100002 0 1 = .val (.int .u64 q) ∧ e.bx 100002 0 2 = .val (.int .i64 c) ∧
            e.tm 4 = .bx 4 0 0 ∧ e.gb 4 = 1 ∧ e.bx 4 0 0 = .val (.sl (s.map fD)) ∧ e.tm 6 = .val (.int .i64 M) ∧ e.tm 7 = .val (.str last) ∧ e.tm 9 = .val (.int .i64 i) ∧ e.tm 10 = .val (.sl (ofBytes B)) ∧ e.tm 12 = .val (.sl (ofBytes B))) 0 ?_ ?_
          · refine ⟨0, g0, hg0, ?_, ?_, ?_, ?_, g2, hg2, ?_, ?_, ?_, g4, hg4, ?_, g6, g7, g9, rfl, rfl⟩
            all_goals simp only [↓S1, S2, S3, pureOp, fillD, ↓reduceIte, reduceCtorEq, Nat.reduceEqDiff, Nat.reduceAdd, Nat.reduceLeDiff, mdT, mrT, y0, y1, y2, b4]
          · clear g0 hg0 x0 x1 x2 x3 g2 hg2 y0 y1 y2 g4 hg4 b4 g6 g7 g8 g9
            rintro J' hJ' k e ⟨o, g0, hg0, x0, x1, x2, x3, g2, hg2, y0, y1, y2, g4, hg4, b4, g6, g7, g9, g10, g12⟩
            simp only [↓S1, S2, S3, pureOp, fillD, ↓reduceIte, reduceCtorEq, Nat.reduceEqDiff, Nat.reduceAdd, Nat.reduceLeDiff, mdT, mrT, g12, len_ofBytes]
            refine Br_dec (fun h2 => ?_) (fun h2 => ?_)
            all_goals
              simp only [↓S1, S2, S3, pureOp, fillD, ↓reduceIte, reduceCtorEq, Nat.reduceEqDiff, Nat.reduceAdd, Nat.reduceLeDiff, mdT, mrT, h2, g0, hg0, x2, g9, g10, hw, len_ofBytes]
              refine ⟨_, ?_, hJ _ _ ⟨i + 1, sm', B.length, c, true, last, rfl, by omega, by omega, hexl, hBl, by omega, g0, hg0, x0, x1, x2, x3, g2, hg2, y0, y1, y2, g4, hg4, b4, g6, g7, rfl, rfl, .inr ⟨rfl, hres⟩⟩⟩
              simp only [Bool.false_eq_true, if_true, if_false]; omega
        | false =>
          simp only [↓S1, S2, S3, pureOp, fillD, ↓reduceIte, reduceCtorEq, Nat.reduceEqDiff, Nat.reduceAdd, Nat.reduceLeDiff, mdT, mrT, g0, hg0, x0, x1, x2, len_ofBytes]
          by_cases hBn : B = []
          · rw [if_pos (.inr hBn)] at hres
            have hz : (((B.length : Nat) : Int) = 0) = True := by simp [hBn]
            simp only [↓S1, S2, S3, pureOp, fillD, ↓reduceIte, reduceCtorEq, Nat.reduceEqDiff, Nat.reduceAdd, Nat.reduceLeDiff, mdT, mrT, hz, decide_true, g0, hg0, g2, hg2, g4, hg4, g6, g7, g8, g9]
            refine evW_loop (fun k e => ∃ o : Nat, e.tm 0 = .bx 100000 0 0 ∧ e.gb 100000 = 1 ∧ e.bx 100000 0 0 = .val (.sl (ofBytes b)) ∧ e.bx 100000 0 1 = .val (.int .i64 n) ∧ e.bx 100000 0 2 = .val (.bool true) ∧ e.bx 100000 0 3 = .val (.int .u32 sm') ∧
              e.tm 2 = .cl 28 100002 0 ∧ e.gb 100002 = 1 ∧ e.bx 100002 0 0 = .val (.sl fs) ∧ e.bx 100002 0 1 = .val (.int .u64 q) ∧ e.bx 100002 0 2 = .val (.int .i64 c) ∧
              e.tm 4 = .bx 4 0 0 ∧ e.gb 4 = 1 ∧ e.bx 4 0 0 = .val (.sl (s.map fD)) ∧ e.tm 6 = .val (.int .i64 M) ∧ e.tm 7 = .val (.str last) ∧ e.tm 9 = .val (.int .i64 i) ∧ e.tm 10 = .val (.sl (ofBytes B)) ∧ e.tm 12 = .val (.sl (ofBytes B))) 0 ?_ ?_
            · refine ⟨0, g0, hg0, ?_, ?_, ?_, ?_, g2, hg2, ?_, ?_, ?_, g4, hg4, ?_, g6, g7, g9, rfl, rfl⟩
              all_goals simp only [↓S1, S2, S3, pureOp, fillD, ↓reduceIte, reduceCtorEq, Nat.reduceEqDiff, Nat.reduceAdd, Nat.reduceLeDiff, mdT, mrT, y0, y1, y2, b4]
            · clear g0 hg0 x0 x1 x2 x3 g2 hg2 y0 y1 y2 g4 hg4 b4 g6 g7 g8 g9
              rintro J' hJ' k e ⟨o, g0, hg0, x0, x1, x2, x3, g2, hg2, y0, y1, y2, g4, hg4, b4, g6, g7, g9, g10, g12⟩
              simp only [↓S1, S2, S3, pureOp, fillD, ↓reduceIte, reduceCtorEq, Nat.reduceEqDiff, Nat.reduceAdd, Nat.reduceLeDiff, mdT, mrT, g12, len_ofBytes]
              refine Br_dec (fun h2 => ?_) (fun h2 => ?_)
              all_goals
                simp only [↓S1, S2, S3, pureOp, fillD, ↓reduceIte, reduceCtorEq, Nat.reduceEqDiff, Nat.reduceAdd, Nat.reduceLeDiff, mdT, mrT, h2, g0, hg0, x2, g9, g10, hw, len_ofBytes]
                refine ⟨_, ?_, hJ _ _ ⟨i + 1, sm', B.length, c, true, last, rfl, by omega, by omega, hexl, hBl, by omega, g0, hg0, x0, x1, x2, x3, g2, hg2, y0, y1, y2, g4, hg4, b4, g6, g7, rfl, rfl, .inr ⟨rfl, hres⟩⟩⟩
                simp only [Bool.false_eq_true, if_true, if_false]; omega
          · rw [if_neg (by simp [hBn])] at hres
            have hz : (((B.length : Nat) : Int) = 0) = False := by simp [hBn]
            simp only [↓S1, S2, S3, pureOp, fillD, ↓reduceIte, reduceCtorEq, Nat.reduceEqDiff, Nat.reduceAdd, Nat.reduceLeDiff, mdT, mrT, hz, decide_false, g0, hg0, g2, hg2, g4, hg4, g6, g7, g8, g9]
            refine evW_loop (fun k e => ∃ (T last' : Str) (first : Bool) (c' m : Nat), k = T.length ∧ T.length ≤ m ∧ T.length ≤ B.length ∧ c' + T.length ≤ c + B.length ∧ e.tm 0 = .bx 100000 0 0 ∧ e.gb 100000 = 1 ∧ e.bx 100000 0 0 = .val (.sl (ofBytes b)) ∧ e.bx 100000 0 1 = .val (.int .i64 n) ∧ e.bx 100000 0 2 = .val (.bool false) ∧ e.bx 100000 0 3 = .val (.int .u32 sm') ∧
              e.tm 2 = .cl 28 100002 0 ∧ e.gb 100002 = 1 ∧ e.bx 100002 0 0 = .val (.sl fs) ∧ e.bx 100002 0 1 = .val (.int .u64 q) ∧ e.bx 100002 0 2 = .val (.int .i64 c') ∧
              e.tm 4 = .bx 4 0 0 ∧ e.gb 4 = 1 ∧ e.bx 4 0 0 = .val (.sl (s.map fD)) ∧ e.tm 6 = .val (.int .i64 M) ∧ e.tm 7 = .val (.str last') ∧ e.tm 8 = .val (.int .i64 bf) ∧ e.tm 9 = .val (.int .i64 i) ∧ e.tm 10 = .val (.sl (ofBytes B)) ∧ e.tm 11 = .val (.bool first) ∧ e.tm 12 = .val (.sl (ofBytes T)) ∧
              inP s M bf B.length B true last c = inP s M bf m T first last' c') B.length ?_ ?_
            · refine ⟨B, last, true, c, B.length, rfl, Nat.le_refl _, Nat.le_refl _, Nat.le_refl _, g0, hg0, ?_, ?_, ?_, ?_, g2, hg2, ?_, ?_, ?_, g4, hg4, ?_, g6, g7, g8, g9, rfl, rfl, rfl, rfl⟩
              all_goals simp only [↓S1, S2, S3, pureOp, fillD, ↓reduceIte, reduceCtorEq, Nat.reduceEqDiff, Nat.reduceAdd, Nat.reduceLeDiff, mdT, mrT, y0, y1, y2, b4]
            · clear g0 hg0 x0 x1 x2 x3 g2 hg2 y0 y1 y2 g4 hg4 b4 g6 g7 g8 g9
              rintro J' hJ' k e ⟨T, last', first, c', m, rfl, hTm, hTB, hcT, g0, hg0, x0, x1, x2, x3, g2, hg2, y0, y1, y2, g4, hg4, b4, g6, g7, g8, g9, g10, g11, g12, hinn⟩
              simp only [↓S1, S2, S3, pureOp, fillD, ↓reduceIte, reduceCtorEq, Nat.reduceEqDiff, Nat.reduceAdd, Nat.reduceLeDiff, mdT, mrT, g12, len_ofBytes]
              refine Br_dec (fun h2 => ?_) (fun h2 => ?_)
              · have hTn : T ≠ [] := by intro hh; rw [hh] at h2; simp at h2
                obtain ⟨m', rfl⟩ : ∃ m', m = m' + 1 := ⟨m - 1, by have := List.length_pos_iff.2 hTn; omega⟩
                rw [inP, if_neg hTn, stepP] at hinn
                have ht1 := text_ok T (by omega)
                rw [bD] at ht1
                have hl1 := textR_len T
                simp only [↓S1, S2, S3, pureOp, fillD, ↓reduceIte, reduceCtorEq, Nat.reduceEqDiff, Nat.reduceAdd, Nat.reduceLeDiff, mdT, mrT, h2, g0, hg0, x2, g12]
                refine callV ht1 rfl rfl ?_
                generalize textR T = A1 at *
                obtain ⟨key, rest, ok⟩ := A1
                dsimp only at ht1 hl1 hinn
                have ht2 := text_ok rest (by omega)
                rw [bD] at ht2
                have hl2 := textR_len rest
                simp only [↓S1, S2, S3, pureOp, fillD, ↓reduceIte, reduceCtorEq, Nat.reduceEqDiff, Nat.reduceAdd, Nat.reduceLeDiff, mdT, mrT, bD]
                refine callV ht2 rfl rfl ?_
                generalize textR rest = A2 at *
                obtain ⟨rcd, rest2, fine⟩ := A2
                dsimp only at ht2 hl2 hinn
                have hdec := decode_ok s rcd hsb (by omega)
                simp only [sD, bD] at hdec
                simp only [↓S1, S2, S3, pureOp, fillD, ↓reduceIte, reduceCtorEq, Nat.reduceEqDiff, Nat.reduceAdd, Nat.reduceLeDiff, mdT, mrT, bD, g4, hg4, b4]
                refine callV hdec rfl rfl ?_
                have hdecl : True := trivial
                generalize decP s rcd = A3 at *
                obtain ⟨vals, er⟩ := A3
                dsimp only at hdec hinn
                simp only [↓S1, S2, S3, pureOp, fillD, ↓reduceIte, reduceCtorEq, Nat.reduceEqDiff, Nat.reduceAdd, Nat.reduceLeDiff, mdT, mrT, vsD]
                have hkey : keyLe key last' = (Op.bytesLess key last' || decide (key = last')) := rfl
                have hck := checkKey_ok key
                have hsub : IntKind.i64.wrap ((bf : Int) + (T.length : Int)) = ((bf + T.length : Nat) : Int) := by rw [w64 (by omega)]; simp
                have hsub2 : IntKind.i64.wrap (((bf + T.length : Nat) : Int) - (rest2.length : Int)) = ((bf + T.length - rest2.length : Nat) : Int) := by rw [w64 (by omega)]; omega
                have failR : (ok = true ∧ fine = true ∧ er = 0 ∧ errK key = 0 ∧ keyLe key last' = false ∧ ¬ (first = true ∧ bf + T.length - rest2.length ≤ M)) = False → RES = (true, sm', c') := by
                  intro hh
                  rw [if_neg (by rw [hh]; exact id)] at hinn
                  rw [hinn] at hres
                  simpa using hres
                cases ok with
                | false =>
                  have hR : RES = (true, sm', c') := failR (by simp)
                  simp only [↓S1, S2, S3, pureOp, fillD, ↓reduceIte, reduceCtorEq, Nat.reduceEqDiff, Nat.reduceAdd, Nat.reduceLeDiff, mdT, mrT, g11, g0, hg0, x0, x1, x2, x3, y0, y1, y2, postF, retOk, hr, Env.ress, Env.resOf, Env.outsOk, hR]
                  exact ⟨wkU, ⟨_, rfl, wkL_refl _⟩, _, rfl, wkL_refl _⟩
                | true =>
                  cases fine with
                  | false =>
                    have hR : RES = (true, sm', c') := failR (by simp)
                    simp only [↓S1, S2, S3, pureOp, fillD, ↓reduceIte, reduceCtorEq, Nat.reduceEqDiff, Nat.reduceAdd, Nat.reduceLeDiff, mdT, mrT, g11, g0, hg0, x0, x1, x2, x3, y0, y1, y2, postF, retOk, hr, Env.ress, Env.resOf, Env.outsOk, hR]
                    exact ⟨wkU, ⟨_, rfl, wkL_refl _⟩, _, rfl, wkL_refl _⟩
                  | true =>
                    simp only [↓S1, S2, S3, pureOp, fillD, ↓reduceIte, reduceCtorEq, Nat.reduceEqDiff, Nat.reduceAdd, Nat.reduceLeDiff, mdT, mrT]
                    refine Br_dec (fun h3 => ?_) (fun h3 => ?_)
                    · simp only [↓S1, S2, S3, pureOp, fillD, ↓reduceIte, reduceCtorEq, Nat.reduceEqDiff, Nat.reduceAdd, Nat.reduceLeDiff, mdT, mrT, h3, convD, bytes_ofBytes]
                      refine callV hck rfl rfl ?_
                      simp only [↓S1, S2, S3, pureOp, fillD, ↓reduceIte, reduceCtorEq, Nat.reduceEqDiff, Nat.reduceAdd, Nat.reduceLeDiff, mdT, mrT, h3]
                      refine Br_dec (fun h4 => ?_) (fun h4 => ?_)
                      · have hkl : (Op.bytesLess key last' || decide (key = last')) = keyLe key last' := rfl
                        simp only [↓S1, S2, S3, pureOp, fillD, ↓reduceIte, reduceCtorEq, Nat.reduceEqDiff, Nat.reduceAdd, Nat.reduceLeDiff, mdT, mrT, h3, h4, convD, bytes_ofBytes, g7, strD, hkl]
                        cases hk : keyLe key last' with
                        | true =>
                          have hR : RES = (true, sm', c') := failR (by simp [hk])
                          simp only [↓S1, S2, S3, pureOp, fillD, ↓reduceIte, reduceCtorEq, Nat.reduceEqDiff, Nat.reduceAdd, Nat.reduceLeDiff, mdT, mrT, h3, h4, g0, hg0, x0, x1, x2, x3, y0, y1, y2, postF, retOk, hr, Env.ress, Env.resOf, Env.outsOk, hR]
                          exact ⟨wkU, ⟨_, rfl, wkL_refl _⟩, _, rfl, wkL_refl _⟩
                        | false =>
                          simp only [↓S1, S2, S3, pureOp, fillD, ↓reduceIte, reduceCtorEq, Nat.reduceEqDiff, Nat.reduceAdd, Nat.reduceLeDiff, mdT, mrT, h3, h4, g11]
                          cases first with
                          | true =>
                            simp only [↓S1, S2, S3, pureOp, fillD, ↓reduceIte, reduceCtorEq, Nat.reduceEqDiff, Nat.reduceAdd, Nat.reduceLeDiff, mdT, mrT, h3, h4, g6, g8, g11, g12, len_ofBytes, hsub, hsub2]
                            refine Br_dec (fun h5 => ?_) (fun h5 => ?_)
                            · have h5' : bf + T.length - rest2.length ≤ M := by omega
                              have hR : RES = (true, sm', c') := failR (by simp [h5'])
                              simp only [↓S1, S2, S3, pureOp, fillD, ↓reduceIte, reduceCtorEq, Nat.reduceEqDiff, Nat.reduceAdd, Nat.reduceLeDiff, mdT, mrT, h3, h4, h5, g0, hg0, x0, x1, x2, x3, y0, y1, y2, postF, retOk, hr, Env.ress, Env.resOf, Env.outsOk, hR]
                              exact ⟨wkU, ⟨_, rfl, wkL_refl _⟩, _, rfl, wkL_refl _⟩
                            · have h5' : ¬ (bf + T.length - rest2.length ≤ M) := by omega
                              have hS : inP s M bf B.length B true last c = inP s M bf m' rest2 false key (c' + 1) := by
                                rw [hinn, if_pos]
                                refine ⟨rfl, rfl, h3, h4, hk, ?_⟩
                                intro hh; exact h5' hh.2
                              have hl1' := hl1.2.2 rfl
                              have hcnt := count_ok key (vals.map vD) fs q c' (by omega)
                              simp only [↓S1, S2, S3, pureOp, fillD, ↓reduceIte, reduceCtorEq, Nat.reduceEqDiff, Nat.reduceAdd, Nat.reduceLeDiff, mdT, mrT, h3, h4, h5, g0, hg0, x0, x1, x2, x3, y0, y1, y2, g2, hg2, g6, g7, g8, g9, g10, g11, g12, convD, bytes_ofBytes]
                              refine callP28 hcnt ?_
                              simp only [↓S1, S2, S3, pureOp, fillD, ↓reduceIte, reduceCtorEq, Nat.reduceEqDiff, Nat.reduceAdd, Nat.reduceLeDiff, mdT, mrT, g0, hg0, g2, hg2]
                              refine ⟨_, ?_, hJ' _ _ ⟨rest2, key, false, c' + 1, m', rfl, by omega, by omega, by omega, g0, hg0, ?_, ?_, ?_, ?_, g2, hg2, ?_, ?_, ?_, g4, hg4, ?_, g6, rfl, g8, g9, g10, rfl, rfl, hS⟩⟩
                              · omega
                              all_goals simp only [↓S1, S2, S3, pureOp, fillD, ↓reduceIte, reduceCtorEq, Nat.reduceEqDiff, Nat.reduceAdd, Nat.reduceLeDiff, mdT, mrT, x0, x1, x2, x3, y0, y1, y2, b4]
                          | false =>
                            have hS : inP s M bf B.length B true last c = inP s M bf m' rest2 false key (c' + 1) := by
                              rw [hinn, if_pos]
                              refine ⟨rfl, rfl, h3, h4, hk, ?_⟩
                              intro hh; cases hh.1
                            have hl1' := hl1.2.2 rfl
                            have hcnt := count_ok key (vals.map vD) fs q c' (by omega)
                            simp only [↓S1, S2, S3, pureOp, fillD, ↓reduceIte, reduceCtorEq, Nat.reduceEqDiff, Nat.reduceAdd, Nat.reduceLeDiff, mdT, mrT, h3, h4, g0, hg0, x0, x1, x2, x3, y0, y1, y2, g2, hg2, g6, g7, g8, g9, g10, g11, g12, convD, bytes_ofBytes]
                            refine callP28 hcnt ?_
                            simp only [↓S1, S2, S3, pureOp, fillD, ↓reduceIte, reduceCtorEq, Nat.reduceEqDiff, Nat.reduceAdd, Nat.reduceLeDiff, mdT, mrT, g0, hg0, g2, hg2]
                            refine ⟨_, ?_, hJ' _ _ ⟨rest2, key, false, c' + 1, m', rfl, by omega, by omega, by omega, g0, hg0, ?_, ?_, ?_, ?_, g2, hg2, ?_, ?_, ?_, g4, hg4, ?_, g6, rfl, g8, g9, g10, rfl, rfl, hS⟩⟩
                            · omega
                            all_goals simp only [↓S1, S2, S3, pureOp, fillD, ↓reduceIte, reduceCtorEq, Nat.reduceEqDiff, Nat.reduceAdd, Nat.reduceLeDiff, mdT, mrT, x0, x1, x2, x3, y0, y1, y2, b4]
                      ·
                        have hR : RES = (true, sm', c') := failR (by simp [h4])
                        simp only [↓S1, S2, S3, pureOp, fillD, ↓reduceIte, reduceCtorEq, Nat.reduceEqDiff, Nat.reduceAdd, Nat.reduceLeDiff, mdT, mrT, h3, h4, g0, hg0, x0, x1, x2, x3, y0, y1, y2, postF, retOk, hr, Env.ress, Env.resOf, Env.outsOk, hR]
                        exact ⟨wkU, ⟨_, rfl, wkL_refl _⟩, _, rfl, wkL_refl _⟩
                    ·
                      have hR : RES = (true, sm', c') := failR (by simp [h3])
                      simp only [↓S1, S2, S3, pureOp, fillD, ↓reduceIte, reduceCtorEq, Nat.reduceEqDiff, Nat.reduceAdd, Nat.reduceLeDiff, mdT, mrT, h3, g0, hg0, x0, x1, x2, x3, y0, y1, y2, postF, retOk, hr, Env.ress, Env.resOf, Env.outsOk, hR]
                      exact ⟨wkU, ⟨_, rfl, wkL_refl _⟩, _, rfl, wkL_refl _⟩
              · have hTn : T = [] := by cases T with | nil => rfl | cons x y => exact absurd (show (0 : Int) < ((x :: y).length : Nat) by simp) h2
                have hinn2 : inP s M bf B.length B true last c = (false, last', c') := by
                  rw [hinn, hTn]; cases m <;> simp [inP]
                rw [hinn2] at hres
                simp only [Bool.false_eq_true, if_false] at hres
                simp only [↓S1, S2, S3, pureOp, fillD, ↓reduceIte, reduceCtorEq, Nat.reduceEqDiff, Nat.reduceAdd, Nat.reduceLeDiff, mdT, mrT, h2, g0, hg0, x2, g9, g10, hw, len_ofBytes]
                refine ⟨_, ?_, hJ _ _ ⟨i + 1, sm', B.length, c', false, last', rfl, by omega, by omega, hexl, hBl, by omega, g0, hg0, x0, x1, x2, x3, g2, hg2, y0, y1, y2, g4, hg4, b4, g6, g7, rfl, rfl, .inl ⟨rfl, by rw [hk2]; exact hres⟩⟩⟩
                simp only [Bool.false_eq_true, if_false]; omega
    · have hres : RES = (bad, sm, c) := by
        rcases hor with ⟨rfl, hh⟩ | ⟨rfl, hh⟩
        · rw [hh, show N - 1 - i = 0 by omega, outP]
        · exact hh
      simp only [↓S1, S2, S3, pureOp, fillD, ↓reduceIte, reduceCtorEq, Nat.reduceEqDiff, Nat.reduceAdd, Nat.reduceLeDiff, mdT, mrT, h, g0, hg0, x0, x1, x2, x3, y0, y1, y2, postF, retOk, hr, Env.ress, Env.resOf, Env.outsOk, hres]
      exact ⟨wkU, ⟨_, rfl, wkL_refl _⟩, _, rfl, wkL_refl _⟩
end Go.Proofs.YtebkaacflocfcaaDoor.Ab

/- Walks: a dump is opened in the program. -/
namespace Go.Proofs.YtebkaacflocfcaaDoor.Ab
open Go
set_option maxRecDepth 100000
set_option linter.unusedSimpArgs false
set_option linter.unusedVariables false

theorem inP_cnt (s : List Fld) (room bf : Nat) : ∀ (m : Nat) (b : Str) (first : Bool) (last : Str) (c : Nat), (inP s room bf m b first last c).2.2 ≤ c + m := by
  intro m
  induction m with
  | zero => intro b first last c; simp [inP]
  | succ m ih =>
    intro b first last c
    rw [inP]
    split
    · simp
    · split
      · simp
      · have := ih (by assumption : Str × Str).2 false (by assumption : Str × Str).1 (c + 1)
        rename_i q _
        have := ih q.2 false q.1 (c + 1)
        omega
theorem outP_B (s : List Fld) (b : Str) (n room : Nat) (hn : n ≤ 8192) : ∀ (k i sum : Nat) (last : Str) (bf c : Nat), sum < 4294967296 → (outP s b n room k i sum last bf c).2.1 < 4294967296 ∧ (outP s b n room k i sum last bf c).2.2 ≤ c + k * 8192 := by
  intro k
  induction k with
  | zero => intro i sum last bf c hs; simp [outP]; exact hs
  | succ k ih =>
    intro i sum last bf c hs
    have h1 := extN_lt sum (openP (blk b n i)).1.body
    have h2 := openP_body (blk b n i)
    have h3 := blk_len b n i
    have h4 := inP_cnt s room bf (openP (blk b n i)).1.body.length (openP (blk b n i)).1.body true last c
    rw [outP]
    split
    · exact ⟨h1, by dsimp only; omega⟩
    · split
      · exact ⟨h1, by dsimp only; omega⟩
      · have := ih (i + 1) (extN sum (openP (blk b n i)).1.body) (inP s room bf (openP (blk b n i)).1.body.length (openP (blk b n i)).1.body true last c).2.1
          (openP (blk b n i)).1.body.length (inP s room bf (openP (blk b n i)).1.body.length (openP (blk b n i)).1.body true last c).2.2 h1
        refine ⟨this.1, ?_⟩
        have := this.2
        omega
/-- the tail's body, as it is wanted -/
def wantP (cnt sum : Nat) : Str := low cnt 8 ++ low sum 4
/-- a dump is opened: what it holds, whether it is bad, its sum -/
def openI (b : Str) (n : Nat) : (List Fld × Nat × Nat) × Bool × Nat :=
  if b.length / n < 2 ∨ 0 < b.length % n then (([], 0, 0), true, 0)
  else if frmBad b n 0 72 = true ∨ (openP (blk b n 0)).1.body.length < 8 then (([], 0, 0), true, extN 0 (openP (blk b n 0)).1.body)
  else if (parseR ((openP (blk b n 0)).1.body.drop 8)).2 ≠ 0 then (([], num ((openP (blk b n 0)).1.body.take 8), 0), true, extN 0 (openP (blk b n 0)).1.body)
  else
    let o := outP (parseR ((openP (blk b n 0)).1.body.drop 8)).1 b n (n - 15) (b.length / n - 2) 1 (extN 0 (openP (blk b n 0)).1.body) [] (n - 15) 0
    (((parseR ((openP (blk b n 0)).1.body.drop 8)).1, num ((openP (blk b n 0)).1.body.take 8), o.2.2),
      (o.1 || frmBad b n (b.length / n - 1) 90) || decide ((openP (blk b n (b.length / n - 1))).1.body ≠ wantP o.2.2 o.2.1), extN o.2.1 (openP (blk b n (b.length / n - 1))).1.body)
theorem callP27 {x : AV} {zs : List A} {e : Env} {K : Env → Prop} {t b g f b' g' : Nat} {r d0 d1 d2 d3 e0 e1 e2 : D} (hne : b ≠ b') (h : ACalls Γ 27 zs ⟨r, [[d0, d1, d2, d3], [e0, e1, e2]]⟩)
    (hk : K (((((((((e.forget b g).forget b' g').setB b g 0 (.val d0)).setB b g 1 (.val d1)).setB b g 2 (.val d2)).setB b g 3 (.val d3)).setB b' g' 0 (.val e0)).setB b' g' 1 (.val e1)).setB b' g' 2 (.val e2) |>.setT t (.val r))) :
    evCallA Γ (some t) 27 [.bx b g 0, x, .cl f b' g'] zs e K := by
  refine evCallA_mk _ h ?_ ?_
  · rw [Γmd]; simp [mdT, argIds, hne]
  · rw [Γmr, Γmd]
    simp only [mrT, mdT]
    have : e.after [.p 4, .v, .p 3] [.bx b g 0, x, .cl f b' g'] [[d0, d1, d2, d3], [e0, e1, e2]] = ((((((((e.forget b g).forget b' g').setB b g 0 (.val d0)).setB b g 1 (.val d1)).setB b g 2 (.val d2)).setB b g 3 (.val d3)).setB b' g' 0 (.val e0)).setB b' g' 1 (.val e1)).setB b' g' 2 (.val e2) := by
      simp [Env.after, Env.strip, Env.fillIn, Env.putCells]
    rw [this]
    exact hk
theorem u8or {x c : Nat} (hc : c < 256) : x * 256 ||| c = x * 256 + c := by
  have := or_add c x 1 (by simpa using hc)
  rw [Nat.or_comm]
  simp only [Nat.pow_one] at this
  rw [this]; omega
set_option maxHeartbeats 2000000 in
theorem open15_ok (b : Str) (n : Nat) (hb : b.length ≤ 1100000) (hn : 160 ≤ n ∧ n ≤ 8192) :
    ACalls Γ 15 [.p none (rdrD b n false 0)] ⟨infoD (openI b n).1.1 (openI b n).1.2.1 (openI b n).1.2.2, [rdrD b n (openI b n).2.1 (openI b n).2.2]⟩ := by
  refine acalls_of Tryd.func15 rfl rfl (by kernel_rfl) ?_
  have hr : Tryd.f15.results.toList = [.cell 2 29] := rfl
  have hn0 : ((n : Int) = 0) = False := by simp only [eq_iff_iff, iff_false]; omega
  obtain ⟨N, hN⟩ : ∃ N, N = b.length / n := ⟨_, rfl⟩
  obtain ⟨R, hR⟩ : ∃ R, R = b.length % n := ⟨_, rfl⟩
  have q1 : ((b.length : Nat) : Int).tdiv (n : Int) = (N : Int) := by rw [hN, Int.ofNat_tdiv]
  have q1' : ((b.length : Nat) : Int).tmod (n : Int) = (R : Int) := by rw [hR, Int.ofNat_tmod]
  have hNl : N ≤ b.length := by rw [hN]; exact Nat.div_le_self _ _
  have hNn : N * n ≤ b.length := by rw [hN]; exact Nat.div_mul_le_self _ _
  have q2 : IntKind.i64.wrap (N : Int) = (N : Int) := w64 (by omega)
  have i0 : (Env.init [A.p none [D.sl (ofBytes b), .int .i64 n, .bool false, .int .u32 ((0 : Nat) : Int)]]).bx 100000 0 0 = .val (.sl (ofBytes b)) := rfl
  have i1 : (Env.init [A.p none [D.sl (ofBytes b), .int .i64 n, .bool false, .int .u32 ((0 : Nat) : Int)]]).bx 100000 0 1 = .val (.int .i64 n) := rfl
  have i2 : (Env.init [A.p none [D.sl (ofBytes b), .int .i64 n, .bool false, .int .u32 ((0 : Nat) : Int)]]).bx 100000 0 2 = .val (.bool false) := rfl
  have i3 : (Env.init [A.p none [D.sl (ofBytes b), .int .i64 n, .bool false, .int .u32 ((0 : Nat) : Int)]]).bx 100000 0 3 = .val (.int .u32 ((0 : Nat) : Int)) := rfl
  have i4 : (Env.init [A.p none [D.sl (ofBytes b), .int .i64 n, .bool false, .int .u32 ((0 : Nat) : Int)]]).gb 100000 = 1 := rfl
  simp only [↓S1, S2, S3, pureOp, fillD, ↓reduceIte, reduceCtorEq, Nat.reduceEqDiff, Nat.reduceAdd, Nat.reduceLeDiff, mdT, mrT, rdrD, i0, i1, i2, i3, i4, len_ofBytes, hn0, q1, q2]
  refine Br_dec (fun h1 => ?_) (fun h1 => ?_)
  · have hd : openI b n = (([], 0, 0), true, 0) := by unfold openI; rw [if_pos (.inl (by rw [← hN]; omega))]
    simp only [↓S1, S2, S3, pureOp, fillD, ↓reduceIte, reduceCtorEq, Nat.reduceEqDiff, Nat.reduceAdd, Nat.reduceLeDiff, mdT, mrT, h1, i0, i1, i2, i3, i4, postF, retOk, hr, Env.ress, Env.resOf, Env.outsOk, hd, infoD]
    exact ⟨.refl _, _, rfl, wkL_refl _⟩
  · simp only [↓S1, S2, S3, pureOp, fillD, ↓reduceIte, reduceCtorEq, Nat.reduceEqDiff, Nat.reduceAdd, Nat.reduceLeDiff, mdT, mrT, h1, i0, i1, i2, i3, i4, len_ofBytes, hn0, q1']
    refine Br_dec (fun h2 => ?_) (fun h2 => ?_)
    · have hd : openI b n = (([], 0, 0), true, 0) := by unfold openI; rw [if_pos (.inr (by rw [← hR]; omega))]
      simp only [↓S1, S2, S3, pureOp, fillD, ↓reduceIte, reduceCtorEq, Nat.reduceEqDiff, Nat.reduceAdd, Nat.reduceLeDiff, mdT, mrT, h1, h2, i0, i1, i2, i3, i4, postF, retOk, hr, Env.ress, Env.resOf, Env.outsOk, hd, infoD]
      exact ⟨.refl _, _, rfl, wkL_refl _⟩
    · have h2n : 1 * n ≤ N * n := Nat.mul_le_mul_right _ (by omega)
      have hoI : openI b n = if frmBad b n 0 72 = true ∨ (openP (blk b n 0)).1.body.length < 8 then (([], 0, 0), true, extN 0 (openP (blk b n 0)).1.body)
          else if (parseR ((openP (blk b n 0)).1.body.drop 8)).2 ≠ 0 then (([], num ((openP (blk b n 0)).1.body.take 8), 0), true, extN 0 (openP (blk b n 0)).1.body)
          else
            let o := outP (parseR ((openP (blk b n 0)).1.body.drop 8)).1 b n (n - 15) (N - 2) 1 (extN 0 (openP (blk b n 0)).1.body) [] (n - 15) 0
            (((parseR ((openP (blk b n 0)).1.body.drop 8)).1, num ((openP (blk b n 0)).1.body.take 8), o.2.2),
              (o.1 || frmBad b n (N - 1) 90) || decide ((openP (blk b n (N - 1))).1.body ≠ wantP o.2.2 o.2.1), extN o.2.1 (openP (blk b n (N - 1))).1.body) := by
        unfold openI; rw [if_neg (by rw [← hN, ← hR]; omega), ← hN]
      have hf := frame25_ok b n 0 false 0 72 hb hn.2 (by omega) (by omega) (by omega)
      simp only [rdrD, Bool.false_or] at hf
      have hFb := openP_body (blk b n 0)
      have hbl := blk_len b n 0
      simp only [↓S1, S2, S3, pureOp, fillD, ↓reduceIte, reduceCtorEq, Nat.reduceEqDiff, Nat.reduceAdd, Nat.reduceLeDiff, mdT, mrT, h1, h2, i0, i1, i2, i3, i4]
      refine callP25 hf ?_
      have hxl := extN_lt 0 (openP (blk b n 0)).1.body
      generalize extN 0 (openP (blk b n 0)).1.body = sm at *
      generalize frmBad b n 0 72 = fb at *
      generalize (openP (blk b n 0)).1.body = H at *
      simp only [↓S1, S2, S3, pureOp, fillD, ↓reduceIte, reduceCtorEq, Nat.reduceEqDiff, Nat.reduceAdd, Nat.reduceLeDiff, mdT, mrT, bD, i4]
      cases fb with
      | true =>
        rw [if_pos (.inl rfl)] at hoI
        simp only [↓S1, S2, S3, pureOp, fillD, ↓reduceIte, reduceCtorEq, Nat.reduceEqDiff, Nat.reduceAdd, Nat.reduceLeDiff, mdT, mrT, i4, postF, retOk, hr, Env.ress, Env.resOf, Env.outsOk, hoI, infoD]
        exact ⟨.refl _, _, rfl, wkL_refl _⟩
      | false =>
        simp only [↓S1, S2, S3, pureOp, fillD, ↓reduceIte, reduceCtorEq, Nat.reduceEqDiff, Nat.reduceAdd, Nat.reduceLeDiff, mdT, mrT, len_ofBytes]
        refine Br_dec (fun h3 => ?_) (fun h3 => ?_)
        · rw [if_pos (.inr (by omega))] at hoI
          simp only [↓S1, S2, S3, pureOp, fillD, ↓reduceIte, reduceCtorEq, Nat.reduceEqDiff, Nat.reduceAdd, Nat.reduceLeDiff, mdT, mrT, h3, i4, postF, retOk, hr, Env.ress, Env.resOf, Env.outsOk, hoI, infoD]
          exact ⟨.refl _, _, rfl, wkL_refl _⟩
        · rw [if_neg (by simp; omega)] at hoI
          simp only [↓S1, S2, S3, pureOp, fillD, ↓reduceIte, reduceCtorEq, Nat.reduceEqDiff, Nat.reduceAdd, Nat.reduceLeDiff, mdT, mrT, h3]
          refine evW_loop (fun k e => ∃ (j g' : Nat), k = j ∧ j ≤ 8 ∧ e.tm 0 = .bx 100000 0 0 ∧ e.gb 100000 = 1 ∧ e.bx 100000 0 0 = .val (.sl (ofBytes b)) ∧ e.bx 100000 0 1 = .val (.int .i64 n) ∧ e.bx 100000 0 2 = .val (.bool false) ∧ e.bx 100000 0 3 = .val (.int .u32 sm) ∧
            e.tm 2 = .bx 2 0 0 ∧ e.gb 2 = 1 ∧ e.bx 2 0 0 = .own 2 1 g' (.sl []) ∧ e.bx 2 0 1 = .val (.int .u64 (num ((H.take 8).drop j))) ∧ e.bx 2 0 2 = .val (.int .i64 0) ∧ e.tm 3 = .val (.int .i64 N) ∧ e.tm 4 = .val (.sl (ofBytes H)) ∧ e.tm 5 = .val (.int .i64 ((j : Int) - 1)) ∧ e.gb 6 = 0) 8 ?_ ?_
          · refine ⟨8, _, rfl, Nat.le_refl _, rfl, i4, ?_, ?_, ?_, ?_, rfl, rfl, rfl, ?_, rfl, rfl, rfl, rfl, rfl⟩
            · simp only [↓S1, S2, S3, pureOp, fillD, ↓reduceIte, reduceCtorEq, Nat.reduceEqDiff, Nat.reduceAdd, Nat.reduceLeDiff, mdT, mrT]
            · simp only [↓S1, S2, S3, pureOp, fillD, ↓reduceIte, reduceCtorEq, Nat.reduceEqDiff, Nat.reduceAdd, Nat.reduceLeDiff, mdT, mrT]
            · simp only [↓S1, S2, S3, pureOp, fillD, ↓reduceIte, reduceCtorEq, Nat.reduceEqDiff, Nat.reduceAdd, Nat.reduceLeDiff, mdT, mrT]
            · simp only [↓S1, S2, S3, pureOp, fillD, ↓reduceIte, reduceCtorEq, Nat.reduceEqDiff, Nat.reduceAdd, Nat.reduceLeDiff, mdT, mrT]
            · rw [List.drop_eq_nil_of_le (by simp; omega)]; rfl
          · rintro J hJ k e ⟨j, g', rfl, hj, g0, hg0, x0, x1, x2, x3, g2, hg2, y0, y1, y2, g3, g4, g5, hg6⟩
            simp only [↓S1, S2, S3, pureOp, fillD, ↓reduceIte, reduceCtorEq, Nat.reduceEqDiff, Nat.reduceAdd, Nat.reduceLeDiff, mdT, mrT, g5]
            refine Br_dec (fun h4 => ?_) (fun h4 => ?_)
            · obtain ⟨i, rfl⟩ : ∃ i, k = i + 1 := ⟨k - 1, by omega⟩
              obtain ⟨c, hc⟩ : ∃ c, H[i]? = some c := ⟨_, List.getElem?_eq_getElem (show i < H.length by omega)⟩
              have hcl := c.toNat_lt
              have hcT : (H.take 8)[i]? = some c := by rw [List.getElem?_take_of_lt (by omega)]; exact hc
              have hdn := drop_num hcT
              have hi1 : (((i + 1 : Nat) : Int) - 1) = (i : Int) := by omega
              have hw : IntKind.i64.wrap ((i : Int) - 1) = (i : Int) - 1 := w64 (by omega)
              obtain ⟨x, hx⟩ : ∃ x, x = num ((H.take 8).drop (i + 1)) := ⟨_, rfl⟩
              have hxl : x < 256 ^ 7 := by
                rw [hx]
                have h1 := num_lt ((H.take 8).drop (i + 1))
                have h2 : ((H.take 8).drop (i + 1)).length ≤ 7 := by simp; omega
                exact Nat.lt_of_lt_of_le h1 (Nat.pow_le_pow_right (by omega) h2)
              have hp7 : (256 : Nat) ^ 7 = 72057594037927936 := by decide
              rw [← hx] at hdn y1
              have t1 : min (Int.toNat 8) IntKind.u64.bits = 8 := rfl
              have t2 : ((x : Nat) : Int) * 2 ^ 8 = ((x * 256 : Nat) : Int) := by simp
              have t3 : IntKind.u64.wrap ((x * 256 : Nat) : Int) = ((x * 256 : Nat) : Int) := wrapU rfl (show x * 256 < 2 ^ 64 by omega)
              have t4 : IntKind.u64.wrap (c.toNat : Int) = (c.toNat : Int) := wrapU rfl (show c.toNat < 2 ^ 64 by omega)
              have t5 : bitsD .or .u64 ((x * 256 : Nat) : Int) (c.toNat : Int) = some ((num ((H.take 8).drop i) : Nat) : Int) := by
                rw [orU (k := .u64) rfl _ _ rfl rfl (show x * 256 < 2 ^ 64 by omega) (show c.toNat < 2 ^ 64 by omega), u8or (by omega), ← hdn]
              simp only [↓S1, S2, S3, pureOp, fillD, ↓reduceIte, reduceCtorEq, Nat.reduceEqDiff, Nat.reduceAdd, Nat.reduceLeDiff, mdT, mrT, g0, g2, hg2, y1, g4, g5, hi1, Int.reduceLT, t1, t2, t3, t4, t5, atI_nat, get_ofBytes, hc, convD, hw]
              refine ⟨_, ?_, hJ _ _ ⟨i, g', rfl, by omega, g0, hg0, x0, x1, x2, x3, g2, hg2, ?_, ?_, ?_, g3, g4, rfl, hg6⟩⟩
              · omega
              · simp only [↓S1, S2, S3, pureOp, fillD, ↓reduceIte, reduceCtorEq, Nat.reduceEqDiff, Nat.reduceAdd, Nat.reduceLeDiff, mdT, mrT, y0]
              · simp only [↓S1, S2, S3, pureOp, fillD, ↓reduceIte, reduceCtorEq, Nat.reduceEqDiff, Nat.reduceAdd, Nat.reduceLeDiff, mdT, mrT]
              · simp only [↓S1, S2, S3, pureOp, fillD, ↓reduceIte, reduceCtorEq, Nat.reduceEqDiff, Nat.reduceAdd, Nat.reduceLeDiff, mdT, mrT, y2]
            · have hk0 : k = 0 := by omega
              subst hk0
              rw [List.drop_zero] at y1
              have hp := parseSchema_ok (H.drop 8) (by simp; omega)
              have hsb := parseR_B (H.drop 8)
              have hcut2 : cutL (ofBytes H) (some 8) (some (H.length : Int)) = some (ofBytes (H.drop 8)) := by
                have := cut_nat (ofBytes H) (show 8 ≤ H.length by omega) (by rw [len_ofBytes]; omega)
                rw [cut_ofBytes, List.take_of_length_le (Nat.le_refl _)] at this
                exact this
              generalize parseR (H.drop 8) = p at *
              obtain ⟨s, E2⟩ := p
              dsimp only at hoI hp hsb
              have hq64 : num (H.take 8) < 18446744073709551616 := num_lt8 (Nat.le_refl _)
              generalize num (H.take 8) = sq at *
              simp only [↓S1, S2, S3, pureOp, fillD, ↓reduceIte, reduceCtorEq, Nat.reduceEqDiff, Nat.reduceAdd, Nat.reduceLeDiff, mdT, mrT, g5, h4, g4, boundD, row_ofBytes, len_ofBytes, hcut2, convD, bytes_ofBytes]
              refine callV hp rfl rfl ?_
              simp only [↓S1, S2, S3, pureOp, fillD, ↓reduceIte, reduceCtorEq, Nat.reduceEqDiff, Nat.reduceAdd, Nat.reduceLeDiff, mdT, mrT, sD, hg6]
              refine Br_dec (fun h5 => ?_) (fun h5 => ?_)
              · rw [if_neg (by simpa using h5)] at hoI
                have hent := entries27_ok b n sm s (s.map fD) sq hb hn hxl hsb
                rw [← hN] at hent
                obtain ⟨o1, o2⟩ := outP_B s b n (n - 15) hn.2 (N - 2) 1 sm [] (n - 15) 0 hxl
                generalize outP s b n (n - 15) (N - 2) 1 sm [] (n - 15) 0 = o at *
                obtain ⟨bad2, sm2, cnt⟩ := o
                dsimp only at hoI hent o1 o2
                simp only [rdrD, sD] at hent
                simp only [↓S1, S2, S3, pureOp, fillD, ↓reduceIte, reduceCtorEq, Nat.reduceEqDiff, Nat.reduceAdd, Nat.reduceLeDiff, mdT, mrT, h5, hg6, g0, hg0, x0, x1, x2, x3, g2, hg2, y0, y1, y2]
                refine callP27 (by decide) hent ?_
                have t1 : IntKind.u64.wrap (cnt : Int) = (cnt : Int) := wu64 (by omega)
                have t2 : IntKind.u64.wrap (sm2 : Int) = (sm2 : Int) := wu64 (by omega)
                have hnum1 := number_ok cnt 8 (by omega) (by omega)
                have hnum2 := number_ok sm2 4 (by omega) (by omega)
                simp only [u64] at hnum1 hnum2
                simp only [↓S1, S2, S3, pureOp, fillD, ↓reduceIte, reduceCtorEq, Nat.reduceEqDiff, Nat.reduceAdd, Nat.reduceLeDiff, mdT, mrT, g0, hg0, g2, hg2, convD, t1]
                refine callO hnum1 rfl rfl ?_
                simp only [↓S1, S2, S3, pureOp, fillD, ↓reduceIte, reduceCtorEq, Nat.reduceEqDiff, Nat.reduceAdd, Nat.reduceLeDiff, mdT, mrT, g0, hg0, g2, hg2, convD, t2]
                refine callO hnum2 rfl rfl ?_
                have hNN : N - 1 + 1 = N := by omega
                have hf2 := frame25_ok b n (N - 1) bad2 sm2 90 hb hn.2 (by rw [hNN]; exact hNn) (by omega) o1
                simp only [rdrD] at hf2
                have hn1 : IntKind.i64.wrap ((N : Int) - 1) = ((N - 1 : Nat) : Int) := by rw [w64 (by omega)]; omega
                simp only [↓S1, S2, S3, pureOp, fillD, ↓reduceIte, reduceCtorEq, Nat.reduceEqDiff, Nat.reduceAdd, Nat.reduceLeDiff, mdT, mrT, bD, g0, hg0, g2, hg2, g3, hn1, row_ofBytes, len_ofBytes, low_len, add_ofBytes]
                refine ⟨by simp only [roomy]; omega, callP25 hf2 ?_⟩
                generalize (openP (blk b n (N - 1))).1.body = T at *
                generalize frmBad b n (N - 1) 90 = fb3 at *
                have hwant : low cnt 8 ++ low sm2 4 = wantP cnt sm2 := rfl
                simp only [↓S1, S2, S3, pureOp, fillD, ↓reduceIte, reduceCtorEq, Nat.reduceEqDiff, Nat.reduceAdd, Nat.reduceLeDiff, mdT, mrT, bD, g0, hg0, g2, hg2, convD, bytes_ofBytes, strD, hwant]
                refine Br_dec (fun h6 => ?_) (fun h6 => ?_)
                · have hdec : decide (T ≠ wantP cnt sm2) = false := by simp [h6]
                  rw [hdec, Bool.or_false] at hoI
                  simp only [↓S1, S2, S3, pureOp, fillD, ↓reduceIte, reduceCtorEq, Nat.reduceEqDiff, Nat.reduceAdd, Nat.reduceLeDiff, mdT, mrT, h6, g0, hg0, g2, hg2, postF, retOk, hr, Env.ress, Env.resOf, Env.outsOk, hoI, infoD]
                  exact ⟨.refl _, _, rfl, wkL_refl _⟩
                · have hdec : decide (T ≠ wantP cnt sm2) = true := by simp [h6]
                  rw [hdec, Bool.or_true] at hoI
                  simp only [↓S1, S2, S3, pureOp, fillD, ↓reduceIte, reduceCtorEq, Nat.reduceEqDiff, Nat.reduceAdd, Nat.reduceLeDiff, mdT, mrT, h6, g0, hg0, g2, hg2, postF, retOk, hr, Env.ress, Env.resOf, Env.outsOk, hoI, infoD]
                  exact ⟨.refl _, _, rfl, wkL_refl _⟩
              · rw [if_pos (by simpa using h5)] at hoI
                simp only [↓S1, S2, S3, pureOp, fillD, ↓reduceIte, reduceCtorEq, Nat.reduceEqDiff, Nat.reduceAdd, Nat.reduceLeDiff, mdT, mrT, h5, g0, hg0, x0, x1, x2, x3, g2, hg2, y0, y1, y2, postF, retOk, hr, Env.ress, Env.resOf, Env.outsOk, hoI, infoD]
                exact ⟨.refl _, _, rfl, wkL_refl _⟩
end Go.Proofs.YtebkaacflocfcaaDoor.Ab

/- Walks: Check in the program, and the law DumpChecks, given that both Checks tell the same. -/
namespace Go.Proofs.YtebkaacflocfcaaDoor.Ab
open Go
set_option maxRecDepth 100000
set_option linter.unusedSimpArgs false
set_option linter.unusedVariables false

def checkPR (b : Str) (n : Int) : (List Fld × Nat × Nat) × Int :=
  if 160 ≤ n ∧ n ≤ 8192 then (if (openI b n.toNat).2.1 = true then (([], 0, 0), 220) else ((openI b n.toNat).1, 0)) else (([], 0, 0), 1)
theorem callP15 {zs : List A} {e : Env} {K : Env → Prop} {t b g : Nat} {r d0 d1 d2 d3 : D} (h : ACalls Γ 15 zs ⟨r, [[d0, d1, d2, d3]]⟩)
    (hk : K ((((((e.forget b g).setB b g 0 (.val d0)).setB b g 1 (.val d1)).setB b g 2 (.val d2)).setB b g 3 (.val d3)).setT t (.val r))) : evCallA Γ (some t) 15 [.bx b g 0] zs e K := by
  refine evCallA_mk _ h ?_ ?_
  · rw [Γmd]; simp [mdT, argIds]
  · rw [Γmr, Γmd]
    simp only [mrT, mdT]
    have : e.after [.p 4] [.bx b g 0] [[d0, d1, d2, d3]] = ((((e.forget b g).setB b g 0 (.val d0)).setB b g 1 (.val d1)).setB b g 2 (.val d2)).setB b g 3 (.val d3) := by simp [Env.after, Env.strip, Env.fillIn, Env.putCells]
    rw [this]
    exact hk
theorem check6p_ok (b : Str) (n : Int) (hb : b.length ≤ 1100000) : ACalls Γ 6 [.v (bD b), .v (.int .i64 n)] ⟨checkD (checkPR b n), []⟩ := by
  refine acalls_of Tryd.func6 rfl rfl (by kernel_rfl) ?_
  have hr : Tryd.f6.results.toList = [.cell 4 29, .tmp 5] := rfl
  simp only [↓S1, S2, S3, pureOp, fillD, ↓reduceIte, reduceCtorEq, Nat.reduceEqDiff, Nat.reduceAdd, Nat.reduceLeDiff, mdT, mrT, bD]
  refine Br_dec (fun h1 => ?_) (fun h1 => ?_)
  · have hc : checkPR b n = (([], 0, 0), 1) := by unfold checkPR; rw [if_neg (by omega)]
    simp only [↓S1, S2, S3, pureOp, fillD, ↓reduceIte, reduceCtorEq, Nat.reduceEqDiff, Nat.reduceAdd, Nat.reduceLeDiff, mdT, mrT, h1, postF, retOk, hr, Env.ress, Env.resOf, Env.outsOk, hc, checkD, infoD]
    exact .refl _
  · simp only [↓S1, S2, S3, pureOp, fillD, ↓reduceIte, reduceCtorEq, Nat.reduceEqDiff, Nat.reduceAdd, Nat.reduceLeDiff, mdT, mrT, h1]
    refine Br_dec (fun h2 => ?_) (fun h2 => ?_)
    · have hc : checkPR b n = (([], 0, 0), 1) := by unfold checkPR; rw [if_neg (by omega)]
      simp only [↓S1, S2, S3, pureOp, fillD, ↓reduceIte, reduceCtorEq, Nat.reduceEqDiff, Nat.reduceAdd, Nat.reduceLeDiff, mdT, mrT, h1, h2, postF, retOk, hr, Env.ress, Env.resOf, Env.outsOk, hc, checkD, infoD]
      exact .refl _
    · obtain ⟨m, rfl⟩ : ∃ m : Nat, n = m := ⟨n.toNat, by omega⟩
      have ho := open15_ok b m hb (by omega)
      have hc : checkPR b (m : Int) = if (openI b m).2.1 = true then (([], 0, 0), 220) else ((openI b m).1, 0) := by
        unfold checkPR; rw [if_pos (by omega), Int.toNat_natCast]
      generalize openI b m = o at *
      obtain ⟨⟨s, q, c⟩, bad, sum⟩ := o
      dsimp only at ho hc
      simp only [rdrD, infoD] at ho
      simp only [↓S1, S2, S3, pureOp, fillD, ↓reduceIte, reduceCtorEq, Nat.reduceEqDiff, Nat.reduceAdd, Nat.reduceLeDiff, mdT, mrT, h1, h2]
      refine callP15 ho ?_
      simp only [↓S1, S2, S3, pureOp, fillD, ↓reduceIte, reduceCtorEq, Nat.reduceEqDiff, Nat.reduceAdd, Nat.reduceLeDiff, mdT, mrT]
      cases bad with
      | true =>
        simp only [↓S1, S2, S3, pureOp, fillD, ↓reduceIte, reduceCtorEq, Nat.reduceEqDiff, Nat.reduceAdd, Nat.reduceLeDiff, mdT, mrT, postF, retOk, hr, Env.ress, Env.resOf, Env.outsOk, hc, checkD, infoD]
        exact .refl _
      | false =>
        simp only [Bool.false_eq_true, if_false] at hc
        simp only [↓S1, S2, S3, pureOp, fillD, ↓reduceIte, reduceCtorEq, Nat.reduceEqDiff, Nat.reduceAdd, Nat.reduceLeDiff, mdT, mrT, postF, retOk, hr, Env.ress, Env.resOf, Env.outsOk, hc, checkD, infoD]
        exact .refl _
theorem checkR_B (b : Str) (n : Int) : (checkR b n).1.1.length ≤ 1000000000 := by
  unfold checkR
  split
  · unfold goodO
    cases h : readO b n.toNat with
    | none => simp
    | some q =>
      dsimp only
      split
      · rename_i q' hq
        have : q' = q := by
          split at hq
          · cases hq; rfl
          · cases hq
        subst this
        dsimp only
        unfold readO at h
        split at h
        · split at h
          · split at h
            · split at h
              · cases h
              · split at h
                · cases h; exact (parseR_B _).1
                · cases h
            · cases h
          · cases h
        · cases h
      · simp
  · simp
/-- the law, given that both Checks tell the same -/
theorem law3_ok (b : Str) (n : Int) (hb : b.length ≤ 1100000) (heq : checkPR b n = checkR b n) : ACalls Γ 3 [.v (bD b), .v (.int .i64 n)] ⟨.bool true, []⟩ := by
  refine acalls_of Tryd.func3 rfl rfl (by kernel_rfl) ?_
  have hr : Tryd.f3.results.toList = [.tmp 4] := rfl
  have h5 := copyBytes_ok b (by omega)
  have h6 := check6p_ok b n hb
  have h7 := check22_ok b n hb
  have h8 := eqBytes_ok b b (by omega) (by omega)
  have hB := checkR_B b n
  rw [heq] at h6
  generalize checkR b n = c at *
  obtain ⟨⟨s, q, k⟩, e⟩ := c
  have h9 := eqSchema_self s hB
  simp only [bD, checkD, infoD, sD] at h5 h6 h7 h8 h9
  simp only [↓S1, S2, S3, pureOp, fillD, ↓reduceIte, reduceCtorEq, Nat.reduceEqDiff, Nat.reduceAdd, Nat.reduceLeDiff, mdT, mrT, bD]
  refine callO h5 rfl rfl ?_
  simp only [↓S1, S2, S3, pureOp, fillD, ↓reduceIte, reduceCtorEq, Nat.reduceEqDiff, Nat.reduceAdd, Nat.reduceLeDiff, mdT, mrT]
  refine callV h6 rfl rfl ?_
  simp only [↓S1, S2, S3, pureOp, fillD, ↓reduceIte, reduceCtorEq, Nat.reduceEqDiff, Nat.reduceAdd, Nat.reduceLeDiff, mdT, mrT]
  refine callV h7 rfl rfl ?_
  simp only [↓S1, S2, S3, pureOp, fillD, ↓reduceIte, reduceCtorEq, Nat.reduceEqDiff, Nat.reduceAdd, Nat.reduceLeDiff, mdT, mrT]
  refine callV h8 rfl rfl ?_
  simp only [↓S1, S2, S3, pureOp, fillD, ↓reduceIte, reduceCtorEq, Nat.reduceEqDiff, Nat.reduceAdd, Nat.reduceLeDiff, mdT, mrT]
  refine callV h9 rfl rfl ?_
  simp only [↓S1, S2, S3, pureOp, fillD, ↓reduceIte, reduceCtorEq, Nat.reduceEqDiff, Nat.reduceAdd, Nat.reduceLeDiff, mdT, mrT, postF, retOk, hr, Env.ress, Env.resOf, Env.outsOk]
  exact .refl _
end Go.Proofs.YtebkaacflocfcaaDoor.Ab
