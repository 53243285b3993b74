/- Contracts of the program functions that read a value, a frame and a text. -/
import Derived.Test.YtebkaacflocfcaaDoorM6
import Derived.Test.YtebkaacflocfcaaDoorM8
import Derived.Test.YtebkaacflocfcaaDoorM7
set_option linter.unusedVariables false
set_option linter.unusedSimpArgs false
set_option linter.defProp false
/- Walks: keys, texts and values out of bytes in the program. -/
namespace Go.Proofs.YtebkaacflocfcaaDoor.Ab
open Go
set_option maxRecDepth 100000
set_option linter.unusedSimpArgs false
set_option linter.unusedVariables false

theorem checkKey_ok (k : Str) : ACalls Γ 51 [.v (.str k)] ⟨.int .i64 (errK k), []⟩ := by
  refine acalls_of Tryd.func51 rfl rfl (by kernel_rfl) ?_
  have hr : Tryd.f51.results.toList = [.tmp 2] := rfl
  simp only [↓S1, S2, S3, pureOp, fillD, ↓reduceIte, reduceCtorEq, Nat.reduceEqDiff, Nat.reduceAdd, Nat.reduceLeDiff, mdT, mrT, strD]
  refine Br_dec (fun h1 => ?_) (fun h1 => ?_)
  · have hd : errK k = 140 := by unfold errK; rw [if_neg]; rw [h1]; simp
    simp only [↓S1, S2, S3, pureOp, fillD, ↓reduceIte, reduceCtorEq, Nat.reduceEqDiff, Nat.reduceAdd, Nat.reduceLeDiff, mdT, mrT, h1, postF, retOk, hr, Env.ress, Env.resOf, Env.outsOk, hd]
    exact wk_int (by rw [← h1, hd])
  · have := List.length_pos_iff.2 h1
    simp only [↓S1, S2, S3, pureOp, fillD, ↓reduceIte, reduceCtorEq, Nat.reduceEqDiff, Nat.reduceAdd, Nat.reduceLeDiff, mdT, mrT, h1]
    refine Br_dec (fun h2 => ?_) (fun h2 => ?_)
    · have hd : errK k = 140 := by unfold errK; rw [if_neg (by omega)]
      simp only [↓S1, S2, S3, pureOp, fillD, ↓reduceIte, reduceCtorEq, Nat.reduceEqDiff, Nat.reduceAdd, Nat.reduceLeDiff, mdT, mrT, h1, h2, postF, retOk, hr, Env.ress, Env.resOf, Env.outsOk, hd]
      exact .refl _
    · have hd : errK k = 0 := by unfold errK; rw [if_pos (by omega)]
      simp only [↓S1, S2, S3, pureOp, fillD, ↓reduceIte, reduceCtorEq, Nat.reduceEqDiff, Nat.reduceAdd, Nat.reduceLeDiff, mdT, mrT, h1, h2, postF, retOk, hr, Env.ress, Env.resOf, Env.outsOk, hd]
      exact .refl _
theorem wk_tup3 {a b c a' b' c' : D} (h1 : Wk a a') (h2 : Wk b b') (h3 : Wk c c') : Wk (.tup [a, b, c]) (.tup [a', b', c']) := by
  refine .tup rfl fun i x y hx hy => ?_
  match i with
  | 0 => simp at hx hy; subst hx hy; exact h1
  | 1 => simp at hx hy; subst hx hy; exact h2
  | 2 => simp at hx hy; subst hx hy; exact h3
  | n + 3 => simp at hx
def textR (b : Str) : Str × Str × Bool := match pt b with
  | some (k, l) => (k, l, true)
  | none => ([], [], false)
theorem text_ok (b : Str) (hb : b.length ≤ 1000000000) : ACalls Γ 49 [.v (bD b)] ⟨.tup [bD (textR b).1, bD (textR b).2.1, .bool (textR b).2.2], []⟩ := by
  refine acalls_of Tryd.func49 rfl rfl (by kernel_rfl) ?_
  have hr : Tryd.f49.results.toList = [.tmp 2, .tmp 3, .tmp 4] := rfl
  simp only [↓S1, S2, S3, pureOp, fillD, ↓reduceIte, reduceCtorEq, Nat.reduceEqDiff, Nat.reduceAdd, Nat.reduceLeDiff, mdT, mrT, bD, len_ofBytes]
  refine Br_dec (fun h1 => ?_) (fun h1 => ?_)
  · have hbn : b = [] := by cases b with | nil => rfl | cons x y => simp at h1; omega
    have hd : textR b = ([], [], false) := by rw [hbn]; rfl
    simp only [↓S1, S2, S3, pureOp, fillD, ↓reduceIte, reduceCtorEq, Nat.reduceEqDiff, Nat.reduceAdd, Nat.reduceLeDiff, mdT, mrT, h1, postF, retOk, hr, Env.ress, Env.resOf, Env.outsOk, hd]
    exact .refl _
  · obtain ⟨c, r, hbr⟩ : ∃ c r, b = c :: r := by
      cases b with
      | nil => simp at h1
      | cons x y => exact ⟨x, y, rfl⟩
    have hcl := c.toNat_lt
    have hat : atI (ofBytes b) 0 = some (D.int .u8 c.toNat) := by rw [hbr]; rfl
    have q1 : IntKind.i64.wrap (c.toNat : Int) = (c.toNat : Int) := w64 (by omega)
    have q2 : IntKind.i64.wrap (1 + (c.toNat : Int)) = ((1 + c.toNat : Nat) : Int) := by rw [w64 (by omega)]; simp
    have hlen : b.length = r.length + 1 := by rw [hbr]; rfl
    simp only [↓S1, S2, S3, pureOp, fillD, ↓reduceIte, reduceCtorEq, Nat.reduceEqDiff, Nat.reduceAdd, Nat.reduceLeDiff, mdT, mrT, h1, hat, convD, q1, q2, len_ofBytes]
    refine Br_dec (fun h2 => ?_) (fun h2 => ?_)
    · have hd : textR b = ([], [], false) := by unfold textR; rw [hbr, pt, if_pos (by omega)]
      simp only [↓S1, S2, S3, pureOp, fillD, ↓reduceIte, reduceCtorEq, Nat.reduceEqDiff, Nat.reduceAdd, Nat.reduceLeDiff, mdT, mrT, h1, h2, postF, retOk, hr, Env.ress, Env.resOf, Env.outsOk, hd]
      exact .refl _
    · have hle : c.toNat ≤ r.length := by omega
      have hd : textR b = (r.take c.toNat, r.drop c.toNat, true) := by unfold textR; rw [hbr, pt, if_neg (by omega)]
      have hc1 : cutL (ofBytes b) (some 1) (some ((1 + c.toNat : Nat) : Int)) = some (ofBytes (r.take c.toNat)) := by
        have := cut_nat (ofBytes b) (show 1 ≤ 1 + c.toNat by omega) (by rw [len_ofBytes, hlen]; omega)
        rw [cut_ofBytes] at this
        rw [show ((b.take (1 + c.toNat)).drop 1) = r.take c.toNat by rw [hbr, Nat.add_comm]; rfl] at this
        exact this
      have hc2 : cutL (ofBytes b) (some ((1 + c.toNat : Nat) : Int)) (some (b.length : Int)) = some (ofBytes (r.drop c.toNat)) := by
        have := cut_nat (ofBytes b) (show 1 + c.toNat ≤ b.length by rw [hlen]; omega) (by rw [len_ofBytes]; omega)
        rw [cut_ofBytes, List.take_of_length_le (Nat.le_refl _)] at this
        rw [show (b.drop (1 + c.toNat)) = r.drop c.toNat by rw [hbr, Nat.add_comm]; rfl] at this
        exact this
      simp only [↓S1, S2, S3, pureOp, fillD, ↓reduceIte, reduceCtorEq, Nat.reduceEqDiff, Nat.reduceAdd, Nat.reduceLeDiff, mdT, mrT, h1, h2, hat, convD, q1, q2, len_ofBytes, boundD, row_ofBytes, hc1, hc2, postF, retOk, hr, Env.ress, Env.resOf, Env.outsOk, hd]
      exact .refl _

/-- a number in groups of seven bits, as the program reads it -/
def rdP : Nat → Str → Nat → Option (Nat × Str × Bool)
  | _, [], _ => none
  | i, c :: l, u => if i = 9 ∧ 1 < c.toNat then none
    else if c.toNat < 128 then some (u + c.toNat % 128 * 128 ^ i, l, decide (0 < c.toNat ∨ i = 0)) else rdP (i + 1) l (u + c.toNat % 128 * 128 ^ i)
def cutIntR (b : Str) : Int × Str × Bool := match rdP 0 b 0 with
  | some (u, l, ok) => (back u, l, ok)
  | none => (0, [], false)
theorem xor_back {u : Nat} (hu : u < 18446744073709551616) : bitsD .xor .i64 ((u / 2 : Nat) : Int) (-((u % 2 : Nat) : Int)) = some (back u) := by
  have e0 : ∀ a b : Int, bitsD .xor .i64 a b = some (IntKind.i64.wrap ((BitVec.ofInt 64 a ^^^ BitVec.ofInt 64 b).toNat : Int)) := fun _ _ => rfl
  have h2 : (BitVec.ofInt 64 ((u / 2 : Nat) : Int)).toNat = u / 2 := ofInt_nat (show u / 2 < 2 ^ 64 by omega)
  rw [e0]
  unfold back
  rcases Nat.mod_two_eq_zero_or_one u with h | h
  · rw [h, if_pos rfl]
    have hz : BitVec.ofInt 64 (-((0 : Nat) : Int)) = 0#64 := by decide
    rw [hz, BitVec.xor_zero, h2, w64 (by omega)]
  · rw [h, if_neg (by omega)]
    have h1 : BitVec.ofInt 64 (-((1 : Nat) : Int)) = BitVec.allOnes 64 := by decide
    rw [h1, BitVec.xor_allOnes, BitVec.toNat_not, h2]
    congr 1
    simp only [IntKind.wrap, IntKind.bits, IntKind.signed, Bool.true_and, Bool.false_and, ge_iff_le, decide_eq_true_eq, Nat.reduceSub, Int.reducePow, Nat.reducePow]
    omega
end Go.Proofs.YtebkaacflocfcaaDoor.Ab

/- Walks: numbers out of bytes in the program. -/
namespace Go.Proofs.YtebkaacflocfcaaDoor.Ab
open Go
set_option maxRecDepth 100000
set_option linter.unusedSimpArgs false
set_option linter.unusedVariables false

theorem or_add7 (m c i : Nat) (h : m < 128 ^ i) : m ||| c * 128 ^ i = m + c * 128 ^ i := by
  have h2 : (128 : Nat) ^ i = 2 ^ (7 * i) := by rw [Nat.pow_mul]
  rw [h2] at h ⊢
  rw [Nat.mul_comm c, Nat.or_comm, ← Nat.two_pow_add_eq_or_of_lt h, Nat.add_comm]
theorem cutInt_ok (b : Str) (hb : b.length ≤ 1000000000) : ACalls Γ 81 [.v (bD b)] ⟨.tup [.int .i64 (cutIntR b).1, bD (cutIntR b).2.1, .bool (cutIntR b).2.2], []⟩ := by
  refine acalls_of Tryd.func81 rfl rfl (by kernel_rfl) ?_
  have hr : Tryd.f81.results.toList = [.tmp 2, .tmp 3, .tmp 4] := rfl
  simp only [↓S1, S2, S3, pureOp, fillD, ↓reduceIte, reduceCtorEq, Nat.reduceEqDiff, Nat.reduceAdd, Nat.reduceLeDiff, mdT, mrT, bD, len_ofBytes]
  refine evW_loop (fun n e => ∃ i u : Nat, n = b.length - i ∧ i ≤ b.length ∧ i ≤ 9 ∧ e.tm 0 = .val (.sl (ofBytes b)) ∧ e.tm 8 = .val (.sl (ofBytes b)) ∧ e.tm 9 = .val (.int .i64 b.length) ∧ e.tm 10 = .val (.int .i64 i) ∧ e.tm 5 = .val (.int .u64 u) ∧ u < 128 ^ i ∧ rdP 0 b 0 = rdP i (b.drop i) u) b.length ?_ ?_
  · exact ⟨0, 0, by simp, by simp, by omega, rfl, rfl, rfl, rfl, rfl, by simp, by simp⟩
  · rintro J hJ n e ⟨i, u, rfl, hi, hi9, g0, g8, g9, g10, g5, hu, hrd⟩
    simp only [↓S1, S2, S3, pureOp, fillD, ↓reduceIte, reduceCtorEq, Nat.reduceEqDiff, Nat.reduceAdd, Nat.reduceLeDiff, mdT, mrT, g0, g8, g9, g10, g5]
    refine Br_dec (fun h => ?_) (fun h => ?_)
    · obtain ⟨c, hc⟩ : ∃ c, b[i]? = some c := ⟨_, List.getElem?_eq_getElem (show i < b.length by omega)⟩
      have hcl := c.toNat_lt
      have hw : IntKind.i64.wrap ((i : Int) + 1) = ((i + 1 : Nat) : Int) := succ64 (by omega)
      rw [drop_cons' hc, rdP] at hrd
      have hi9' : ((i : Int) = 9) ↔ i = 9 := by omega
      have hp9 : (128 : Nat) ^ i ≤ 128 ^ 9 := Nat.pow_le_pow_right (by omega) hi9
      have hp9' : (128 : Nat) ^ 9 = 9223372036854775808 := by decide
      have hpp : 0 < (128 : Nat) ^ i := Nat.pow_pos (by omega)
      simp only [↓S1, S2, S3, pureOp, fillD, ↓reduceIte, reduceCtorEq, Nat.reduceEqDiff, Nat.reduceAdd, Nat.reduceLeDiff, mdT, mrT, g0, g8, g9, g10, g5, h, atI_nat, get_ofBytes, hc]
      have rest : ∀ E : Env, True := fun _ => trivial
      by_cases hbad : i = 9 ∧ 1 < c.toNat
      · rw [if_pos hbad] at hrd
        have hd : cutIntR b = (0, [], false) := by unfold cutIntR; rw [hrd]
        have a1 : (i : Int) = 9 := by omega
        have a2 : (1 : Int) < c.toNat := by omega
        simp only [↓S1, S2, S3, pureOp, fillD, ↓reduceIte, reduceCtorEq, Nat.reduceEqDiff, Nat.reduceAdd, Nat.reduceLeDiff, mdT, mrT, a1, a2, postF, retOk, hr, Env.ress, Env.resOf, Env.outsOk, hd, bD]
        exact .refl _
      · rw [if_neg hbad] at hrd
        have hm128 : c.toNat % 128 < 128 := Nat.mod_lt _ (by omega)
        -- the new number
        have hnew : u + c.toNat % 128 * 128 ^ i < 18446744073709551616 ∧ (c.toNat % 128 * 128 ^ i) < 18446744073709551616 ∧ (i < 9 → u + c.toNat % 128 * 128 ^ i < 128 ^ (i + 1)) := by
          have hmul : c.toNat % 128 * 128 ^ i ≤ 127 * 128 ^ i := Nat.mul_le_mul_right _ (by omega)
          have hps : (128 : Nat) ^ (i + 1) = 128 ^ i * 128 := Nat.pow_succ _ _
          refine ⟨?_, ?_, fun _ => by omega⟩
          · by_cases h9 : i = 9
            · have : c.toNat ≤ 1 := by omega
              have : c.toNat % 128 * 128 ^ i ≤ 1 * 128 ^ i := Nat.mul_le_mul_right _ (by omega)
              omega
            · have : (128 : Nat) ^ (i + 1) ≤ 128 ^ 9 := Nat.pow_le_pow_right (by omega) (by omega)
              omega
          · by_cases h9 : i = 9
            · have : c.toNat ≤ 1 := by omega
              have : c.toNat % 128 * 128 ^ i ≤ 1 * 128 ^ i := Nat.mul_le_mul_right _ (by omega)
              omega
            · have : (128 : Nat) ^ (i + 1) ≤ 128 ^ 9 := Nat.pow_le_pow_right (by omega) (by omega)
              omega
        have hand : bitsD .and .u8 (c.toNat : Int) 127 = some ((c.toNat % 128 : Nat) : Int) := by
          have h0 := andU (k := .u8) (a := (c.toNat : Int)) (b := 127) rfl c.toNat 127 rfl rfl (show c.toNat < 2 ^ 8 by omega) (by decide)
          rw [h0]
          have := Nat.and_two_pow_sub_one_eq_mod c.toNat 7
          simp only [Nat.reducePow, Nat.reduceSub] at this
          rw [this]
        have hc64 : IntKind.u64.wrap ((c.toNat % 128 : Nat) : Int) = ((c.toNat % 128 : Nat) : Int) := wrapU rfl (show c.toNat % 128 < 2 ^ 64 by omega)
        have h7i : IntKind.i64.wrap (7 * (i : Int)) = 7 * (i : Int) := w64 (by omega)
        have hneg : ¬ (7 * (i : Int) < 0) := by omega
        have hmin : min (7 * (i : Int)).toNat IntKind.u64.bits = 7 * i := by simp only [IntKind.bits]; omega
        have hpc : ((c.toNat % 128 : Nat) : Int) * 2 ^ (7 * i) = ((c.toNat % 128 * 128 ^ i : Nat) : Int) := by
          have : (128 : Nat) ^ i = 2 ^ (7 * i) := by rw [Nat.pow_mul]
          rw [this]; simp
        have hsh : IntKind.u64.wrap ((c.toNat % 128 * 128 ^ i : Nat) : Int) = ((c.toNat % 128 * 128 ^ i : Nat) : Int) := wrapU rfl hnew.2.1
        have hor : bitsD .or .u64 (u : Int) ((c.toNat % 128 * 128 ^ i : Nat) : Int) = some ((u + c.toNat % 128 * 128 ^ i : Nat) : Int) := by
          rw [orU (k := .u64) rfl _ _ rfl rfl (show u < 2 ^ 64 by omega) hnew.2.1, or_add7 _ _ _ hu]
        obtain ⟨v, hv⟩ : ∃ v, v = u + c.toNat % 128 * 128 ^ i := ⟨_, rfl⟩
        rw [← hv] at hor hnew hrd
        have hcase : i = 9 ∧ ¬ ((1 : Int) < c.toNat) ∨ ¬ ((i : Int) = 9) := by omega
        have hfd : ((v : Nat) : Int).fdiv (2 ^ min (Int.toNat 1) IntKind.u64.bits) = ((v / 2 : Nat) : Int) := fdivN _ 2 rfl rfl
        have hv2 : IntKind.i64.wrap ((v / 2 : Nat) : Int) = ((v / 2 : Nat) : Int) := w64 (by omega)
        have hv1 : bitsD .and .u64 (v : Int) 1 = some ((v % 2 : Nat) : Int) := by
          have h0 := andU (k := .u64) (a := (v : Int)) (b := 1) rfl v 1 rfl rfl (show v < 2 ^ 64 by omega) (by decide)
          rw [h0, Nat.and_one_is_mod]
        have hv3 : IntKind.i64.wrap ((v % 2 : Nat) : Int) = ((v % 2 : Nat) : Int) := w64 (by omega)
        have hv4 : IntKind.i64.wrap (0 - ((v % 2 : Nat) : Int)) = -((v % 2 : Nat) : Int) := by rw [w64 (by omega)]; omega
        have hxb := xor_back hnew.1
        have hcut : cutL (ofBytes b) (some ((i + 1 : Nat) : Int)) (some (b.length : Int)) = some (ofBytes (b.drop (i + 1))) := by
          rw [cut_nat _ (by omega) (by rw [len_ofBytes]; omega), cut_ofBytes, List.take_of_length_le (Nat.le_refl _)]
        rcases hcase with ⟨a1, a2⟩ | a1
        all_goals
          first
            | (have a1' : ((i : Int) = 9) = True := by simp [a1]
               simp only [↓S1, S2, S3, pureOp, fillD, ↓reduceIte, reduceCtorEq, Nat.reduceEqDiff, Nat.reduceAdd, Nat.reduceLeDiff, mdT, mrT, a1', a2, g0, g8, g9, g10, g5, hand, convD, hc64, h7i, hneg, hmin, hpc, hsh, hor])
            | simp only [↓S1, S2, S3, pureOp, fillD, ↓reduceIte, reduceCtorEq, Nat.reduceEqDiff, Nat.reduceAdd, Nat.reduceLeDiff, mdT, mrT, a1, g0, g8, g9, g10, g5, hand, convD, hc64, h7i, hneg, hmin, hpc, hsh, hor]
          refine Br_dec (fun h3 => ?_) (fun h3 => ?_)
          · rw [if_pos (by omega)] at hrd
            have hd : cutIntR b = (back v, b.drop (i + 1), decide (0 < c.toNat ∨ i = 0)) := by unfold cutIntR; rw [hrd]
            simp only [↓S1, S2, S3, pureOp, fillD, ↓reduceIte, reduceCtorEq, Nat.reduceEqDiff, Nat.reduceAdd, Nat.reduceLeDiff, mdT, mrT, h3, g0, g8, g9, g10, g5, Int.reduceLT, hfd, hv2, hv1, hv3, hv4, hxb, hcut, boundD, row_ofBytes, hw, len_ofBytes, convD, unD]
            refine Br_dec (fun h4 => ?_) (fun h4 => ?_)
            · simp only [↓S1, S2, S3, pureOp, fillD, ↓reduceIte, reduceCtorEq, Nat.reduceEqDiff, Nat.reduceAdd, Nat.reduceLeDiff, mdT, mrT, h4, postF, retOk, hr, Env.ress, Env.resOf, Env.outsOk, hd, bD]
              exact wk_tup3 (.refl _) (.refl _) (wk_bool (decide_eq_true (.inl (by omega))).symm)
            · simp only [↓S1, S2, S3, pureOp, fillD, ↓reduceIte, reduceCtorEq, Nat.reduceEqDiff, Nat.reduceAdd, Nat.reduceLeDiff, mdT, mrT, h4, postF, retOk, hr, Env.ress, Env.resOf, Env.outsOk, hd, bD]
              exact wk_tup3 (.refl _) (.refl _) (wk_bool (decide_eq_decide.2 (by omega)))
          · rw [if_neg (by omega)] at hrd
            simp only [↓S1, S2, S3, pureOp, fillD, ↓reduceIte, reduceCtorEq, Nat.reduceEqDiff, Nat.reduceAdd, Nat.reduceLeDiff, mdT, mrT, h3, g0, g8, g9, g10, g5, hw]
            exact ⟨_, by omega, hJ _ _ ⟨i + 1, v, rfl, by omega, by omega, g0, g8, g9, rfl, rfl, hnew.2.2 (by omega), hrd⟩⟩
    · have hdn : b.drop i = [] := List.drop_eq_nil_of_le (by omega)
      rw [hdn, rdP] at hrd
      have hd : cutIntR b = (0, [], false) := by unfold cutIntR; rw [hrd]
      simp only [↓S1, S2, S3, pureOp, fillD, ↓reduceIte, reduceCtorEq, Nat.reduceEqDiff, Nat.reduceAdd, Nat.reduceLeDiff, mdT, mrT, g0, g8, g9, g10, g5, h, postF, retOk, hr, Env.ress, Env.resOf, Env.outsOk, hd, bD]
      exact .refl _
end Go.Proofs.YtebkaacflocfcaaDoor.Ab

/- Walks: a value out of bytes in the program. -/
namespace Go.Proofs.YtebkaacflocfcaaDoor.Ab
open Go
set_option maxRecDepth 100000
set_option linter.unusedSimpArgs false
set_option linter.unusedVariables false

def cutP (t : Int) (b : Str) : Val × Str × Bool :=
  if t = 1 then (⟨t, (cutIntR b).1, []⟩, (cutIntR b).2.1, (cutIntR b).2.2)
  else match b with
    | [] => (⟨t, 0, []⟩, [], false)
    | c :: r => if t = 2 then (⟨t, c.toNat, []⟩, r, decide (c.toNat < 2))
      else if 20 < c.toNat ∨ r.length < c.toNat then (⟨t, 0, []⟩, [], false) else (⟨t, 0, r.take c.toNat⟩, r.drop c.toNat, true)
theorem cut71_ok (t : Int) (b : Str) (hb : b.length ≤ 1000000000) : ACalls Γ 71 [.v (.int .i64 t), .v (bD b)] ⟨.tup [vD (cutP t b).1, bD (cutP t b).2.1, .bool (cutP t b).2.2], []⟩ := by
  refine acalls_of Tryd.func71 rfl rfl (by kernel_rfl) ?_
  have hr : Tryd.f71.results.toList = [.cell 4 39, .tmp 5, .tmp 6] := rfl
  simp only [↓S1, S2, S3, pureOp, fillD, ↓reduceIte, reduceCtorEq, Nat.reduceEqDiff, Nat.reduceAdd, Nat.reduceLeDiff, mdT, mrT, bD]
  refine Br_dec (fun h1 => ?_) (fun h1 => ?_)
  · have hci := cutInt_ok b hb
    rw [bD] at hci
    have hd : cutP t b = (⟨t, (cutIntR b).1, []⟩, (cutIntR b).2.1, (cutIntR b).2.2) := by unfold cutP; rw [if_pos h1]
    simp only [↓S1, S2, S3, pureOp, fillD, ↓reduceIte, reduceCtorEq, Nat.reduceEqDiff, Nat.reduceAdd, Nat.reduceLeDiff, mdT, mrT, h1]
    refine callV hci rfl rfl ?_
    simp only [↓S1, S2, S3, pureOp, fillD, ↓reduceIte, reduceCtorEq, Nat.reduceEqDiff, Nat.reduceAdd, Nat.reduceLeDiff, mdT, mrT, h1, bD, postF, retOk, hr, Env.ress, Env.resOf, Env.outsOk, hd, vD]
    exact .refl _
  · simp only [↓S1, S2, S3, pureOp, fillD, ↓reduceIte, reduceCtorEq, Nat.reduceEqDiff, Nat.reduceAdd, Nat.reduceLeDiff, mdT, mrT, h1, len_ofBytes]
    refine Br_dec (fun h2 => ?_) (fun h2 => ?_)
    · have hbn : b = [] := by cases b with | nil => rfl | cons x y => simp at h2; omega
      have hd : cutP t b = (⟨t, 0, []⟩, [], false) := by unfold cutP; rw [if_neg h1, hbn]
      simp only [↓S1, S2, S3, pureOp, fillD, ↓reduceIte, reduceCtorEq, Nat.reduceEqDiff, Nat.reduceAdd, Nat.reduceLeDiff, mdT, mrT, h1, h2, postF, retOk, hr, Env.ress, Env.resOf, Env.outsOk, hd, vD, bD]
      exact .refl _
    · obtain ⟨c, r, hbr⟩ : ∃ c r, b = c :: r := by
        cases b with
        | nil => simp at h2
        | cons x y => exact ⟨x, y, rfl⟩
      have hcl := c.toNat_lt
      have hat : atI (ofBytes b) 0 = some (D.int .u8 c.toNat) := by rw [hbr]; rfl
      have q1 : IntKind.i64.wrap (c.toNat : Int) = (c.toNat : Int) := w64 (by omega)
      have q2 : IntKind.i64.wrap (1 + (c.toNat : Int)) = ((1 + c.toNat : Nat) : Int) := by rw [w64 (by omega)]; simp
      have hlen : b.length = r.length + 1 := by rw [hbr]; rfl
      simp only [↓S1, S2, S3, pureOp, fillD, ↓reduceIte, reduceCtorEq, Nat.reduceEqDiff, Nat.reduceAdd, Nat.reduceLeDiff, mdT, mrT, h1, h2, hat, convD, q1]
      refine Br_dec (fun h3 => ?_) (fun h3 => ?_)
      · have hd : cutP t b = (⟨t, c.toNat, []⟩, r, decide (c.toNat < 2)) := by unfold cutP; rw [if_neg h1, hbr]; dsimp only; rw [if_pos h3]
        have hc1 : cutL (ofBytes b) (some 1) (some (b.length : Int)) = some (ofBytes r) := by
          have := cut_nat (ofBytes b) (show 1 ≤ b.length by omega) (by rw [len_ofBytes]; omega)
          rw [cut_ofBytes, List.take_of_length_le (Nat.le_refl _)] at this
          rw [show b.drop 1 = r by rw [hbr]; rfl] at this
          exact this
        have h3t : (t = 2) = True := by simp [h3]
        have h1t : (t = 1) = False := by simp [h1]
        simp only [↓S1, S2, S3, pureOp, fillD, ↓reduceIte, reduceCtorEq, Nat.reduceEqDiff, Nat.reduceAdd, Nat.reduceLeDiff, mdT, mrT, h1t, h3t, hat, convD, q1, boundD, row_ofBytes, len_ofBytes, hc1, postF, retOk, hr, Env.ress, Env.resOf, Env.outsOk, hd, vD, bD]
        exact wk_tup3 (.refl _) (.refl _) (wk_bool (decide_eq_decide.2 (by omega)))
      · have hdd : cutP t b = if 20 < c.toNat ∨ r.length < c.toNat then (⟨t, 0, []⟩, [], false) else (⟨t, 0, r.take c.toNat⟩, r.drop c.toNat, true) := by unfold cutP; rw [if_neg h1, hbr]; dsimp only; rw [if_neg h3]
        simp only [↓S1, S2, S3, pureOp, fillD, ↓reduceIte, reduceCtorEq, Nat.reduceEqDiff, Nat.reduceAdd, Nat.reduceLeDiff, mdT, mrT, h1, h2, h3, hat, convD, q1]
        refine Br_dec (fun h4 => ?_) (fun h4 => ?_)
        · rw [if_pos (.inl (by omega))] at hdd
          simp only [↓S1, S2, S3, pureOp, fillD, ↓reduceIte, reduceCtorEq, Nat.reduceEqDiff, Nat.reduceAdd, Nat.reduceLeDiff, mdT, mrT, h4, postF, retOk, hr, Env.ress, Env.resOf, Env.outsOk, hdd, vD, bD]
          exact .refl _
        · simp only [↓S1, S2, S3, pureOp, fillD, ↓reduceIte, reduceCtorEq, Nat.reduceEqDiff, Nat.reduceAdd, Nat.reduceLeDiff, mdT, mrT, h4, len_ofBytes]
          refine Br_dec (fun h5 => ?_) (fun h5 => ?_)
          · rw [if_pos (.inr (by omega))] at hdd
            simp only [↓S1, S2, S3, pureOp, fillD, ↓reduceIte, reduceCtorEq, Nat.reduceEqDiff, Nat.reduceAdd, Nat.reduceLeDiff, mdT, mrT, h4, h5, postF, retOk, hr, Env.ress, Env.resOf, Env.outsOk, hdd, vD, bD]
            exact .refl _
          · rw [if_neg (by omega)] at hdd
            have hc1 : cutL (ofBytes b) (some 1) (some ((1 + c.toNat : Nat) : Int)) = some (ofBytes (r.take c.toNat)) := by
              have := cut_nat (ofBytes b) (show 1 ≤ 1 + c.toNat by omega) (by rw [len_ofBytes, hlen]; omega)
              rw [cut_ofBytes] at this
              rw [show ((b.take (1 + c.toNat)).drop 1) = r.take c.toNat by rw [hbr, Nat.add_comm]; rfl] at this
              exact this
            have hc2 : cutL (ofBytes b) (some ((1 + c.toNat : Nat) : Int)) (some (b.length : Int)) = some (ofBytes (r.drop c.toNat)) := by
              have := cut_nat (ofBytes b) (show 1 + c.toNat ≤ b.length by rw [hlen]; omega) (by rw [len_ofBytes]; omega)
              rw [cut_ofBytes, List.take_of_length_le (Nat.le_refl _)] at this
              rw [show (b.drop (1 + c.toNat)) = r.drop c.toNat by rw [hbr, Nat.add_comm]; rfl] at this
              exact this
            simp only [↓S1, S2, S3, pureOp, fillD, ↓reduceIte, reduceCtorEq, Nat.reduceEqDiff, Nat.reduceAdd, Nat.reduceLeDiff, mdT, mrT, h1, h2, h3, h4, h5, hat, convD, q1, q2, boundD, row_ofBytes, len_ofBytes, hc1, hc2, bytes_ofBytes, postF, retOk, hr, Env.ress, Env.resOf, Env.outsOk, hdd, vD, bD]
            exact .refl _
end Go.Proofs.YtebkaacflocfcaaDoor.Ab

/- Walks: Decode in the program. -/
namespace Go.Proofs.YtebkaacflocfcaaDoor.Ab
open Go
set_option maxRecDepth 100000
set_option linter.unusedSimpArgs false
set_option linter.unusedVariables false

def rdPs : List Fld → Nat → Str → Option (List Val × Str)
  | [], _, l => some ([], l)
  | f :: fs, h, l => if f.opt = true ∧ h % 2 ≠ 1 then (rdPs fs (h / 2) l).map fun q => (val0 :: q.1, q.2)
    else if (cutP f.type l).2.2 = true then (rdPs fs (if f.opt = true then h / 2 else h) (cutP f.type l).2.1).map fun q => ((cutP f.type l).1 :: q.1, q.2) else none
/-- the first byte, where there is one ahead of the values -/
def mark0 (s : List Fld) (b : Str) : Nat := if 0 < headN s then (b.headD 0).toNat else 0
def decP (s : List Fld) (b : Str) : List Val × Int :=
  if errS s ≠ 0 then ([], errS s) else if b.length < headN s then ([], 62)
  else match rdPs s (mark0 s b) (b.drop (headN s)) with
    | none => ([], 62)
    | some q => if q.2 = [] ∧ (opts s % 8 = 0 ∨ mark0 s b / 2 ^ (opts s % 8) = 0) then (q.1, 0) else ([], 62)
theorem cutP_len (t : Int) (b : Str) : (cutP t b).2.1.length ≤ b.length := by
  have key : ∀ (i : Nat) (l : Str) (u : Nat) (q : Nat × Str × Bool), rdP i l u = some q → q.2.1.length ≤ l.length := by
    intro i l
    induction l generalizing i with
    | nil => intro u q h; simp [rdP] at h
    | cons c l ih =>
      intro u q h
      rw [rdP] at h
      split at h
      · cases h
      · split at h
        · cases h; simp
        · have := ih _ _ _ h; simp; omega
  have ci : (cutIntR b).2.1.length ≤ b.length := by
    unfold cutIntR
    cases h : rdP 0 b 0 with
    | none => simp
    | some q => exact key _ _ _ _ h
  unfold cutP
  split
  · exact ci
  · cases b with
    | nil => simp
    | cons c r => dsimp only; split
                  · simp
                  · split
                    · simp
                    · simp; omega
/-- what lies in the cells of a row of values -/
def Lies (e : Env) (V : List Val) : Prop := ∀ (k : Nat) (v : Val), V[k]? = some v → e.bx 36 0 (k * 3) = .val (.int .i64 v.kind) ∧ e.bx 36 0 (k * 3 + 1) = .val (.int .i64 v.n) ∧ e.bx 36 0 (k * 3 + 1 + 1) = .val (.str v.s)
theorem Lies.frz {e : Env} {V : List Val} (h : Lies e V) (hg : e.gb 36 = 1) : frzOk e 36 0 V.length 3 (V.map vD) := by
  refine ⟨by rw [hg], by decide, by simp, fun i x hi => ?_⟩
  rw [List.getElem?_map] at hi
  simp only [Option.map_eq_some_iff] at hi
  obtain ⟨v, hv, rfl⟩ := hi
  refine ⟨rfl, rfl, fun j d hj => ?_⟩
  obtain ⟨h1, h2, h3⟩ := h i v hv
  match j with
  | 0 => simp [vD, D.cells] at hj; subst hj; exact ⟨rfl, h1⟩
  | 1 => simp [vD, D.cells] at hj; subst hj; exact ⟨rfl, h2⟩
  | 2 => simp [vD, D.cells] at hj; subst hj; exact ⟨rfl, h3⟩
  | j + 3 => simp [vD, D.cells] at hj
theorem Lies.set {e e' : Env} {V : List Val} {i : Nat} {v : Val} (h : Lies e V)
    (hb : ∀ o, e'.bx 36 0 o = if o = i * 3 + 1 + 1 then .val (.str v.s) else if o = i * 3 + 1 then .val (.int .i64 v.n) else if o = i * 3 then .val (.int .i64 v.kind) else e.bx 36 0 o) : Lies e' (V.set i v) := by
  intro k u hk
  rw [List.getElem?_set] at hk
  rw [hb, hb, hb]
  by_cases hik : i = k
  · subst hik
    rw [if_pos rfl] at hk
    split at hk
    · obtain rfl := Option.some.inj hk
      refine ⟨?_, ?_, ?_⟩
      · rw [if_neg (by omega), if_neg (by omega), if_pos rfl]
      · rw [if_neg (by omega), if_pos rfl]
      · rw [if_pos rfl]
    · cases hk
  · rw [if_neg hik] at hk
    obtain ⟨h1, h2, h3⟩ := h k u hk
    refine ⟨?_, ?_, ?_⟩
    · rw [if_neg (by omega), if_neg (by omega), if_neg (by omega)]; exact h1
    · rw [if_neg (by omega), if_neg (by omega), if_neg (by omega)]; exact h2
    · rw [if_neg (by omega), if_neg (by omega), if_neg (by omega)]; exact h3
theorem set_next (acc : List Val) (n : Nat) (v : Val) : (acc ++ List.replicate (n + 1) val0).set acc.length v = acc ++ [v] ++ List.replicate n val0 := by
  rw [List.set_append_right _ _ (Nat.le_refl _), Nat.sub_self, List.replicate_succ, List.set_cons_zero]; simp
theorem opts_succ {s : List Fld} {i : Nat} {f : Fld} (hf : s[i]? = some f) : opts (s.take (i + 1)) = opts (s.take i) + if f.opt then 1 else 0 := by
  rw [← take_succ hf]; unfold opts; rw [List.countP_append, List.countP_singleton]
theorem opts_take (s : List Fld) (i : Nat) : opts (s.take i) ≤ opts s := (List.take_sublist i s).countP_le
theorem decode_ok (s : List Fld) (b : Str) (hs : SchB s) (hb : b.length ≤ 1000000000) : ACalls Γ 50 [.v (sD s), .v (bD b)] ⟨.tup [vsD (decP s b).1, .int .i64 (decP s b).2], []⟩ := by
  refine acalls_of Tryd.func50 rfl rfl (by kernel_rfl) ?_
  have hr : Tryd.f50.results.toList = [.tmp 4, .tmp 5] := rfl
  have hcs := checkSchema_ok s hs.1 hs.2
  simp only [sD] at hcs
  simp only [↓S1, S2, S3, pureOp, fillD, ↓reduceIte, reduceCtorEq, Nat.reduceEqDiff, Nat.reduceAdd, Nat.reduceLeDiff, mdT, mrT, sD, bD]
  refine callV hcs rfl rfl ?_
  simp only [↓S1, S2, S3, pureOp, fillD, ↓reduceIte, reduceCtorEq, Nat.reduceEqDiff, Nat.reduceAdd, Nat.reduceLeDiff, mdT, mrT]
  refine Br_dec (fun h1 => ?_) (fun h1 => ?_)
  · obtain ⟨_, k4⟩ := schema_len8 h1
    have hhd := head69_ok s hs.1
    simp only [sD] at hhd
    simp only [↓S1, S2, S3, pureOp, fillD, ↓reduceIte, reduceCtorEq, Nat.reduceEqDiff, Nat.reduceAdd, Nat.reduceLeDiff, mdT, mrT, h1]
    refine callV hhd rfl rfl ?_
    simp only [↓S1, S2, S3, pureOp, fillD, ↓reduceIte, reduceCtorEq, Nat.reduceEqDiff, Nat.reduceAdd, Nat.reduceLeDiff, mdT, mrT, len_ofBytes]
    refine Br_dec (fun h2 => ?_) (fun h2 => ?_)
    · have hd : decP s b = ([], 62) := by unfold decP; rw [if_neg (by simpa using h1), if_pos (by omega)]
      simp only [↓S1, S2, S3, pureOp, fillD, ↓reduceIte, reduceCtorEq, Nat.reduceEqDiff, Nat.reduceAdd, Nat.reduceLeDiff, mdT, mrT, h2, postF, retOk, hr, Env.ress, Env.resOf, Env.outsOk, hd]
      exact .refl _
    · have hdd : decP s b = match rdPs s (mark0 s b) (b.drop (headN s)) with
          | none => ([], 62)
          | some q => if q.2 = [] ∧ (opts s % 8 = 0 ∨ mark0 s b / 2 ^ (opts s % 8) = 0) then (q.1, 0) else ([], 62) := by
        unfold decP; rw [if_neg (by simpa using h1), if_neg (by omega)]
      have hol : opts s ≤ s.length := List.countP_le_length
      obtain ⟨N, hN⟩ : ∃ N, N = headN s := ⟨_, rfl⟩
      have hN2 : N = (opts s + 7) / 8 := hN
      have hc1 : cutL (ofBytes b) (some 0) (some (N : Int)) = some (ofBytes (b.take N)) := by
        have := cut_nat (ofBytes b) (Nat.zero_le N) (by rw [len_ofBytes]; omega)
        rw [cut_ofBytes, List.drop_zero] at this; exact this
      have hc2 : cutL (ofBytes b) (some (N : Int)) (some (b.length : Int)) = some (ofBytes (b.drop N)) := by
        rw [cut_nat _ (by omega) (by rw [len_ofBytes]; omega), cut_ofBytes, List.take_of_length_le (Nat.le_refl _)]
      obtain ⟨h0, hh0⟩ : ∃ h0, h0 = mark0 s b := ⟨_, rfl⟩
      have hmark : 0 < opts s → atI (ofBytes (b.take N)) 0 = some (D.int .u8 (h0 : Int)) := by
        intro ho
        have hp : 0 < headN s := by unfold headN; omega
        cases hbb : b with
        | nil => rw [hbb] at h2; simp at h2; omega
        | cons x y =>
          have hx : h0 = x.toNat := by rw [hh0, hbb]; unfold mark0; rw [if_pos hp]; rfl
          rw [hx]
          obtain ⟨M, hM⟩ : ∃ M, N = M + 1 := ⟨N - 1, by omega⟩
          rw [hM]; rfl
      have hh256 : h0 < 256 := by
        rw [hh0]; unfold mark0; split
        · exact (b.headD 0).toNat_lt
        · omega
      rw [← hh0, ← hN] at hdd
      rw [← hN] at h2 ⊢
      have hroom : ((s.length : Int) * 32 ≤ roomy) = True := by simp only [roomy, eq_iff_iff, iff_true]; omega
      have hge : ((0 : Int) ≤ (s.length : Int)) = True := by simp
      simp only [↓S1, S2, S3, pureOp, fillD, ↓reduceIte, reduceCtorEq, Nat.reduceEqDiff, Nat.reduceAdd, Nat.reduceLeDiff, mdT, mrT, h2, boundD, row_ofBytes, len_ofBytes, hc1, hc2]
      have hcast : ((32 : Nat) : Int) = 32 := rfl
      simp only [↓S1, S2, S3, pureOp, fillD, ↓reduceIte, reduceCtorEq, Nat.reduceEqDiff, Nat.reduceAdd, Nat.reduceLeDiff, mdT, mrT, hcast, hroom, hge, Int.toNat_natCast]
      refine evW_loop (fun n e => ∃ (i j : Nat) (acc : List Val) (R : Str), n = s.length - i ∧ i ≤ s.length ∧ acc.length = i ∧ j = opts (s.take i) ∧ R.length ≤ b.length ∧ e.tm 2 = .bx 2 0 0 ∧ e.gb 2 = 1 ∧ e.bx 2 0 0 = .val (.sl (s.map fD)) ∧ e.tm 7 = .val (.int .i64 N) ∧ e.tm 8 = .val (.sl (ofBytes (b.take N))) ∧ e.tm 9 = .val (.sl (ofBytes R)) ∧
        e.tm 10 = .ms 36 0 s.length 3 ∧ e.gb 36 = 1 ∧ Lies e (acc ++ List.replicate (s.length - i) val0) ∧ e.tm 11 = .val (.int .i64 j) ∧ e.tm 38 = .val (.sl (s.map fD)) ∧ e.tm 39 = .val (.int .i64 s.length) ∧ e.tm 40 = .val (.int .i64 i) ∧
        rdPs s h0 (b.drop N) = (rdPs (s.drop i) (h0 / 2 ^ j) R).map fun q => (acc ++ q.1, q.2)) s.length ?_ ?_
      · refine ⟨0, 0, [], b.drop N, by simp, by simp, rfl, by simp [opts], by simp, rfl, rfl, rfl, rfl, rfl, rfl, rfl, rfl, ?_, rfl, rfl, rfl, rfl, ?_⟩
        · intro k v hk
          simp only [List.nil_append, Nat.sub_zero] at hk
          rw [List.getElem?_replicate] at hk
          split at hk
          · rename_i hkl
            obtain rfl := Option.some.inj hk
            refine ⟨?_, ?_, ?_⟩
            · simp only [↓S1, S2, S3, pureOp, fillD, ↓reduceIte, reduceCtorEq, Nat.reduceEqDiff, Nat.reduceAdd, Nat.reduceLeDiff, mdT, mrT]
              rw [if_pos (by omega), show k * 3 % 3 = 0 by omega]; rfl
            · simp only [↓S1, S2, S3, pureOp, fillD, ↓reduceIte, reduceCtorEq, Nat.reduceEqDiff, Nat.reduceAdd, Nat.reduceLeDiff, mdT, mrT]
              rw [if_pos (by omega), show (k * 3 + 1) % 3 = 1 by omega]; rfl
            · simp only [↓S1, S2, S3, pureOp, fillD, ↓reduceIte, reduceCtorEq, Nat.reduceEqDiff, Nat.reduceAdd, Nat.reduceLeDiff, mdT, mrT]
              rw [if_pos (by omega), show (k * 3 + 1 + 1) % 3 = 2 by omega]; rfl
          · cases hk
        · simp only [List.drop_zero, Nat.pow_zero, Nat.div_one]
          cases rdPs s h0 (b.drop N) <;> rfl
      · rintro J hJ n e ⟨i, j, acc, R, rfl, hi, hal, hj, hRl, g2, hg2, b2, g7, g8, g9, g10, hg36, hlies, g11, g38, g39, g40, hrd⟩
        simp only [↓S1, S2, S3, pureOp, fillD, ↓reduceIte, reduceCtorEq, Nat.reduceEqDiff, Nat.reduceAdd, Nat.reduceLeDiff, mdT, mrT, g38, g39, g40]
        have hjo := opts_take s i
        refine Br_dec (fun h => ?_) (fun h => ?_)
        · have hlt : i < s.length := by omega
          obtain ⟨f, hf⟩ : ∃ f, s[i]? = some f := ⟨_, List.getElem?_eq_getElem hlt⟩
          have hw : IntKind.i64.wrap ((i : Int) + 1) = ((i + 1 : Nat) : Int) := succ64 (by omega)
          have hos := opts_succ hf
          have hos2 := opts_take s (i + 1)
          rw [drop_cons hf, rdPs] at hrd
          obtain ⟨M, hM⟩ : ∃ M, s.length - i = M + 1 := ⟨s.length - i - 1, by omega⟩
          have hM2 : s.length - (i + 1) = M := by omega
          rw [hM] at hlies
          obtain ⟨y0, y1, y2⟩ := hlies i val0 (by rw [List.getElem?_append_right (by omega), hal, Nat.sub_self, List.getElem?_replicate, if_pos (by omega)])
          have hge2 : ((0 : Int) ≤ (i : Int)) = True := by simp
          simp only [↓S1, S2, S3, pureOp, fillD, ↓reduceIte, reduceCtorEq, Nat.reduceEqDiff, Nat.reduceAdd, Nat.reduceLeDiff, mdT, mrT, g2, g7, g8, g9, g10, g11, g38, g39, g40, h, atI_nat, hf, fD]
          have hskip : f.opt = true ∧ h0 / 2 ^ j % 2 ≠ 1 ∨ f.opt = true ∧ h0 / 2 ^ j % 2 = 1 ∨ f.opt = false := by
            cases f.opt with
            | false => exact .inr (.inr rfl)
            | true => by_cases hh : h0 / 2 ^ j % 2 = 1; exact .inr (.inl ⟨rfl, hh⟩); exact .inl ⟨rfl, hh⟩
          have optfacts : f.opt = true → j < 8 ∧ 0 < opts s := by intro ho; rw [ho] at hos; simp only [if_true] at hos; omega
          have hcut := cut71_ok f.type R (by omega)
          rw [bD] at hcut
          have hCl := cutP_len f.type R
          rcases hskip with ⟨ho, hh⟩ | hkeep
          · rw [if_pos ⟨ho, hh⟩] at hrd
            rw [ho] at hos; simp only [if_true] at hos
            obtain ⟨oj, oo⟩ := optfacts ho
            have hat := hmark oo
            have t1 : ((j : Nat) : Int).tdiv 8 = 0 := by have ha : ((j : Nat) : Int).tdiv 8 = ((j / 8 : Nat) : Int) := tdivN j 8 rfl rfl; rw [ha]; omega
            have t2 : ((j : Nat) : Int).tmod 8 = (j : Int) := by have ha : ((j : Nat) : Int).tmod 8 = ((j % 8 : Nat) : Int) := tmodN j 8 rfl rfl; rw [ha]; omega
            have t3 : IntKind.i64.wrap 0 = 0 := by decide
            have t4 : ¬ ((j : Int) < 0) := by omega
            have t5 : min (j : Int).toNat IntKind.u8.bits = j := by simp only [IntKind.bits]; omega
            have t6 : ((h0 : Nat) : Int).fdiv (2 ^ j) = ((h0 / 2 ^ j : Nat) : Int) := fdivN h0 (2 ^ j) rfl (by simp)
            have hle2 : h0 / 2 ^ j ≤ h0 := Nat.div_le_self _ _
            have t7 : bitsD .and .u8 ((h0 / 2 ^ j : Nat) : Int) 1 = some ((h0 / 2 ^ j % 2 : Nat) : Int) := by
              have ha := andU (k := .u8) (a := ((h0 / 2 ^ j : Nat) : Int)) (b := 1) rfl (h0 / 2 ^ j) 1 rfl rfl (show h0 / 2 ^ j < 2 ^ 8 by omega) (by decide)
              rw [ha, Nat.and_one_is_mod]
            have t8 : (((h0 / 2 ^ j % 2 : Nat) : Int) = 1) = False := by simp only [eq_iff_iff, iff_false]; omega
            have t9 : IntKind.i64.wrap ((j : Int) + 1) = ((j + 1 : Nat) : Int) := succ64 (by omega)
            simp only [↓S1, S2, S3, pureOp, fillD, ↓reduceIte, reduceCtorEq, Nat.reduceEqDiff, Nat.reduceAdd, Nat.reduceLeDiff, mdT, mrT, ho, g2, g7, g8, g9, g10, g11, g38, g39, g40, Int.reduceEq, t1, t2, t3, t4, t5, t6, t7, t8, t9, hat, hw]
            refine ⟨_, ?_, hJ _ _ ⟨i + 1, j + 1, acc ++ [val0], R, rfl, by omega, by simp [hal], by omega, hRl, g2, hg2, b2, g7, g8, g9, g10, hg36, ?_, rfl, g38, g39, rfl, ?_⟩⟩
            · omega
            · have hsn : acc ++ [val0] ++ List.replicate (s.length - (i + 1)) val0 = acc ++ List.replicate (M + 1) val0 := by rw [hM2, List.replicate_succ]; simp
              rw [hsn]
              exact hlies
            · rw [hrd, Nat.pow_succ, ← Nat.div_div_eq_div_mul]
              cases rdPs (s.drop (i + 1)) (h0 / 2 ^ j / 2) R with
              | none => rfl
              | some q => simp
          · rw [if_neg (by rcases hkeep with ⟨_, hh⟩ | ho; exact fun q => q.2 hh; exact fun q => by rw [ho] at q; cases q.1)] at hrd
            obtain ⟨j', hj'⟩ : ∃ j', j' = if f.opt = true then j + 1 else j := ⟨_, rfl⟩
            have hj'2 : j' = opts (s.take (i + 1)) := by rw [hj', hos, ← hj]; split <;> rfl
            have hhalf : (if f.opt = true then h0 / 2 ^ j / 2 else h0 / 2 ^ j) = h0 / 2 ^ j' := by
              rw [hj']; split
              · rw [Nat.pow_succ, ← Nat.div_div_eq_div_mul]
              · rfl
            rw [hhalf] at hrd
            have t9 : IntKind.i64.wrap ((j : Int) + 1) = ((j + 1 : Nat) : Int) := succ64 (by omega)
            generalize cutP f.type R = C at *
            obtain ⟨v, R', ok⟩ := C
            dsimp only at hrd hcut hCl
            rcases hkeep with ⟨ho, hh⟩ | ho
            all_goals
              first
                | (rw [if_pos ho] at hj'
                   subst hj'
                   obtain ⟨oj, oo⟩ := optfacts ho
                   have hat := hmark oo
                   have t1 : ((j : Nat) : Int).tdiv 8 = 0 := by have ha : ((j : Nat) : Int).tdiv 8 = ((j / 8 : Nat) : Int) := tdivN j 8 rfl rfl; rw [ha]; omega
                   have t2 : ((j : Nat) : Int).tmod 8 = (j : Int) := by have ha : ((j : Nat) : Int).tmod 8 = ((j % 8 : Nat) : Int) := tmodN j 8 rfl rfl; rw [ha]; omega
                   have t3 : IntKind.i64.wrap 0 = 0 := by decide
                   have t4 : ¬ ((j : Int) < 0) := by omega
                   have t5 : min (j : Int).toNat IntKind.u8.bits = j := by simp only [IntKind.bits]; omega
                   have t6 : ((h0 : Nat) : Int).fdiv (2 ^ j) = ((h0 / 2 ^ j : Nat) : Int) := fdivN h0 (2 ^ j) rfl (by simp)
                   have hle2 : h0 / 2 ^ j ≤ h0 := Nat.div_le_self _ _
                   have t7 : bitsD .and .u8 ((h0 / 2 ^ j : Nat) : Int) 1 = some ((h0 / 2 ^ j % 2 : Nat) : Int) := by
                     have ha := andU (k := .u8) (a := ((h0 / 2 ^ j : Nat) : Int)) (b := 1) rfl (h0 / 2 ^ j) 1 rfl rfl (show h0 / 2 ^ j < 2 ^ 8 by omega) (by decide)
                     rw [ha, Nat.and_one_is_mod]
                   have t8 : (((h0 / 2 ^ j % 2 : Nat) : Int) = 1) = True := by simp only [eq_iff_iff, iff_true]; omega
                   simp only [↓S1, S2, S3, pureOp, fillD, ↓reduceIte, reduceCtorEq, Nat.reduceEqDiff, Nat.reduceAdd, Nat.reduceLeDiff, mdT, mrT, ho, g2, g7, g8, g9, g10, g11, g38, g39, g40, Int.reduceEq, t1, t2, t3, t4, t5, t6, t7, t8, t9, hat, hw])
                | (rw [if_neg (by simp [ho])] at hj'
                   subst hj'
                   simp only [↓S1, S2, S3, pureOp, fillD, ↓reduceIte, reduceCtorEq, Nat.reduceEqDiff, Nat.reduceAdd, Nat.reduceLeDiff, mdT, mrT, ho, g2, g7, g8, g9, g10, g11, g38, g39, g40, hw])
              refine callV hcut rfl rfl ?_
              cases ok with
              | false =>
                rw [if_neg (by simp)] at hrd
                rw [hrd] at hdd
                simp only [↓S1, S2, S3, pureOp, fillD, ↓reduceIte, reduceCtorEq, Nat.reduceEqDiff, Nat.reduceAdd, Nat.reduceLeDiff, mdT, mrT, vD, bD, g2, g7, g8, g9, g10, g11, g38, g39, g40, hge2, h, Int.toNat_natCast, y0, y1, y2, hg36, postF, retOk, hr, Env.ress, Env.resOf, Env.outsOk, hdd]
                exact .refl _
              | true =>
                rw [if_pos rfl] at hrd
                simp only [↓S1, S2, S3, pureOp, fillD, ↓reduceIte, reduceCtorEq, Nat.reduceEqDiff, Nat.reduceAdd, Nat.reduceLeDiff, mdT, mrT, vD, bD, g2, g7, g8, g9, g10, g11, g38, g39, g40, hge2, h, Int.toNat_natCast, y0, y1, y2, hg36, hw]
                refine ⟨_, ?_, hJ _ _ ⟨i + 1, _, acc ++ [v], R', rfl, by omega, by simp [hal], hj'2, by omega, g2, hg2, ?_, g7, g8, rfl, g10, hg36, ?_, (by first | rfl | exact g11), g38, g39, rfl, ?_⟩⟩
                · omega
                · simp only [↓S1, S2, S3, pureOp, fillD, ↓reduceIte, reduceCtorEq, Nat.reduceEqDiff, Nat.reduceAdd, Nat.reduceLeDiff, mdT, mrT, b2]
                · rw [hM2, ← set_next, hal]
                  refine Lies.set hlies fun o => ?_
                  simp only [↓S1, S2, S3, pureOp, fillD, ↓reduceIte, reduceCtorEq, Nat.reduceEqDiff, Nat.reduceAdd, Nat.reduceLeDiff, mdT, mrT]
                · rw [hrd]
                  cases rdPs (s.drop (i + 1)) _ R' with
                  | none => rfl
                  | some q => simp
        · have hil : i = s.length := by omega
          have hsd : s.drop i = [] := List.drop_eq_nil_of_le (by omega)
          rw [hsd] at hrd
          simp only [rdPs] at hrd
          simp only [Option.map_some, List.append_nil] at hrd
          rw [hrd] at hdd
          dsimp only at hdd
          have hjo2 : j = opts s := by rw [hj, List.take_of_length_le (by omega)]
          rw [← hjo2] at hdd
          rw [show s.length - i = 0 by omega, List.replicate_zero, List.append_nil] at hlies
          have hfz := hlies.frz hg36
          rw [hal, hil] at hfz
          have t2 : ((j : Nat) : Int).tmod 8 = ((j % 8 : Nat) : Int) := tmodN j 8 rfl rfl
          simp only [↓S1, S2, S3, pureOp, fillD, ↓reduceIte, reduceCtorEq, Nat.reduceEqDiff, Nat.reduceAdd, Nat.reduceLeDiff, mdT, mrT, g7, g8, g9, g10, g11, g38, g39, g40, h, len_ofBytes]
          refine Br_dec (fun h3 => ?_) (fun h3 => ?_)
          · rw [if_neg (by intro hh; rw [hh.1] at h3; simp at h3)] at hdd
            simp only [↓S1, S2, S3, pureOp, fillD, ↓reduceIte, reduceCtorEq, Nat.reduceEqDiff, Nat.reduceAdd, Nat.reduceLeDiff, mdT, mrT, h3, postF, retOk, hr, Env.ress, Env.resOf, Env.outsOk, hdd]
            exact .refl _
          · have hRn : R = [] := by cases R with | nil => rfl | cons x y => exact absurd (show (0 : Int) < ((x :: y).length : Nat) by simp) h3
            simp only [↓S1, S2, S3, pureOp, fillD, ↓reduceIte, reduceCtorEq, Nat.reduceEqDiff, Nat.reduceAdd, Nat.reduceLeDiff, mdT, mrT, h3, g7, g8, g9, g10, g11]
            refine Br_dec (fun h4 => ?_) (fun h4 => ?_)
            · simp only [↓S1, S2, S3, pureOp, fillD, ↓reduceIte, reduceCtorEq, Nat.reduceEqDiff, Nat.reduceAdd, Nat.reduceLeDiff, mdT, mrT, h3, h4, g7, g8, g9, g10, g11, Int.reduceEq, t2]
              refine Br_dec (fun h5 => ?_) (fun h5 => ?_)
              · have hat := hmark (by omega)
                have hN1 : N = 1 := by omega
                have t3 : IntKind.i64.wrap ((N : Int) - 1) = 0 := by rw [hN1]; decide
                have t4 : ¬ (((j % 8 : Nat) : Int) < 0) := by omega
                have t5 : min ((j % 8 : Nat) : Int).toNat IntKind.u8.bits = j % 8 := by simp only [IntKind.bits]; omega
                have t6 : ((h0 : Nat) : Int).fdiv (2 ^ (j % 8)) = ((h0 / 2 ^ (j % 8) : Nat) : Int) := fdivN h0 (2 ^ (j % 8)) rfl (by simp)
                simp only [↓S1, S2, S3, pureOp, fillD, ↓reduceIte, reduceCtorEq, Nat.reduceEqDiff, Nat.reduceAdd, Nat.reduceLeDiff, mdT, mrT, h3, h4, h5, g7, g8, g9, g10, g11, Int.reduceEq, t2, t3, t4, t5, t6, hat]
                refine Br_dec (fun h6 => ?_) (fun h6 => ?_)
                · rw [if_neg (by intro hh; generalize h0 / 2 ^ (j % 8) = Z at hh h6; omega)] at hdd
                  simp only [↓S1, S2, S3, pureOp, fillD, ↓reduceIte, reduceCtorEq, Nat.reduceEqDiff, Nat.reduceAdd, Nat.reduceLeDiff, mdT, mrT, h3, h4, h5, h6, postF, retOk, hr, Env.ress, Env.resOf, Env.outsOk, hdd]
                  exact .refl _
                · rw [if_pos ⟨hRn, .inr (by generalize h0 / 2 ^ (j % 8) = Z at h6 ⊢; omega)⟩] at hdd
                  simp only [↓S1, S2, S3, pureOp, fillD, ↓reduceIte, reduceCtorEq, Nat.reduceEqDiff, Nat.reduceAdd, Nat.reduceLeDiff, mdT, mrT, h3, h4, h5, h6, g10]
                  refine ⟨acc.map vD, hfz, ?_⟩
                  simp only [↓S1, S2, S3, pureOp, fillD, ↓reduceIte, reduceCtorEq, Nat.reduceEqDiff, Nat.reduceAdd, Nat.reduceLeDiff, mdT, mrT, postF, retOk, hr, Env.ress, Env.resOf, Env.outsOk, hdd, vsD]
                  exact .refl _
              · rw [if_pos ⟨hRn, .inl (by omega)⟩] at hdd
                simp only [↓S1, S2, S3, pureOp, fillD, ↓reduceIte, reduceCtorEq, Nat.reduceEqDiff, Nat.reduceAdd, Nat.reduceLeDiff, mdT, mrT, h3, h4, h5, g10]
                refine ⟨acc.map vD, hfz, ?_⟩
                simp only [↓S1, S2, S3, pureOp, fillD, ↓reduceIte, reduceCtorEq, Nat.reduceEqDiff, Nat.reduceAdd, Nat.reduceLeDiff, mdT, mrT, postF, retOk, hr, Env.ress, Env.resOf, Env.outsOk, hdd, vsD]
                exact .refl _
            · rw [if_pos ⟨hRn, .inl (by omega)⟩] at hdd
              simp only [↓S1, S2, S3, pureOp, fillD, ↓reduceIte, reduceCtorEq, Nat.reduceEqDiff, Nat.reduceAdd, Nat.reduceLeDiff, mdT, mrT, h3, h4, g10]
              refine ⟨acc.map vD, hfz, ?_⟩
              simp only [↓S1, S2, S3, pureOp, fillD, ↓reduceIte, reduceCtorEq, Nat.reduceEqDiff, Nat.reduceAdd, Nat.reduceLeDiff, mdT, mrT, postF, retOk, hr, Env.ress, Env.resOf, Env.outsOk, hdd, vsD]
              exact .refl _
  · have hd : decP s b = ([], errS s) := by unfold decP; rw [if_pos h1]
    simp only [↓S1, S2, S3, pureOp, fillD, ↓reduceIte, reduceCtorEq, Nat.reduceEqDiff, Nat.reduceAdd, Nat.reduceLeDiff, mdT, mrT, h1, postF, retOk, hr, Env.ress, Env.resOf, Env.outsOk, hd]
    exact .refl _
end Go.Proofs.YtebkaacflocfcaaDoor.Ab

/- Walks: Open in the program. -/
namespace Go.Proofs.YtebkaacflocfcaaDoor.Ab
open Go
set_option maxRecDepth 100000
set_option linter.unusedSimpArgs false
set_option linter.unusedVariables false

def okP (b : Str) : Prop := (15 ≤ b.length ∧ b.length ≤ 8192) ∧ extN 0 (b.take (b.length - 4)) = num ((b.drop (b.length - 4)).take 4) ∧ num ((b.drop 1).take 2) ≤ b.length - 15 ∧
  ∀ c ∈ (b.take (b.length - 4)).drop (11 + num ((b.drop 1).take 2)), c = 0
instance (b : Str) : Decidable (okP b) := by unfold okP; exact inferInstance
def openP (b : Str) : Frm × Int := if okP b then (asFrm b, 0) else (fr0, 20)
theorem hasCells_of : ∀ (n : Nat) (e : Env) (b g o : Nat), (∀ j, j < n → e.bx b g (o + j) ≠ .no) → e.hasCells b g o n = true := by
  intro n
  induction n with
  | zero => intro e b g o _; rfl
  | succ n ih =>
    intro e b g o h
    simp only [Env.hasCells, Bool.and_eq_true]
    refine ⟨?_, ih e b g (o + 1) fun j hj => by have := h (j + 1) (by omega); rwa [show o + (j + 1) = o + 1 + j by omega] at this⟩
    have := h 0 (by omega)
    rw [Nat.add_zero] at this
    cases hx : e.bx b g o <;> first | rfl | exact absurd hx this
theorem open42_ok (b : Str) (hb : b.length ≤ 1000000000) : ACalls Γ 42 [.v (bD b)] ⟨.tup [frD (openP b).1, .int .i64 (openP b).2], []⟩ := by
  refine acalls_of Tryd.func42 rfl rfl (by kernel_rfl) ?_
  have hr : Tryd.f42.results.toList = [.cell 2 76, .tmp 3] := rfl
  simp only [↓S1, S2, S3, pureOp, fillD, ↓reduceIte, reduceCtorEq, Nat.reduceEqDiff, Nat.reduceAdd, Nat.reduceLeDiff, mdT, mrT, bD, len_ofBytes]
  refine Br_dec (fun h1 => ?_) (fun h1 => ?_)
  · have hd : openP b = (fr0, 20) := by unfold openP; rw [if_neg (fun hh => by have := hh.1; omega)]
    simp only [↓S1, S2, S3, pureOp, fillD, ↓reduceIte, reduceCtorEq, Nat.reduceEqDiff, Nat.reduceAdd, Nat.reduceLeDiff, mdT, mrT, h1, postF, retOk, hr, Env.ress, Env.resOf, Env.outsOk, hd, fr0, frD, bD]
    exact .refl _
  · simp only [↓S1, S2, S3, pureOp, fillD, ↓reduceIte, reduceCtorEq, Nat.reduceEqDiff, Nat.reduceAdd, Nat.reduceLeDiff, mdT, mrT, h1, len_ofBytes]
    refine Br_dec (fun h2 => ?_) (fun h2 => ?_)
    · have hd : openP b = (fr0, 20) := by unfold openP; rw [if_neg (fun hh => by have := hh.1; omega)]
      simp only [↓S1, S2, S3, pureOp, fillD, ↓reduceIte, reduceCtorEq, Nat.reduceEqDiff, Nat.reduceAdd, Nat.reduceLeDiff, mdT, mrT, h1, h2, postF, retOk, hr, Env.ress, Env.resOf, Env.outsOk, hd, fr0, frD, bD]
      exact .refl _
    · obtain ⟨E, hE⟩ : ∃ E, E = b.length - 4 := ⟨_, rfl⟩
      obtain ⟨n, hn⟩ : ∃ n, n = num ((b.drop 1).take 2) := ⟨_, rfl⟩
      have hnl : n < 65536 := by rw [hn]; exact num_lt2
      have hok : okP b ↔ extN 0 (b.take E) = num ((b.drop E).take 4) ∧ n ≤ b.length - 15 ∧ ∀ c ∈ (b.take E).drop (11 + n), c = 0 := by
        unfold okP; rw [← hE, ← hn]
        constructor
        · intro h; exact h.2
        · intro h; exact ⟨by omega, h⟩
      have w1 : IntKind.i64.wrap ((b.length : Int) - 4) = (E : Int) := by rw [w64 (by omega)]; omega
      have hc1 : cutL (ofBytes b) (some 0) (some (E : Int)) = some (ofBytes (b.take E)) := by
        have := cut_nat (ofBytes b) (Nat.zero_le E) (by rw [len_ofBytes]; omega)
        rw [cut_ofBytes, List.drop_zero] at this; exact this
      have hc2 : ∀ k, k ≤ b.length → cutL (ofBytes b) (some (k : Int)) (some (b.length : Int)) = some (ofBytes (b.drop k)) := fun k hk => by
        rw [cut_nat _ hk (by rw [len_ofBytes]; omega), cut_ofBytes, List.take_of_length_le (Nat.le_refl _)]
      have hcE := hc2 E (by omega)
      have hc11 : cutL (ofBytes b) (some 1) (some (b.length : Int)) = some (ofBytes (b.drop 1)) := hc2 1 (by omega)
      have hc3 : cutL (ofBytes b) (some 3) (some (b.length : Int)) = some (ofBytes (b.drop 3)) := hc2 3 (by omega)
      have hcb : cutL (ofBytes b) (some 11) (some (b.length : Int)) = some (ofBytes (b.drop 11)) := hc2 11 (by omega)
      have hsum := sum_ok (b.take E) (by simp; omega)
      rw [bD] at hsum
      have hx := extN_lt 0 (b.take E)
      have q1 : IntKind.u64.wrap (extN 0 (b.take E) : Int) = (extN 0 (b.take E) : Int) := wu64 (by omega)
      have hget := get_ok (b.drop E) 4 (by omega) (by simp; omega)
      rw [bD] at hget
      simp only [↓S1, S2, S3, pureOp, fillD, ↓reduceIte, reduceCtorEq, Nat.reduceEqDiff, Nat.reduceAdd, Nat.reduceLeDiff, mdT, mrT, h1, h2, w1, boundD, row_ofBytes, len_ofBytes, hc1]
      refine callV hsum rfl rfl ?_
      simp only [↓S1, S2, S3, pureOp, fillD, ↓reduceIte, reduceCtorEq, Nat.reduceEqDiff, Nat.reduceAdd, Nat.reduceLeDiff, mdT, mrT, u32, convD, q1, boundD, row_ofBytes, len_ofBytes, hcE]
      refine callV hget rfl rfl ?_
      simp only [↓S1, S2, S3, pureOp, fillD, ↓reduceIte, reduceCtorEq, Nat.reduceEqDiff, Nat.reduceAdd, Nat.reduceLeDiff, mdT, mrT, u64]
      refine Br_dec (fun h3 => ?_) (fun h3 => ?_)
      · have hget2 := get_ok (b.drop 1) 2 (by omega) (by simp; omega)
        rw [← hn, bD] at hget2
        have q2 : IntKind.i64.wrap (n : Int) = (n : Int) := w64 (by omega)
        simp only [↓S1, S2, S3, pureOp, fillD, ↓reduceIte, reduceCtorEq, Nat.reduceEqDiff, Nat.reduceAdd, Nat.reduceLeDiff, mdT, mrT, h3, boundD, row_ofBytes, len_ofBytes, hc11]
        refine callV hget2 rfl rfl ?_
        simp only [↓S1, S2, S3, pureOp, fillD, ↓reduceIte, reduceCtorEq, Nat.reduceEqDiff, Nat.reduceAdd, Nat.reduceLeDiff, mdT, mrT, u64, convD, q2, len_ofBytes]
        refine callV (room_ok b.length) rfl rfl ?_
        have hro : room (b.length : Int) = (b.length : Int) - 15 := by unfold room; rw [if_pos (by omega)]
        simp only [↓S1, S2, S3, pureOp, fillD, ↓reduceIte, reduceCtorEq, Nat.reduceEqDiff, Nat.reduceAdd, Nat.reduceLeDiff, mdT, mrT, hro]
        refine Br_dec (fun h4 => ?_) (fun h4 => ?_)
        · have hd : openP b = (fr0, 20) := by unfold openP; rw [if_neg (fun hh => by have := (hok.1 hh).2.1; omega)]
          simp only [↓S1, S2, S3, pureOp, fillD, ↓reduceIte, reduceCtorEq, Nat.reduceEqDiff, Nat.reduceAdd, Nat.reduceLeDiff, mdT, mrT, h4, postF, retOk, hr, Env.ress, Env.resOf, Env.outsOk, hd, fr0, frD, bD]
          exact .refl _
        · obtain ⟨Z, hZ⟩ : ∃ Z, Z = (b.take E).drop (11 + n) := ⟨_, rfl⟩
          have hZl : Z.length ≤ b.length := by rw [hZ]; simp; omega
          have w2 : IntKind.i64.wrap (11 + (n : Int)) = ((11 + n : Nat) : Int) := by rw [w64 (by omega)]; simp
          have hcZ : cutL (ofBytes b) (some ((11 + n : Nat) : Int)) (some (E : Int)) = some (ofBytes Z) := by
            rw [cut_nat _ (by omega) (by rw [len_ofBytes]; omega), cut_ofBytes, ← hZ]
          rw [← hZ] at hok
          simp only [↓S1, S2, S3, pureOp, fillD, ↓reduceIte, reduceCtorEq, Nat.reduceEqDiff, Nat.reduceAdd, Nat.reduceLeDiff, mdT, mrT, h4, w2, boundD, row_ofBytes, len_ofBytes, hcZ]
          refine evW_loop (fun k e => ∃ i g' : Nat, k = Z.length - i ∧ i ≤ Z.length ∧ e.tm 0 = .val (.sl (ofBytes b)) ∧ e.tm 2 = .bx 2 0 0 ∧ e.gb 2 = 1 ∧ e.bx 2 0 0 = .val (.int .u8 0) ∧ e.bx 2 0 1 = .val (.int .u64 0) ∧ e.bx 2 0 2 = .own 2 3 g' (.sl []) ∧ e.gb 57 = 0 ∧
            e.tm 5 = .val (.int .i64 n) ∧ e.tm 46 = .val (.sl (ofBytes Z)) ∧ e.tm 47 = .val (.int .i64 Z.length) ∧ e.tm 48 = .val (.int .i64 i) ∧ ∀ c ∈ Z.take i, c = 0) Z.length ?_ ?_
          · exact ⟨0, _, by simp, by simp, rfl, rfl, rfl, rfl, rfl, rfl, rfl, rfl, rfl, rfl, rfl, by simp⟩
          · rintro J hJ k e ⟨i, g', rfl, hi, g0, g2, hg2, b20, b21, b22, hg57, g5, g46, g47, g48, hz⟩
            simp only [↓S1, S2, S3, pureOp, fillD, ↓reduceIte, reduceCtorEq, Nat.reduceEqDiff, Nat.reduceAdd, Nat.reduceLeDiff, mdT, mrT, g46, g47, g48]
            refine Br_dec (fun h5 => ?_) (fun h5 => ?_)
            · obtain ⟨c, hc⟩ : ∃ c, Z[i]? = some c := ⟨_, List.getElem?_eq_getElem (show i < Z.length by omega)⟩
              have hw : IntKind.i64.wrap ((i : Int) + 1) = ((i + 1 : Nat) : Int) := succ64 (by omega)
              have hc0 : ((c.toNat : Int) = 0) ↔ c = 0 := by
                constructor
                · intro hh; apply UInt8.toNat_inj.1; have : (0 : UInt8).toNat = 0 := rfl; omega
                · intro hh; rw [hh]; rfl
              simp only [↓S1, S2, S3, pureOp, fillD, ↓reduceIte, reduceCtorEq, Nat.reduceEqDiff, Nat.reduceAdd, Nat.reduceLeDiff, mdT, mrT, g0, g2, g46, g47, g48, h5, atI_nat, get_ofBytes, hc]
              refine Br_dec (fun h6 => ?_) (fun h6 => ?_)
              · simp only [↓S1, S2, S3, pureOp, fillD, ↓reduceIte, reduceCtorEq, Nat.reduceEqDiff, Nat.reduceAdd, Nat.reduceLeDiff, mdT, mrT, g0, g2, g46, g47, g48, hw]
                refine ⟨_, by omega, hJ _ _ ⟨i + 1, g', rfl, by omega, g0, g2, hg2, b20, b21, b22, hg57, g5, g46, g47, rfl, ?_⟩⟩
                rw [← take_succ hc]
                intro x hx
                rcases List.mem_append.1 hx with hx | hx
                · exact hz x hx
                · rw [List.mem_singleton.1 hx]; exact hc0.1 h6
              · have hd : openP b = (fr0, 20) := by unfold openP; rw [if_neg (fun hh => h6 (hc0.2 ((hok.1 hh).2.2 c (List.mem_of_getElem? hc))))]
                simp only [↓S1, S2, S3, pureOp, fillD, ↓reduceIte, reduceCtorEq, Nat.reduceEqDiff, Nat.reduceAdd, Nat.reduceLeDiff, mdT, mrT, g2, hg2, b20, b21, b22, postF, retOk, hr, Env.ress, Env.resOf, Env.outsOk, hd, fr0, frD, bD]
                exact .refl _
            · rw [List.take_of_length_le (by omega)] at hz
              have hd : openP b = (asFrm b, 0) := by unfold openP; rw [if_pos (hok.2 ⟨by omega, by omega, hz⟩)]
              obtain ⟨c, hc, hhd⟩ : ∃ c, b[0]? = some c ∧ b.headD 0 = c := by
                cases b with
                | nil => simp at h1
                | cons x y => exact ⟨x, rfl, rfl⟩
              have hat0 : atI (ofBytes b) 0 = some (D.int .u8 c.toNat) := by
                have := atI_nat (ofBytes b) 0
                rw [get_ofBytes, hc] at this
                exact this
              have hget3 := get_ok (b.drop 3) 8 (by omega) (by simp; omega)
              rw [bD] at hget3
              have haf : asFrm b = ⟨c, num ((b.drop 3).take 8), (b.drop 11).take n⟩ := by unfold asFrm; rw [hhd, ← hn]
              have hby : ((1 : Nat) : Int) = 1 := rfl
              have hroom : ((n : Int) * 1 ≤ (roomy : Int)) = True := by simp only [roomy, eq_iff_iff, iff_true]; omega
              have hge : ((0 : Int) ≤ (n : Int)) = True := by simp
              have hfl : (ofBytes (b.drop 11)).all (fun d => d.flat) = true := by
                simp only [ofBytes, List.all_map, List.all_eq_true]; intro x _; rfl
              have hnl2 : (n ≤ (b.drop 11).length) = True := by simp; omega
              have htk : (ofBytes (b.drop 11)).take n = ofBytes ((b.drop 11).take n) := by simp [ofBytes]
              have hlt2 : (n = ((b.drop 11).take n).length) = True := by simp; omega
              simp only [↓S1, S2, S3, pureOp, fillD, ↓reduceIte, reduceCtorEq, Nat.reduceEqDiff, Nat.reduceAdd, Nat.reduceLeDiff, mdT, mrT, g0, g2, g5, g46, g47, g48, h5, hby, hroom, hge, Int.toNat_natCast, hg57, boundD, row_ofBytes, len_ofBytes, hcb, hfl, hnl2, htk, hat0, hc3]
              refine ⟨by decide, hasCells_of _ _ _ _ _ fun j hj => ?_, callV hget3 rfl rfl ?_⟩
              · simp only [↓S1, S2, S3, pureOp, fillD, ↓reduceIte, reduceCtorEq, Nat.reduceEqDiff, Nat.reduceAdd, Nat.reduceLeDiff, mdT, mrT, hg57]
                rw [if_pos (by omega)]
                simp [Nat.mod_one]
              · simp only [↓S1, S2, S3, pureOp, fillD, ↓reduceIte, reduceCtorEq, Nat.reduceEqDiff, Nat.reduceAdd, Nat.reduceLeDiff, mdT, mrT, u64, hg57, hlt2, len_ofBytes, g2, hg2, b20, b21, b22, postF, retOk, hr, Env.ress, Env.resOf, Env.outsOk, hd, haf, frD, bD]
                exact .refl _
      · have hd : openP b = (fr0, 20) := by unfold openP; rw [if_neg (fun hh => h3 (by have := (hok.1 hh).1; omega))]
        simp only [↓S1, S2, S3, pureOp, fillD, ↓reduceIte, reduceCtorEq, Nat.reduceEqDiff, Nat.reduceAdd, Nat.reduceLeDiff, mdT, mrT, h3, postF, retOk, hr, Env.ress, Env.resOf, Env.outsOk, hd, fr0, frD, bD]
        exact .refl _
end Go.Proofs.YtebkaacflocfcaaDoor.Ab

/- Walks: a frame of a dump in the program. -/
namespace Go.Proofs.YtebkaacflocfcaaDoor.Ab
open Go
set_option maxRecDepth 100000
set_option linter.unusedSimpArgs false
set_option linter.unusedVariables false

/-- a reader's cells -/
def rdrD (b : Str) (n : Nat) (bad : Bool) (sum : Nat) : List D := [.sl (ofBytes b), .int .i64 n, .bool bad, .int .u32 sum]
def frmBad (b : Str) (n i : Nat) (k : UInt8) : Bool := decide ((openP (blk b n i)).2 ≠ 0 ∨ (openP (blk b n i)).1.kind ≠ k ∨ (openP (blk b n i)).1.gen ≠ i)
theorem wkL_refl (l : List D) : Env.outsOk.WkL l l := ⟨rfl, fun i x y h1 h2 => by rw [h1] at h2; obtain rfl := Option.some.inj h2; exact .refl _⟩
theorem openP_body (b : Str) : (openP b).1.body.length ≤ b.length := by
  unfold openP asFrm fr0
  split
  · simp; omega
  · simp
theorem num_lt8' (l : Str) : num (l.take 8) < 18446744073709551616 := num_lt8 (Nat.le_refl _)
theorem frame25_ok (b : Str) (n i : Nat) (bad : Bool) (sum : Nat) (k : UInt8) (hb : b.length ≤ 1100000) (hn : n ≤ 8192) (hi : (i + 1) * n ≤ b.length) (hi2 : i ≤ 1100000) (hs : sum < 4294967296) :
    ACalls Γ 25 [.p none (rdrD b n bad sum), .v (.int .i64 i), .v (.int .u8 k.toNat)] ⟨bD (openP (blk b n i)).1.body, [rdrD b n (bad || frmBad b n i k) (extN sum (openP (blk b n i)).1.body)]⟩ := by
  refine acalls_of Tryd.func25 rfl rfl (by kernel_rfl) ?_
  have hr : Tryd.f25.results.toList = [.tmp 6] := rfl
  have hin1 : (i + 1) * n = i * n + n := by rw [Nat.add_mul, Nat.one_mul]
  have hw : IntKind.i64.wrap ((i : Int) + 1) = ((i + 1 : Nat) : Int) := succ64 (by omega)
  have hm1 : IntKind.i64.wrap ((i : Int) * (n : Int)) = ((i * n : Nat) : Int) := by
    rw [← Int.natCast_mul]; exact w64 (by omega)
  have hm2 : IntKind.i64.wrap (((i + 1 : Nat) : Int) * (n : Int)) = (((i + 1) * n : Nat) : Int) := by
    rw [← Int.natCast_mul]; exact w64 (by omega)
  have hcut3 : cutL (ofBytes b) (some ((i * n : Nat) : Int)) (some (((i + 1) * n : Nat) : Int)) = some (ofBytes (blk b n i)) := by
    rw [cut_nat _ (by omega) (by rw [len_ofBytes]; omega), cut_ofBytes]
    unfold blk; rw [hin1, List.take_drop]
  have hbl := blk_len b n i
  have hop2 := open42_ok (blk b n i) (by omega)
  rw [bD] at hop2
  have hFb := openP_body (blk b n i)
  unfold frmBad
  generalize openP (blk b n i) = G at *
  obtain ⟨F, E⟩ := G
  dsimp only at *
  have hex := extend_ok sum F.body hs (by omega)
  rw [bD] at hex
  simp only [u32] at hex
  have q1 : IntKind.u64.wrap (i : Int) = (i : Int) := wu64 (by omega)
  have i0 : (Env.init [A.p none [D.sl (ofBytes b), D.int .i64 n, D.bool bad, D.int .u32 sum], A.v (.int .i64 i), A.v (.int .u8 k.toNat)]).bx 100000 0 0 = .val (.sl (ofBytes b)) := rfl
  have i1 : (Env.init [A.p none [D.sl (ofBytes b), D.int .i64 n, D.bool bad, D.int .u32 sum], A.v (.int .i64 i), A.v (.int .u8 k.toNat)]).bx 100000 0 1 = .val (.int .i64 n) := rfl
  have i2 : (Env.init [A.p none [D.sl (ofBytes b), D.int .i64 n, D.bool bad, D.int .u32 sum], A.v (.int .i64 i), A.v (.int .u8 k.toNat)]).bx 100000 0 2 = .val (.bool bad) := rfl
  have i3 : (Env.init [A.p none [D.sl (ofBytes b), D.int .i64 n, D.bool bad, D.int .u32 sum], A.v (.int .i64 i), A.v (.int .u8 k.toNat)]).bx 100000 0 3 = .val (.int .u32 sum) := rfl
  have i4 : (Env.init [A.p none [D.sl (ofBytes b), D.int .i64 n, D.bool bad, D.int .u32 sum], A.v (.int .i64 i), A.v (.int .u8 k.toNat)]).gb 100000 = 1 := rfl
  have hk : ((F.kind.toNat : Int) = (k.toNat : Int)) ↔ F.kind = k := by
    rw [Int.natCast_inj]; exact UInt8.toNat_inj
  have hg : ((F.gen : Int) = (i : Int)) ↔ F.gen = i := Int.natCast_inj
  simp only [↓S1, S2, S3, pureOp, fillD, ↓reduceIte, reduceCtorEq, Nat.reduceEqDiff, Nat.reduceAdd, Nat.reduceLeDiff, mdT, mrT, rdrD, i0, i1, i2, i3, i4, hw, hm1, hm2, boundD, row_ofBytes, hcut3]
  refine callV hop2 rfl rfl ?_
  simp only [↓S1, S2, S3, pureOp, fillD, ↓reduceIte, reduceCtorEq, Nat.reduceEqDiff, Nat.reduceAdd, Nat.reduceLeDiff, mdT, mrT, frD, bD]
  refine Br_dec (fun h1 => ?_) (fun h1 => ?_)
  · simp only [↓S1, S2, S3, pureOp, fillD, ↓reduceIte, reduceCtorEq, Nat.reduceEqDiff, Nat.reduceAdd, Nat.reduceLeDiff, mdT, mrT, h1]
    refine Br_dec (fun h2 => ?_) (fun h2 => ?_)
    · simp only [↓S1, S2, S3, pureOp, fillD, ↓reduceIte, reduceCtorEq, Nat.reduceEqDiff, Nat.reduceAdd, Nat.reduceLeDiff, mdT, mrT, h2, convD, q1]
      refine Br_dec (fun h3 => ?_) (fun h3 => ?_)
      · have hd : decide (E ≠ 0 ∨ F.kind ≠ k ∨ F.gen ≠ i) = false := decide_eq_false (by rw [h1, hk.1 h2, hg.1 h3]; simp)
        simp only [↓S1, S2, S3, pureOp, fillD, ↓reduceIte, reduceCtorEq, Nat.reduceEqDiff, Nat.reduceAdd, Nat.reduceLeDiff, mdT, mrT, h1, h2, h3, i0, i1, i2, i3, i4]
        refine callV hex rfl rfl ?_
        simp only [↓S1, S2, S3, pureOp, fillD, ↓reduceIte, reduceCtorEq, Nat.reduceEqDiff, Nat.reduceAdd, Nat.reduceLeDiff, mdT, mrT, i0, i1, i2, i3, i4, postF, retOk, hr, Env.ress, Env.resOf, Env.outsOk, bD, hd, Bool.or_false]
        exact ⟨.refl _, _, rfl, wkL_refl _⟩
      · have hd : decide (E ≠ 0 ∨ F.kind ≠ k ∨ F.gen ≠ i) = true := decide_eq_true (.inr (.inr fun hh => h3 (hg.2 hh)))
        simp only [↓S1, S2, S3, pureOp, fillD, ↓reduceIte, reduceCtorEq, Nat.reduceEqDiff, Nat.reduceAdd, Nat.reduceLeDiff, mdT, mrT, h1, h2, h3, i0, i1, i2, i3, i4]
        refine callV hex rfl rfl ?_
        simp only [↓S1, S2, S3, pureOp, fillD, ↓reduceIte, reduceCtorEq, Nat.reduceEqDiff, Nat.reduceAdd, Nat.reduceLeDiff, mdT, mrT, i0, i1, i2, i3, i4, postF, retOk, hr, Env.ress, Env.resOf, Env.outsOk, bD, hd, Bool.or_true]
        exact ⟨.refl _, _, rfl, wkL_refl _⟩
    · have hd : decide (E ≠ 0 ∨ F.kind ≠ k ∨ F.gen ≠ i) = true := decide_eq_true (.inr (.inl fun hh => h2 (hk.2 hh)))
      simp only [↓S1, S2, S3, pureOp, fillD, ↓reduceIte, reduceCtorEq, Nat.reduceEqDiff, Nat.reduceAdd, Nat.reduceLeDiff, mdT, mrT, h1, h2, i0, i1, i2, i3, i4]
      refine callV hex rfl rfl ?_
      simp only [↓S1, S2, S3, pureOp, fillD, ↓reduceIte, reduceCtorEq, Nat.reduceEqDiff, Nat.reduceAdd, Nat.reduceLeDiff, mdT, mrT, i0, i1, i2, i3, i4, postF, retOk, hr, Env.ress, Env.resOf, Env.outsOk, bD, hd, Bool.or_true]
      exact ⟨.refl _, _, rfl, wkL_refl _⟩
  · have hd : decide (E ≠ 0 ∨ F.kind ≠ k ∨ F.gen ≠ i) = true := decide_eq_true (.inl h1)
    simp only [↓S1, S2, S3, pureOp, fillD, ↓reduceIte, reduceCtorEq, Nat.reduceEqDiff, Nat.reduceAdd, Nat.reduceLeDiff, mdT, mrT, h1, i0, i1, i2, i3, i4]
    refine callV hex rfl rfl ?_
    simp only [↓S1, S2, S3, pureOp, fillD, ↓reduceIte, reduceCtorEq, Nat.reduceEqDiff, Nat.reduceAdd, Nat.reduceLeDiff, mdT, mrT, i0, i1, i2, i3, i4, postF, retOk, hr, Env.ress, Env.resOf, Env.outsOk, bD, hd, Bool.or_true]
    exact ⟨.refl _, _, rfl, wkL_refl _⟩
theorem callP25 {x y : AV} {zs : List A} {e : Env} {K : Env → Prop} {t b g : Nat} {r d0 d1 d2 d3 : D} (h : ACalls Γ 25 zs ⟨r, [[d0, d1, d2, d3]]⟩)
    (hk : K ((((((e.forget b g).setB b g 0 (.val d0)).setB b g 1 (.val d1)).setB b g 2 (.val d2)).setB b g 3 (.val d3)).setT t (.val r))) : evCallA Γ (some t) 25 [.bx b g 0, x, y] zs e K := by
  refine evCallA_mk _ h ?_ ?_
  · rw [Γmd]; simp [mdT, argIds]
  · rw [Γmr, Γmd]
    simp only [mrT, mdT]
    have : e.after [.p 4, .v, .v] [.bx b g 0, x, y] [[d0, d1, d2, d3]] = ((((e.forget b g).setB b g 0 (.val d0)).setB b g 1 (.val d1)).setB b g 2 (.val d2)).setB b g 3 (.val d3) := by simp [Env.after, Env.strip, Env.fillIn, Env.putCells]
    rw [this]
    exact hk
theorem callP28 {x y : AV} {zs : List A} {e : Env} {K : Env → Prop} {t b g : Nat} {r d0 d1 d2 : D} (h : ACalls Γ 28 zs ⟨r, [[d0, d1, d2]]⟩)
    (hk : K (((((e.forget b g).setB b g 0 (.val d0)).setB b g 1 (.val d1)).setB b g 2 (.val d2)).setT t (.val r))) : evCallA Γ (some t) 28 [x, y, .bx b g 0] zs e K := by
  refine evCallA_mk _ h ?_ ?_
  · rw [Γmd]; simp [mdT, argIds]
  · rw [Γmr, Γmd]
    simp only [mrT, mdT]
    have : e.after [.v, .v, .p 3] [x, y, .bx b g 0] [[d0, d1, d2]] = (((e.forget b g).setB b g 0 (.val d0)).setB b g 1 (.val d1)).setB b g 2 (.val d2) := by simp [Env.after, Env.strip, Env.fillIn, Env.putCells]
    rw [this]
    exact hk
/-- the count goes up -/
theorem count_ok (k : Str) (vs : List D) (fs : List D) (q : Nat) (c : Nat) (hc : c ≤ 1000000000000) :
    ACalls Γ 28 [.v (.str k), .v (.sl vs), .p none [.sl fs, .int .u64 q, .int .i64 c]] ⟨.bool true, [[.sl fs, .int .u64 q, .int .i64 ((c + 1 : Nat) : Int)]]⟩ := by
  refine acalls_of Tryd.func28 rfl rfl (by kernel_rfl) ?_
  have hr : Tryd.f28.results.toList = [.tmp 5] := rfl
  have hw : IntKind.i64.wrap ((c : Int) + 1) = ((c + 1 : Nat) : Int) := succ64 (by omega)
  have i0 : (Env.init [A.v (.str k), A.v (.sl vs), A.p none [.sl fs, .int .u64 q, .int .i64 c]]).bx 100002 0 0 = .val (.sl fs) := rfl
  have i1 : (Env.init [A.v (.str k), A.v (.sl vs), A.p none [.sl fs, .int .u64 q, .int .i64 c]]).bx 100002 0 1 = .val (.int .u64 q) := rfl
  have i2 : (Env.init [A.v (.str k), A.v (.sl vs), A.p none [.sl fs, .int .u64 q, .int .i64 c]]).bx 100002 0 2 = .val (.int .i64 c) := rfl
  have i4 : (Env.init [A.v (.str k), A.v (.sl vs), A.p none [.sl fs, .int .u64 q, .int .i64 c]]).gb 100002 = 1 := rfl
  simp only [↓S1, S2, S3, pureOp, fillD, ↓reduceIte, reduceCtorEq, Nat.reduceEqDiff, Nat.reduceAdd, Nat.reduceLeDiff, mdT, mrT, i0, i1, i2, i4, hw, postF, retOk, hr, Env.ress, Env.resOf, Env.outsOk]
  exact ⟨.refl _, _, rfl, wkL_refl _⟩
end Go.Proofs.YtebkaacflocfcaaDoor.Ab
