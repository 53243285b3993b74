/- Contracts of the reference functions that write and read a value. -/
import Derived.Test.YtebkaacflocfcaaDoorM4
set_option linter.unusedVariables false
set_option linter.unusedSimpArgs false
set_option linter.defProp false
/- Walks: records in the reference. -/
namespace Go.Proofs.YtebkaacflocfcaaDoor.Ab
open Go
set_option maxRecDepth 100000
set_option linter.unusedSimpArgs false
set_option linter.unusedVariables false

def I64 (n : Int) : Prop := -9223372036854775808 ≤ n ∧ n ≤ 9223372036854775807
def turned (n : Int) : Nat := if 0 ≤ n then 2 * n.toNat else 2 * (-(n + 1)).toNat + 1
theorem turned_lt {n : Int} (h : I64 n) : turned n < 18446744073709551616 := by
  unfold turned I64 at *; split <;> omega
theorem turned_ok (n : Int) (hn : I64 n) : ACalls Γ 77 [.v (.int .i64 n)] ⟨u64 (turned n), []⟩ := by
  refine acalls_of Tryd.func77 rfl rfl (by kernel_rfl) ?_
  have hr : Tryd.f77.results.toList = [.tmp 2] := rfl
  unfold I64 at hn
  simp only [↓S1, S2, S3, pureOp, fillD, ↓reduceIte, reduceCtorEq, Nat.reduceEqDiff, Nat.reduceAdd, Nat.reduceLeDiff, mdT, mrT]
  refine Br_dec (fun h => ?_) (fun h => ?_)
  · have e1 : IntKind.u64.wrap n = n := wu64 (by omega)
    have e2 : IntKind.u64.wrap (2 * n) = ((turned n : Nat) : Int) := by rw [wu64 (by omega)]; unfold turned; rw [if_pos (by omega)]; omega
    simp only [↓S1, S2, S3, pureOp, fillD, ↓reduceIte, reduceCtorEq, Nat.reduceEqDiff, Nat.reduceAdd, Nat.reduceLeDiff, mdT, mrT, h, convD, e1, e2, postF, retOk, hr, Env.ress, Env.resOf, Env.outsOk, u64]
    exact .refl _
  · have e1 : IntKind.i64.wrap (n + 1) = n + 1 := w64 (by omega)
    have e2 : IntKind.i64.wrap (0 - (n + 1)) = -(n + 1) := by rw [w64 (by omega)]; omega
    have e3 : IntKind.u64.wrap (-(n + 1)) = -(n + 1) := wu64 (by omega)
    have e4 : IntKind.u64.wrap (2 * -(n + 1)) = 2 * -(n + 1) := wu64 (by omega)
    have e5 : IntKind.u64.wrap (2 * -(n + 1) + 1) = ((turned n : Nat) : Int) := by rw [wu64 (by omega)]; unfold turned; rw [if_neg (by omega)]; omega
    simp only [↓S1, S2, S3, pureOp, fillD, ↓reduceIte, reduceCtorEq, Nat.reduceEqDiff, Nat.reduceAdd, Nat.reduceLeDiff, mdT, mrT, h, convD, e1, e2, e3, e4, e5, postF, retOk, hr, Env.ress, Env.resOf, Env.outsOk, u64]
    exact .refl _

def groups (u : Nat) : Str := if h : u < 128 then [UInt8.ofNat u] else UInt8.ofNat (u % 128 + 128) :: groups (u / 128)
termination_by u
decreasing_by omega
theorem groups_lo {u : Nat} (h : u < 128) : groups u = [UInt8.ofNat u] := by rw [groups, dif_pos h]
theorem groups_hi {u : Nat} (h : ¬ u < 128) : groups u = UInt8.ofNat (u % 128 + 128) :: groups (u / 128) := by rw [groups, dif_neg h]
theorem groups_len : ∀ (k u : Nat), u < 128 ^ (k + 1) → (groups u).length ≤ k + 1 := by
  intro k
  induction k with
  | zero => intro u h; rw [groups_lo (by simpa using h)]; simp
  | succ k ih =>
    intro u h
    by_cases hu : u < 128
    · rw [groups_lo hu]; simp
    · rw [groups_hi hu, List.length_cons]
      have := ih (u / 128) (by rw [Nat.pow_succ] at h; exact Nat.div_lt_of_lt_mul (by rw [Nat.mul_comm]; exact h))
      omega
theorem groups64 {u : Nat} (h : u < 18446744073709551616) : (groups u).length ≤ 10 := groups_len 9 u (Nat.lt_trans h (by decide))
theorem addInt_ok (b : Str) (n : Int) (hb : b.length ≤ 1000000000000) (hn : I64 n) : ACalls Γ 63 [.o (bD b), .v (.int .i64 n)] ⟨bD (b ++ groups (turned n)), []⟩ := by
  refine acalls_of Tryd.func63 rfl rfl (by kernel_rfl) ?_
  have hr : Tryd.f63.results.toList = [.tmp 4] := rfl
  have htl := turned_lt hn
  simp only [↓S1, S2, S3, pureOp, fillD, ↓reduceIte, reduceCtorEq, Nat.reduceEqDiff, Nat.reduceAdd, Nat.reduceLeDiff, mdT, mrT]
  refine callV (turned_ok n hn) rfl rfl ?_
  generalize turned n = u at *
  have hgl := groups64 htl
  simp only [↓S1, S2, S3, pureOp, fillD, ↓reduceIte, reduceCtorEq, Nat.reduceEqDiff, Nat.reduceAdd, Nat.reduceLeDiff, mdT, mrT, u64]
  refine evW_loop (fun n e => ∃ (a : Str) (g : Nat), n < 18446744073709551616 ∧ e.tm 5 = .val (u64 n) ∧ e.tm 0 = .own 0 0 g (bD a) ∧ e.lv 0 0 g = true ∧ a ++ groups n = b ++ groups u) u ?_ ?_
  · exact ⟨b, 0, htl, rfl, rfl, rfl, rfl⟩
  · rintro J hJ v e ⟨a, g, hv, h5, h0, hg, ha⟩
    have hal : a.length ≤ 1000000000010 := by
      have := congrArg List.length ha
      simp only [List.length_append] at this
      omega
    simp only [↓S1, S2, S3, pureOp, fillD, ↓reduceIte, reduceCtorEq, Nat.reduceEqDiff, Nat.reduceAdd, Nat.reduceLeDiff, mdT, mrT, h5, h0, hg, u64]
    refine Br_dec (fun h => ?_) (fun h => ?_)
    · have q1 : ((v : Nat) : Int).tmod 128 = ((v % 128 : Nat) : Int) := tmodN _ 128 rfl rfl
      have q2 : ((v : Nat) : Int).tdiv 128 = ((v / 128 : Nat) : Int) := tdivN _ 128 rfl rfl
      have q3 : IntKind.u64.wrap ((v / 128 : Nat) : Int) = ((v / 128 : Nat) : Int) := wrapU rfl (show v / 128 < 2 ^ 64 by omega)
      have q4 : IntKind.u64.wrap (((v % 128 : Nat) : Int) + 128) = ((v % 128 + 128 : Nat) : Int) := by rw [wu64 (by omega)]; rfl
      have q5 : IntKind.u8.wrap ((v % 128 + 128 : Nat) : Int) = ((UInt8.ofNat (v % 128 + 128)).toNat : Int) := by
        rw [wrapU rfl (show v % 128 + 128 < 2 ^ 8 by omega)]; simp; omega
      simp only [↓S1, S2, S3, pureOp, fillD, ↓reduceIte, reduceCtorEq, Nat.reduceEqDiff, Nat.reduceAdd, Nat.reduceLeDiff, mdT, mrT, h5, h0, hg, h, u64, bD, Int.reduceEq, q1, q2, q3, q4, q5, convD, row_ofBytes]
      refine ⟨by simp only [len_ofBytes, roomy]; omega, v / 128, by omega, hJ _ _ ⟨a ++ [UInt8.ofNat (v % 128 + 128)], e.gc 0 0, by omega, rfl, ?_, ?_, ?_⟩⟩
      · simp only [↓S1, S2, S3, pureOp, fillD, ↓reduceIte, reduceCtorEq, Nat.reduceEqDiff, Nat.reduceAdd, Nat.reduceLeDiff, mdT, mrT]
        rw [one_ofBytes, add_ofBytes]; rfl
      · simp only [↓S1, S2, S3, pureOp, fillD, ↓reduceIte, reduceCtorEq, Nat.reduceEqDiff, Nat.reduceAdd, Nat.reduceLeDiff, mdT, mrT]
      · rw [← ha, groups_hi (u := v) (by omega), List.append_assoc]; rfl
    · have q5 : IntKind.u8.wrap (v : Int) = ((UInt8.ofNat v).toNat : Int) := by
        rw [wrapU rfl (show v < 2 ^ 8 by omega)]; simp; omega
      simp only [↓S1, S2, S3, pureOp, fillD, ↓reduceIte, reduceCtorEq, Nat.reduceEqDiff, Nat.reduceAdd, Nat.reduceLeDiff, mdT, mrT, h5, h0, hg, h, u64, bD, Int.reduceEq, q5, convD, row_ofBytes, postF, retOk, hr, Env.ress, Env.resOf, Env.outsOk]
      refine ⟨by simp only [len_ofBytes, roomy]; omega, ?_⟩
      rw [one_ofBytes, add_ofBytes, ← ha, groups_lo (by omega)]
      exact .refl _

def fits (f : Fld) (v : Val) : Bool :=
  if v.kind = 0 then f.opt && decide (v.n = 0) && decide (v.s = [])
  else if v.kind ≠ f.type then false
  else if v.kind = 1 then decide (v.s = [])
  else if v.kind = 2 then decide (v.n = 0 ∨ v.n = 1) && decide (v.s = [])
  else if v.kind = 3 then decide (v.n = 0) && decide (v.s.length ≤ 20)
  else false
theorem fits6_ok (f : Fld) (v : Val) : ACalls Γ 76 [.v (fD f), .v (vD v)] ⟨.bool (fits f v), []⟩ := by
  refine acalls_of Tryd.func76 rfl rfl (by kernel_rfl) ?_
  have hr : Tryd.f76.results.toList = [.tmp 4] := rfl
  simp only [↓S1, S2, S3, pureOp, fillD, ↓reduceIte, reduceCtorEq, Nat.reduceEqDiff, Nat.reduceAdd, Nat.reduceLeDiff, mdT, mrT, fD, vD]
  refine Br_dec (fun h1 => ?_) (fun h1 => ?_)
  · have hf : fits f v = (f.opt && decide (v.n = 0) && decide (v.s = [])) := by simp only [fits, if_pos h1]
    cases ho : f.opt with
    | false =>
      simp only [↓S1, S2, S3, pureOp, fillD, ↓reduceIte, reduceCtorEq, Nat.reduceEqDiff, Nat.reduceAdd, Nat.reduceLeDiff, mdT, mrT, ho, hf, postF, retOk, hr, Env.ress, Env.resOf, Env.outsOk]
      exact .refl _
    | true =>
      simp only [↓S1, S2, S3, pureOp, fillD, ↓reduceIte, reduceCtorEq, Nat.reduceEqDiff, Nat.reduceAdd, Nat.reduceLeDiff, mdT, mrT, ho]
      refine Br_dec (fun h2 => ?_) (fun h2 => ?_)
      · simp only [↓S1, S2, S3, pureOp, fillD, ↓reduceIte, reduceCtorEq, Nat.reduceEqDiff, Nat.reduceAdd, Nat.reduceLeDiff, mdT, mrT, ho, hf, h2, postF, retOk, hr, Env.ress, Env.resOf, Env.outsOk, Array.toList_empty]
        exact .refl _
      · simp only [↓S1, S2, S3, pureOp, fillD, ↓reduceIte, reduceCtorEq, Nat.reduceEqDiff, Nat.reduceAdd, Nat.reduceLeDiff, mdT, mrT, ho, hf, h2, postF, retOk, hr, Env.ress, Env.resOf, Env.outsOk, Bool.false_and]
        exact .refl _
  · simp only [↓S1, S2, S3, pureOp, fillD, ↓reduceIte, reduceCtorEq, Nat.reduceEqDiff, Nat.reduceAdd, Nat.reduceLeDiff, mdT, mrT, h1]
    refine Br_dec (fun h2 => ?_) (fun h2 => ?_)
    · have h1' : ¬ f.type = 0 := h2 ▸ h1
      simp only [↓S1, S2, S3, pureOp, fillD, ↓reduceIte, reduceCtorEq, Nat.reduceEqDiff, Nat.reduceAdd, Nat.reduceLeDiff, mdT, mrT, h1, h2]
      refine Br_dec (fun h3 => ?_) (fun h3 => ?_)
      · have hf : fits f v = decide (v.s = []) := by simp [fits, h2, h1', h3]
        simp only [↓S1, S2, S3, pureOp, fillD, ↓reduceIte, reduceCtorEq, Nat.reduceEqDiff, Nat.reduceAdd, Nat.reduceLeDiff, mdT, mrT, hf, h3, postF, retOk, hr, Env.ress, Env.resOf, Env.outsOk, Array.toList_empty]
        exact .refl _
      · simp only [↓S1, S2, S3, pureOp, fillD, ↓reduceIte, reduceCtorEq, Nat.reduceEqDiff, Nat.reduceAdd, Nat.reduceLeDiff, mdT, mrT, h3]
        refine Br_dec (fun h4 => ?_) (fun h4 => ?_)
        · have hf : fits f v = (decide (v.n = 0 ∨ v.n = 1) && decide (v.s = [])) := by simp [fits, h2, h1', h3, h4]
          simp only [↓S1, S2, S3, pureOp, fillD, ↓reduceIte, reduceCtorEq, Nat.reduceEqDiff, Nat.reduceAdd, Nat.reduceLeDiff, mdT, mrT, h4]
          refine Br_dec (fun h5 => ?_) (fun h5 => ?_)
          · simp only [↓S1, S2, S3, pureOp, fillD, ↓reduceIte, reduceCtorEq, Nat.reduceEqDiff, Nat.reduceAdd, Nat.reduceLeDiff, mdT, mrT, hf, h4, h5, postF, retOk, hr, Env.ress, Env.resOf, Env.outsOk, Array.toList_empty]
            exact .refl _
          · simp only [↓S1, S2, S3, pureOp, fillD, ↓reduceIte, reduceCtorEq, Nat.reduceEqDiff, Nat.reduceAdd, Nat.reduceLeDiff, mdT, mrT, h4, h5]
            refine Br_dec (fun h6 => ?_) (fun h6 => ?_)
            · simp only [↓S1, S2, S3, pureOp, fillD, ↓reduceIte, reduceCtorEq, Nat.reduceEqDiff, Nat.reduceAdd, Nat.reduceLeDiff, mdT, mrT, hf, h4, h5, h6, postF, retOk, hr, Env.ress, Env.resOf, Env.outsOk, Array.toList_empty, or_true, decide_true]
              exact .refl _
            · simp only [↓S1, S2, S3, pureOp, fillD, ↓reduceIte, reduceCtorEq, Nat.reduceEqDiff, Nat.reduceAdd, Nat.reduceLeDiff, mdT, mrT, hf, h4, h5, h6, postF, retOk, hr, Env.ress, Env.resOf, Env.outsOk, Array.toList_empty, or_self, Bool.false_and]
              exact .refl _
        · simp only [↓S1, S2, S3, pureOp, fillD, ↓reduceIte, reduceCtorEq, Nat.reduceEqDiff, Nat.reduceAdd, Nat.reduceLeDiff, mdT, mrT, h4]
          refine Br_dec (fun h5 => ?_) (fun h5 => ?_)
          · have hf : fits f v = (decide (v.n = 0) && decide (v.s.length ≤ 20)) := by simp [fits, h2, h1', h3, h4, h5]
            simp only [↓S1, S2, S3, pureOp, fillD, ↓reduceIte, reduceCtorEq, Nat.reduceEqDiff, Nat.reduceAdd, Nat.reduceLeDiff, mdT, mrT, h5]
            refine Br_dec (fun h6 => ?_) (fun h6 => ?_)
            · simp only [↓S1, S2, S3, pureOp, fillD, ↓reduceIte, reduceCtorEq, Nat.reduceEqDiff, Nat.reduceAdd, Nat.reduceLeDiff, mdT, mrT, hf, h5, h6, postF, retOk, hr, Env.ress, Env.resOf, Env.outsOk]
              refine wk_bool ?_
              rw [decide_eq_decide]; omega
            · simp only [↓S1, S2, S3, pureOp, fillD, ↓reduceIte, reduceCtorEq, Nat.reduceEqDiff, Nat.reduceAdd, Nat.reduceLeDiff, mdT, mrT, hf, h5, h6, postF, retOk, hr, Env.ress, Env.resOf, Env.outsOk, Bool.false_and]
              exact .refl _
          · have hf : fits f v = false := by simp [fits, h2, h1', h3, h4, h5]
            simp only [↓S1, S2, S3, pureOp, fillD, ↓reduceIte, reduceCtorEq, Nat.reduceEqDiff, Nat.reduceAdd, Nat.reduceLeDiff, mdT, mrT, hf, h5, postF, retOk, hr, Env.ress, Env.resOf, Env.outsOk]
            exact .refl _
    · have hf : fits f v = false := by simp only [fits, if_neg h1, ne_eq, h2, not_false_eq_true, if_true]
      simp only [↓S1, S2, S3, pureOp, fillD, ↓reduceIte, reduceCtorEq, Nat.reduceEqDiff, Nat.reduceAdd, Nat.reduceLeDiff, mdT, mrT, hf, h2, postF, retOk, hr, Env.ress, Env.resOf, Env.outsOk]
      exact .refl _
end Go.Proofs.YtebkaacflocfcaaDoor.Ab

/- Walks: Check and Encode in the reference. -/
namespace Go.Proofs.YtebkaacflocfcaaDoor.Ab
open Go
set_option maxRecDepth 100000
set_option linter.unusedSimpArgs false
set_option linter.unusedVariables false

def fitsAll (s : List Fld) (r : List Val) : Bool := (s.zip r).all fun p => fits p.1 p.2
def errR (s : List Fld) (r : List Val) : Int := if errS s ≠ 0 then errS s else if r.length ≠ s.length then 61 else if fitsAll s r = true then 0 else 61
def SchB (s : List Fld) : Prop := s.length ≤ 1000000000 ∧ ∀ f ∈ s, f.name.length ≤ 1000000000
theorem zip_succ {α β : Type} {s : List α} {r : List β} {i : Nat} {f : α} {v : β} (hf : s[i]? = some f) (hv : r[i]? = some v) : (s.zip r).take (i + 1) = (s.zip r).take i ++ [(f, v)] := by
  have : (s.zip r)[i]? = some (f, v) := by rw [List.getElem?_zip_eq_some]; exact ⟨hf, hv⟩
  rw [take_succ this]
theorem check6_ok (s : List Fld) (r : List Val) (hs : SchB s) (hrl : r.length ≤ 1000000000) : ACalls Γ 62 [.v (sD s), .v (vsD r)] ⟨.int .i64 (errR s r), []⟩ := by
  refine acalls_of Tryd.func62 rfl rfl (by kernel_rfl) ?_
  have hr : Tryd.f62.results.toList = [.tmp 4] := rfl
  simp only [↓S1, S2, S3, pureOp, fillD, ↓reduceIte, reduceCtorEq, Nat.reduceEqDiff, Nat.reduceAdd, Nat.reduceLeDiff, mdT, mrT, sD, vsD]
  refine callV (checkSchema6_ok s hs.1 hs.2) rfl rfl ?_
  simp only [↓S1, S2, S3, pureOp, fillD, ↓reduceIte, reduceCtorEq, Nat.reduceEqDiff, Nat.reduceAdd, Nat.reduceLeDiff, mdT, mrT]
  refine Br_dec (fun h1 => ?_) (fun h1 => ?_)
  · simp only [↓S1, S2, S3, pureOp, fillD, ↓reduceIte, reduceCtorEq, Nat.reduceEqDiff, Nat.reduceAdd, Nat.reduceLeDiff, mdT, mrT, h1]
    refine Br_dec (fun h2 => ?_) (fun h2 => ?_)
    · simp only [↓S1, S2, S3, pureOp, fillD, ↓reduceIte, reduceCtorEq, Nat.reduceEqDiff, Nat.reduceAdd, Nat.reduceLeDiff, mdT, mrT, h2]
      refine evW_loop (fun n e => ∃ i : Nat, n = r.length - i ∧ i ≤ r.length ∧ e.tm 2 = .bx 2 0 0 ∧ e.bx 2 0 0 = .val (.sl (s.map fD)) ∧ e.gb 2 = 1 ∧ e.tm 1 = .val (.sl (r.map vD)) ∧ e.tm 6 = .val (.int .i64 i) ∧ ((s.zip r).take i).all (fun p => fits p.1 p.2) = true) r.length ?_ ?_
      · exact ⟨0, by simp, by simp, rfl, rfl, rfl, rfl, rfl, by simp⟩
      · rintro J hJ n e ⟨i, rfl, hi, g2, hb, hg, g1, g6, ha⟩
        simp only [↓S1, S2, S3, pureOp, fillD, ↓reduceIte, reduceCtorEq, Nat.reduceEqDiff, Nat.reduceAdd, Nat.reduceLeDiff, mdT, mrT, g2, hb, hg, g1, g6]
        refine Br_dec (fun h => ?_) (fun h => ?_)
        · have hlt : i < r.length := by omega
          obtain ⟨v, hv⟩ : ∃ v, r[i]? = some v := ⟨_, List.getElem?_eq_getElem hlt⟩
          obtain ⟨f, hf⟩ : ∃ f, s[i]? = some f := ⟨_, List.getElem?_eq_getElem (show i < s.length by omega)⟩
          have hw : IntKind.i64.wrap ((i : Int) + 1) = ((i + 1 : Nat) : Int) := succ64 (by omega)
          simp only [↓S1, S2, S3, pureOp, fillD, ↓reduceIte, reduceCtorEq, Nat.reduceEqDiff, Nat.reduceAdd, Nat.reduceLeDiff, mdT, mrT, g2, hb, hg, g1, g6, h, atI_nat, hf, hv, fD, vD]
          refine callV (fits6_ok f v) rfl rfl ?_
          cases hfv : fits f v with
          | true =>
            simp only [↓S1, S2, S3, pureOp, fillD, ↓reduceIte, reduceCtorEq, Nat.reduceEqDiff, Nat.reduceAdd, Nat.reduceLeDiff, mdT, mrT, g2, hb, hg, g1, g6, hw]
            refine ⟨_, ?_, hJ _ _ ⟨i + 1, rfl, by omega, g2, hb, hg, g1, rfl, ?_⟩⟩
            · omega
            · rw [zip_succ hf hv, List.all_append, ha]; simp [hfv]
          | false =>
            have hno : errR s r = 61 := by
              have : fitsAll s r = false := by
                unfold fitsAll
                rw [List.all_eq_false]
                refine ⟨(f, v), ?_, by simp [hfv]⟩
                refine List.mem_of_getElem? (i := i) ?_
                rw [List.getElem?_zip_eq_some]; exact ⟨hf, hv⟩
              simp [errR, h1, this]
            simp only [↓S1, S2, S3, pureOp, fillD, ↓reduceIte, reduceCtorEq, Nat.reduceEqDiff, Nat.reduceAdd, Nat.reduceLeDiff, mdT, mrT, g2, hb, hg, g1, g6, postF, retOk, hr, Env.ress, Env.resOf, Env.outsOk, hno]
            exact .refl _
        · have hyes : errR s r = 0 := by
            rw [List.take_of_length_le (by simp; omega)] at ha
            have h2' : r.length = s.length := by omega
            simp [errR, h1, h2', fitsAll, ha]
          simp only [↓S1, S2, S3, pureOp, fillD, ↓reduceIte, reduceCtorEq, Nat.reduceEqDiff, Nat.reduceAdd, Nat.reduceLeDiff, mdT, mrT, g2, hb, hg, g1, g6, h, postF, retOk, hr, Env.ress, Env.resOf, Env.outsOk, hyes]
          exact .refl _
    · have hno : errR s r = 61 := by
        have h2' : ¬ r.length = s.length := by omega
        simp [errR, h1, h2']
      simp only [↓S1, S2, S3, pureOp, fillD, ↓reduceIte, reduceCtorEq, Nat.reduceEqDiff, Nat.reduceAdd, Nat.reduceLeDiff, mdT, mrT, h2, postF, retOk, hr, Env.ress, Env.resOf, Env.outsOk, hno]
      exact .refl _
  · have hno : errR s r = errS s := by simp [errR, h1]
    simp only [↓S1, S2, S3, pureOp, fillD, ↓reduceIte, reduceCtorEq, Nat.reduceEqDiff, Nat.reduceAdd, Nat.reduceLeDiff, mdT, mrT, h1, postF, retOk, hr, Env.ress, Env.resOf, Env.outsOk, hno]
    exact .refl _
end Go.Proofs.YtebkaacflocfcaaDoor.Ab

/- Walks: Encode in the reference. -/
namespace Go.Proofs.YtebkaacflocfcaaDoor.Ab
open Go
set_option maxRecDepth 100000
set_option linter.unusedSimpArgs false
set_option linter.unusedVariables false

theorem callA1 {f : FuncId} {c k g : Nat} {d : D} {x : AV} {zs : List A} {e : Env} {K : Env → Prop} {t : Nat} {res : ARes} (h : ACalls Γ f zs res) (hm : mdT f = [.o, .v]) (hr : mrT f = true)
    (hk : K (((e.kill c k g).birth t 0).setT t (.own t 0 (e.gc t 0) res.ret))) : evCallA Γ (some t) f [.own c k g d, x] zs e K := by
  refine evCallA_mk res h ?_ ?_
  · rw [Γmd, hm]; simp [argIds]
  · rw [Γmr, hr, Γmd, hm]
    have : e.after [.o, .v] [.own c k g d, x] res.outs = e.kill c k g := by simp [Env.after, Env.strip, Env.fillIn]
    rw [this]
    exact hk
theorem wk_tup2 {a b c d : D} (h1 : Wk a c) (h2 : Wk b d) : Wk (.tup [a, b]) (.tup [c, d]) := by
  refine .tup rfl fun i x y hx hy => ?_
  match i with
  | 0 => simp at hx hy; subst hx hy; exact h1
  | 1 => simp at hx hy; subst hx hy; exact h2
  | n + 2 => simp at hx
def bit (b : Bool) : Nat := if b then 1 else 0
def markN : List (Fld × Val) → Nat
  | [] => 0
  | p :: r => if p.1.opt then bit (decide (p.2.kind ≠ 0)) + 2 * markN r else markN r
def encV (v : Val) : Str := if v.kind = 1 then groups (turned v.n) else if v.kind = 2 then [UInt8.ofNat (v.n % 256).toNat] else if v.kind = 3 then UInt8.ofNat (v.s.length % 256) :: v.s else []
def encR (s : List Fld) (r : List Val) : Str := (if 0 < opts s then [UInt8.ofNat (markN (s.zip r) % 256)] else []) ++ r.flatMap encV
def encD (s : List Fld) (r : List Val) : Str := if errR s r = 0 then encR s r else []
def ValB (r : List Val) : Prop := r.length ≤ 1000000000 ∧ ∀ v ∈ r, I64 v.n ∧ v.s.length ≤ 1000000000
theorem errR_0 {s : List Fld} {r : List Val} (h : errR s r = 0) : schemaOk s = true ∧ r.length = s.length ∧ fitsAll s r = true := by
  unfold errR errS at h
  by_cases h1 : schemaOk s = true
  · simp only [h1, if_true] at h
    by_cases h2 : r.length = s.length
    · by_cases h3 : fitsAll s r = true
      · exact ⟨h1, h2, h3⟩
      · simp [h2, h3] at h
    · simp [h2] at h
  · simp [h1] at h
theorem schema_len {s : List Fld} (h : schemaOk s = true) : 1 ≤ s.length ∧ s.length ≤ 8 := by
  simp only [schemaOk, Bool.and_eq_true, decide_eq_true_eq] at h
  exact h.1.1.1
theorem drop_cons {α : Type} {l : List α} {i : Nat} {c : α} (h : l[i]? = some c) : l.drop i = c :: l.drop (i + 1) := by
  have hlt : i < l.length := by
    rcases Nat.lt_or_ge i l.length with h' | h'
    · exact h'
    · rw [List.getElem?_eq_none h'] at h; cases h
  rw [List.drop_eq_getElem_cons hlt]
  rw [List.getElem?_eq_getElem hlt] at h
  rw [Option.some.inj h]
theorem encV_len (v : Val) (h : v.s.length ≤ 1000000000) (hn : I64 v.n) : (encV v).length ≤ 1000000010 := by
  unfold encV
  have := groups64 (turned_lt hn)
  split
  · omega
  · split
    · simp
    · split
      · simp; omega
      · simp
theorem flat_len (r : List Val) (h : ∀ v ∈ r, I64 v.n ∧ v.s.length ≤ 1000000000) : (r.flatMap encV).length ≤ r.length * 1000000010 := by
  induction r with
  | nil => simp
  | cons v r ih =>
    simp only [List.flatMap_cons, List.length_append, List.length_cons]
    have h1 := encV_len v (h v (by simp)).2 (h v (by simp)).1
    have h2 := ih fun w hw => h w (by simp [hw])
    omega
theorem encode6_ok (s : List Fld) (r : List Val) (hs : SchB s) (hv : ValB r) : ACalls Γ 38 [.v (sD s), .v (vsD r)] ⟨.tup [bD (encD s r), .int .i64 (errR s r)], []⟩ := by
  refine acalls_of Tryd.func38 rfl rfl (by kernel_rfl) ?_
  have hr : Tryd.f38.results.toList = [.tmp 4, .tmp 5] := rfl
  simp only [↓S1, S2, S3, pureOp, fillD, ↓reduceIte, reduceCtorEq, Nat.reduceEqDiff, Nat.reduceAdd, Nat.reduceLeDiff, mdT, mrT, sD, vsD]
  refine callV (check6_ok s r hs hv.1) rfl rfl ?_
  simp only [↓S1, S2, S3, pureOp, fillD, ↓reduceIte, reduceCtorEq, Nat.reduceEqDiff, Nat.reduceAdd, Nat.reduceLeDiff, mdT, mrT]
  refine Br_dec (fun h1 => ?_) (fun h1 => ?_)
  · obtain ⟨k1, k2, k3⟩ := errR_0 h1
    have k4 := schema_len k1
    have hE : encD s r = encR s r := by simp [encD, h1]
    simp only [↓S1, S2, S3, pureOp, fillD, ↓reduceIte, reduceCtorEq, Nat.reduceEqDiff, Nat.reduceAdd, Nat.reduceLeDiff, mdT, mrT, h1]
    refine evW_loop (fun n e => ∃ (i m g : Nat), n = r.length - i ∧ i ≤ r.length ∧ e.tm 2 = .bx 2 0 0 ∧ e.bx 2 0 0 = .val (.sl (s.map fD)) ∧ e.gb 2 = 1 ∧ e.tm 1 = .val (.sl (r.map vD)) ∧ e.tm 11 = .val (.int .i64 i) ∧
      e.tm 8 = .val (.int .i64 m) ∧ e.tm 9 = .val (.int .i64 (opts (s.take i))) ∧ e.tm 10 = .val (.int .i64 ((2 ^ opts (s.take i) : Nat))) ∧ e.tm 7 = .own 7 0 g (bD []) ∧ e.lv 7 0 g = true ∧
      m + 2 ^ opts (s.take i) * markN ((s.zip r).drop i) = markN (s.zip r) ∧ m < 2 ^ opts (s.take i)) r.length ?_ ?_
    · exact ⟨0, 0, 1, by simp, by simp, rfl, rfl, rfl, rfl, rfl, rfl, rfl, rfl, rfl, rfl, by simp [opts], by simp [opts]⟩
    · rintro J hJ n e ⟨i, m, g, rfl, hi, g2, hb, hg, g1, g11, g8, g9, g10, g7, hl, hm, hm2⟩
      simp only [↓S1, S2, S3, pureOp, fillD, ↓reduceIte, reduceCtorEq, Nat.reduceEqDiff, Nat.reduceAdd, Nat.reduceLeDiff, mdT, mrT, g2, hb, hg, g1, g11]
      have hle : opts (s.take i) ≤ i := by
        have := List.countP_le_length (p := Fld.opt) (l := s.take i)
        simp only [List.length_take] at this; unfold opts; omega
      have hpw : 2 ^ opts (s.take i) ≤ 2 ^ 8 := Nat.pow_le_pow_right (by omega) (by omega)
      have hp8 : (2 : Nat) ^ 8 = 256 := by decide
      refine Br_dec (fun h => ?_) (fun h => ?_)
      · have hlt : i < r.length := by omega
        obtain ⟨v, hvv⟩ : ∃ v, r[i]? = some v := ⟨_, List.getElem?_eq_getElem hlt⟩
        obtain ⟨f, hf⟩ : ∃ f, s[i]? = some f := ⟨_, List.getElem?_eq_getElem (show i < s.length by omega)⟩
        have hz : (s.zip r)[i]? = some (f, v) := by rw [List.getElem?_zip_eq_some]; exact ⟨hf, hvv⟩
        have hdr := drop_cons hz
        have hw : IntKind.i64.wrap ((i : Int) + 1) = ((i + 1 : Nat) : Int) := succ64 (by omega)
        have hnx : opts (s.take (i + 1)) = opts (s.take i) + if f.opt then 1 else 0 := by
          rw [← take_succ hf]; unfold opts; rw [List.countP_append, List.countP_singleton]
        rw [hdr] at hm
        simp only [↓S1, S2, S3, pureOp, fillD, ↓reduceIte, reduceCtorEq, Nat.reduceEqDiff, Nat.reduceAdd, Nat.reduceLeDiff, mdT, mrT, g2, hb, hg, g1, g11, h, atI_nat, hf, fD]
        cases hfo : f.opt with
        | false =>
          simp only [↓S1, S2, S3, pureOp, fillD, ↓reduceIte, reduceCtorEq, Nat.reduceEqDiff, Nat.reduceAdd, Nat.reduceLeDiff, mdT, mrT, g2, hb, hg, g1, g11, g8, g9, g10, g7, hl, hw]
          rw [hfo] at hnx
          simp only [Bool.false_eq_true, if_false, Nat.add_zero] at hnx
          refine ⟨_, ?_, hJ _ _ ⟨i + 1, m, g, rfl, by omega, g2, hb, hg, g1, rfl, g8, ?_, ?_, g7, hl, ?_, ?_⟩⟩
          · omega
          · rw [hnx]; exact g9
          · rw [hnx]; exact g10
          · rw [hnx, ← hm]; simp [markN, hfo]
          · rw [hnx]; exact hm2
        | true =>
          rw [hfo] at hnx
          simp only [if_true] at hnx
          have w1 : IntKind.i64.wrap ((opts (s.take i) : Int) + 1) = ((opts (s.take i) + 1 : Nat) : Int) := succ64 (by omega)
          have w2 : IntKind.i64.wrap (((2 ^ opts (s.take i) : Nat) : Int) * 2) = ((2 ^ (opts (s.take i) + 1) : Nat) : Int) := by
            rw [w64 (by omega), Nat.pow_succ]; simp
          have hm' : m + 2 ^ opts (s.take i) * (bit (decide (v.kind ≠ 0)) + 2 * markN ((s.zip r).drop (i + 1))) = markN (s.zip r) := by
            rw [← hm]; simp [markN, hfo]
          simp only [↓S1, S2, S3, pureOp, fillD, ↓reduceIte, reduceCtorEq, Nat.reduceEqDiff, Nat.reduceAdd, Nat.reduceLeDiff, mdT, mrT, g2, hb, hg, g1, g11, g8, g9, g10, g7, hl, atI_nat, hvv, vD]
          refine Br_dec (fun h2 => ?_) (fun h2 => ?_)
          · simp only [↓S1, S2, S3, pureOp, fillD, ↓reduceIte, reduceCtorEq, Nat.reduceEqDiff, Nat.reduceAdd, Nat.reduceLeDiff, mdT, mrT, g2, hb, hg, g1, g11, g8, g9, g10, g7, hl, hw, w1, w2]
            refine ⟨_, ?_, hJ _ _ ⟨i + 1, m, g, rfl, by omega, g2, hb, hg, g1, rfl, g8, ?_, ?_, g7, hl, ?_, ?_⟩⟩
            · omega
            · rw [hnx]; rfl
            · rw [hnx]; rfl
            · rw [hnx, ← hm', h2, Nat.pow_succ]; simp [bit, Nat.mul_assoc]
            · rw [hnx, Nat.pow_succ]; omega
          · have w3 : IntKind.i64.wrap ((m : Int) + ((2 ^ opts (s.take i) : Nat) : Int)) = ((m + 2 ^ opts (s.take i) : Nat) : Int) := by rw [w64 (by omega)]; simp
            simp only [↓S1, S2, S3, pureOp, fillD, ↓reduceIte, reduceCtorEq, Nat.reduceEqDiff, Nat.reduceAdd, Nat.reduceLeDiff, mdT, mrT, g2, hb, hg, g1, g11, g8, g9, g10, g7, hl, hw, w1, w2, w3]
            refine ⟨_, ?_, hJ _ _ ⟨i + 1, m + 2 ^ opts (s.take i), g, rfl, by omega, g2, hb, hg, g1, rfl, rfl, ?_, ?_, g7, hl, ?_, ?_⟩⟩
            · omega
            · rw [hnx]; rfl
            · rw [hnx]; rfl
            · rw [hnx, ← hm', Nat.pow_succ]
              have : bit (decide (v.kind ≠ 0)) = 1 := by simp [bit, h2]
              rw [this, Nat.mul_add, Nat.mul_one, Nat.mul_assoc, Nat.add_assoc]
            · rw [hnx, Nat.pow_succ]; omega
      · have hir : i = r.length := by omega
        have hto : s.take i = s := List.take_of_length_le (by omega)
        have hzd : (s.zip r).drop i = [] := List.drop_eq_nil_of_le (by simp; omega)
        rw [hzd] at hm
        simp only [markN, Nat.mul_zero, Nat.add_zero] at hm
        rw [hto] at g9 hm2 hpw
        have hbase : ∃ base : Str, base = (if 0 < opts s then [UInt8.ofNat (markN (s.zip r) % 256)] else []) := ⟨_, rfl⟩
        obtain ⟨base, hbase⟩ := hbase
        have hEb : encR s r = base ++ r.flatMap encV := by rw [hbase]; rfl
        have hbl : base.length ≤ 1 := by rw [hbase]; split <;> simp
        have hfl := flat_len r hv.2
        by_cases ho : 0 < opts s
        all_goals
          have hob : base = (if 0 < opts s then [UInt8.ofNat (markN (s.zip r) % 256)] else []) := hbase
          simp only [ho, if_true, if_false] at hob
          have hoi : (0 < (opts s : Int)) = (0 < opts s) := by simp
          have q5 : IntKind.u8.wrap (m : Int) = ((UInt8.ofNat (markN (s.zip r) % 256)).toNat : Int) := by
            rw [wrapU rfl (show m < 2 ^ 8 by omega), hm]; simp; omega
          have rm : (1 ≤ roomy) = True := by simp [roomy]
          simp only [↓S1, S2, S3, pureOp, fillD, ↓reduceIte, reduceCtorEq, Nat.reduceEqDiff, Nat.reduceAdd, Nat.reduceLeDiff, mdT, mrT, g2, hb, hg, g1, g11, g8, g9, g7, hl, h, hoi, ho, convD, q5, bD, row_ofBytes, len_ofBytes, rm]
          refine evW_loop (fun n e => ∃ (i g : Nat), n = r.length - i ∧ i ≤ r.length ∧ e.tm 1 = .val (.sl (r.map vD)) ∧ e.tm 12 = .val (.int .i64 i) ∧ e.tm 7 = .own 7 0 g (bD (base ++ (r.take i).flatMap encV)) ∧ e.lv 7 0 g = true) r.length ?_ ?_
          · first
              | exact ⟨0, e.gc 7 0, by simp, by simp, g1, rfl, (by rw [hob]; rfl), (by simp only [↓S1, S2, S3, pureOp, fillD, ↓reduceIte, reduceCtorEq, Nat.reduceEqDiff, Nat.reduceAdd, Nat.reduceLeDiff, mdT, mrT])⟩
              | exact ⟨0, g, by simp, by simp, g1, rfl, (by rw [hob]; exact g7), hl⟩
          · clear hJ g2 hb hg g1 g11 g8 g9 g10 g7 hl h
            rintro J hJ n e ⟨i, g, rfl, hi, g1, g12, g7, hl⟩
            simp only [↓S1, S2, S3, pureOp, fillD, ↓reduceIte, reduceCtorEq, Nat.reduceEqDiff, Nat.reduceAdd, Nat.reduceLeDiff, mdT, mrT, g1, g12]
            refine Br_dec (fun h => ?_) (fun h => ?_)
            · have hlt : i < r.length := by omega
              obtain ⟨v, hvv⟩ : ∃ v, r[i]? = some v := ⟨_, List.getElem?_eq_getElem hlt⟩
              have hvm := hv.2 v (List.mem_of_getElem? hvv)
              have hw : IntKind.i64.wrap ((i : Int) + 1) = ((i + 1 : Nat) : Int) := succ64 (by omega)
              have hnx : (r.take (i + 1)).flatMap encV = (r.take i).flatMap encV ++ encV v := by
                rw [← take_succ hvv, List.flatMap_append]; simp
              have hlen : (base ++ (r.take i).flatMap encV).length ≤ 100000000 * 1000 := by
                have := flat_len (r.take i) fun w hw => hv.2 w (List.mem_of_mem_take hw)
                have h9 : (r.take i).length ≤ 8 := by simp; omega
                simp only [List.length_append]; omega
              simp only [↓S1, S2, S3, pureOp, fillD, ↓reduceIte, reduceCtorEq, Nat.reduceEqDiff, Nat.reduceAdd, Nat.reduceLeDiff, mdT, mrT, g1, g12, h, atI_nat, hvv, vD]
              refine Br_dec (fun c1 => ?_) (fun c1 => ?_)
              · have he : encV v = groups (turned v.n) := by simp [encV, c1]
                simp only [↓S1, S2, S3, pureOp, fillD, ↓reduceIte, reduceCtorEq, Nat.reduceEqDiff, Nat.reduceAdd, Nat.reduceLeDiff, mdT, mrT, g1, g12, g7, hl, atI_nat, hvv, vD]
                refine callA1 (addInt_ok _ v.n (by omega) hvm.1) rfl rfl ?_
                simp only [↓S1, S2, S3, pureOp, fillD, ↓reduceIte, reduceCtorEq, Nat.reduceEqDiff, Nat.reduceAdd, Nat.reduceLeDiff, mdT, mrT, g1, g12, g7, hl, hw]
                refine ⟨_, ?_, hJ _ _ ⟨i + 1, e.gc 7 0, rfl, by omega, g1, rfl, ?_, ?_⟩⟩
                · omega
                · simp only [↓S1, S2, S3, pureOp, fillD, ↓reduceIte, reduceCtorEq, Nat.reduceEqDiff, Nat.reduceAdd, Nat.reduceLeDiff, mdT, mrT]
                  rw [hnx, he, List.append_assoc]
                · simp only [↓S1, S2, S3, pureOp, fillD, ↓reduceIte, reduceCtorEq, Nat.reduceEqDiff, Nat.reduceAdd, Nat.reduceLeDiff, mdT, mrT]
              · simp only [↓S1, S2, S3, pureOp, fillD, ↓reduceIte, reduceCtorEq, Nat.reduceEqDiff, Nat.reduceAdd, Nat.reduceLeDiff, mdT, mrT, c1]
                refine Br_dec (fun c2 => ?_) (fun c2 => ?_)
                · have he : encV v = [UInt8.ofNat (v.n % 256).toNat] := by simp [encV, c1, c2]
                  have q6 : IntKind.u8.wrap v.n = ((UInt8.ofNat (v.n % 256).toNat).toNat : Int) := by rw [wu8m]; simp; omega
                  simp only [↓S1, S2, S3, pureOp, fillD, ↓reduceIte, reduceCtorEq, Nat.reduceEqDiff, Nat.reduceAdd, Nat.reduceLeDiff, mdT, mrT, g1, g12, g7, hl, atI_nat, hvv, vD, convD, q6, bD, row_ofBytes, len_ofBytes, hw]
                  refine ⟨by simp only [roomy]; omega, _, ?_, hJ _ _ ⟨i + 1, e.gc 7 0, rfl, by omega, g1, rfl, ?_, ?_⟩⟩
                  · omega
                  · simp only [↓S1, S2, S3, pureOp, fillD, ↓reduceIte, reduceCtorEq, Nat.reduceEqDiff, Nat.reduceAdd, Nat.reduceLeDiff, mdT, mrT]
                    rw [one_ofBytes, add_ofBytes, hnx, he, List.append_assoc]; rfl
                  · simp only [↓S1, S2, S3, pureOp, fillD, ↓reduceIte, reduceCtorEq, Nat.reduceEqDiff, Nat.reduceAdd, Nat.reduceLeDiff, mdT, mrT]
                · simp only [↓S1, S2, S3, pureOp, fillD, ↓reduceIte, reduceCtorEq, Nat.reduceEqDiff, Nat.reduceAdd, Nat.reduceLeDiff, mdT, mrT, c2]
                  refine Br_dec (fun c3 => ?_) (fun c3 => ?_)
                  · have he : encV v = UInt8.ofNat (v.s.length % 256) :: v.s := by simp [encV, c1, c2, c3]
                    have q6 : IntKind.u8.wrap (v.s.length : Int) = ((UInt8.ofNat (v.s.length % 256)).toNat : Int) := by rw [wu8m]; simp
                    have rm2 : ((base ++ (r.take i).flatMap encV).length + 1 ≤ roomy) = True := by simp only [roomy, eq_iff_iff, iff_true]; omega
                    simp only [↓S1, S2, S3, pureOp, fillD, ↓reduceIte, reduceCtorEq, Nat.reduceEqDiff, Nat.reduceAdd, Nat.reduceLeDiff, mdT, mrT, g1, g12, g7, hl, atI_nat, hvv, vD, convD, q6, bD, row_ofBytes, len_ofBytes, hw, rm2]
                    refine evW_loop (fun n e => ∃ (j g : Nat), n = v.s.length - j ∧ j ≤ v.s.length ∧ e.tm 1 = .val (.sl (r.map vD)) ∧ e.tm 12 = .val (.int .i64 i) ∧ e.tm 13 = .val (.int .i64 j) ∧
                      e.tm 7 = .own 7 0 g (bD (base ++ (r.take i).flatMap encV ++ [UInt8.ofNat (v.s.length % 256)] ++ v.s.take j)) ∧ e.lv 7 0 g = true) v.s.length ?_ ?_
                    · refine ⟨0, e.gc 7 0, by simp, by simp, g1, g12, rfl, ?_, ?_⟩
                      · simp only [↓S1, S2, S3, pureOp, fillD, ↓reduceIte, reduceCtorEq, Nat.reduceEqDiff, Nat.reduceAdd, Nat.reduceLeDiff, mdT, mrT]
                        rw [one_ofBytes, add_ofBytes]; simp [bD]
                      · simp only [↓S1, S2, S3, pureOp, fillD, ↓reduceIte, reduceCtorEq, Nat.reduceEqDiff, Nat.reduceAdd, Nat.reduceLeDiff, mdT, mrT]
                    · clear g1 g12 g7 hl h
                      rintro J' hJ' n e ⟨j, g, rfl, hj, g1, g12, g13, g7, hl⟩
                      simp only [↓S1, S2, S3, pureOp, fillD, ↓reduceIte, reduceCtorEq, Nat.reduceEqDiff, Nat.reduceAdd, Nat.reduceLeDiff, mdT, mrT, g1, g12, g13, atI_nat, hvv, vD]
                      refine Br_dec (fun h => ?_) (fun h => ?_)
                      · have hjl : j < v.s.length := by omega
                        obtain ⟨c, hc⟩ : ∃ c, v.s[j]? = some c := ⟨_, List.getElem?_eq_getElem hjl⟩
                        have hw' : IntKind.i64.wrap ((j : Int) + 1) = ((j + 1 : Nat) : Int) := succ64 (by omega)
                        simp only [↓S1, S2, S3, pureOp, fillD, ↓reduceIte, reduceCtorEq, Nat.reduceEqDiff, Nat.reduceAdd, Nat.reduceLeDiff, mdT, mrT, g1, g12, g13, g7, hl, h, atI_nat, hvv, vD, hc, bD, row_ofBytes, hw']
                        refine ⟨?_, _, ?_, hJ' _ _ ⟨j + 1, e.gc 7 0, rfl, by omega, g1, g12, rfl, ?_, ?_⟩⟩
                        · simp only [len_ofBytes, List.length_append, List.length_take, List.length_cons, List.length_nil, roomy] at hlen ⊢
                          omega
                        · omega
                        · simp only [↓S1, S2, S3, pureOp, fillD, ↓reduceIte, reduceCtorEq, Nat.reduceEqDiff, Nat.reduceAdd, Nat.reduceLeDiff, mdT, mrT]
                          rw [one_ofBytes, add_ofBytes, List.append_assoc _ (v.s.take j), take_succ hc]; rfl
                        · simp only [↓S1, S2, S3, pureOp, fillD, ↓reduceIte, reduceCtorEq, Nat.reduceEqDiff, Nat.reduceAdd, Nat.reduceLeDiff, mdT, mrT]
                      · have hjs : v.s.take j = v.s := List.take_of_length_le (by omega)
                        rw [hjs] at g7
                        simp only [↓S1, S2, S3, pureOp, fillD, ↓reduceIte, reduceCtorEq, Nat.reduceEqDiff, Nat.reduceAdd, Nat.reduceLeDiff, mdT, mrT, g1, g12, g13, g7, hl, h, hw]
                        refine ⟨_, ?_, hJ _ _ ⟨i + 1, g, rfl, by omega, g1, rfl, ?_, hl⟩⟩
                        · omega
                        · simp only [↓S1, S2, S3, pureOp, fillD, ↓reduceIte, reduceCtorEq, Nat.reduceEqDiff, Nat.reduceAdd, Nat.reduceLeDiff, mdT, mrT, g7]
                          rw [hnx, he]; simp
                  · have he : encV v = [] := by simp [encV, c1, c2, c3]
                    simp only [↓S1, S2, S3, pureOp, fillD, ↓reduceIte, reduceCtorEq, Nat.reduceEqDiff, Nat.reduceAdd, Nat.reduceLeDiff, mdT, mrT, g1, g12, g7, hl, c3, hw]
                    refine ⟨_, ?_, hJ _ _ ⟨i + 1, g, rfl, by omega, g1, rfl, ?_, hl⟩⟩
                    · omega
                    · simp only [↓S1, S2, S3, pureOp, fillD, ↓reduceIte, reduceCtorEq, Nat.reduceEqDiff, Nat.reduceAdd, Nat.reduceLeDiff, mdT, mrT, g7]
                      rw [hnx, he, List.append_nil]
            · have hir : r.take i = r := List.take_of_length_le (by omega)
              simp only [↓S1, S2, S3, pureOp, fillD, ↓reduceIte, reduceCtorEq, Nat.reduceEqDiff, Nat.reduceAdd, Nat.reduceLeDiff, mdT, mrT, g1, g12, g7, hl, h, postF, retOk, hr, Env.ress, Env.resOf, Env.outsOk, hE, hEb, hir, h1]
              exact wk_tup2 (.refl _) (.refl _)
  · have : encD s r = [] := by simp [encD, h1]
    simp only [↓S1, S2, S3, pureOp, fillD, ↓reduceIte, reduceCtorEq, Nat.reduceEqDiff, Nat.reduceAdd, Nat.reduceLeDiff, mdT, mrT, h1, postF, retOk, hr, Env.ress, Env.resOf, Env.outsOk, this]
    exact wk_tup2 (.refl _) (.refl _)
end Go.Proofs.YtebkaacflocfcaaDoor.Ab

/- Walks: reading of records in the reference. -/
namespace Go.Proofs.YtebkaacflocfcaaDoor.Ab
open Go
set_option maxRecDepth 100000
set_option linter.unusedSimpArgs false
set_option linter.unusedVariables false

def errK (k : Str) : Int := if 1 ≤ k.length ∧ k.length ≤ 16 then 0 else 140
theorem checkKey14_ok (k : Str) : ACalls Γ 57 [.v (.str k)] ⟨.int .i64 (errK k), []⟩ := by
  refine acalls_of Tryd.func57 rfl rfl (by kernel_rfl) ?_
  have hr : Tryd.f57.results.toList = [.tmp 2] := rfl
  simp only [↓S1, S2, S3, pureOp, fillD, ↓reduceIte, reduceCtorEq, Nat.reduceEqDiff, Nat.reduceAdd, Nat.reduceLeDiff, mdT, mrT]
  refine Br_dec (fun h1 => ?_) (fun h1 => ?_)
  · have : errK k = 140 := by unfold errK; rw [if_neg (by omega)]
    simp only [↓S1, S2, S3, pureOp, fillD, ↓reduceIte, reduceCtorEq, Nat.reduceEqDiff, Nat.reduceAdd, Nat.reduceLeDiff, mdT, mrT, h1, postF, retOk, hr, Env.ress, Env.resOf, Env.outsOk, this]
    exact .refl _
  · simp only [↓S1, S2, S3, pureOp, fillD, ↓reduceIte, reduceCtorEq, Nat.reduceEqDiff, Nat.reduceAdd, Nat.reduceLeDiff, mdT, mrT, h1]
    refine Br_dec (fun h2 => ?_) (fun h2 => ?_)
    · have : errK k = 140 := by unfold errK; rw [if_neg (by omega)]
      simp only [↓S1, S2, S3, pureOp, fillD, ↓reduceIte, reduceCtorEq, Nat.reduceEqDiff, Nat.reduceAdd, Nat.reduceLeDiff, mdT, mrT, h2, postF, retOk, hr, Env.ress, Env.resOf, Env.outsOk, this]
      exact .refl _
    · have : errK k = 0 := by unfold errK; rw [if_pos (by omega)]
      simp only [↓S1, S2, S3, pureOp, fillD, ↓reduceIte, reduceCtorEq, Nat.reduceEqDiff, Nat.reduceAdd, Nat.reduceLeDiff, mdT, mrT, h2, postF, retOk, hr, Env.ress, Env.resOf, Env.outsOk, this]
      exact .refl _

def back (u : Nat) : Int := if u % 2 = 0 then ((u / 2 : Nat) : Int) else -((u / 2 : Nat) : Int) - 1
theorem back_ok (u : Nat) (hu : u < 18446744073709551616) : ACalls Γ 88 [.v (u64 u)] ⟨.int .i64 (back u), []⟩ := by
  refine acalls_of Tryd.func88 rfl rfl (by kernel_rfl) ?_
  have hr : Tryd.f88.results.toList = [.tmp 2] := rfl
  have q1 : ((u : Nat) : Int).tmod 2 = ((u % 2 : Nat) : Int) := tmodN _ 2 rfl rfl
  have q2 : ((u : Nat) : Int).tdiv 2 = ((u / 2 : Nat) : Int) := tdivN _ 2 rfl rfl
  have q3 : IntKind.u64.wrap ((u / 2 : Nat) : Int) = ((u / 2 : Nat) : Int) := wrapU rfl (show u / 2 < 2 ^ 64 by omega)
  have q4 : IntKind.i64.wrap ((u / 2 : Nat) : Int) = ((u / 2 : Nat) : Int) := w64 (by omega)
  have q5 : IntKind.i64.wrap (0 - ((u / 2 : Nat) : Int)) = -((u / 2 : Nat) : Int) := by rw [w64 (by omega)]; omega
  have q6 : IntKind.i64.wrap (-((u / 2 : Nat) : Int) - 1) = -((u / 2 : Nat) : Int) - 1 := w64 (by omega)
  simp only [↓S1, S2, S3, pureOp, fillD, ↓reduceIte, reduceCtorEq, Nat.reduceEqDiff, Nat.reduceAdd, Nat.reduceLeDiff, mdT, mrT, u64, Int.reduceEq, q1]
  refine Br_dec (fun h => ?_) (fun h => ?_)
  · have : back u = ((u / 2 : Nat) : Int) := by unfold back; rw [if_pos (by omega)]
    simp only [↓S1, S2, S3, pureOp, fillD, ↓reduceIte, reduceCtorEq, Nat.reduceEqDiff, Nat.reduceAdd, Nat.reduceLeDiff, mdT, mrT, u64, Int.reduceEq, q2, q3, q4, convD, postF, retOk, hr, Env.ress, Env.resOf, Env.outsOk, this]
    exact .refl _
  · have : back u = -((u / 2 : Nat) : Int) - 1 := by unfold back; rw [if_neg (by omega)]
    simp only [↓S1, S2, S3, pureOp, fillD, ↓reduceIte, reduceCtorEq, Nat.reduceEqDiff, Nat.reduceAdd, Nat.reduceLeDiff, mdT, mrT, u64, Int.reduceEq, q2, q3, q4, q5, q6, convD, postF, retOk, hr, Env.ress, Env.resOf, Env.outsOk, this]
    exact .refl _

/-- the groups at the head of some bytes, added up; what is behind them -/
def rdI : Nat → Str → Nat → Nat → Option (Nat × Str)
  | 0, _, _, _ => none
  | _ + 1, [], _, _ => none
  | n + 1, c :: l, u, p => if c.toNat < 128 then some ((u + p * (c.toNat % 128)) % 18446744073709551616, l) else rdI n l ((u + p * (c.toNat % 128)) % 18446744073709551616) (p * 128 % 18446744073709551616)
def rdIres (b : Str) (at' : Nat) : Int × Int := match rdI 10 (b.drop at') 0 1 with
  | some (u, l) => (back u, ((b.length - l.length : Nat) : Int))
  | none => (0, -1)
theorem wu64m (n : Nat) : IntKind.u64.wrap (n : Int) = ((n % 18446744073709551616 : Nat) : Int) := by
  simp only [IntKind.wrap, IntKind.bits, IntKind.signed, Bool.false_and, Bool.false_eq_true, if_false, Int.reducePow]
  rfl
theorem readInt_ok (b : Str) (at' : Nat) (hb : b.length ≤ 1000000000) (ha : at' ≤ 1000000000) : ACalls Γ 82 [.v (bD b), .v (.int .i64 at')] ⟨.tup [.int .i64 (rdIres b at').1, .int .i64 (rdIres b at').2], []⟩ := by
  refine acalls_of Tryd.func82 rfl rfl (by kernel_rfl) ?_
  have hr : Tryd.f82.results.toList = [.tmp 4, .tmp 5] := rfl
  simp only [↓S1, S2, S3, pureOp, fillD, ↓reduceIte, reduceCtorEq, Nat.reduceEqDiff, Nat.reduceAdd, Nat.reduceLeDiff, mdT, mrT]
  refine evW_loop (fun n e => ∃ (k u p : Nat), n = 10 - k ∧ k ≤ 10 ∧ e.tm 0 = .val (bD b) ∧ e.tm 1 = .val (.int .i64 at') ∧ e.tm 8 = .val (.int .i64 k) ∧ e.tm 6 = .val (u64 u) ∧ e.tm 7 = .val (u64 p) ∧ u < 18446744073709551616 ∧ p < 18446744073709551616 ∧
    rdI 10 (b.drop at') 0 1 = rdI (10 - k) (b.drop (at' + k)) u p) 10 ?_ ?_
  · exact ⟨0, 0, 1, by simp, by simp, rfl, rfl, rfl, rfl, rfl, by omega, by omega, rfl⟩
  · rintro J hJ n e ⟨k, u, p, rfl, hk, g0, g1, g8, g6, g7, hu, hp, hrd⟩
    simp only [↓S1, S2, S3, pureOp, fillD, ↓reduceIte, reduceCtorEq, Nat.reduceEqDiff, Nat.reduceAdd, Nat.reduceLeDiff, mdT, mrT, g0, g1, g8, g6, g7]
    refine Br_dec (fun h => ?_) (fun h => ?_)
    · have w1 : IntKind.i64.wrap ((at' : Int) + (k : Int)) = ((at' + k : Nat) : Int) := by rw [w64 (by omega)]; rfl
      have hk1 : 10 - k = (9 - k) + 1 := by omega
      rw [hk1] at hrd
      simp only [↓S1, S2, S3, pureOp, fillD, ↓reduceIte, reduceCtorEq, Nat.reduceEqDiff, Nat.reduceAdd, Nat.reduceLeDiff, mdT, mrT, g0, g1, g8, g6, g7, h, w1, bD, len_ofBytes]
      refine Br_dec (fun h2 => ?_) (fun h2 => ?_)
      · have hdn : b.drop (at' + k) = [] := List.drop_eq_nil_of_le (by omega)
        rw [hdn] at hrd
        have hres : rdIres b at' = (0, -1) := by unfold rdIres; rw [hrd]; rfl
        simp only [↓S1, S2, S3, pureOp, fillD, ↓reduceIte, reduceCtorEq, Nat.reduceEqDiff, Nat.reduceAdd, Nat.reduceLeDiff, mdT, mrT, g0, g1, g8, g6, g7, h2, postF, retOk, hr, Env.ress, Env.resOf, Env.outsOk, hres]
        exact .refl _
      · have hlt : at' + k < b.length := by omega
        obtain ⟨c, hc⟩ : ∃ c, b[at' + k]? = some c := ⟨_, List.getElem?_eq_getElem hlt⟩
        have hcl := c.toNat_lt
        rw [drop_cons hc, rdI] at hrd
        have q1 : ((c.toNat : Nat) : Int).tmod 128 = ((c.toNat % 128 : Nat) : Int) := tmodN _ 128 rfl rfl
        have q2 : IntKind.u64.wrap ((c.toNat % 128 : Nat) : Int) = ((c.toNat % 128 : Nat) : Int) := wrapU rfl (show c.toNat % 128 < 2 ^ 64 by omega)
        have q3 : IntKind.u64.wrap ((p : Int) * ((c.toNat % 128 : Nat) : Int)) = ((p * (c.toNat % 128) % 18446744073709551616 : Nat) : Int) := by rw [← wu64m]; simp
        have q4 : IntKind.u64.wrap ((u : Int) + ((p * (c.toNat % 128) % 18446744073709551616 : Nat) : Int)) = (((u + p * (c.toNat % 128)) % 18446744073709551616 : Nat) : Int) := by
          have := wu64m (u + p * (c.toNat % 128) % 18446744073709551616)
          rw [Nat.add_mod_mod] at this
          rw [← this]; rfl
        have q5 : IntKind.u64.wrap ((p : Int) * 128) = ((p * 128 % 18446744073709551616 : Nat) : Int) := by rw [← wu64m]; simp
        simp only [↓S1, S2, S3, pureOp, fillD, ↓reduceIte, reduceCtorEq, Nat.reduceEqDiff, Nat.reduceAdd, Nat.reduceLeDiff, mdT, mrT, g0, g1, g8, g6, g7, h2, w1, bD, atI_nat, get_ofBytes, hc, Int.reduceEq, q1, q2, q3, q4, q5, u64, convD]
        refine Br_dec (fun h3 => ?_) (fun h3 => ?_)
        · rw [if_pos (by omega)] at hrd
          have w2 : IntKind.i64.wrap (((at' + k : Nat) : Int) + 1) = ((at' + k + 1 : Nat) : Int) := succ64 (by omega)
          have hres : rdIres b at' = (back ((u + p * (c.toNat % 128)) % 18446744073709551616), ((at' + k + 1 : Nat) : Int)) := by
            unfold rdIres; rw [hrd]
            simp only [List.length_drop]
            congr 2; omega
          simp only [↓S1, S2, S3, pureOp, fillD, ↓reduceIte, reduceCtorEq, Nat.reduceEqDiff, Nat.reduceAdd, Nat.reduceLeDiff, mdT, mrT, g0, g1, g8, g6, g7, h3, u64]
          refine callV (back_ok _ (Nat.mod_lt _ (by omega))) rfl rfl ?_
          simp only [↓S1, S2, S3, pureOp, fillD, ↓reduceIte, reduceCtorEq, Nat.reduceEqDiff, Nat.reduceAdd, Nat.reduceLeDiff, mdT, mrT, g0, g1, g8, g6, g7, h3, w1, w2, postF, retOk, hr, Env.ress, Env.resOf, Env.outsOk, hres]
          exact .refl _
        · rw [if_neg (by omega)] at hrd
          have w3 : IntKind.i64.wrap ((k : Int) + 1) = ((k + 1 : Nat) : Int) := succ64 (by omega)
          simp only [↓S1, S2, S3, pureOp, fillD, ↓reduceIte, reduceCtorEq, Nat.reduceEqDiff, Nat.reduceAdd, Nat.reduceLeDiff, mdT, mrT, g0, g1, g8, g6, g7, h3, w3]
          refine ⟨_, ?_, hJ _ _ ⟨k + 1, _, _, rfl, by omega, g0, g1, rfl, rfl, rfl, Nat.mod_lt _ (by omega), Nat.mod_lt _ (by omega), ?_⟩⟩
          · omega
          · rw [hrd]; congr 1; omega
    · have hk10 : k = 10 := by omega
      subst hk10
      have hres : rdIres b at' = (0, -1) := by unfold rdIres; rw [hrd]; rfl
      simp only [↓S1, S2, S3, pureOp, fillD, ↓reduceIte, reduceCtorEq, Nat.reduceEqDiff, Nat.reduceAdd, Nat.reduceLeDiff, mdT, mrT, g0, g1, g8, g6, g7, h, postF, retOk, hr, Env.ress, Env.resOf, Env.outsOk, hres]
      exact .refl _
end Go.Proofs.YtebkaacflocfcaaDoor.Ab

/- Walks: Decode in the reference. -/
namespace Go.Proofs.YtebkaacflocfcaaDoor.Ab
open Go
set_option maxRecDepth 100000
set_option linter.unusedSimpArgs false
set_option linter.unusedVariables false

/-- the value of a field at the head of some bytes, and what is behind it -/
def rdV (f : Fld) (l : Str) : Option (Val × Str) :=
  if f.type = 1 then (rdI 10 l 0 1).map fun q => (⟨1, back q.1, []⟩, q.2)
  else match l with
    | [] => none
    | c :: r => if f.type = 2 then some (⟨2, c.toNat, []⟩, r) else if r.length < c.toNat then none else some (⟨3, 0, r.take c.toNat⟩, r.drop c.toNat)
def rdVres (f : Fld) (b : Str) (at' : Nat) : Val × Int := match rdV f (b.drop at') with
  | some (v, l) => (v, ((b.length - l.length : Nat) : Int))
  | none => (if f.type = 1 then ⟨1, 0, []⟩ else ⟨0, 0, []⟩, -1)
theorem bytes_ofBytes : ∀ b : Str, bytesOfD (ofBytes b) = some b := by
  intro b
  induction b with
  | nil => rfl
  | cons c b ih =>
    have h : ofBytes (c :: b) = D.int .u8 c.toNat :: ofBytes b := rfl
    rw [h, bytesOfD, ih]
    simp
theorem rdI_len : ∀ (n : Nat) (l : Str) (u p : Nat) (q : Nat × Str), rdI n l u p = some q → q.2.length < l.length := by
  intro n
  induction n with
  | zero => intro l u p q h; simp [rdI] at h
  | succ n ih =>
    intro l u p q h
    cases l with
    | nil => simp [rdI] at h
    | cons c l =>
      rw [rdI] at h
      split at h
      · cases h; simp
      · have := ih _ _ _ _ h; simp; omega
theorem read6_ok (f : Fld) (b : Str) (at' : Nat) (hb : b.length ≤ 1000000000) (ha : at' ≤ 1000000000) : ACalls Γ 74 [.v (fD f), .v (bD b), .v (.int .i64 at')] ⟨.tup [vD (rdVres f b at').1, .int .i64 (rdVres f b at').2], []⟩ := by
  refine acalls_of Tryd.func74 rfl rfl (by kernel_rfl) ?_
  have hr : Tryd.f74.results.toList = [.cell 6 39, .tmp 7] := rfl
  simp only [↓S1, S2, S3, pureOp, fillD, ↓reduceIte, reduceCtorEq, Nat.reduceEqDiff, Nat.reduceAdd, Nat.reduceLeDiff, mdT, mrT, fD]
  refine Br_dec (fun h1 => ?_) (fun h1 => ?_)
  · simp only [↓S1, S2, S3, pureOp, fillD, ↓reduceIte, reduceCtorEq, Nat.reduceEqDiff, Nat.reduceAdd, Nat.reduceLeDiff, mdT, mrT, h1]
    refine callV (readInt_ok b at' hb ha) rfl rfl ?_
    have hres : rdVres f b at' = (⟨1, (rdIres b at').1, []⟩, (rdIres b at').2) := by
      unfold rdVres rdIres rdV
      rw [if_pos h1, if_pos h1]
      cases rdI 10 (b.drop at') 0 1 with
      | none => rfl
      | some q => rfl
    simp only [↓S1, S2, S3, pureOp, fillD, ↓reduceIte, reduceCtorEq, Nat.reduceEqDiff, Nat.reduceAdd, Nat.reduceLeDiff, mdT, mrT, postF, retOk, hr, Env.ress, Env.resOf, Env.outsOk, hres, vD]
    exact .refl _
  · simp only [↓S1, S2, S3, pureOp, fillD, ↓reduceIte, reduceCtorEq, Nat.reduceEqDiff, Nat.reduceAdd, Nat.reduceLeDiff, mdT, mrT, h1, bD, len_ofBytes]
    refine Br_dec (fun h2 => ?_) (fun h2 => ?_)
    · have hdn : b.drop at' = [] := List.drop_eq_nil_of_le (by omega)
      have hres : rdVres f b at' = (⟨0, 0, []⟩, -1) := by
        unfold rdVres rdV; rw [if_neg h1, if_neg h1, hdn]
      simp only [↓S1, S2, S3, pureOp, fillD, ↓reduceIte, reduceCtorEq, Nat.reduceEqDiff, Nat.reduceAdd, Nat.reduceLeDiff, mdT, mrT, postF, retOk, hr, Env.ress, Env.resOf, Env.outsOk, hres, vD]
      exact .refl _
    · have hlt : at' < b.length := by omega
      obtain ⟨c, hc⟩ : ∃ c, b[at']? = some c := ⟨_, List.getElem?_eq_getElem hlt⟩
      have hcl := c.toNat_lt
      have hdc := drop_cons hc
      have q1 : IntKind.i64.wrap (c.toNat : Int) = (c.toNat : Int) := w64 (by omega)
      have w1 : IntKind.i64.wrap ((at' : Int) + 1) = ((at' + 1 : Nat) : Int) := succ64 (by omega)
      have w2 : IntKind.i64.wrap (((at' + 1 : Nat) : Int) + (c.toNat : Int)) = ((at' + 1 + c.toNat : Nat) : Int) := by rw [w64 (by omega)]; rfl
      simp only [↓S1, S2, S3, pureOp, fillD, ↓reduceIte, reduceCtorEq, Nat.reduceEqDiff, Nat.reduceAdd, Nat.reduceLeDiff, mdT, mrT, h1, h2, bD, atI_nat, get_ofBytes, hc, convD, q1]
      refine Br_dec (fun h3 => ?_) (fun h3 => ?_)
      · have hres : rdVres f b at' = (⟨2, (c.toNat : Int), []⟩, ((at' + 1 : Nat) : Int)) := by
          unfold rdVres rdV; rw [if_neg h1, if_neg h1, hdc]
          simp only [h3, if_true, List.length_drop]
          congr 2; omega
        simp only [↓S1, S2, S3, pureOp, fillD, ↓reduceIte, reduceCtorEq, Nat.reduceEqDiff, Nat.reduceAdd, Nat.reduceLeDiff, mdT, mrT, postF, retOk, hr, Env.ress, Env.resOf, Env.outsOk, h3, w1, hres, vD]
        exact .refl _
      · simp only [↓S1, S2, S3, pureOp, fillD, ↓reduceIte, reduceCtorEq, Nat.reduceEqDiff, Nat.reduceAdd, Nat.reduceLeDiff, mdT, mrT, h3, w1, w2, bD, len_ofBytes]
        refine Br_dec (fun h4 => ?_) (fun h4 => ?_)
        · have hres : rdVres f b at' = (⟨0, 0, []⟩, -1) := by
            unfold rdVres rdV; rw [if_neg h1, if_neg h1, hdc]
            simp only [h3, if_false, List.length_drop]
            rw [if_pos (by omega)]
          simp only [↓S1, S2, S3, pureOp, fillD, ↓reduceIte, reduceCtorEq, Nat.reduceEqDiff, Nat.reduceAdd, Nat.reduceLeDiff, mdT, mrT, postF, retOk, hr, Env.ress, Env.resOf, Env.outsOk, h4, hres, vD]
          exact .refl _
        · have hres : rdVres f b at' = (⟨3, 0, (b.drop (at' + 1)).take c.toNat⟩, ((at' + 1 + c.toNat : Nat) : Int)) := by
            unfold rdVres rdV; rw [if_neg h1, if_neg h1, hdc]
            simp only [h3, if_false]
            rw [if_neg (by simp only [List.length_drop]; omega)]
            simp only [List.length_drop]
            congr 2; omega
          have hcut : cutL (ofBytes b) (some ((at' + 1 : Nat) : Int)) (some ((at' + 1 + c.toNat : Nat) : Int)) = some (ofBytes ((b.drop (at' + 1)).take c.toNat)) := by
            simp only [cutL, len_ofBytes]
            rw [if_pos (by omega)]
            simp only [Int.toNat_natCast, cut_ofBytes]
            rw [List.drop_take]; congr 3; omega
          simp only [↓S1, S2, S3, pureOp, fillD, ↓reduceIte, reduceCtorEq, Nat.reduceEqDiff, Nat.reduceAdd, Nat.reduceLeDiff, mdT, mrT, postF, retOk, hr, Env.ress, Env.resOf, Env.outsOk, h4, w1, w2, hres, vD, bD, boundD, hcut, row_ofBytes, convD, bytes_ofBytes]
          exact .refl _
end Go.Proofs.YtebkaacflocfcaaDoor.Ab

/- Walks: Decode in the reference, joined. -/
namespace Go.Proofs.YtebkaacflocfcaaDoor.Ab
open Go
set_option maxRecDepth 100000
set_option linter.unusedSimpArgs false
set_option linter.unusedVariables false

def val0 : Val := ⟨0, 0, []⟩
def rdAll : List Fld → Nat → Str → Option (List Val)
  | [], _, _ => some []
  | f :: fs, h, l => if f.opt = true ∧ h % 2 ≠ 1 then (rdAll fs (h / 2) l).map (val0 :: ·)
    else match rdV f l with
      | none => none
      | some (v, l') => (rdAll fs (if f.opt = true then h / 2 else h) l').map (v :: ·)
def decR (s : List Fld) (b : Str) : List Val × Int :=
  if errS s ≠ 0 then ([], errS s) else if b.length < headN s ∨ 64 < b.length then ([], 62)
  else match rdAll s (if 0 < headN s then (b.headD 0).toNat else 0) (b.drop (headN s)) with
    | none => ([], 62)
    | some r => if errR s r = 0 ∧ encR s r = b then (r, 0) else ([], 62)
theorem back_I64 {u : Nat} (h : u < 18446744073709551616) : I64 (back u) := by unfold back I64; split <;> omega
theorem rdI_spec : ∀ (n : Nat) (l : Str) (u p : Nat) (q : Nat × Str), rdI n l u p = some q → q.1 < 18446744073709551616 ∧ q.2 <:+ l := by
  intro n
  induction n with
  | zero => intro l u p q h; simp [rdI] at h
  | succ n ih =>
    intro l u p q h
    cases l with
    | nil => simp [rdI] at h
    | cons c l =>
      rw [rdI] at h
      split at h
      · cases h; exact ⟨Nat.mod_lt _ (by omega), List.suffix_cons _ _⟩
      · obtain ⟨h1, h2⟩ := ih _ _ _ _ h
        exact ⟨h1, h2.trans (List.suffix_cons _ _)⟩
theorem rdV_spec {f : Fld} {l l' : Str} {v : Val} (h : rdV f l = some (v, l')) : I64 v.n ∧ v.s.length ≤ l.length ∧ l' <:+ l := by
  unfold rdV at h
  split at h
  · cases hq : rdI 10 l 0 1 with
    | none => rw [hq] at h; simp at h
    | some q =>
      rw [hq] at h
      simp only [Option.map_some, Option.some.injEq, Prod.mk.injEq] at h
      obtain ⟨rfl, rfl⟩ := h
      obtain ⟨h1, h2⟩ := rdI_spec _ _ _ _ _ hq
      exact ⟨back_I64 h1, by simp, h2⟩
  · cases l with
    | nil => simp at h
    | cons c r =>
      have := c.toNat_lt
      simp only [] at h
      split at h
      · cases h; exact ⟨by unfold I64; simp; omega, by simp, List.suffix_cons _ _⟩
      · split at h
        · cases h
        · cases h
          refine ⟨by unfold I64; simp, by simp; omega, (List.drop_suffix _ _).trans (List.suffix_cons _ _)⟩
theorem rdVres_some {f : Fld} {b : Str} {at' : Nat} {v : Val} {l : Str} (h : rdV f (b.drop at') = some (v, l)) : rdVres f b at' = (v, ((b.length - l.length : Nat) : Int)) ∧ b.drop (b.length - l.length) = l := by
  obtain ⟨_, _, h3⟩ := rdV_spec h
  refine ⟨by unfold rdVres; rw [h], ?_⟩
  exact (List.suffix_iff_eq_drop.1 (h3.trans (List.drop_suffix _ _))).symm
theorem rdVres_none {f : Fld} {b : Str} {at' : Nat} (h : rdV f (b.drop at') = none) : (rdVres f b at').2 = -1 := by unfold rdVres; rw [h]
theorem one_vals (v : Val) : [vD v] = [v].map vD := rfl
theorem zero_vals : [D.agg [D.int IntKind.i64 0, D.int IntKind.i64 0, D.str []]] = [val0].map vD := rfl

theorem decode6_ok (s : List Fld) (b : Str) (hs : SchB s) (hb : b.length ≤ 1000000000) : ACalls Γ 56 [.v (sD s), .v (bD b)] ⟨.tup [vsD (decR s b).1, .int .i64 (decR s b).2], []⟩ := by
  refine acalls_of Tryd.func56 rfl rfl (by kernel_rfl) ?_
  have hr : Tryd.f56.results.toList = [.tmp 4, .tmp 5] := rfl
  simp only [↓S1, S2, S3, pureOp, fillD, ↓reduceIte, reduceCtorEq, Nat.reduceEqDiff, Nat.reduceAdd, Nat.reduceLeDiff, mdT, mrT, sD]
  refine callV (checkSchema6_ok s hs.1 hs.2) rfl rfl ?_
  simp only [↓S1, S2, S3, pureOp, fillD, ↓reduceIte, reduceCtorEq, Nat.reduceEqDiff, Nat.reduceAdd, Nat.reduceLeDiff, mdT, mrT]
  refine Br_dec (fun h1 => ?_) (fun h1 => ?_)
  · have hsl : schemaOk s = true := by
      by_cases hh : schemaOk s = true
      · exact hh
      · simp [errS, hh] at h1
    have k4 := schema_len hsl
    have hh1 := headN_le s
    simp only [↓S1, S2, S3, pureOp, fillD, ↓reduceIte, reduceCtorEq, Nat.reduceEqDiff, Nat.reduceAdd, Nat.reduceLeDiff, mdT, mrT, h1]
    refine callV (head6_ok s hs.1) rfl rfl ?_
    simp only [↓S1, S2, S3, pureOp, fillD, ↓reduceIte, reduceCtorEq, Nat.reduceEqDiff, Nat.reduceAdd, Nat.reduceLeDiff, mdT, mrT, bD, len_ofBytes]
    refine Br_dec (fun h2 => ?_) (fun h2 => ?_)
    · have hd : decR s b = ([], 62) := by unfold decR; rw [if_neg (by simpa using h1), if_pos (by omega)]
      simp only [↓S1, S2, S3, pureOp, fillD, ↓reduceIte, reduceCtorEq, Nat.reduceEqDiff, Nat.reduceAdd, Nat.reduceLeDiff, mdT, mrT, h2, postF, retOk, hr, Env.ress, Env.resOf, Env.outsOk, hd]
      exact wk_tup2 (.refl _) (.refl _)
    · simp only [↓S1, S2, S3, pureOp, fillD, ↓reduceIte, reduceCtorEq, Nat.reduceEqDiff, Nat.reduceAdd, Nat.reduceLeDiff, mdT, mrT, h2, len_ofBytes]
      refine Br_dec (fun h3 => ?_) (fun h3 => ?_)
      · have hd : decR s b = ([], 62) := by unfold decR; rw [if_neg (by simpa using h1), if_pos (by omega)]
        simp only [↓S1, S2, S3, pureOp, fillD, ↓reduceIte, reduceCtorEq, Nat.reduceEqDiff, Nat.reduceAdd, Nat.reduceLeDiff, mdT, mrT, h3, postF, retOk, hr, Env.ress, Env.resOf, Env.outsOk, hd]
        exact wk_tup2 (.refl _) (.refl _)
      · have hdd : decR s b = match rdAll s (if 0 < headN s then (b.headD 0).toNat else 0) (b.drop (headN s)) with
            | none => ([], 62)
            | some r => if errR s r = 0 ∧ encR s r = b then (r, 0) else ([], 62) := by
          unfold decR; rw [if_neg (by simpa using h1), if_neg (by omega)]
        obtain ⟨h0, hh0⟩ : ∃ h0, h0 = if 0 < headN s then (b.headD 0).toNat else 0 := ⟨_, rfl⟩
        rw [← hh0] at hdd
        have hpi : (0 < (headN s : Int)) = (0 < headN s) := by simp
        have hcase : (0 < headN s ∧ ∃ c, b[0]? = some c ∧ h0 = c.toNat) ∨ (¬ 0 < headN s ∧ h0 = 0) := by
          by_cases hp : 0 < headN s
          · left
            obtain ⟨c, hc⟩ : ∃ c, b[0]? = some c := ⟨_, List.getElem?_eq_getElem (show 0 < b.length by omega)⟩
            refine ⟨hp, c, hc, ?_⟩
            rw [hh0, if_pos hp]
            cases b with
            | nil => simp at hc
            | cons x y => simp at hc; subst hc; rfl
          · exact .inr ⟨hp, by rw [hh0, if_neg hp]⟩
        have hh256 : h0 < 256 := by
          rcases hcase with ⟨_, c, _, hq⟩ | ⟨_, hq⟩
          · have := c.toNat_lt; omega
          · omega
        clear hh0
        rcases hcase with ⟨hp, c, hc, hq⟩ | ⟨hp, hq⟩
        all_goals
          first
            | (have q1 : IntKind.i64.wrap (c.toNat : Int) = (c.toNat : Int) := w64 (by have := c.toNat_lt; omega)
               have hat : atI (ofBytes b) 0 = some (D.int .u8 c.toNat) := by
                 have := atI_nat (ofBytes b) 0
                 rw [get_ofBytes, hc] at this
                 exact this
               simp only [↓S1, S2, S3, pureOp, fillD, ↓reduceIte, reduceCtorEq, Nat.reduceEqDiff, Nat.reduceAdd, Nat.reduceLeDiff, mdT, mrT, h3, hpi, hp, hat, convD, q1])
            | simp only [↓S1, S2, S3, pureOp, fillD, ↓reduceIte, reduceCtorEq, Nat.reduceEqDiff, Nat.reduceAdd, Nat.reduceLeDiff, mdT, mrT, h3, hpi, hp]
          refine evW_loop (fun n e => ∃ (i a h g : Nat) (acc : List Val), n = s.length - i ∧ i ≤ s.length ∧ a ≤ b.length ∧ h < 256 ∧ e.tm 2 = .bx 2 0 0 ∧ e.bx 2 0 0 = .val (.sl (s.map fD)) ∧ e.gb 2 = 1 ∧ e.tm 1 = .val (bD b) ∧ e.tm 10 = .val (.int .i64 i) ∧
            e.tm 7 = .val (.int .i64 a) ∧ e.tm 8 = .val (.int .i64 h) ∧ e.tm 9 = .own 9 0 g (vsD acc) ∧ e.lv 9 0 g = true ∧ acc.length = i ∧ (∀ v ∈ acc, I64 v.n ∧ v.s.length ≤ 64) ∧
            rdAll s h0 (b.drop (headN s)) = (rdAll (s.drop i) h (b.drop a)).map (acc ++ ·)) s.length ?_ ?_
          · refine ⟨0, headN s, h0, 1, [], by simp, by simp, by omega, hh256, rfl, rfl, rfl, rfl, rfl, rfl, (by rw [hq]; rfl), rfl, rfl, rfl, by simp, ?_⟩
            simp only [List.drop_zero]
            cases rdAll s h0 (b.drop (headN s)) <;> rfl
          · clear hpi hp
            rintro J hJ n e ⟨i, a, h, g, acc, rfl, hi, ha, hh, g2, hbx, hg, g1, g10, g7, g8, g9, hl, hacl, hacv, hrd⟩
            simp only [↓S1, S2, S3, pureOp, fillD, ↓reduceIte, reduceCtorEq, Nat.reduceEqDiff, Nat.reduceAdd, Nat.reduceLeDiff, mdT, mrT, g2, hbx, hg, g1, g10]
            refine Br_dec (fun hlp => ?_) (fun hlp => ?_)
            · have hlt : i < s.length := by omega
              obtain ⟨f, hf⟩ : ∃ f, s[i]? = some f := ⟨_, List.getElem?_eq_getElem hlt⟩
              have hw : IntKind.i64.wrap ((i : Int) + 1) = ((i + 1 : Nat) : Int) := succ64 (by omega)
              rw [drop_cons hf, rdAll] at hrd
              have t1 : ((h : Nat) : Int).tmod 2 = ((h % 2 : Nat) : Int) := tmodN _ 2 rfl rfl
              have t2 : ((h : Nat) : Int).tdiv 2 = ((h / 2 : Nat) : Int) := tdivN _ 2 rfl rfl
              have t3 : IntKind.i64.wrap ((h / 2 : Nat) : Int) = ((h / 2 : Nat) : Int) := w64 (by omega)
              have hsz : ((acc.map vD).length + 1) * 32 ≤ roomy := by simp only [List.length_map, roomy]; omega
              have rv : rowB 3 (acc.map vD) = true := row_v acc
              by_cases hsk : f.opt = true ∧ h % 2 ≠ 1
              · rw [if_pos hsk] at hrd
                have t4 : (((h % 2 : Nat) : Int) = 1) = False := by simp only [eq_iff_iff, iff_false]; omega
                simp only [↓S1, S2, S3, pureOp, fillD, ↓reduceIte, reduceCtorEq, Nat.reduceEqDiff, Nat.reduceAdd, Nat.reduceLeDiff, mdT, mrT, g2, hbx, hg, g1, g10, g7, g8, g9, hl, hlp, atI_nat, hf, fD, hsk.1, t1, t2, t3, t4, Int.reduceEq, vsD, rv, hw]
                refine ⟨rfl, by omega, rfl, by simp only [roomy]; omega, _, ?_, hJ _ _ ⟨i + 1, a, h / 2, e.gc 9 0, acc ++ [val0], rfl, by omega, ha, by omega, g2, ?_, ?_, g1, rfl, g7, rfl, ?_, ?_, by simp [hacl], ?_, ?_⟩⟩
                · omega
                · simp only [↓S1, S2, S3, pureOp, fillD, ↓reduceIte, reduceCtorEq, Nat.reduceEqDiff, Nat.reduceAdd, Nat.reduceLeDiff, mdT, mrT, hbx]
                · simp only [↓S1, S2, S3, pureOp, fillD, ↓reduceIte, reduceCtorEq, Nat.reduceEqDiff, Nat.reduceAdd, Nat.reduceLeDiff, mdT, mrT, hg]
                · simp only [↓S1, S2, S3, pureOp, fillD, ↓reduceIte, reduceCtorEq, Nat.reduceEqDiff, Nat.reduceAdd, Nat.reduceLeDiff, mdT, mrT]
                  rw [zero_vals, ← List.map_append]; rfl
                · simp only [↓S1, S2, S3, pureOp, fillD, ↓reduceIte, reduceCtorEq, Nat.reduceEqDiff, Nat.reduceAdd, Nat.reduceLeDiff, mdT, mrT]
                · intro v hv
                  rcases List.mem_append.1 hv with hv | hv
                  · exact hacv v hv
                  · rw [List.mem_singleton.1 hv]; exact ⟨by unfold I64 val0; simp, by simp [val0]⟩
                · rw [hrd]
                  cases rdAll (s.drop (i + 1)) (h / 2) (b.drop a) with
                  | none => rfl
                  | some r => simp
              · rw [if_neg hsk] at hrd
                have hor : f.opt = false ∨ (f.opt = true ∧ h % 2 = 1) := by
                  cases hfo : f.opt with
                  | false => exact .inl rfl
                  | true => right; refine ⟨rfl, ?_⟩; by_cases hh1 : h % 2 = 1; exact hh1; exact (hsk ⟨hfo, hh1⟩).elim
                obtain ⟨h', hh'⟩ : ∃ h', h' = if f.opt = true then h / 2 else h := ⟨_, rfl⟩
                have hh'2 : h' < 256 := by rw [hh']; split <;> omega
                rw [← hh'] at hrd
                rcases hor with ho | ho
                all_goals
                  have t4 : f.opt = true → (((h % 2 : Nat) : Int) = 1) = True := by intro hft; simp only [eq_iff_iff, iff_true]; first | (simp [hft] at ho; done) | (have := ho.2; omega)
                  first
                    | (have t5 := t4 ho.1
                       have hh'3 : h / 2 = h' := by rw [hh', if_pos ho.1]
                       have t6 : IntKind.i64.wrap (h' : Int) = h' := w64 (by omega)
                       simp only [↓S1, S2, S3, pureOp, fillD, ↓reduceIte, reduceCtorEq, Nat.reduceEqDiff, Nat.reduceAdd, Nat.reduceLeDiff, mdT, mrT, g2, hbx, hg, g1, g10, g7, g8, g9, hl, hlp, atI_nat, hf, fD, ho.1, t1, t2, t3, t5, t6, Int.reduceEq, hh'3])
                    | (have hh'3 : h = h' := by rw [hh', if_neg (by simp [ho])]
                       simp only [↓S1, S2, S3, pureOp, fillD, ↓reduceIte, reduceCtorEq, Nat.reduceEqDiff, Nat.reduceAdd, Nat.reduceLeDiff, mdT, mrT, g2, hbx, hg, g1, g10, g7, g8, g9, hl, hlp, atI_nat, hf, fD, ho, t1, t2, t3, Int.reduceEq])
                  have hrc := read6_ok f b a hb (by omega)
                  simp only [fD, ho] at hrc
                  refine callV hrc rfl rfl ?_
                  simp only [↓S1, S2, S3, pureOp, fillD, ↓reduceIte, reduceCtorEq, Nat.reduceEqDiff, Nat.reduceAdd, Nat.reduceLeDiff, mdT, mrT, g2, hbx, hg, g1, g10, g7, g8, g9, hl, vD]
                  cases hrv : rdV f (b.drop a) with
                  | none =>
                    rw [hrv] at hrd
                    have hn := rdVres_none hrv
                    have hd : decR s b = ([], 62) := by rw [hdd, hrd]; rfl
                    simp only [↓S1, S2, S3, pureOp, fillD, ↓reduceIte, reduceCtorEq, Nat.reduceEqDiff, Nat.reduceAdd, Nat.reduceLeDiff, mdT, mrT, hn, Int.reduceLT, Int.reduceNeg, postF, retOk, hr, Env.ress, Env.resOf, Env.outsOk, hd]
                    exact wk_tup2 (.refl _) (.refl _)
                  | some q =>
                    obtain ⟨v, l⟩ := q
                    rw [hrv] at hrd
                    obtain ⟨z1, z2⟩ := rdVres_some hrv
                    obtain ⟨z3, z4, z5⟩ := rdV_spec hrv
                    have hneg : ¬ (((b.length - l.length : Nat) : Int) < 0) := by omega
                    simp only [↓S1, S2, S3, pureOp, fillD, ↓reduceIte, reduceCtorEq, Nat.reduceEqDiff, Nat.reduceAdd, Nat.reduceLeDiff, mdT, mrT, z1, hneg, g2, hbx, hg, g1, g10, g7, g8, g9, hl, vsD, rv, hw]
                    refine ⟨rfl, by omega, rfl, by simp only [roomy]; omega, _, ?_, hJ _ _ ⟨i + 1, b.length - l.length, h', e.gc 9 0, acc ++ [v], rfl, by omega, by omega, hh'2, g2, ?_, ?_, g1, rfl, rfl, ?_, ?_, ?_, by simp [hacl], ?_, ?_⟩⟩
                    · omega
                    · simp only [↓S1, S2, S3, pureOp, fillD, ↓reduceIte, reduceCtorEq, Nat.reduceEqDiff, Nat.reduceAdd, Nat.reduceLeDiff, mdT, mrT, hbx]
                    · simp only [↓S1, S2, S3, pureOp, fillD, ↓reduceIte, reduceCtorEq, Nat.reduceEqDiff, Nat.reduceAdd, Nat.reduceLeDiff, mdT, mrT, hg]
                    · first
                        | rfl
                        | exact g8.trans (by rw [hh'3])
                    · simp only [↓S1, S2, S3, pureOp, fillD, ↓reduceIte, reduceCtorEq, Nat.reduceEqDiff, Nat.reduceAdd, Nat.reduceLeDiff, mdT, mrT]
                      have : D.agg [D.int IntKind.i64 v.kind, D.int IntKind.i64 v.n, D.str v.s] = vD v := rfl
                      rw [this, one_vals, ← List.map_append]; rfl
                    · simp only [↓S1, S2, S3, pureOp, fillD, ↓reduceIte, reduceCtorEq, Nat.reduceEqDiff, Nat.reduceAdd, Nat.reduceLeDiff, mdT, mrT]
                    · intro w hv
                      rcases List.mem_append.1 hv with hv | hv
                      · exact hacv w hv
                      · rw [List.mem_singleton.1 hv]; exact ⟨z3, by simp only [List.length_drop] at z4; omega⟩
                    · rw [hrd, z2]
                      simp only []
                      cases rdAll (s.drop (i + 1)) h' l with
                      | none => rfl
                      | some r => simp
            · have hsd : s.drop i = [] := List.drop_eq_nil_of_le (by omega)
              rw [hsd] at hrd
              simp only [rdAll, Option.map_some, List.append_nil] at hrd
              rw [hrd] at hdd
              simp only [] at hdd
              have hvb : ValB acc := ⟨by omega, fun v hv => ⟨(hacv v hv).1, by have := (hacv v hv).2; omega⟩⟩
              simp only [↓S1, S2, S3, pureOp, fillD, ↓reduceIte, reduceCtorEq, Nat.reduceEqDiff, Nat.reduceAdd, Nat.reduceLeDiff, mdT, mrT, g2, hbx, hg, g1, g10, g9, hl, hlp]
              refine callV (encode6_ok s acc hs hvb) rfl rfl ?_
              have hel : (encD s acc).length ≤ 1000000000000 := by
                unfold encD
                split
                · unfold encR
                  have := flat_len acc hvb.2
                  have h9 : acc.length ≤ 8 := by omega
                  rw [List.length_append]
                  have h10 : (if 0 < opts s then [UInt8.ofNat (markN (s.zip acc) % 256)] else []).length ≤ 1 := by split <;> simp
                  omega
                · simp
              simp only [↓S1, S2, S3, pureOp, fillD, ↓reduceIte, reduceCtorEq, Nat.reduceEqDiff, Nat.reduceAdd, Nat.reduceLeDiff, mdT, mrT, g1, bD]
              refine callV (eqBytes_ok _ b hel (by omega)) rfl rfl ?_
              simp only [↓S1, S2, S3, pureOp, fillD, ↓reduceIte, reduceCtorEq, Nat.reduceEqDiff, Nat.reduceAdd, Nat.reduceLeDiff, mdT, mrT]
              refine Br_dec (fun e1 => ?_) (fun e1 => ?_)
              · have hE : encD s acc = encR s acc := by simp [encD, e1]
                rw [hE] at *
                simp only [↓S1, S2, S3, pureOp, fillD, ↓reduceIte, reduceCtorEq, Nat.reduceEqDiff, Nat.reduceAdd, Nat.reduceLeDiff, mdT, mrT, e1]
                refine Br_dec (fun e2 => ?_) (fun e2 => ?_)
                · have hd : decR s b = (acc, 0) := by rw [hdd, if_pos ⟨e1, e2⟩]
                  simp only [↓S1, S2, S3, pureOp, fillD, ↓reduceIte, reduceCtorEq, Nat.reduceEqDiff, Nat.reduceAdd, Nat.reduceLeDiff, mdT, mrT, e2, g9, hl, vsD, postF, retOk, hr, Env.ress, Env.resOf, Env.outsOk, hd]
                  exact wk_tup2 (.refl _) (.refl _)
                · have hd : decR s b = ([], 62) := by rw [hdd, if_neg (fun hh => e2 hh.2)]
                  simp only [↓S1, S2, S3, pureOp, fillD, ↓reduceIte, reduceCtorEq, Nat.reduceEqDiff, Nat.reduceAdd, Nat.reduceLeDiff, mdT, mrT, e2, postF, retOk, hr, Env.ress, Env.resOf, Env.outsOk, hd]
                  exact wk_tup2 (.refl _) (.refl _)
              · have hd : decR s b = ([], 62) := by rw [hdd, if_neg (fun hh => e1 hh.1)]
                simp only [↓S1, S2, S3, pureOp, fillD, ↓reduceIte, reduceCtorEq, Nat.reduceEqDiff, Nat.reduceAdd, Nat.reduceLeDiff, mdT, mrT, e1, postF, retOk, hr, Env.ress, Env.resOf, Env.outsOk, hd]
                exact wk_tup2 (.refl _) (.refl _)
  · have hd : decR s b = ([], errS s) := by unfold decR; rw [if_pos h1]
    simp only [↓S1, S2, S3, pureOp, fillD, ↓reduceIte, reduceCtorEq, Nat.reduceEqDiff, Nat.reduceAdd, Nat.reduceLeDiff, mdT, mrT, h1, postF, retOk, hr, Env.ress, Env.resOf, Env.outsOk, hd]
    exact wk_tup2 (.refl _) (.refl _)
end Go.Proofs.YtebkaacflocfcaaDoor.Ab
