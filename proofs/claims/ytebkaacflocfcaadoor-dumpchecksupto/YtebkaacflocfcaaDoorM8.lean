/- Contracts of the library of strings and of the program about words, fields and schemas. -/
import Derived.Lib.Strings
import Derived.Lib.Slices
import Derived.Lib.Walk
import Derived.Lib.Bytealg
import Derived.Test.YtebkaacflocfcaaDoorM6
import Derived.Test.YtebkaacflocfcaaDoorM4
set_option linter.unusedVariables false
set_option linter.unusedSimpArgs false
set_option linter.defProp false
/- Walks: the library's cuts of a text at a byte, and of a byte at a text's end. -/
namespace Go.Proofs.YtebkaacflocfcaaDoor.Ab
open Go
set_option linter.unusedSimpArgs false
set_option linter.unusedVariables false

set_option maxHeartbeats 1000000 in
set_option maxRecDepth 100000 in
/-- the library's search for a byte -/
theorem index_byte_calls (s : ByteArray) (c : Int) (w : World) :
    Calls Tryd.prog 84 #[.string s, .int .u8 c] w fun e w' => e = .returned (.int .i64 (Lib.indexByte s.data.toList c.toNat.toUInt8)) ∧ w' = w := by
  go_enter Tryd.func84, Tryd.ntmps84
  go_wp2
  rw [run_callFunc_extern Tryd.func89 (by kernel_rfl) (by kernel_rfl) (by kernel_rfl) (e := Extern.BytealgIndexByte.indexByte) (by kernel_rfl), Lib.run_indexByteString]
  simp only [Result.andThen]
  rw [Oper.upon_value]
  go_wp2
  go_ret
  exact ⟨rfl, rfl⟩
set_option maxRecDepth 100000
def findN (c : UInt8) (s : Str) : Int := if upN c s < s.length then (upN c s : Int) else -1
theorem indexByte_eq (s : Str) (c : UInt8) : Lib.indexByte s c = findN c s := by
  induction s with
  | nil => rfl
  | cons b l ih =>
    rw [Lib.indexByte, ih]
    unfold findN
    rw [upN]
    by_cases h : b = c
    · simp [h]
    · simp only [beq_iff_eq, h, if_false, List.length_cons]
      by_cases h2 : upN c l < l.length
      · rw [if_pos h2, if_pos (show upN c l + 1 < l.length + 1 by omega), if_neg (by omega)]; omega
      · rw [if_neg h2, if_neg (show ¬ upN c l + 1 < l.length + 1 by omega), if_pos rfl]
theorem indexByte_ok (s : Str) (c : UInt8) : ACalls Γ 84 [.v (.str s), .v (.int .u8 c.toNat)] ⟨.int .i64 (findN c s), []⟩ := by
  refine ⟨fun args w => ?_, fun w com vs os ps hG hcom hargs => ?_⟩
  · have hf : Γ.P.funcs[84]? = some Tryd.f84 := Tryd.func84
    have hnm : ¬ Tryd.f84.name = "runtime.NumGoroutine" := by decide
    obtain ⟨b, hb⟩ : ∃ b, Tryd.f84.body = some b := ⟨_, rfl⟩
    simp [callFunc, hf, hnm, hb]
  · cases hargs with
    | v h1 hargs =>
      cases hargs with
      | v h2 hargs =>
        cases hargs
        simp only [Den] at h1 h2
        subst h1 h2
        have := index_byte_calls ⟨s.toArray⟩ (c.toNat : Int) w
        refine Calls.mono this ?_
        rintro e w' ⟨rfl, rfl⟩
        refine ⟨_, com, rfl, ?_, ?_, fun h => by cases h⟩
        · simp only [Den]
          rw [← indexByte_eq]
          simp
        · exact { osame := rfl, tape := rfl, output := rfl, size := Nat.le_refl _, old := fun _ _ _ _ => rfl, com_old := fun _ _ _ => rfl, agree := Agree.refl _ _, com_new := hcom, boxes := ⟨rfl, fun i k ds h _ => by simp at h⟩, boxes_size := fun k h => by simp at h }
end Go.Proofs.YtebkaacflocfcaaDoor.Ab

/- Walks: the library's cuts of a text at a byte, and of a byte at a text's end, joined. -/
namespace Go.Proofs.YtebkaacflocfcaaDoor.Ab
open Go
set_option linter.unusedSimpArgs false
set_option linter.unusedVariables false
set_option maxRecDepth 100000

theorem one_cast : ((1 : Nat) : Int) = 1 := rfl
theorem index_ok (s : Str) (c : UInt8) : ACalls Γ 78 [.v (.str s), .v (.str [c])] ⟨.int .i64 (findN c s), []⟩ := by
  refine acalls_of Tryd.func78 rfl rfl (by kernel_rfl) ?_
  have hr : Tryd.f78.results.toList = [.tmp 4] := rfl
  have hat : atI [c] 0 = some c := rfl
  simp only [↓S1, S2, S3, pureOp, fillD, ↓reduceIte, reduceCtorEq, Nat.reduceEqDiff, Nat.reduceAdd, Nat.reduceLeDiff, mdT, mrT, one_cast, Int.reduceEq, strD, hat]
  refine Br_dec (fun h => ?_) (fun h => ?_)
  · have hd : findN c s = 0 := by rw [← h]; simp [findN, upN]
    simp only [↓S1, S2, S3, pureOp, fillD, ↓reduceIte, reduceCtorEq, Nat.reduceEqDiff, Nat.reduceAdd, Nat.reduceLeDiff, mdT, mrT, h, postF, retOk, hr, Env.ress, Env.resOf, Env.outsOk, hd]
    exact .refl _
  · simp only [↓S1, S2, S3, pureOp, fillD, ↓reduceIte, reduceCtorEq, Nat.reduceEqDiff, Nat.reduceAdd, Nat.reduceLeDiff, mdT, mrT, h, one_cast, Int.reduceEq, strD, hat]
    refine callV (indexByte_ok s c) rfl rfl ?_
    simp only [↓S1, S2, S3, pureOp, fillD, ↓reduceIte, reduceCtorEq, Nat.reduceEqDiff, Nat.reduceAdd, Nat.reduceLeDiff, mdT, mrT, postF, retOk, hr, Env.ress, Env.resOf, Env.outsOk]
    exact .refl _
def cutR (c : UInt8) (s : Str) : Str × Str × Bool := if upN c s < s.length then (s.take (upN c s), s.drop (upN c s + 1), true) else (s, [], false)
theorem cut67_ok (s : Str) (c : UInt8) (hs : s.length ≤ 1000000000) : ACalls Γ 67 [.v (.str s), .v (.str [c])] ⟨.tup [.str (cutR c s).1, .str (cutR c s).2.1, .bool (cutR c s).2.2], []⟩ := by
  refine acalls_of Tryd.func67 rfl rfl (by kernel_rfl) ?_
  have hr : Tryd.f67.results.toList = [.tmp 4, .tmp 5, .tmp 6] := rfl
  simp only [↓S1, S2, S3, pureOp, fillD, ↓reduceIte, reduceCtorEq, Nat.reduceEqDiff, Nat.reduceAdd, Nat.reduceLeDiff, mdT, mrT]
  refine callV (index_ok s c) rfl rfl ?_
  unfold findN cutR
  by_cases h : upN c s < s.length
  · have hc1 : cutL s (some 0) (some (upN c s : Int)) = some (s.take (upN c s)) := by
      have := cut_nat s (Nat.zero_le (upN c s)) (by omega)
      rw [List.drop_zero] at this; exact this
    have hw : IntKind.i64.wrap ((upN c s : Int) + 1) = ((upN c s + 1 : Nat) : Int) := succ64 (by omega)
    have hc2 : cutL s (some ((upN c s + 1 : Nat) : Int)) (some (s.length : Int)) = some (s.drop (upN c s + 1)) := by
      rw [cut_nat s (by omega) (by omega), List.take_of_length_le (Nat.le_refl _)]
    have hge : (0 ≤ (upN c s : Int)) = True := by simp
    simp only [↓S1, S2, S3, pureOp, fillD, ↓reduceIte, reduceCtorEq, Nat.reduceEqDiff, Nat.reduceAdd, Nat.reduceLeDiff, mdT, mrT, h, one_cast, hge, boundD, hc1, hw, hc2, postF, retOk, hr, Env.ress, Env.resOf, Env.outsOk]
    exact .refl _
  · simp only [↓S1, S2, S3, pureOp, fillD, ↓reduceIte, reduceCtorEq, Nat.reduceEqDiff, Nat.reduceAdd, Nat.reduceLeDiff, mdT, mrT, h, one_cast, Int.reduceLE, Int.reduceNeg, postF, retOk, hr, Env.ress, Env.resOf, Env.outsOk]
    exact .refl _
theorem cut44_ok (s : Str) (c : UInt8) (hs : s.length ≤ 1000000000) : ACalls Γ 44 [.v (.str s), .v (.str [c])] ⟨.tup [.str (cutR c s).1, .str (cutR c s).2.1, .bool (cutR c s).2.2], []⟩ := by
  refine acalls_of Tryd.func44 rfl rfl (by kernel_rfl) ?_
  have hr : Tryd.f44.results.toList = [.tmp 4, .tmp 5, .tmp 6] := rfl
  simp only [↓S1, S2, S3, pureOp, fillD, ↓reduceIte, reduceCtorEq, Nat.reduceEqDiff, Nat.reduceAdd, Nat.reduceLeDiff, mdT, mrT]
  refine callV (cut67_ok s c hs) rfl rfl ?_
  simp only [↓S1, S2, S3, pureOp, fillD, ↓reduceIte, reduceCtorEq, Nat.reduceEqDiff, Nat.reduceAdd, Nat.reduceLeDiff, mdT, mrT, postF, retOk, hr, Env.ress, Env.resOf, Env.outsOk]
  exact .refl _
/-- does the text end so? -/
def endsC (c : UInt8) (s : Str) : Bool := decide (s.getLast? = some c)
theorem endsC_nil (c : UInt8) : endsC c [] = false := by simp [endsC]
theorem ends_drop {s : Str} (c : UInt8) (h : s ≠ []) : (s.drop (s.length - 1) = [c]) ↔ s.getLast? = some c := by
  have hp := List.length_pos_iff.2 h
  have hx : s[s.length - 1]? = some (s[s.length - 1]'(by omega)) := List.getElem?_eq_getElem (by omega)
  rw [drop_cons' hx, List.getLast?_eq_getElem?, hx, show s.length - 1 + 1 = s.length by omega, List.drop_length]
  simp
theorem hasSuffix_ok (s : Str) (c : UInt8) (hs : s.length ≤ 1000000000) : ACalls Γ 79 [.v (.str s), .v (.str [c])] ⟨.bool (endsC c s), []⟩ := by
  refine acalls_of Tryd.func79 rfl rfl (by kernel_rfl) ?_
  have hr : Tryd.f79.results.toList = [.tmp 4] := rfl
  simp only [↓S1, S2, S3, pureOp, fillD, ↓reduceIte, reduceCtorEq, Nat.reduceEqDiff, Nat.reduceAdd, Nat.reduceLeDiff, mdT, mrT, one_cast]
  refine Br_dec (fun h => ?_) (fun h => ?_)
  · have hw : IntKind.i64.wrap ((s.length : Int) - 1) = ((s.length - 1 : Nat) : Int) := by rw [w64 (by omega)]; omega
    have hc1 : cutL s (some ((s.length - 1 : Nat) : Int)) (some (s.length : Int)) = some (s.drop (s.length - 1)) := by
      rw [cut_nat s (by omega) (by omega), List.take_of_length_le (Nat.le_refl _)]
    have hne : s ≠ [] := by intro hh; rw [hh] at h; simp at h
    simp only [↓S1, S2, S3, pureOp, fillD, ↓reduceIte, reduceCtorEq, Nat.reduceEqDiff, Nat.reduceAdd, Nat.reduceLeDiff, mdT, mrT, h, one_cast, hw, boundD, hc1, strD, postF, retOk, hr, Env.ress, Env.resOf, Env.outsOk]
    refine wk_bool ?_
    unfold endsC
    exact decide_eq_decide.2 (ends_drop c hne)
  · have hne : s = [] := by cases s with | nil => rfl | cons a b => simp at h; omega
    simp only [↓S1, S2, S3, pureOp, fillD, ↓reduceIte, reduceCtorEq, Nat.reduceEqDiff, Nat.reduceAdd, Nat.reduceLeDiff, mdT, mrT, h, one_cast, postF, retOk, hr, Env.ress, Env.resOf, Env.outsOk]
    exact wk_bool (by rw [hne, endsC_nil])
def cutSufR (c : UInt8) (s : Str) : Str × Bool := if endsC c s = true then (s.dropLast, true) else (s, false)
theorem cutSuf68_ok (s : Str) (c : UInt8) (hs : s.length ≤ 1000000000) : ACalls Γ 68 [.v (.str s), .v (.str [c])] ⟨.tup [.str (cutSufR c s).1, .bool (cutSufR c s).2], []⟩ := by
  refine acalls_of Tryd.func68 rfl rfl (by kernel_rfl) ?_
  have hr : Tryd.f68.results.toList = [.tmp 4, .tmp 5] := rfl
  simp only [↓S1, S2, S3, pureOp, fillD, ↓reduceIte, reduceCtorEq, Nat.reduceEqDiff, Nat.reduceAdd, Nat.reduceLeDiff, mdT, mrT]
  refine callV (hasSuffix_ok s c hs) rfl rfl ?_
  unfold cutSufR
  cases h : endsC c s with
  | false =>
    simp only [↓S1, S2, S3, pureOp, fillD, ↓reduceIte, reduceCtorEq, Nat.reduceEqDiff, Nat.reduceAdd, Nat.reduceLeDiff, mdT, mrT, postF, retOk, hr, Env.ress, Env.resOf, Env.outsOk]
    exact .refl _
  | true =>
    have hne : s ≠ [] := by intro hh; rw [hh, endsC_nil] at h; cases h
    have hp := List.length_pos_iff.2 hne
    have hw : IntKind.i64.wrap ((s.length : Int) - 1) = ((s.length - 1 : Nat) : Int) := by rw [w64 (by omega)]; omega
    have hc1 : cutL s (some 0) (some ((s.length - 1 : Nat) : Int)) = some s.dropLast := by
      have := cut_nat s (Nat.zero_le (s.length - 1)) (by omega)
      rw [List.drop_zero, ← List.dropLast_eq_take] at this; exact this
    simp only [↓S1, S2, S3, pureOp, fillD, ↓reduceIte, reduceCtorEq, Nat.reduceEqDiff, Nat.reduceAdd, Nat.reduceLeDiff, mdT, mrT, one_cast, hw, boundD, hc1, postF, retOk, hr, Env.ress, Env.resOf, Env.outsOk]
    exact .refl _
theorem cutSuf45_ok (s : Str) (c : UInt8) (hs : s.length ≤ 1000000000) : ACalls Γ 45 [.v (.str s), .v (.str [c])] ⟨.tup [.str (cutSufR c s).1, .bool (cutSufR c s).2], []⟩ := by
  refine acalls_of Tryd.func45 rfl rfl (by kernel_rfl) ?_
  have hr : Tryd.f45.results.toList = [.tmp 4, .tmp 5] := rfl
  simp only [↓S1, S2, S3, pureOp, fillD, ↓reduceIte, reduceCtorEq, Nat.reduceEqDiff, Nat.reduceAdd, Nat.reduceLeDiff, mdT, mrT]
  refine callV (cutSuf68_ok s c hs) rfl rfl ?_
  simp only [↓S1, S2, S3, pureOp, fillD, ↓reduceIte, reduceCtorEq, Nat.reduceEqDiff, Nat.reduceAdd, Nat.reduceLeDiff, mdT, mrT, postF, retOk, hr, Env.ress, Env.resOf, Env.outsOk]
  exact .refl _
end Go.Proofs.YtebkaacflocfcaaDoor.Ab

/- Walks: names and keywords in the program. -/
namespace Go.Proofs.YtebkaacflocfcaaDoor.Ab
open Go
set_option maxRecDepth 100000
set_option linter.unusedSimpArgs false
set_option linter.unusedVariables false

theorem part_nat : ∀ n < 256, (97 ≤ n ∧ n ≤ 122 ∨ 65 ≤ n ∧ n ≤ 90 ∨ 48 ≤ n ∧ n ≤ 57 ∨ n = 95) ↔ ¬ (((n ||| 32) < 97 ∨ 122 < (n ||| 32)) ∧ (n < 48 ∨ 57 < n) ∧ n ≠ 95) := by decide
theorem part_eq (c : UInt8) : part c = decide (¬ (((c.toNat ||| 32) < 97 ∨ 122 < (c.toNat ||| 32)) ∧ (c.toNat < 48 ∨ 57 < c.toNat) ∧ c.toNat ≠ 95)) := by
  unfold part
  exact decide_eq_decide.2 (part_nat c.toNat c.toNat_lt)
def spelledB (w : Str) : Bool := decide (w ≠ []) && w.all part
theorem spelled_ok (w : Str) (hl : w.length ≤ 1000000000) : ACalls Γ 46 [.v (.str w)] ⟨.bool (spelledB w), []⟩ := by
  refine acalls_of Tryd.func46 rfl rfl (by kernel_rfl) ?_
  have hr : Tryd.f46.results.toList = [.tmp 2] := rfl
  have hfail : ∀ x ∈ w, part x = false → spelledB w = false := by
    intro x hx hp
    have : w.all part = false := by rw [List.all_eq_false]; exact ⟨x, hx, by simp [hp]⟩
    simp [spelledB, this]
  simp only [↓S1, S2, S3, pureOp, fillD, ↓reduceIte, reduceCtorEq, Nat.reduceEqDiff, Nat.reduceAdd, Nat.reduceLeDiff, mdT, mrT]
  refine evW_loop (fun n e => ∃ i : Nat, n = w.length - i ∧ i ≤ w.length ∧ e.tm 0 = .val (.str w) ∧ e.tm 3 = .val (.int .i64 i) ∧ (w.take i).all part = true) w.length ?_ ?_
  · exact ⟨0, by simp, by simp, rfl, rfl, by simp⟩
  · rintro J hJ n e ⟨i, rfl, hi, g0, g3, hp⟩
    simp only [↓S1, S2, S3, pureOp, fillD, ↓reduceIte, reduceCtorEq, Nat.reduceEqDiff, Nat.reduceAdd, Nat.reduceLeDiff, mdT, mrT, g0, g3]
    refine Br_dec (fun h => ?_) (fun h => ?_)
    · obtain ⟨x, hx⟩ : ∃ x, w[i]? = some x := ⟨_, List.getElem?_eq_getElem (show i < w.length by omega)⟩
      have hxm := List.mem_of_getElem? hx
      have hxl := x.toNat_lt
      have hw : IntKind.i64.wrap ((i : Int) + 1) = ((i + 1 : Nat) : Int) := succ64 (by omega)
      have hor : bitsD .or .u8 (x.toNat : Int) 32 = some (((x.toNat ||| 32 : Nat)) : Int) := orU (k := .u8) rfl x.toNat 32 rfl rfl (show x.toNat < 2 ^ 8 by omega) (by decide)
      have hcont : part x = true → (w.take (i + 1)).all part = true := by
        intro hpx; rw [← take_succ hx, List.all_append, hp]; simp [hpx]
      simp only [↓S1, S2, S3, pureOp, fillD, ↓reduceIte, reduceCtorEq, Nat.reduceEqDiff, Nat.reduceAdd, Nat.reduceLeDiff, mdT, mrT, g0, g3, h, atI_nat, hx, hor]
      refine Br_dec (fun a1 => ?_) (fun a1 => ?_)
      · simp only [↓S1, S2, S3, pureOp, fillD, ↓reduceIte, reduceCtorEq, Nat.reduceEqDiff, Nat.reduceAdd, Nat.reduceLeDiff, mdT, mrT, g0, g3, a1, atI_nat, hx]
        refine Br_dec (fun a3 => ?_) (fun a3 => ?_)
        · simp only [↓S1, S2, S3, pureOp, fillD, ↓reduceIte, reduceCtorEq, Nat.reduceEqDiff, Nat.reduceAdd, Nat.reduceLeDiff, mdT, mrT, g0, g3, a3, a1, atI_nat, hx]
          refine Br_dec (fun a5 => ?_) (fun a5 => ?_)
          · exfalso; omega
          · have hpf : part x = false := by rw [part_eq]; exact decide_eq_false (fun hh => hh (by omega))
            have hd : spelledB w = false := hfail _ hxm hpf
            simp only [↓S1, S2, S3, pureOp, fillD, ↓reduceIte, reduceCtorEq, Nat.reduceEqDiff, Nat.reduceAdd, Nat.reduceLeDiff, mdT, mrT, g0, g3, a5, postF, retOk, hr, Env.ress, Env.resOf, Env.outsOk, hd]
            exact .refl _
        · simp only [↓S1, S2, S3, pureOp, fillD, ↓reduceIte, reduceCtorEq, Nat.reduceEqDiff, Nat.reduceAdd, Nat.reduceLeDiff, mdT, mrT, g0, g3, a3, a1, atI_nat, hx]
          refine Br_dec (fun a4 => ?_) (fun a4 => ?_)
          · simp only [↓S1, S2, S3, pureOp, fillD, ↓reduceIte, reduceCtorEq, Nat.reduceEqDiff, Nat.reduceAdd, Nat.reduceLeDiff, mdT, mrT, g0, g3, a3, a4, a1, atI_nat, hx]
            refine Br_dec (fun a5 => ?_) (fun a5 => ?_)
            · have hpt : part x = true := by rw [part_eq]; exact decide_eq_true (by omega)
              simp only [↓S1, S2, S3, pureOp, fillD, ↓reduceIte, reduceCtorEq, Nat.reduceEqDiff, Nat.reduceAdd, Nat.reduceLeDiff, mdT, mrT, g0, g3, a5, hw]
              exact ⟨_, by omega, hJ _ _ ⟨i + 1, rfl, by omega, g0, rfl, hcont hpt⟩⟩
            · have hpf : part x = false := by rw [part_eq]; exact decide_eq_false (fun hh => hh (by omega))
              have hd : spelledB w = false := hfail _ hxm hpf
              simp only [↓S1, S2, S3, pureOp, fillD, ↓reduceIte, reduceCtorEq, Nat.reduceEqDiff, Nat.reduceAdd, Nat.reduceLeDiff, mdT, mrT, g0, g3, a5, postF, retOk, hr, Env.ress, Env.resOf, Env.outsOk, hd]
              exact .refl _
          · have hpt : part x = true := by rw [part_eq]; exact decide_eq_true (by omega)
            simp only [↓S1, S2, S3, pureOp, fillD, ↓reduceIte, reduceCtorEq, Nat.reduceEqDiff, Nat.reduceAdd, Nat.reduceLeDiff, mdT, mrT, g0, g3, a3, a4, a1, hw]
            exact ⟨_, by omega, hJ _ _ ⟨i + 1, rfl, by omega, g0, rfl, hcont hpt⟩⟩
      · simp only [↓S1, S2, S3, pureOp, fillD, ↓reduceIte, reduceCtorEq, Nat.reduceEqDiff, Nat.reduceAdd, Nat.reduceLeDiff, mdT, mrT, g0, g3, a1, atI_nat, hx]
        refine Br_dec (fun a2 => ?_) (fun a2 => ?_)
        · simp only [↓S1, S2, S3, pureOp, fillD, ↓reduceIte, reduceCtorEq, Nat.reduceEqDiff, Nat.reduceAdd, Nat.reduceLeDiff, mdT, mrT, g0, g3, a1, a2, atI_nat, hx]
          refine Br_dec (fun a3 => ?_) (fun a3 => ?_)
          · simp only [↓S1, S2, S3, pureOp, fillD, ↓reduceIte, reduceCtorEq, Nat.reduceEqDiff, Nat.reduceAdd, Nat.reduceLeDiff, mdT, mrT, g0, g3, a3, a1, a2, atI_nat, hx]
            refine Br_dec (fun a5 => ?_) (fun a5 => ?_)
            · exfalso; omega
            · have hpf : part x = false := by rw [part_eq]; exact decide_eq_false (fun hh => hh (by omega))
              have hd : spelledB w = false := hfail _ hxm hpf
              simp only [↓S1, S2, S3, pureOp, fillD, ↓reduceIte, reduceCtorEq, Nat.reduceEqDiff, Nat.reduceAdd, Nat.reduceLeDiff, mdT, mrT, g0, g3, a5, postF, retOk, hr, Env.ress, Env.resOf, Env.outsOk, hd]
              exact .refl _
          · simp only [↓S1, S2, S3, pureOp, fillD, ↓reduceIte, reduceCtorEq, Nat.reduceEqDiff, Nat.reduceAdd, Nat.reduceLeDiff, mdT, mrT, g0, g3, a3, a1, a2, atI_nat, hx]
            refine Br_dec (fun a4 => ?_) (fun a4 => ?_)
            · simp only [↓S1, S2, S3, pureOp, fillD, ↓reduceIte, reduceCtorEq, Nat.reduceEqDiff, Nat.reduceAdd, Nat.reduceLeDiff, mdT, mrT, g0, g3, a3, a4, a1, a2, atI_nat, hx]
              refine Br_dec (fun a5 => ?_) (fun a5 => ?_)
              · have hpt : part x = true := by rw [part_eq]; exact decide_eq_true (by omega)
                simp only [↓S1, S2, S3, pureOp, fillD, ↓reduceIte, reduceCtorEq, Nat.reduceEqDiff, Nat.reduceAdd, Nat.reduceLeDiff, mdT, mrT, g0, g3, a5, hw]
                exact ⟨_, by omega, hJ _ _ ⟨i + 1, rfl, by omega, g0, rfl, hcont hpt⟩⟩
              · have hpf : part x = false := by rw [part_eq]; exact decide_eq_false (fun hh => hh (by omega))
                have hd : spelledB w = false := hfail _ hxm hpf
                simp only [↓S1, S2, S3, pureOp, fillD, ↓reduceIte, reduceCtorEq, Nat.reduceEqDiff, Nat.reduceAdd, Nat.reduceLeDiff, mdT, mrT, g0, g3, a5, postF, retOk, hr, Env.ress, Env.resOf, Env.outsOk, hd]
                exact .refl _
            · have hpt : part x = true := by rw [part_eq]; exact decide_eq_true (by omega)
              simp only [↓S1, S2, S3, pureOp, fillD, ↓reduceIte, reduceCtorEq, Nat.reduceEqDiff, Nat.reduceAdd, Nat.reduceLeDiff, mdT, mrT, g0, g3, a3, a4, a1, a2, hw]
              exact ⟨_, by omega, hJ _ _ ⟨i + 1, rfl, by omega, g0, rfl, hcont hpt⟩⟩
        · have hpt : part x = true := by rw [part_eq]; exact decide_eq_true (by omega)
          simp only [↓S1, S2, S3, pureOp, fillD, ↓reduceIte, reduceCtorEq, Nat.reduceEqDiff, Nat.reduceAdd, Nat.reduceLeDiff, mdT, mrT, g0, g3, a1, a2, hw]
          exact ⟨_, by omega, hJ _ _ ⟨i + 1, rfl, by omega, g0, rfl, hcont hpt⟩⟩
    · rw [List.take_of_length_le (by omega)] at hp
      have hd : spelledB w = !(decide (w = [])) := by
        unfold spelledB; rw [hp, Bool.and_true]; simp
      simp only [↓S1, S2, S3, pureOp, fillD, ↓reduceIte, reduceCtorEq, Nat.reduceEqDiff, Nat.reduceAdd, Nat.reduceLeDiff, mdT, mrT, g0, g3, h, strD, postF, retOk, hr, Env.ress, Env.resOf, Env.outsOk, hd]
      exact .refl _

/-- the keywords, as the program holds them -/
def resS : Str := [32, 97, 110, 100, 32, 99, 97, 116, 32, 99, 108, 101, 97, 114, 32, 100, 101, 108, 101, 116, 101, 32, 101, 108, 115, 101, 32, 102, 97, 108, 115, 101, 32, 104, 97, 115, 32, 104, 101].append [114, 101, 32, 105, 102, 32, 108, 101, 110, 32, 109, 97, 120, 32, 109, 105, 110, 32, 110, 101, 119, 32, 110, 111, 116, 32, 111, 114, 32, 112, 105, 99, 107, 32, 116, 114, 117, 101, 32]
def kwAt (w : Str) (i : Nat) : Bool := decide (resS[i]? = some 32 ∧ resS[i + w.length + 1]? = some 32 ∧ (resS.drop (i + 1)).take w.length = w)
theorem res_len : resS.length = 78 := rfl
theorem kw_fwd : ∀ w ∈ kws, w.length ≤ 8 ∧ ∃ i, i + w.length + 2 ≤ 78 ∧ kwAt w i = true := by
  intro w hw
  simp only [kws, List.mem_cons, List.not_mem_nil, or_false] at hw
  rcases hw with rfl | rfl | rfl | rfl | rfl | rfl | rfl | rfl | rfl | rfl | rfl | rfl | rfl | rfl | rfl | rfl | rfl
  · exact ⟨by decide, 0, by decide, by decide⟩
  · exact ⟨by decide, 4, by decide, by decide⟩
  · exact ⟨by decide, 8, by decide, by decide⟩
  · exact ⟨by decide, 14, by decide, by decide⟩
  · exact ⟨by decide, 21, by decide, by decide⟩
  · exact ⟨by decide, 26, by decide, by decide⟩
  · exact ⟨by decide, 32, by decide, by decide⟩
  · exact ⟨by decide, 36, by decide, by decide⟩
  · exact ⟨by decide, 41, by decide, by decide⟩
  · exact ⟨by decide, 44, by decide, by decide⟩
  · exact ⟨by decide, 48, by decide, by decide⟩
  · exact ⟨by decide, 52, by decide, by decide⟩
  · exact ⟨by decide, 56, by decide, by decide⟩
  · exact ⟨by decide, 60, by decide, by decide⟩
  · exact ⟨by decide, 64, by decide, by decide⟩
  · exact ⟨by decide, 67, by decide, by decide⟩
  · exact ⟨by decide, 72, by decide, by decide⟩
def kwB (i n : Nat) : Bool := !(resS[i]? == some 32 && resS[i + n + 1]? == some 32 && ((resS.drop (i + 1)).take n).all part && !((resS.drop (i + 1)).take n).isEmpty) || kws.contains ((resS.drop (i + 1)).take n)
theorem kw_back0 : ((List.range 78).all fun i => (List.range 9).all fun n => kwB i n) = true := by decide +kernel
theorem kw_back {w : Str} {i : Nat} (h8 : w.length ≤ 8) (hs : spelledB w = true) (hi : i + w.length + 2 ≤ 78) (h : kwAt w i = true) : w ∈ kws := by
  simp only [spelledB, Bool.and_eq_true, decide_eq_true_eq] at hs
  simp only [kwAt, decide_eq_true_eq] at h
  have h0 := List.all_eq_true.1 kw_back0 i (List.mem_range.2 (by omega))
  have h1 := List.all_eq_true.1 h0 w.length (List.mem_range.2 (by omega))
  simp only [kwB, h.1, h.2.1, h.2.2, hs.2, BEq.rfl, Bool.and_true, Bool.true_and, Bool.not_not] at h1
  cases w with
  | nil => exact absurd rfl hs.1
  | cons a w => simpa using h1
theorem keyword80_ok (w : Str) (h8 : w.length ≤ 8) (hs : spelledB w = true) : ACalls Γ 80 [.v (.str w)] ⟨.bool (decide (w ∈ kws)), []⟩ := by
  refine acalls_of Tryd.func80 rfl rfl (by kernel_rfl) ?_
  have hr : Tryd.f80.results.toList = [.tmp 2] := rfl
  have hno : (∀ i, i + w.length + 2 ≤ 78 → kwAt w i = false) → w ∉ kws := by
    intro h hm
    obtain ⟨_, i, hi, hk⟩ := kw_fwd w hm
    rw [h i hi] at hk; cases hk
  have hres : [32, 97, 110, 100, 32, 99, 97, 116, 32, 99, 108, 101, 97, 114, 32, 100, 101, 108, 101, 116, 101, 32, 101, 108, 115, 101, 32, 102, 97, 108, 115, 101, 32, 104, 97, 115, 32, 104, 101].append [114, 101, 32, 105, 102, 32, 108, 101, 110, 32, 109, 97, 120, 32, 109, 105, 110, 32, 110, 101, 119, 32, 110, 111, 116, 32, 111, 114, 32, 112, 105, 99, 107, 32, 116, 114, 117, 101, 32] = resS := rfl
  simp only [↓S1, S2, S3, pureOp, fillD, ↓reduceIte, reduceCtorEq, Nat.reduceEqDiff, Nat.reduceAdd, Nat.reduceLeDiff, mdT, mrT]
  refine evW_loop (fun n e => ∃ i : Nat, n = 78 - i ∧ i ≤ 78 ∧ e.tm 0 = .val (.str w) ∧ e.tm 3 = .val (.int .i64 i) ∧ (∀ j, j < i → kwAt w j = false)) 78 ?_ ?_
  · exact ⟨0, by simp, by simp, rfl, rfl, by simp⟩
  · rintro J hJ n e ⟨i, rfl, hi, g0, g3, hp⟩
    have w1 : IntKind.i64.wrap ((i : Int) + (w.length : Int)) = ((i + w.length : Nat) : Int) := by rw [w64 (by omega)]; simp
    have w2 : IntKind.i64.wrap (((i + w.length : Nat) : Int) + 2) = ((i + w.length + 2 : Nat) : Int) := by rw [w64 (by omega)]; rfl
    simp only [↓S1, S2, S3, pureOp, fillD, ↓reduceIte, reduceCtorEq, Nat.reduceEqDiff, Nat.reduceAdd, Nat.reduceLeDiff, mdT, mrT, g0, g3, w1, w2]
    refine Br_dec (fun h => ?_) (fun h => ?_)
    · have hi78 : i + w.length + 2 ≤ 78 := by omega
      obtain ⟨x, hx⟩ : ∃ x, resS[i]? = some x := ⟨_, List.getElem?_eq_getElem (show i < resS.length by rw [res_len]; omega)⟩
      obtain ⟨y, hy⟩ : ∃ y, resS[i + w.length + 1]? = some y := ⟨_, List.getElem?_eq_getElem (show i + w.length + 1 < resS.length by rw [res_len]; omega)⟩
      have w3 : IntKind.i64.wrap ((i : Int) + 1) = ((i + 1 : Nat) : Int) := succ64 (by omega)
      have w4 : IntKind.i64.wrap (((i + w.length : Nat) : Int) + 1) = ((i + w.length + 1 : Nat) : Int) := succ64 (by omega)
      have w5 : IntKind.i64.wrap (((i + 1 : Nat) : Int) + (w.length : Int)) = ((i + 1 + w.length : Nat) : Int) := by rw [w64 (by omega)]; simp
      have hcut : cutL resS (some ((i + 1 : Nat) : Int)) (some ((i + 1 + w.length : Nat) : Int)) = some ((resS.drop (i + 1)).take w.length) := by
        rw [cut_nat _ (by omega) (by rw [res_len]; omega), List.take_drop]
      have hx2 : ((x.toNat : Int) = 32) ↔ x = 32 := by
        constructor
        · intro hh; apply UInt8.toNat_inj.1; have : (32 : UInt8).toNat = 32 := rfl; omega
        · intro hh; rw [hh]; rfl
      have hy2 : ((y.toNat : Int) = 32) ↔ y = 32 := by
        constructor
        · intro hh; apply UInt8.toNat_inj.1; have : (32 : UInt8).toNat = 32 := rfl; omega
        · intro hh; rw [hh]; rfl
      have hnext : kwAt w i = false → ∀ j, j < i + 1 → kwAt w j = false := by
        intro hk j hj
        rcases Nat.lt_or_ge j i with hh | hh
        · exact hp j hh
        · have : j = i := by omega
          rw [this]; exact hk
      simp only [↓S1, S2, S3, pureOp, fillD, ↓reduceIte, reduceCtorEq, Nat.reduceEqDiff, Nat.reduceAdd, Nat.reduceLeDiff, mdT, mrT, g0, g3, h, hres, atI_nat, hx]
      refine Br_dec (fun a1 => ?_) (fun a1 => ?_)
      · simp only [↓S1, S2, S3, pureOp, fillD, ↓reduceIte, reduceCtorEq, Nat.reduceEqDiff, Nat.reduceAdd, Nat.reduceLeDiff, mdT, mrT, g0, g3, w1, w4, a1, hres, atI_nat, hy]
        refine Br_dec (fun a2 => ?_) (fun a2 => ?_)
        · simp only [↓S1, S2, S3, pureOp, fillD, ↓reduceIte, reduceCtorEq, Nat.reduceEqDiff, Nat.reduceAdd, Nat.reduceLeDiff, mdT, mrT, g0, g3, w1, w3, w4, w5, a1, a2, hres, boundD, hcut, strD]
          refine Br_dec (fun a3 => ?_) (fun a3 => ?_)
          · have hk : kwAt w i = true := by
              simp only [kwAt, decide_eq_true_eq]
              exact ⟨by rw [hx, hx2.1 a1], by rw [hy, hy2.1 a2], a3⟩
            have hm := kw_back h8 hs hi78 hk
            simp only [↓S1, S2, S3, pureOp, fillD, ↓reduceIte, reduceCtorEq, Nat.reduceEqDiff, Nat.reduceAdd, Nat.reduceLeDiff, mdT, mrT, g0, g3, a3, postF, retOk, hr, Env.ress, Env.resOf, Env.outsOk, hm]
            exact .refl _
          · have hk : kwAt w i = false := by
              simp only [kwAt, decide_eq_false_iff_not]
              exact fun hh => a3 hh.2.2
            simp only [↓S1, S2, S3, pureOp, fillD, ↓reduceIte, reduceCtorEq, Nat.reduceEqDiff, Nat.reduceAdd, Nat.reduceLeDiff, mdT, mrT, g0, g3, a3, w3]
            exact ⟨_, by omega, hJ _ _ ⟨i + 1, rfl, by omega, g0, rfl, hnext hk⟩⟩
        · have hk : kwAt w i = false := by
            simp only [kwAt, decide_eq_false_iff_not]
            intro hh; rw [hy] at hh; exact a2 (hy2.2 (Option.some.inj hh.2.1))
          simp only [↓S1, S2, S3, pureOp, fillD, ↓reduceIte, reduceCtorEq, Nat.reduceEqDiff, Nat.reduceAdd, Nat.reduceLeDiff, mdT, mrT, g0, g3, a1, a2, w3]
          exact ⟨_, by omega, hJ _ _ ⟨i + 1, rfl, by omega, g0, rfl, hnext hk⟩⟩
      · have hk : kwAt w i = false := by
          simp only [kwAt, decide_eq_false_iff_not]
          intro hh; rw [hx] at hh; exact a1 (hx2.2 (Option.some.inj hh.1))
        simp only [↓S1, S2, S3, pureOp, fillD, ↓reduceIte, reduceCtorEq, Nat.reduceEqDiff, Nat.reduceAdd, Nat.reduceLeDiff, mdT, mrT, g0, g3, a1, w3]
        exact ⟨_, by omega, hJ _ _ ⟨i + 1, rfl, by omega, g0, rfl, hnext hk⟩⟩
    · have hm : w ∉ kws := hno fun j hj => hp j (by omega)
      simp only [↓S1, S2, S3, pureOp, fillD, ↓reduceIte, reduceCtorEq, Nat.reduceEqDiff, Nat.reduceAdd, Nat.reduceLeDiff, mdT, mrT, g0, g3, h, postF, retOk, hr, Env.ress, Env.resOf, Env.outsOk, hm]
      exact .refl _
end Go.Proofs.YtebkaacflocfcaaDoor.Ab

/- Walks: names, and CheckSchema in the program. -/
namespace Go.Proofs.YtebkaacflocfcaaDoor.Ab
open Go
set_option maxRecDepth 100000
set_option linter.unusedSimpArgs false
set_option linter.unusedVariables false

theorem named_ok (w : Str) (hl : w.length ≤ 1000000000) : ACalls Γ 70 [.v (.str w)] ⟨.bool (nameOk w), []⟩ := by
  refine acalls_of Tryd.func70 rfl rfl (by kernel_rfl) ?_
  have hr : Tryd.f70.results.toList = [.tmp 2] := rfl
  simp only [↓S1, S2, S3, pureOp, fillD, ↓reduceIte, reduceCtorEq, Nat.reduceEqDiff, Nat.reduceAdd, Nat.reduceLeDiff, mdT, mrT]
  refine callV (spelled_ok w hl) rfl rfl ?_
  cases hs : spelledB w with
  | false =>
    have hd : nameOk w = false := by
      simp only [spelledB, Bool.and_eq_false_iff, decide_eq_false_iff_not] at hs
      rcases hs with hs | hs
      · simp [nameOk, hs]
      · simp [nameOk, hs]
    simp only [↓S1, S2, S3, pureOp, fillD, ↓reduceIte, reduceCtorEq, Nat.reduceEqDiff, Nat.reduceAdd, Nat.reduceLeDiff, mdT, mrT, postF, retOk, hr, Env.ress, Env.resOf, Env.outsOk, hd]
    exact .refl _
  | true =>
    have hs' := hs
    simp only [spelledB, Bool.and_eq_true, decide_eq_true_eq] at hs'
    simp only [↓S1, S2, S3, pureOp, fillD, ↓reduceIte, reduceCtorEq, Nat.reduceEqDiff, Nat.reduceAdd, Nat.reduceLeDiff, mdT, mrT]
    refine Br_dec (fun h1 => ?_) (fun h1 => ?_)
    · obtain ⟨c, w', hw⟩ : ∃ c w', w = c :: w' := by
        cases w with
        | nil => exact absurd rfl hs'.1
        | cons a b => exact ⟨a, b, rfl⟩
      have hat : atI w 0 = some c := by rw [hw]; rfl
      have hhd : w.headD 0 = c := by rw [hw]; rfl
      have hk := keyword80_ok w (by omega) hs
      have hnm : nameOk w = (decide (¬ (48 ≤ c.toNat ∧ c.toNat ≤ 57)) && decide (w ∉ kws)) := by
        simp only [nameOk, hs'.2, Bool.and_true, hhd]
        congr 1
        refine decide_eq_decide.2 ⟨fun h => h.2.2, fun h => ⟨hs'.1, by omega, h⟩⟩
      simp only [↓S1, S2, S3, pureOp, fillD, ↓reduceIte, reduceCtorEq, Nat.reduceEqDiff, Nat.reduceAdd, Nat.reduceLeDiff, mdT, mrT, h1, hat]
      refine Br_dec (fun h2 => ?_) (fun h2 => ?_)
      · have hd : nameOk w = !decide (w ∈ kws) := by
          rw [hnm, decide_eq_true (by omega)]; simp
        simp only [↓S1, S2, S3, pureOp, fillD, ↓reduceIte, reduceCtorEq, Nat.reduceEqDiff, Nat.reduceAdd, Nat.reduceLeDiff, mdT, mrT, h1, h2, hat]
        refine callV hk rfl rfl ?_
        simp only [↓S1, S2, S3, pureOp, fillD, ↓reduceIte, reduceCtorEq, Nat.reduceEqDiff, Nat.reduceAdd, Nat.reduceLeDiff, mdT, mrT, h1, h2, hat, postF, retOk, hr, Env.ress, Env.resOf, Env.outsOk, hd]
        exact .refl _
      · simp only [↓S1, S2, S3, pureOp, fillD, ↓reduceIte, reduceCtorEq, Nat.reduceEqDiff, Nat.reduceAdd, Nat.reduceLeDiff, mdT, mrT, h1, h2, hat]
        refine Br_dec (fun h3 => ?_) (fun h3 => ?_)
        · have hd : nameOk w = !decide (w ∈ kws) := by
            rw [hnm, decide_eq_true (by omega)]; simp
          simp only [↓S1, S2, S3, pureOp, fillD, ↓reduceIte, reduceCtorEq, Nat.reduceEqDiff, Nat.reduceAdd, Nat.reduceLeDiff, mdT, mrT, h1, h2, h3, hat]
          refine callV hk rfl rfl ?_
          simp only [↓S1, S2, S3, pureOp, fillD, ↓reduceIte, reduceCtorEq, Nat.reduceEqDiff, Nat.reduceAdd, Nat.reduceLeDiff, mdT, mrT, h1, h2, h3, hat, postF, retOk, hr, Env.ress, Env.resOf, Env.outsOk, hd]
          exact .refl _
        · have hd : nameOk w = false := by
            rw [hnm, decide_eq_false (by omega)]; rfl
          simp only [↓S1, S2, S3, pureOp, fillD, ↓reduceIte, reduceCtorEq, Nat.reduceEqDiff, Nat.reduceAdd, Nat.reduceLeDiff, mdT, mrT, h1, h2, h3, hat, postF, retOk, hr, Env.ress, Env.resOf, Env.outsOk, hd]
          exact .refl _
    · have hd : nameOk w = false := by
        simp only [nameOk]; rw [decide_eq_false (by omega)]; rfl
      simp only [↓S1, S2, S3, pureOp, fillD, ↓reduceIte, reduceCtorEq, Nat.reduceEqDiff, Nat.reduceAdd, Nat.reduceLeDiff, mdT, mrT, h1, postF, retOk, hr, Env.ress, Env.resOf, Env.outsOk, hd]
      exact .refl _
theorem head69_ok (s : List Fld) (hs : s.length ≤ 1000000000) : ACalls Γ 69 [.v (sD s)] ⟨.int .i64 (headN s), []⟩ := by
  refine acalls_of Tryd.func69 rfl rfl (by kernel_rfl) ?_
  have hr : Tryd.f69.results.toList = [.tmp 2] := rfl
  simp only [↓S1, S2, S3, pureOp, fillD, ↓reduceIte, reduceCtorEq, Nat.reduceEqDiff, Nat.reduceAdd, Nat.reduceLeDiff, mdT, mrT, sD]
  refine evW_loop (fun n e => ∃ i : Nat, n = s.length - i ∧ i ≤ s.length ∧ e.tm 7 = .val (.sl (s.map fD)) ∧ e.tm 8 = .val (.int .i64 s.length) ∧ e.tm 9 = .val (.int .i64 i) ∧ e.tm 3 = .val (.int .i64 (opts (s.take i)))) s.length ?_ ?_
  · exact ⟨0, by simp, by simp, rfl, rfl, rfl, rfl⟩
  · rintro J hJ n e ⟨i, rfl, hi, h7, h8, h9, h3⟩
    simp only [↓S1, S2, S3, pureOp, fillD, ↓reduceIte, reduceCtorEq, Nat.reduceEqDiff, Nat.reduceAdd, Nat.reduceLeDiff, mdT, mrT, h7, h8, h9, h3]
    refine Br_dec (fun h => ?_) (fun h => ?_)
    · have hlt : i < s.length := by omega
      obtain ⟨f, hf⟩ : ∃ f, s[i]? = some f := ⟨_, List.getElem?_eq_getElem hlt⟩
      have hw : IntKind.i64.wrap ((i : Int) + 1) = ((i + 1 : Nat) : Int) := succ64 (by omega)
      have hle : opts (s.take i) ≤ i := by
        have := List.countP_le_length (p := Fld.opt) (l := s.take i)
        simp only [List.length_take] at this; unfold opts; omega
      have hw2 : IntKind.i64.wrap ((opts (s.take i) : Int) + 1) = ((opts (s.take i) + 1 : Nat) : Int) := succ64 (by omega)
      have hnx : opts (s.take (i + 1)) = opts (s.take i) + if f.opt then 1 else 0 := by
        rw [← take_succ hf]; unfold opts; rw [List.countP_append, List.countP_singleton]
      simp only [↓S1, S2, S3, pureOp, fillD, ↓reduceIte, reduceCtorEq, Nat.reduceEqDiff, Nat.reduceAdd, Nat.reduceLeDiff, mdT, mrT, h7, h8, h9, h3, h, atI_nat, hf, fD]
      cases hfo : f.opt with
      | true =>
        simp only [↓S1, S2, S3, pureOp, fillD, ↓reduceIte, reduceCtorEq, Nat.reduceEqDiff, Nat.reduceAdd, Nat.reduceLeDiff, mdT, mrT, h7, h8, h9, h3, hw, hw2]
        refine ⟨_, ?_, hJ _ _ ⟨i + 1, rfl, by omega, h7, h8, rfl, ?_⟩⟩
        · omega
        · rw [hnx, hfo]; rfl
      | false =>
        simp only [↓S1, S2, S3, pureOp, fillD, ↓reduceIte, reduceCtorEq, Nat.reduceEqDiff, Nat.reduceAdd, Nat.reduceLeDiff, mdT, mrT, h7, h8, h9, h3, hw]
        refine ⟨_, ?_, hJ _ _ ⟨i + 1, rfl, by omega, h7, h8, rfl, ?_⟩⟩
        · omega
        · rw [hnx, hfo]; exact h3
    · have hle : opts s ≤ s.length := List.countP_le_length
      rw [List.take_of_length_le (by omega)] at h3
      have w1 : IntKind.i64.wrap ((opts s : Int) + 7) = ((opts s + 7 : Nat) : Int) := by rw [w64 (by omega)]; rfl
      have w2 : ((opts s + 7 : Nat) : Int).tdiv 8 = ((headN s : Nat) : Int) := tdivN _ 8 rfl rfl
      have w3 : IntKind.i64.wrap ((headN s : Nat) : Int) = ((headN s : Nat) : Int) := w64 (by unfold headN; omega)
      simp only [↓S1, S2, S3, pureOp, fillD, ↓reduceIte, reduceCtorEq, Nat.reduceEqDiff, Nat.reduceAdd, Nat.reduceLeDiff, mdT, mrT, h7, h8, h9, h3, h, w1, w2, w3, Int.reduceEq, postF, retOk, hr, Env.ress, Env.resOf, Env.outsOk]
      exact .refl _
theorem wideN_bad {t : Int} : 0 ≤ wideN t ↔ 1 ≤ t ∧ t ≤ 3 := by
  unfold wideN
  constructor
  · intro h; split at h
    · omega
    · split at h
      · omega
      · split at h <;> omega
  · intro h
    by_cases h1 : t = 1
    · simp [h1]
    · by_cases h2 : t = 2
      · simp [h2]
      · simp [h1, h2, show t = 3 by omega]
theorem checkSchema_ok (s : List Fld) (hs : s.length ≤ 1000000000) (hn : ∀ f ∈ s, f.name.length ≤ 1000000000) : ACalls Γ 47 [.v (sD s)] ⟨.int .i64 (errS s), []⟩ := by
  refine acalls_of Tryd.func47 rfl rfl (by kernel_rfl) ?_
  have hr : Tryd.f47.results.toList = [.tmp 2] := rfl
  have hl0 : ((s.length : Int) = 0) ↔ s.length = 0 := by omega
  simp only [↓S1, S2, S3, pureOp, fillD, ↓reduceIte, reduceCtorEq, Nat.reduceEqDiff, Nat.reduceAdd, Nat.reduceLeDiff, mdT, mrT, sD]
  refine Br_dec (fun h1 => ?_) (fun h1 => ?_)
  · have : errS s = 60 := errS_no (by simp only [schemaOk]; rw [decide_eq_false (by omega)]; rfl)
    simp only [↓S1, S2, S3, pureOp, fillD, ↓reduceIte, reduceCtorEq, Nat.reduceEqDiff, Nat.reduceAdd, Nat.reduceLeDiff, mdT, mrT, h1, postF, retOk, hr, Env.ress, Env.resOf, Env.outsOk, this]
    exact .refl _
  · simp only [↓S1, S2, S3, pureOp, fillD, ↓reduceIte, reduceCtorEq, Nat.reduceEqDiff, Nat.reduceAdd, Nat.reduceLeDiff, mdT, mrT, h1]
    refine Br_dec (fun h2 => ?_) (fun h2 => ?_)
    · have : errS s = 60 := errS_no (by simp only [schemaOk]; rw [decide_eq_false (by omega)]; rfl)
      simp only [↓S1, S2, S3, pureOp, fillD, ↓reduceIte, reduceCtorEq, Nat.reduceEqDiff, Nat.reduceAdd, Nat.reduceLeDiff, mdT, mrT, h1, h2, postF, retOk, hr, Env.ress, Env.resOf, Env.outsOk, this]
      exact .refl _
    · have hhd := head69_ok s hs
      rw [sD] at hhd
      have hhl := headN_le s
      simp only [↓S1, S2, S3, pureOp, fillD, ↓reduceIte, reduceCtorEq, Nat.reduceEqDiff, Nat.reduceAdd, Nat.reduceLeDiff, mdT, mrT, h1, h2]
      refine callV hhd rfl rfl ?_
      simp only [↓S1, S2, S3, pureOp, fillD, ↓reduceIte, reduceCtorEq, Nat.reduceEqDiff, Nat.reduceAdd, Nat.reduceLeDiff, mdT, mrT]
      refine evW_loop (fun n e => ∃ i : Nat, n = s.length - i ∧ i ≤ s.length ∧ e.tm 1 = .bx 1 0 0 ∧ e.bx 1 0 0 = .val (.sl (s.map fD)) ∧ e.gb 1 = 1 ∧ e.tm 21 = .val (.sl (s.map fD)) ∧ e.tm 22 = .val (.int .i64 s.length) ∧ e.tm 23 = .val (.int .i64 i) ∧
        e.tm 3 = .val (.int .i64 (headN s + widesN (s.take i))) ∧ (s.take i).all fldOk = true ∧ ((s.take i).map Fld.name).Nodup) s.length ?_ ?_
      · exact ⟨0, by simp, by simp, rfl, rfl, rfl, rfl, rfl, rfl, (by simp [widesN]; rfl), by simp, by simp⟩
      · rintro J hJ n e ⟨i, rfl, hi, g1, hb, hg, g21, g22, g23, g3, ha, hnd⟩
        simp only [↓S1, S2, S3, pureOp, fillD, ↓reduceIte, reduceCtorEq, Nat.reduceEqDiff, Nat.reduceAdd, Nat.reduceLeDiff, mdT, mrT, g1, hb, hg, g21, g22, g23, g3]
        refine Br_dec (fun h => ?_) (fun h => ?_)
        · have hlt : i < s.length := by omega
          obtain ⟨f, hf⟩ : ∃ f, s[i]? = some f := ⟨_, List.getElem?_eq_getElem hlt⟩
          have hw : IntKind.i64.wrap ((i : Int) + 1) = ((i + 1 : Nat) : Int) := succ64 (by omega)
          have hfm := List.mem_of_getElem? hf
          have bad : fldOk f = false → errS s = 60 := by
            intro hb
            refine errS_no ?_
            have : s.all fldOk = false := by
              rw [List.all_eq_false]; exact ⟨f, hfm, by simp [hb]⟩
            simp only [schemaOk, this, Bool.and_false, Bool.false_and]
          simp only [↓S1, S2, S3, pureOp, fillD, ↓reduceIte, reduceCtorEq, Nat.reduceEqDiff, Nat.reduceAdd, Nat.reduceLeDiff, mdT, mrT, g1, hb, hg, g21, g22, g23, g3, h, atI_nat, hf, fD]
          refine Br_dec (fun t1 => ?_) (fun t1 => ?_)
          · have e60 : errS s = 60 := bad (by simp only [fldOk]; rw [decide_eq_false (fun hh => by have := wideN_bad.1 hh; omega)]; simp)
            simp only [↓S1, S2, S3, pureOp, fillD, ↓reduceIte, reduceCtorEq, Nat.reduceEqDiff, Nat.reduceAdd, Nat.reduceLeDiff, mdT, mrT, t1, postF, retOk, hr, Env.ress, Env.resOf, Env.outsOk, e60]
            exact .refl _
          · simp only [↓S1, S2, S3, pureOp, fillD, ↓reduceIte, reduceCtorEq, Nat.reduceEqDiff, Nat.reduceAdd, Nat.reduceLeDiff, mdT, mrT, g1, hb, hg, g21, g22, g23, g3, t1]
            refine Br_dec (fun t2 => ?_) (fun t2 => ?_)
            · have e60 : errS s = 60 := bad (by simp only [fldOk]; rw [decide_eq_false (fun hh => by have := wideN_bad.1 hh; omega)]; simp)
              simp only [↓S1, S2, S3, pureOp, fillD, ↓reduceIte, reduceCtorEq, Nat.reduceEqDiff, Nat.reduceAdd, Nat.reduceLeDiff, mdT, mrT, t1, t2, postF, retOk, hr, Env.ress, Env.resOf, Env.outsOk, e60]
              exact .refl _
            · simp only [↓S1, S2, S3, pureOp, fillD, ↓reduceIte, reduceCtorEq, Nat.reduceEqDiff, Nat.reduceAdd, Nat.reduceLeDiff, mdT, mrT, g1, hb, hg, g21, g22, g23, g3, t1, t2]
              refine callV (named_ok f.name (hn f hfm)) rfl rfl ?_
              cases hnm : nameOk f.name with
              | false =>
                have e60 : errS s = 60 := bad (by simp [fldOk, hnm])
                simp only [↓S1, S2, S3, pureOp, fillD, ↓reduceIte, reduceCtorEq, Nat.reduceEqDiff, Nat.reduceAdd, Nat.reduceLeDiff, mdT, mrT, t1, t2, postF, retOk, hr, Env.ress, Env.resOf, Env.outsOk, e60]
                exact .refl _
              | true =>
                have hfo : fldOk f = true := by simp only [fldOk, hnm]; rw [decide_eq_true (wideN_bad.2 (by omega))]; rfl
                have hcut : cutL (s.map fD) (some 0) (some (i : Int)) = some ((s.take i).map fD) := by
                  have := cut_nat (s.map fD) (Nat.zero_le i) (by simp; omega)
                  rw [List.drop_zero, ← List.map_take] at this; exact this
                have hti : (s.take i).length = i := by simp; omega
                have hrow : rowB 3 (s.map fD) = true := row_f s
                simp only [↓S1, S2, S3, pureOp, fillD, ↓reduceIte, reduceCtorEq, Nat.reduceEqDiff, Nat.reduceAdd, Nat.reduceLeDiff, mdT, mrT, g1, hb, hg, g21, g22, g23, g3, t1, t2, boundD, hrow, hcut, hti]
                refine evW_loop (fun n e => ∃ (j g : Nat), n = i - j ∧ j ≤ i ∧ e.tm 1 = .bx 1 0 0 ∧ e.bx 1 0 0 = .val (.sl (s.map fD)) ∧ e.gb 1 = 1 ∧ e.tm 21 = .val (.sl (s.map fD)) ∧ e.tm 22 = .val (.int .i64 s.length) ∧ e.tm 23 = .val (.int .i64 i) ∧
                    e.tm 3 = .val (.int .i64 (headN s + widesN (s.take i))) ∧ e.tm 45 = .val (.sl ((s.take i).map fD)) ∧ e.tm 46 = .val (.int .i64 i) ∧ e.tm 47 = .val (.int .i64 j) ∧ e.tm 5 = .bx 5 g 0 ∧ e.bx 5 g 0 = .val (.str f.name) ∧ e.bx 5 g 1 = .val (.int .i64 f.type) ∧
                    g < e.gb 5 ∧ f.name ∉ ((s.take j).map Fld.name)) i ?_ ?_
                · refine ⟨0, e.gb 5, by simp, by simp, g1, ?_, ?_, g21, g22, g23, g3, rfl, rfl, rfl, rfl, ?_, ?_, ?_, by simp⟩
                  · simp only [↓S1, S2, S3, pureOp, fillD, ↓reduceIte, reduceCtorEq, Nat.reduceEqDiff, Nat.reduceAdd, Nat.reduceLeDiff, mdT, mrT, hb]
                  · simp only [↓S1, S2, S3, pureOp, fillD, ↓reduceIte, reduceCtorEq, Nat.reduceEqDiff, Nat.reduceAdd, Nat.reduceLeDiff, mdT, mrT, hg]
                  · simp only [↓S1, S2, S3, pureOp, fillD, ↓reduceIte, reduceCtorEq, Nat.reduceEqDiff, Nat.reduceAdd, Nat.reduceLeDiff, mdT, mrT]
                  · simp only [↓S1, S2, S3, pureOp, fillD, ↓reduceIte, reduceCtorEq, Nat.reduceEqDiff, Nat.reduceAdd, Nat.reduceLeDiff, mdT, mrT]
                  · simp only [↓S1, S2, S3, pureOp, fillD, ↓reduceIte, reduceCtorEq, Nat.reduceEqDiff, Nat.reduceAdd, Nat.reduceLeDiff, mdT, mrT]
                · clear g1 hb hg g21 g22 g23 g3 h
                  rintro J' hJ' n e ⟨j, g, rfl, hj, g1, hb, hg, g21, g22, g23, g3, g45, g46, g47, g5, b50, b51, hg5, hnin⟩
                  simp only [↓S1, S2, S3, pureOp, fillD, ↓reduceIte, reduceCtorEq, Nat.reduceEqDiff, Nat.reduceAdd, Nat.reduceLeDiff, mdT, mrT, g1, hb, hg, g21, g22, g23, g3, g45, g46, g47, g5, b50, b51]
                  refine Br_dec (fun h4 => ?_) (fun h4 => ?_)
                  · have hjl : j < i := by omega
                    obtain ⟨f', hf'⟩ : ∃ f, s[j]? = some f := ⟨_, List.getElem?_eq_getElem (show j < s.length by omega)⟩
                    have hf2 : (s.take i)[j]? = some f' := by rw [List.getElem?_take_of_lt hjl]; exact hf'
                    have hw' : IntKind.i64.wrap ((j : Int) + 1) = ((j + 1 : Nat) : Int) := succ64 (by omega)
                    simp only [↓S1, S2, S3, pureOp, fillD, ↓reduceIte, reduceCtorEq, Nat.reduceEqDiff, Nat.reduceAdd, Nat.reduceLeDiff, mdT, mrT, g1, hb, hg, g21, g22, g23, g3, g45, g46, g47, g5, b50, b51, hg5, h4, atI_nat, hf2, fD, strD]
                    refine Br_dec (fun h5 => ?_) (fun h5 => ?_)
                    · have e60 : errS s = 60 := by
                        refine errS_no ?_
                        have : ¬ (s.map Fld.name).Nodup := by
                          intro hnn
                          have q1 : (s.map Fld.name)[j]? = some f.name := by rw [List.getElem?_map, hf']; simp [h5]
                          have q2 : (s.map Fld.name)[i]? = some f.name := by rw [List.getElem?_map, hf]; rfl
                          have := (List.getElem?_inj (l := s.map Fld.name) (i := j) (j := i) (by simp; omega) hnn).1 (q1.trans q2.symm)
                          omega
                        simp only [schemaOk]; rw [decide_eq_false this]; simp
                      simp only [↓S1, S2, S3, pureOp, fillD, ↓reduceIte, reduceCtorEq, Nat.reduceEqDiff, Nat.reduceAdd, Nat.reduceLeDiff, mdT, mrT, postF, retOk, hr, Env.ress, Env.resOf, Env.outsOk, e60]
                      exact .refl _
                    · simp only [↓S1, S2, S3, pureOp, fillD, ↓reduceIte, reduceCtorEq, Nat.reduceEqDiff, Nat.reduceAdd, Nat.reduceLeDiff, mdT, mrT, g1, hb, hg, g21, g22, g23, g3, g45, g46, g47, g5, b50, b51, hw']
                      refine ⟨_, ?_, hJ' _ _ ⟨j + 1, g, rfl, by omega, g1, hb, hg, g21, g22, g23, g3, g45, g46, rfl, g5, b50, b51, hg5, ?_⟩⟩
                      · omega
                      · rw [← take_succ hf', List.map_append, List.mem_append, not_or]
                        exact ⟨hnin, by simpa using fun hh => h5 hh.symm⟩
                  · have hji : j = i := by omega
                    have hwl := widesN_le (s.take i)
                    rw [hti] at hwl
                    have hwn := wideN_le f.type
                    have hws := widesN_succ hf
                    have hty : (f.type = 1 ∧ wideN f.type = 10) ∨ (f.type = 2 ∧ wideN f.type = 1) ∨ (f.type = 3 ∧ wideN f.type = 21) := by
                      have : f.type = 1 ∨ f.type = 2 ∨ f.type = 3 := by omega
                      rcases this with q | q | q
                      · exact .inl ⟨q, by rw [q]; rfl⟩
                      · exact .inr (.inl ⟨q, by rw [q]; rfl⟩)
                      · exact .inr (.inr ⟨q, by rw [q]; rfl⟩)
                    have hsum : IntKind.i64.wrap ((headN s : Int) + widesN (s.take i) + wideN f.type) = (headN s : Int) + widesN (s.take (i + 1)) := by rw [hws, w64 (by omega), Int.add_assoc]
                    subst hji
                    rcases hty with hty | hty | hty
                    all_goals
                      rw [hty.2] at hsum
                      rw [hty.1] at b51
                      have h4c : ((4 : Nat) : Int) = 4 := rfl
                      simp only [↓S1, S2, S3, pureOp, fillD, ↓reduceIte, reduceCtorEq, Nat.reduceEqDiff, Nat.reduceAdd, Nat.reduceLeDiff, mdT, mrT, g1, hb, hg, g21, g22, g23, g3, g45, g46, g47, g5, b50, b51, hg5, h4, hw, ΓG, kindsD, Int.reduceLE, Int.reduceLT, Int.reduceToNat, Nat.reduceMul, Nat.reduceLeDiff, h4c, hsum]
                      refine ⟨_, ?_, hJ _ _ ⟨j + 1, rfl, by omega, g1, hb, hg, g21, g22, rfl, rfl, ?_, ?_⟩⟩
                      · omega
                      · rw [← take_succ hf, List.all_append, ha]; simp [hfo]
                      · rw [← take_succ hf, List.map_append, List.nodup_append]
                        refine ⟨hnd, by simp, fun a ha b hb' => ?_⟩
                        simp only [List.map_cons, List.map_nil, List.mem_singleton] at hb'
                        subst hb'
                        intro hh; subst hh; exact hnin ha
        · rw [List.take_of_length_le (by omega)] at ha hnd g3
          simp only [↓S1, S2, S3, pureOp, fillD, ↓reduceIte, reduceCtorEq, Nat.reduceEqDiff, Nat.reduceAdd, Nat.reduceLeDiff, mdT, mrT, g1, hb, hg, g21, g22, g23, g3, h]
          refine Br_dec (fun h3 => ?_) (fun h3 => ?_)
          · have e60 : errS s = 60 := errS_no (by simp only [schemaOk]; rw [decide_eq_false (p := widthN s ≤ 64) (by unfold widthN; omega)]; simp)
            simp only [↓S1, S2, S3, pureOp, fillD, ↓reduceIte, reduceCtorEq, Nat.reduceEqDiff, Nat.reduceAdd, Nat.reduceLeDiff, mdT, mrT, h3, postF, retOk, hr, Env.ress, Env.resOf, Env.outsOk, e60]
            exact .refl _
          · have e0 : errS s = 0 := by
              have : schemaOk s = true := by
                simp only [schemaOk, ha]
                rw [decide_eq_true hnd, decide_eq_true (p := widthN s ≤ 64) (by unfold widthN; omega), decide_eq_true (by omega)]; rfl
              simp [errS, this]
            simp only [↓S1, S2, S3, pureOp, fillD, ↓reduceIte, reduceCtorEq, Nat.reduceEqDiff, Nat.reduceAdd, Nat.reduceLeDiff, mdT, mrT, h3, postF, retOk, hr, Env.ress, Env.resOf, Env.outsOk, e0]
            exact .refl _
end Go.Proofs.YtebkaacflocfcaaDoor.Ab

/- Walks: ParseSchema in the program. -/
namespace Go.Proofs.YtebkaacflocfcaaDoor.Ab
open Go
set_option maxRecDepth 100000
set_option linter.unusedSimpArgs false
set_option linter.unusedVariables false

/-- a field out of its text, as the program reads it -/
def pieceP (name wd : Str) (o : Bool) : Option Fld := match typeN wd with
  | none => none
  | some t => if spelledB name = true then some ⟨name, t, o⟩ else none
theorem upN_all (c : UInt8) (l : Str) : (l.take (upN c l)).length = upN c l := by rw [List.length_take]; exact Nat.min_eq_left (upN_le c l)
theorem pieceP_eq (p : Str) : pieceP (cutR 58 p).1 (cutSufR 63 (cutR 58 p).2.1).1 (cutSufR 63 (cutR 58 p).2.1).2 = pieceR p := by
  unfold pieceR cutR
  have hle := upN_le 58 p
  by_cases h : upN 58 p < p.length
  · rw [if_pos h]
    dsimp only
    by_cases h0 : upN 58 p = 0
    · rw [if_pos (.inl h0)]
      unfold pieceP
      have : spelledB (p.take (upN 58 p)) = false := by rw [h0]; simp [spelledB]
      rw [this]
      cases typeN _ <;> simp
    · rw [if_neg (by omega)]
      have hsp : spelledB (p.take (upN 58 p)) = (p.take (upN 58 p)).all part := by
        have hne : p.take (upN 58 p) ≠ [] := by
          intro hh; have := congrArg List.length hh; rw [upN_all] at this; simp at this; exact h0 this
        unfold spelledB; rw [decide_eq_true hne, Bool.true_and]
      unfold pieceP cutSufR endsC
      rw [hsp]
      by_cases hl : (p.drop (upN 58 p + 1)).getLast? = some 63
      · simp only [hl, decide_true, if_true]
        cases (p.take (upN 58 p)).all part <;> cases typeN (p.drop (upN 58 p + 1)).dropLast <;> simp
      · simp only [hl, decide_false, Bool.false_eq_true, if_false]
        cases (p.take (upN 58 p)).all part <;> cases typeN (p.drop (upN 58 p + 1)) <;> simp
  · rw [if_neg h, if_pos (.inr (by omega))]
    rfl
def tyTo (j : Nat) (wd : Str) : Int := if 1 < j ∧ intS = wd then 1 else if 2 < j ∧ boolS = wd then 2 else if 3 < j ∧ bytesS = wd then 3 else 0
theorem tyTo_4 (wd : Str) : typeN wd = if tyTo 4 wd = 0 then none else some (tyTo 4 wd) := by
  unfold typeN tyTo
  by_cases h1 : intS = wd
  · simp [h1]
  · by_cases h2 : boolS = wd
    · subst h2; simp [h1, Ne.symm h1]
    · by_cases h3 : bytesS = wd
      · subst h3; simp [h1, h2, Ne.symm h1, Ne.symm h2]
      · simp [h1, h2, h3, Ne.symm h1, Ne.symm h2, Ne.symm h3]
theorem cutR_len (c : UInt8) (s : Str) : (cutR c s).1.length ≤ s.length ∧ (cutR c s).2.1.length ≤ s.length ∧ ((cutR c s).2.2 = true → (cutR c s).2.1.length < s.length) := by
  unfold cutR
  split
  · simp; omega
  · simp
theorem cutSufR_len (c : UInt8) (s : Str) : (cutSufR c s).1.length ≤ s.length := by
  unfold cutSufR; split <;> simp
theorem parseSchema_ok (w : Str) (hl : w.length ≤ 100000000) : ACalls Γ 26 [.v (.str w)] ⟨.tup [sD (parseR w).1, .int .i64 (parseR w).2], []⟩ := by
  refine acalls_of Tryd.func26 rfl rfl (by kernel_rfl) ?_
  have hr : Tryd.f26.results.toList = [.cell 2 26, .tmp 3] := rfl
  simp only [↓S1, S2, S3, pureOp, fillD, ↓reduceIte, reduceCtorEq, Nat.reduceEqDiff, Nat.reduceAdd, Nat.reduceLeDiff, mdT, mrT]
  refine evW_loop (fun n e => ∃ (T : Str) (m : Bool) (g g' : Nat) (acc : List Fld), n = (if m then T.length + 1 else 0) ∧ T.length ≤ w.length ∧ e.tm 0 = .val (.str T) ∧ e.tm 5 = .val (.bool m) ∧ e.tm 2 = .bx 2 0 0 ∧ e.gb 2 = 1 ∧ e.bx 2 0 0 = .own 2 1 g' (.sl []) ∧ e.tm 4 = .bx 4 0 0 ∧ e.gb 4 = 1 ∧
    e.bx 4 0 0 = .own 4 1 g (.sl (acc.map fD)) ∧ e.lv 4 1 g = true ∧ acc.length + (if m then T.length + 1 else 0) ≤ w.length + 1 ∧ (∀ f ∈ acc, f.name.length ≤ 1000000000) ∧
    ((m = true ∧ parseF w = (parseF T).map (acc ++ ·)) ∨ (m = false ∧ parseF w = some acc))) (w.length + 1) ?_ ?_
  · refine ⟨w, true, _, _, [], rfl, Nat.le_refl _, rfl, rfl, rfl, rfl, rfl, rfl, rfl, rfl, rfl, by simp, by simp, .inl ⟨rfl, ?_⟩⟩
    cases parseF w <;> rfl
  · rintro J hJ n e ⟨T, m, g, g', acc, rfl, hT, g0, g5, g2, hg2, b2, g4, hg4, b4, hl4, hal, han, hor⟩
    cases m with
    | true =>
      have hpf : parseF w = (parseF T).map (acc ++ ·) := by
        rcases hor with hh | hh
        · exact hh.2
        · cases hh.1
      rw [parseF_eq T] at hpf
      simp only [if_true] at hal
      simp only [↓S1, S2, S3, pureOp, fillD, ↓reduceIte, reduceCtorEq, Nat.reduceEqDiff, Nat.reduceAdd, Nat.reduceLeDiff, mdT, mrT, g0, g5, g2, g4]
      refine callV (cut44_ok T 44 (by omega)) rfl rfl ?_
      have hc := cutR_len 44 T
      have hpc : (cutR 44 T).1 = T.take (upN 44 T) := by
        unfold cutR; split
        · rfl
        · exact (List.take_of_length_le (show T.length ≤ upN 44 T by omega)).symm
      have hm' : (cutR 44 T).2.2 = decide (upN 44 T < T.length) := by unfold cutR; split <;> simp_all
      have hrest : upN 44 T < T.length → (cutR 44 T).2.1 = T.drop (upN 44 T + 1) := by intro hh; unfold cutR; rw [if_pos hh]
      rw [← hpc] at hpf
      generalize hCC : cutR 44 T = C at *
      obtain ⟨P, R, m'⟩ := C
      dsimp only at hc hpc hm' hrest hpf
      simp only [↓S1, S2, S3, pureOp, fillD, ↓reduceIte, reduceCtorEq, Nat.reduceEqDiff, Nat.reduceAdd, Nat.reduceLeDiff, mdT, mrT, g2, g4]
      refine callV (cut44_ok P 58 (by omega)) rfl rfl ?_
      have hd := cutR_len 58 P
      have hpe := pieceP_eq P
      generalize cutR 58 P = C2 at *
      obtain ⟨name, wd0, ok⟩ := C2
      dsimp only at hd hpe
      simp only [↓S1, S2, S3, pureOp, fillD, ↓reduceIte, reduceCtorEq, Nat.reduceEqDiff, Nat.reduceAdd, Nat.reduceLeDiff, mdT, mrT, g2, g4]
      refine callV (cutSuf45_ok wd0 63 (by omega)) rfl rfl ?_
      have hs := cutSufR_len 63 wd0
      generalize cutSufR 63 wd0 = C3 at *
      obtain ⟨wd, o⟩ := C3
      dsimp only at hs hpe
      have hkinds : Γ.G 0 = some kindsD := by rw [ΓG]; rfl
      simp only [↓S1, S2, S3, pureOp, fillD, ↓reduceIte, reduceCtorEq, Nat.reduceEqDiff, Nat.reduceAdd, Nat.reduceLeDiff, mdT, mrT, g2, g4, hkinds, kindsD]
      refine evW_loop (fun n e => ∃ (j gg g g' : Nat), n = 4 - j ∧ j ≤ 4 ∧ e.tm 0 = .val (.str R) ∧ e.tm 5 = .val (.bool m') ∧ e.tm 2 = .bx 2 0 0 ∧ e.gb 2 = 1 ∧ e.bx 2 0 0 = .own 2 1 g' (.sl []) ∧ e.tm 4 = .bx 4 0 0 ∧ e.gb 4 = 1 ∧
        e.bx 4 0 0 = .own 4 1 g (.sl (acc.map fD)) ∧ e.lv 4 1 g = true ∧ e.tm 7 = .val (.str name) ∧ e.tm 8 = .val (.str wd) ∧ e.tm 11 = .bx 11 gg 0 ∧ gg < e.gb 11 ∧ e.bx 11 gg 0 = .val (.str name) ∧ e.bx 11 gg 1 = .val (.int .i64 (tyTo j wd)) ∧ e.bx 11 gg 2 = .val (.bool o) ∧
        e.tm 36 = .val kindsD ∧ e.tm 37 = .val (.int .i64 j)) 4 ?_ ?_
      · refine ⟨0, e.gb 11, g, g', rfl, by omega, rfl, rfl, g2, ?_, ?_, g4, ?_, ?_, hl4, rfl, rfl, rfl, ?_, ?_, ?_, ?_, rfl, rfl⟩
        · simp only [↓S1, S2, S3, pureOp, fillD, ↓reduceIte, reduceCtorEq, Nat.reduceEqDiff, Nat.reduceAdd, Nat.reduceLeDiff, mdT, mrT, hg2]
        · simp only [↓S1, S2, S3, pureOp, fillD, ↓reduceIte, reduceCtorEq, Nat.reduceEqDiff, Nat.reduceAdd, Nat.reduceLeDiff, mdT, mrT, b2]
        · simp only [↓S1, S2, S3, pureOp, fillD, ↓reduceIte, reduceCtorEq, Nat.reduceEqDiff, Nat.reduceAdd, Nat.reduceLeDiff, mdT, mrT, hg4]
        · simp only [↓S1, S2, S3, pureOp, fillD, ↓reduceIte, reduceCtorEq, Nat.reduceEqDiff, Nat.reduceAdd, Nat.reduceLeDiff, mdT, mrT, b4]
        · simp only [↓S1, S2, S3, pureOp, fillD, ↓reduceIte, reduceCtorEq, Nat.reduceEqDiff, Nat.reduceAdd, Nat.reduceLeDiff, mdT, mrT]
        · simp only [↓S1, S2, S3, pureOp, fillD, ↓reduceIte, reduceCtorEq, Nat.reduceEqDiff, Nat.reduceAdd, Nat.reduceLeDiff, mdT, mrT]
        · simp only [↓S1, S2, S3, pureOp, fillD, ↓reduceIte, reduceCtorEq, Nat.reduceEqDiff, Nat.reduceAdd, Nat.reduceLeDiff, mdT, mrT]
          simp [tyTo]
        · simp only [↓S1, S2, S3, pureOp, fillD, ↓reduceIte, reduceCtorEq, Nat.reduceEqDiff, Nat.reduceAdd, Nat.reduceLeDiff, mdT, mrT]
      · clear g0 g5 g2 hg2 b2 g4 hg4 b4 hl4 g g'
        rintro J' hJ' n e ⟨j, gg, g, g', rfl, hj, g0, g5, g2, hg2, b2, g4, hg4, b4, hl4, g7, g8, g11, hg11, b110, b111, b112, g36, g37⟩
        simp only [↓S1, S2, S3, pureOp, fillD, ↓reduceIte, reduceCtorEq, Nat.reduceEqDiff, Nat.reduceAdd, Nat.reduceLeDiff, mdT, mrT, g37]
        refine Br_dec (fun h => ?_) (fun h => ?_)
        · have hj4 : j = 0 ∨ j = 1 ∨ j = 2 ∨ j = 3 := by omega
          have hw : IntKind.i64.wrap ((j : Int) + 1) = ((j + 1 : Nat) : Int) := succ64 (by omega)
          have h4c : ((4 : Nat) : Int) = 4 := rfl
          have go : ∀ (K : Str) (e' : Env), e'.tm 0 = .val (.str R) → True := fun _ _ _ => trivial
          rcases hj4 with rfl | rfl | rfl | rfl
          · have hnx : tyTo (0 + 1) wd = tyTo 0 wd := by simp [tyTo]
            have h40 : ((0 : Nat) : Int) = 0 := rfl
            rw [h40] at hw
            by_cases hk : [] = wd
            · simp only [↓S1, S2, S3, pureOp, fillD, ↓reduceIte, reduceCtorEq, Nat.reduceEqDiff, Nat.reduceAdd, Nat.reduceLeDiff, mdT, mrT, g0, g5, g2, g4, g7, g8, g11, g36, g37, hg11, kindsD, Int.reduceLE, Int.reduceLT, Int.reduceToNat, Nat.reduceMul, h4c, strD, hk, h40, hw]
              refine ⟨_, ?_, hJ' _ _ ⟨0 + 1, gg, g, g', rfl, by omega, g0, g5, g2, hg2, ?_, g4, hg4, ?_, hl4, g7, g8, g11, hg11, ?_, ?_, ?_, g36, ?_⟩⟩
              · omega
              · simp only [↓S1, S2, S3, pureOp, fillD, ↓reduceIte, reduceCtorEq, Nat.reduceEqDiff, Nat.reduceAdd, Nat.reduceLeDiff, mdT, mrT, b2]
              · simp only [↓S1, S2, S3, pureOp, fillD, ↓reduceIte, reduceCtorEq, Nat.reduceEqDiff, Nat.reduceAdd, Nat.reduceLeDiff, mdT, mrT, b4]
              · simp only [↓S1, S2, S3, pureOp, fillD, ↓reduceIte, reduceCtorEq, Nat.reduceEqDiff, Nat.reduceAdd, Nat.reduceLeDiff, mdT, mrT, b110]
              · simp only [↓S1, S2, S3, pureOp, fillD, ↓reduceIte, reduceCtorEq, Nat.reduceEqDiff, Nat.reduceAdd, Nat.reduceLeDiff, mdT, mrT, b111]
                rw [hnx]
              · simp only [↓S1, S2, S3, pureOp, fillD, ↓reduceIte, reduceCtorEq, Nat.reduceEqDiff, Nat.reduceAdd, Nat.reduceLeDiff, mdT, mrT, b112]
              · simp only [↓S1, S2, S3, pureOp, fillD, ↓reduceIte, reduceCtorEq, Nat.reduceEqDiff, Nat.reduceAdd, Nat.reduceLeDiff, mdT, mrT]
            · simp only [↓S1, S2, S3, pureOp, fillD, ↓reduceIte, reduceCtorEq, Nat.reduceEqDiff, Nat.reduceAdd, Nat.reduceLeDiff, mdT, mrT, g0, g5, g2, g4, g7, g8, g11, g36, g37, hg11, kindsD, Int.reduceLE, Int.reduceLT, Int.reduceToNat, Nat.reduceMul, h4c, strD, hk, h40, hw]
              refine ⟨_, ?_, hJ' _ _ ⟨0 + 1, gg, g, g', rfl, by omega, g0, g5, g2, hg2, ?_, g4, hg4, ?_, hl4, g7, g8, g11, hg11, ?_, ?_, ?_, g36, ?_⟩⟩
              · omega
              · simp only [↓S1, S2, S3, pureOp, fillD, ↓reduceIte, reduceCtorEq, Nat.reduceEqDiff, Nat.reduceAdd, Nat.reduceLeDiff, mdT, mrT, b2]
              · simp only [↓S1, S2, S3, pureOp, fillD, ↓reduceIte, reduceCtorEq, Nat.reduceEqDiff, Nat.reduceAdd, Nat.reduceLeDiff, mdT, mrT, b4]
              · simp only [↓S1, S2, S3, pureOp, fillD, ↓reduceIte, reduceCtorEq, Nat.reduceEqDiff, Nat.reduceAdd, Nat.reduceLeDiff, mdT, mrT, b110]
              · simp only [↓S1, S2, S3, pureOp, fillD, ↓reduceIte, reduceCtorEq, Nat.reduceEqDiff, Nat.reduceAdd, Nat.reduceLeDiff, mdT, mrT, b111]
                rw [hnx]
              · simp only [↓S1, S2, S3, pureOp, fillD, ↓reduceIte, reduceCtorEq, Nat.reduceEqDiff, Nat.reduceAdd, Nat.reduceLeDiff, mdT, mrT, b112]
              · simp only [↓S1, S2, S3, pureOp, fillD, ↓reduceIte, reduceCtorEq, Nat.reduceEqDiff, Nat.reduceAdd, Nat.reduceLeDiff, mdT, mrT]
          · have h41 : ((1 : Nat) : Int) = 1 := rfl
            rw [h41] at hw
            by_cases hk : [105, 110, 116] = wd
            · have hnx : tyTo (1 + 1) wd = 1 := by rw [← hk]; decide
              have hne : (wd = []) = False := by rw [← hk]; simp
              simp only [↓S1, S2, S3, pureOp, fillD, ↓reduceIte, reduceCtorEq, Nat.reduceEqDiff, Nat.reduceAdd, Nat.reduceLeDiff, mdT, mrT, g0, g5, g2, g4, g7, g8, g11, g36, g37, hg11, b110, b111, b112, kindsD, Int.reduceLE, Int.reduceLT, Int.reduceToNat, Nat.reduceMul, h4c, h41, strD, hk, hne, hw]
              refine ⟨_, ?_, hJ' _ _ ⟨1 + 1, gg, g, g', rfl, by omega, g0, g5, g2, hg2, ?_, g4, hg4, ?_, hl4, g7, g8, g11, hg11, ?_, ?_, ?_, g36, ?_⟩⟩
              · omega
              · simp only [↓S1, S2, S3, pureOp, fillD, ↓reduceIte, reduceCtorEq, Nat.reduceEqDiff, Nat.reduceAdd, Nat.reduceLeDiff, mdT, mrT, b2]
              · simp only [↓S1, S2, S3, pureOp, fillD, ↓reduceIte, reduceCtorEq, Nat.reduceEqDiff, Nat.reduceAdd, Nat.reduceLeDiff, mdT, mrT, b4]
              · simp only [↓S1, S2, S3, pureOp, fillD, ↓reduceIte, reduceCtorEq, Nat.reduceEqDiff, Nat.reduceAdd, Nat.reduceLeDiff, mdT, mrT, b110]
              · simp only [↓S1, S2, S3, pureOp, fillD, ↓reduceIte, reduceCtorEq, Nat.reduceEqDiff, Nat.reduceAdd, Nat.reduceLeDiff, mdT, mrT]
                rw [hnx]
              · simp only [↓S1, S2, S3, pureOp, fillD, ↓reduceIte, reduceCtorEq, Nat.reduceEqDiff, Nat.reduceAdd, Nat.reduceLeDiff, mdT, mrT, b112]
              · simp only [↓S1, S2, S3, pureOp, fillD, ↓reduceIte, reduceCtorEq, Nat.reduceEqDiff, Nat.reduceAdd, Nat.reduceLeDiff, mdT, mrT]
            · have hnx : tyTo (1 + 1) wd = tyTo 1 wd := by
                have hk' : ¬ intS = wd := hk
                unfold tyTo; simp [hk']
              simp only [↓S1, S2, S3, pureOp, fillD, ↓reduceIte, reduceCtorEq, Nat.reduceEqDiff, Nat.reduceAdd, Nat.reduceLeDiff, mdT, mrT, g0, g5, g2, g4, g7, g8, g11, g36, g37, hg11, kindsD, Int.reduceLE, Int.reduceLT, Int.reduceToNat, Nat.reduceMul, h4c, h41, strD, hk, hw]
              refine ⟨_, ?_, hJ' _ _ ⟨1 + 1, gg, g, g', rfl, by omega, g0, g5, g2, hg2, ?_, g4, hg4, ?_, hl4, g7, g8, g11, hg11, ?_, ?_, ?_, g36, ?_⟩⟩
              · omega
              · simp only [↓S1, S2, S3, pureOp, fillD, ↓reduceIte, reduceCtorEq, Nat.reduceEqDiff, Nat.reduceAdd, Nat.reduceLeDiff, mdT, mrT, b2]
              · simp only [↓S1, S2, S3, pureOp, fillD, ↓reduceIte, reduceCtorEq, Nat.reduceEqDiff, Nat.reduceAdd, Nat.reduceLeDiff, mdT, mrT, b4]
              · simp only [↓S1, S2, S3, pureOp, fillD, ↓reduceIte, reduceCtorEq, Nat.reduceEqDiff, Nat.reduceAdd, Nat.reduceLeDiff, mdT, mrT, b110]
              · simp only [↓S1, S2, S3, pureOp, fillD, ↓reduceIte, reduceCtorEq, Nat.reduceEqDiff, Nat.reduceAdd, Nat.reduceLeDiff, mdT, mrT, b111]
                rw [hnx]
              · simp only [↓S1, S2, S3, pureOp, fillD, ↓reduceIte, reduceCtorEq, Nat.reduceEqDiff, Nat.reduceAdd, Nat.reduceLeDiff, mdT, mrT, b112]
              · simp only [↓S1, S2, S3, pureOp, fillD, ↓reduceIte, reduceCtorEq, Nat.reduceEqDiff, Nat.reduceAdd, Nat.reduceLeDiff, mdT, mrT]
          · have h42 : ((2 : Nat) : Int) = 2 := rfl
            rw [h42] at hw
            by_cases hk : [98, 111, 111, 108] = wd
            · have hnx : tyTo (2 + 1) wd = 2 := by rw [← hk]; decide
              have hne : (wd = []) = False := by rw [← hk]; simp
              simp only [↓S1, S2, S3, pureOp, fillD, ↓reduceIte, reduceCtorEq, Nat.reduceEqDiff, Nat.reduceAdd, Nat.reduceLeDiff, mdT, mrT, g0, g5, g2, g4, g7, g8, g11, g36, g37, hg11, b110, b111, b112, kindsD, Int.reduceLE, Int.reduceLT, Int.reduceToNat, Nat.reduceMul, h4c, h42, strD, hk, hne, hw]
              refine ⟨_, ?_, hJ' _ _ ⟨2 + 1, gg, g, g', rfl, by omega, g0, g5, g2, hg2, ?_, g4, hg4, ?_, hl4, g7, g8, g11, hg11, ?_, ?_, ?_, g36, ?_⟩⟩
              · omega
              · simp only [↓S1, S2, S3, pureOp, fillD, ↓reduceIte, reduceCtorEq, Nat.reduceEqDiff, Nat.reduceAdd, Nat.reduceLeDiff, mdT, mrT, b2]
              · simp only [↓S1, S2, S3, pureOp, fillD, ↓reduceIte, reduceCtorEq, Nat.reduceEqDiff, Nat.reduceAdd, Nat.reduceLeDiff, mdT, mrT, b4]
              · simp only [↓S1, S2, S3, pureOp, fillD, ↓reduceIte, reduceCtorEq, Nat.reduceEqDiff, Nat.reduceAdd, Nat.reduceLeDiff, mdT, mrT, b110]
              · simp only [↓S1, S2, S3, pureOp, fillD, ↓reduceIte, reduceCtorEq, Nat.reduceEqDiff, Nat.reduceAdd, Nat.reduceLeDiff, mdT, mrT]
                rw [hnx]
              · simp only [↓S1, S2, S3, pureOp, fillD, ↓reduceIte, reduceCtorEq, Nat.reduceEqDiff, Nat.reduceAdd, Nat.reduceLeDiff, mdT, mrT, b112]
              · simp only [↓S1, S2, S3, pureOp, fillD, ↓reduceIte, reduceCtorEq, Nat.reduceEqDiff, Nat.reduceAdd, Nat.reduceLeDiff, mdT, mrT]
            · have hnx : tyTo (2 + 1) wd = tyTo 2 wd := by
                have hk' : ¬ boolS = wd := hk
                unfold tyTo; simp [hk']
              simp only [↓S1, S2, S3, pureOp, fillD, ↓reduceIte, reduceCtorEq, Nat.reduceEqDiff, Nat.reduceAdd, Nat.reduceLeDiff, mdT, mrT, g0, g5, g2, g4, g7, g8, g11, g36, g37, hg11, kindsD, Int.reduceLE, Int.reduceLT, Int.reduceToNat, Nat.reduceMul, h4c, h42, strD, hk, hw]
              refine ⟨_, ?_, hJ' _ _ ⟨2 + 1, gg, g, g', rfl, by omega, g0, g5, g2, hg2, ?_, g4, hg4, ?_, hl4, g7, g8, g11, hg11, ?_, ?_, ?_, g36, ?_⟩⟩
              · omega
              · simp only [↓S1, S2, S3, pureOp, fillD, ↓reduceIte, reduceCtorEq, Nat.reduceEqDiff, Nat.reduceAdd, Nat.reduceLeDiff, mdT, mrT, b2]
              · simp only [↓S1, S2, S3, pureOp, fillD, ↓reduceIte, reduceCtorEq, Nat.reduceEqDiff, Nat.reduceAdd, Nat.reduceLeDiff, mdT, mrT, b4]
              · simp only [↓S1, S2, S3, pureOp, fillD, ↓reduceIte, reduceCtorEq, Nat.reduceEqDiff, Nat.reduceAdd, Nat.reduceLeDiff, mdT, mrT, b110]
              · simp only [↓S1, S2, S3, pureOp, fillD, ↓reduceIte, reduceCtorEq, Nat.reduceEqDiff, Nat.reduceAdd, Nat.reduceLeDiff, mdT, mrT, b111]
                rw [hnx]
              · simp only [↓S1, S2, S3, pureOp, fillD, ↓reduceIte, reduceCtorEq, Nat.reduceEqDiff, Nat.reduceAdd, Nat.reduceLeDiff, mdT, mrT, b112]
              · simp only [↓S1, S2, S3, pureOp, fillD, ↓reduceIte, reduceCtorEq, Nat.reduceEqDiff, Nat.reduceAdd, Nat.reduceLeDiff, mdT, mrT]
          · have h43 : ((3 : Nat) : Int) = 3 := rfl
            rw [h43] at hw
            by_cases hk : [98, 121, 116, 101, 115] = wd
            · have hnx : tyTo (3 + 1) wd = 3 := by rw [← hk]; decide
              have hne : (wd = []) = False := by rw [← hk]; simp
              simp only [↓S1, S2, S3, pureOp, fillD, ↓reduceIte, reduceCtorEq, Nat.reduceEqDiff, Nat.reduceAdd, Nat.reduceLeDiff, mdT, mrT, g0, g5, g2, g4, g7, g8, g11, g36, g37, hg11, b110, b111, b112, kindsD, Int.reduceLE, Int.reduceLT, Int.reduceToNat, Nat.reduceMul, h4c, h43, strD, hk, hne, hw]
              refine ⟨_, ?_, hJ' _ _ ⟨3 + 1, gg, g, g', rfl, by omega, g0, g5, g2, hg2, ?_, g4, hg4, ?_, hl4, g7, g8, g11, hg11, ?_, ?_, ?_, g36, ?_⟩⟩
              · omega
              · simp only [↓S1, S2, S3, pureOp, fillD, ↓reduceIte, reduceCtorEq, Nat.reduceEqDiff, Nat.reduceAdd, Nat.reduceLeDiff, mdT, mrT, b2]
              · simp only [↓S1, S2, S3, pureOp, fillD, ↓reduceIte, reduceCtorEq, Nat.reduceEqDiff, Nat.reduceAdd, Nat.reduceLeDiff, mdT, mrT, b4]
              · simp only [↓S1, S2, S3, pureOp, fillD, ↓reduceIte, reduceCtorEq, Nat.reduceEqDiff, Nat.reduceAdd, Nat.reduceLeDiff, mdT, mrT, b110]
              · simp only [↓S1, S2, S3, pureOp, fillD, ↓reduceIte, reduceCtorEq, Nat.reduceEqDiff, Nat.reduceAdd, Nat.reduceLeDiff, mdT, mrT]
                rw [hnx]
              · simp only [↓S1, S2, S3, pureOp, fillD, ↓reduceIte, reduceCtorEq, Nat.reduceEqDiff, Nat.reduceAdd, Nat.reduceLeDiff, mdT, mrT, b112]
              · simp only [↓S1, S2, S3, pureOp, fillD, ↓reduceIte, reduceCtorEq, Nat.reduceEqDiff, Nat.reduceAdd, Nat.reduceLeDiff, mdT, mrT, h4c]
            · have hnx : tyTo (3 + 1) wd = tyTo 3 wd := by
                have hk' : ¬ bytesS = wd := hk
                unfold tyTo; simp [hk']
              simp only [↓S1, S2, S3, pureOp, fillD, ↓reduceIte, reduceCtorEq, Nat.reduceEqDiff, Nat.reduceAdd, Nat.reduceLeDiff, mdT, mrT, g0, g5, g2, g4, g7, g8, g11, g36, g37, hg11, kindsD, Int.reduceLE, Int.reduceLT, Int.reduceToNat, Nat.reduceMul, h4c, h43, strD, hk, hw]
              refine ⟨_, ?_, hJ' _ _ ⟨3 + 1, gg, g, g', rfl, by omega, g0, g5, g2, hg2, ?_, g4, hg4, ?_, hl4, g7, g8, g11, hg11, ?_, ?_, ?_, g36, ?_⟩⟩
              · omega
              · simp only [↓S1, S2, S3, pureOp, fillD, ↓reduceIte, reduceCtorEq, Nat.reduceEqDiff, Nat.reduceAdd, Nat.reduceLeDiff, mdT, mrT, b2]
              · simp only [↓S1, S2, S3, pureOp, fillD, ↓reduceIte, reduceCtorEq, Nat.reduceEqDiff, Nat.reduceAdd, Nat.reduceLeDiff, mdT, mrT, b4]
              · simp only [↓S1, S2, S3, pureOp, fillD, ↓reduceIte, reduceCtorEq, Nat.reduceEqDiff, Nat.reduceAdd, Nat.reduceLeDiff, mdT, mrT, b110]
              · simp only [↓S1, S2, S3, pureOp, fillD, ↓reduceIte, reduceCtorEq, Nat.reduceEqDiff, Nat.reduceAdd, Nat.reduceLeDiff, mdT, mrT, b111]
                rw [hnx]
              · simp only [↓S1, S2, S3, pureOp, fillD, ↓reduceIte, reduceCtorEq, Nat.reduceEqDiff, Nat.reduceAdd, Nat.reduceLeDiff, mdT, mrT, b112]
              · simp only [↓S1, S2, S3, pureOp, fillD, ↓reduceIte, reduceCtorEq, Nat.reduceEqDiff, Nat.reduceAdd, Nat.reduceLeDiff, mdT, mrT, h4c]
        · have hj4 : j = 4 := by omega
          subst hj4
          have hty := tyTo_4 wd
          unfold pieceP at hpe
          rw [hty] at hpe
          simp only [↓S1, S2, S3, pureOp, fillD, ↓reduceIte, reduceCtorEq, Nat.reduceEqDiff, Nat.reduceAdd, Nat.reduceLeDiff, mdT, mrT, g0, g5, g2, g4, g7, g8, g11, g36, g37, hg11, b110, b111, b112, h]
          refine Br_dec (fun h0 => ?_) (fun h0 => ?_)
          · rw [if_pos h0] at hpe
            rw [← hpe] at hpf
            have hpr : parseR w = ([], 63) := by unfold parseR; rw [hpf]; rfl
            simp only [↓S1, S2, S3, pureOp, fillD, ↓reduceIte, reduceCtorEq, Nat.reduceEqDiff, Nat.reduceAdd, Nat.reduceLeDiff, mdT, mrT, h0, g2, hg2, b2, postF, retOk, hr, Env.ress, Env.resOf, Env.outsOk, hpr, sD]
            exact .refl _
          · rw [if_neg h0] at hpe
            simp only [↓S1, S2, S3, pureOp, fillD, ↓reduceIte, reduceCtorEq, Nat.reduceEqDiff, Nat.reduceAdd, Nat.reduceLeDiff, mdT, mrT, h0, g7]
            refine callV (spelled_ok name (by omega)) rfl rfl ?_
            dsimp only at hpe
            cases hsp : spelledB name with
            | false =>
              rw [hsp] at hpe
              rw [← hpe] at hpf
              have hpr : parseR w = ([], 63) := by unfold parseR; rw [hpf]; rfl
              simp only [↓S1, S2, S3, pureOp, fillD, ↓reduceIte, reduceCtorEq, Nat.reduceEqDiff, Nat.reduceAdd, Nat.reduceLeDiff, mdT, mrT, h0, g2, hg2, b2, postF, retOk, hr, Env.ress, Env.resOf, Env.outsOk, hpr, sD]
              exact .refl _
            | true =>
              rw [hsp] at hpe
              rw [← hpe] at hpf
              simp only [if_true] at hpf
              have hrow : rowB 3 (acc.map fD) = true := row_f acc
              simp only [↓S1, S2, S3, pureOp, fillD, ↓reduceIte, reduceCtorEq, Nat.reduceEqDiff, Nat.reduceAdd, Nat.reduceLeDiff, mdT, mrT, h0, g0, g5, g2, g4, hg4, b4, hl4, g11, hg11, b110, b111, b112, hrow]
              refine ⟨rfl, by omega, rfl, by simp only [List.length_map, roomy]; omega, _, ?_, hJ _ _ ⟨R, m', e.gc 4 1, g', acc ++ [⟨name, tyTo 4 wd, o⟩], rfl, by omega, g0, g5, g2, hg2, ?_, g4, hg4, ?_, ?_, ?_, ?_, ?_⟩⟩
              · cases m' with
                | true => have := hc.2.2 rfl; simp only [if_true]; omega
                | false => simp
              · simp only [↓S1, S2, S3, pureOp, fillD, ↓reduceIte, reduceCtorEq, Nat.reduceEqDiff, Nat.reduceAdd, Nat.reduceLeDiff, mdT, mrT, b2]
              · simp only [↓S1, S2, S3, pureOp, fillD, ↓reduceIte, reduceCtorEq, Nat.reduceEqDiff, Nat.reduceAdd, Nat.reduceLeDiff, mdT, mrT]
                rw [List.map_append]; rfl
              · simp only [↓S1, S2, S3, pureOp, fillD, ↓reduceIte, reduceCtorEq, Nat.reduceEqDiff, Nat.reduceAdd, Nat.reduceLeDiff, mdT, mrT]
              · cases m' with
                | true => have := hc.2.2 rfl; simp only [if_true, List.length_append, List.length_cons, List.length_nil]; omega
                | false => simp; omega
              · intro x hx
                rcases List.mem_append.1 hx with hx | hx
                · exact han x hx
                · rw [List.mem_singleton.1 hx]; dsimp only; omega
              · by_cases hlt : upN 44 T < T.length
                · left
                  refine ⟨by rw [hm']; simp [hlt], ?_⟩
                  rw [dif_pos hlt] at hpf
                  rw [hpf, hrest hlt]
                  cases parseF (T.drop (upN 44 T + 1)) with
                  | none => rfl
                  | some r => simp
                · right
                  refine ⟨by rw [hm']; simp [hlt], ?_⟩
                  rw [dif_neg hlt] at hpf
                  rw [hpf]; rfl
    | false =>
      have hpf : parseF w = some acc := by
        rcases hor with hh | hh
        · cases hh.1
        · exact hh.2
      simp only [Bool.false_eq_true, if_false] at hal
      simp only [↓S1, S2, S3, pureOp, fillD, ↓reduceIte, reduceCtorEq, Nat.reduceEqDiff, Nat.reduceAdd, Nat.reduceLeDiff, mdT, mrT, g0, g5, g2, g4, hg4, b4]
      have hc := checkSchema_ok acc (by omega) han
      simp only [sD] at hc
      refine callV hc rfl rfl ?_
      simp only [↓S1, S2, S3, pureOp, fillD, ↓reduceIte, reduceCtorEq, Nat.reduceEqDiff, Nat.reduceAdd, Nat.reduceLeDiff, mdT, mrT]
      refine Br_dec (fun h1 => ?_) (fun h1 => ?_)
      · have hpr : parseR w = (acc, 0) := by unfold parseR; rw [hpf]; simp [h1]
        simp only [↓S1, S2, S3, pureOp, fillD, ↓reduceIte, reduceCtorEq, Nat.reduceEqDiff, Nat.reduceAdd, Nat.reduceLeDiff, mdT, mrT, h1, g2, g4, hg4, hg2, b2, b4, postF, retOk, hr, Env.ress, Env.resOf, Env.outsOk, hpr, sD]
        exact .refl _
      · have hpr : parseR w = ([], errS acc) := by unfold parseR; rw [hpf]; simp [h1]
        simp only [↓S1, S2, S3, pureOp, fillD, ↓reduceIte, reduceCtorEq, Nat.reduceEqDiff, Nat.reduceAdd, Nat.reduceLeDiff, mdT, mrT, h1, g2, g4, hg4, hg2, b2, b4, postF, retOk, hr, Env.ress, Env.resOf, Env.outsOk, hpr, sD]
        exact .refl _
end Go.Proofs.YtebkaacflocfcaaDoor.Ab
