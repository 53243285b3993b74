/- Contracts of the reference Dump, Read, Check and Entries. -/
import Derived.Test.YtebkaacflocfcaaDoorM6
import Derived.Test.YtebkaacflocfcaaDoorM4
set_option linter.unusedVariables false
set_option linter.unusedSimpArgs false
set_option linter.defProp false
/- Walks: Dump in the reference. -/
namespace Go.Proofs.YtebkaacflocfcaaDoor.Ab
open Go
set_option maxRecDepth 100000
set_option linter.unusedSimpArgs false
set_option linter.unusedVariables false

theorem callN2 {f : FuncId} {x : AV} {zs : List A} {e : Env} {K : Env → Prop} {t : Nat} {res : ARes} (h : ACalls Γ f zs res) (hm : mdT f = [.o, .v]) (hr : mrT f = true)
    (hk : K ((e.birth t 0).setT t (.own t 0 (e.gc t 0) res.ret))) : evCallA Γ (some t) f [.val .nil, x] zs e K := by
  refine evCallA_mk res h ?_ ?_
  · rw [Γmd, hm]; simp [argIds]
  · rw [Γmr, hr, Γmd, hm]
    have : e.after [.o, .v] [.val .nil, x] res.outs = e := by simp [Env.after, Env.strip, Env.fillIn]
    rw [this]
    exact hk
theorem callN4 {f : FuncId} {x y z : AV} {zs : List A} {e : Env} {K : Env → Prop} {t : Nat} {res : ARes} (h : ACalls Γ f zs res) (hm : mdT f = [.o, .v, .v, .v]) (hr : mrT f = true)
    (hk : K ((e.birth t 0).setT t (.own t 0 (e.gc t 0) res.ret))) : evCallA Γ (some t) f [.val .nil, x, y, z] zs e K := by
  refine evCallA_mk res h ?_ ?_
  · rw [Γmd, hm]; simp [argIds]
  · rw [Γmr, hr, Γmd, hm]
    have : e.after [.o, .v, .v, .v] [.val .nil, x, y, z] res.outs = e := by simp [Env.after, Env.strip, Env.fillIn]
    rw [this]
    exact hk
theorem callA3 {f : FuncId} {c k g : Nat} {d : D} {x y z : AV} {zs : List A} {e : Env} {K : Env → Prop} {t : Nat} {res : ARes} (h : ACalls Γ f zs res) (hm : mdT f = [.o, .v, .v, .v]) (hr : mrT f = true)
    (hk : K (((e.kill c k g).birth t 0).setT t (.own t 0 (e.gc t 0) res.ret))) : evCallA Γ (some t) f [.own c k g d, x, y, z] zs e K := by
  refine evCallA_mk res h ?_ ?_
  · rw [Γmd, hm]; simp [argIds]
  · rw [Γmr, hr, Γmd, hm]
    have : e.after [.o, .v, .v, .v] [.own c k g d, x, y, z] res.outs = e.kill c k g := by simp [Env.after, Env.strip, Env.fillIn]
    rw [this]
    exact hk
theorem name_len8 {s : List Fld} (h : errS s = 0) : ∀ f ∈ s, f.name.length ≤ 8 := by
  have hsl : schemaOk s = true := by
    by_cases hh : schemaOk s = true
    · exact hh
    · simp [errS, hh] at h
  simp only [schemaOk, Bool.and_eq_true, decide_eq_true_eq, List.all_eq_true] at hsl
  intro f hf
  have := hsl.1.1.2 f hf
  simp only [fldOk, nameOk, Bool.and_eq_true, decide_eq_true_eq] at this
  exact this.1.1.1.2.1
theorem printD_len (s : List Fld) : (printD s).length ≤ 200 := by
  unfold printD
  split
  · rename_i h
    have h8 := name_len8 h
    have hl := (schema_len8 h).2
    have key : ∀ r : List Fld, (∀ f ∈ r, f.name.length ≤ 8) → (r.flatMap fun f => 44 :: fldS f).length ≤ r.length * 16 := by
      intro r
      induction r with
      | nil => intro _; simp
      | cons f r ih =>
        intro h
        have h1 := ih fun g hg => h g (by simp [hg])
        have h2 := fldS_len f
        have h3 := h f (by simp)
        simp only [List.flatMap_cons, List.length_append, List.length_cons]
        omega
    cases s with
    | nil => simp [joinS]
    | cons f r =>
      have h1 := key r fun g hg => h8 g (by simp [hg])
      have h2 := fldS_len f
      have h3 := h8 f (by simp)
      simp only [List.length_cons] at hl
      simp only [joinS, List.length_append, List.length_cons]
      omega
  · simp
theorem sealR_len (f : Frm) (n : Nat) (hn : n ≤ 8192) : (sealR f n).1.length ≤ 8192 := by
  unfold sealR
  split
  · split
    · rename_i h1 h2
      simp only [Int.toNat_natCast]
      have := sealB_len (f := f) (n := n) (by omega) (by omega)
      omega
    · simp
  · simp
theorem frB_len (b : Str) (k : UInt8) (body : Str) (n : Nat) (hn : n ≤ 8192) : (frB b k body n).length ≤ b.length + 8192 := by
  have := sealR_len ⟨k, b.length / n, body⟩ n hn
  unfold frB; rw [List.length_append]; omega
/-- the first body -/
def body0 (s : List Fld) (seq : Nat) : Str := low seq 8 ++ printD s
/-- an entry comes into the dump -/
def fillE (s : List Fld) (n : Nat) (q : Str × Str) (x : Ent) : Str × Str :=
  if n - 15 < q.2.length + (entB s x).length then (frB q.1 69 q.2 n, entB s x) else (q.1, q.2 ++ entB s x)
def fillAll (s : List Fld) (seq : Nat) (l : List Ent) (n : Nat) : Str × Str := l.foldl (fillE s n) (frB [] 72 (body0 s seq) n, [])
def allB (s : List Fld) (seq : Nat) (l : List Ent) : Str := body0 s seq ++ l.flatMap (entB s)
def tailB (s : List Fld) (seq : Nat) (l : List Ent) : Str := low l.length 8 ++ low (extN 0 (allB s seq l)) 4
def dumpR (s : List Fld) (seq : Nat) (l : List Ent) (n : Nat) : Str :=
  frB (if (fillAll s seq l n).2 = [] then (fillAll s seq l n).1 else frB (fillAll s seq l n).1 69 (fillAll s seq l n).2 n) 90 (tailB s seq l) n
def EntB (x : Ent) : Prop := x.key.length ≤ 255 ∧ ValB x.vals
theorem entB_len (s : List Fld) {x : Ent} (h : EntB x) : (entB s x).length ≤ 426 := by
  have := encD_len s x.vals (fun v hv => (h.2.2 v hv).1)
  have := h.1
  unfold entB
  simp only [List.length_append, List.length_cons, List.length_nil]; omega
theorem flatB_len (s : List Fld) (l : List Ent) (h : ∀ x ∈ l, EntB x) : (l.flatMap (entB s)).length ≤ l.length * 426 := by
  induction l with
  | nil => simp
  | cons x l ih =>
    have h1 := entB_len s (h x (by simp))
    have h2 := ih fun y hy => h y (by simp [hy])
    simp only [List.flatMap_cons, List.length_append, List.length_cons]; omega
theorem fill_len (s : List Fld) (seq n : Nat) (hn : n ≤ 8192) (l : List Ent) (h : ∀ x ∈ l, EntB x) : (fillAll s seq l n).1.length ≤ 8192 * (l.length + 1) ∧ (fillAll s seq l n).2.length ≤ l.length * 426 := by
  have key : ∀ (l : List Ent) (q : Str × Str), (∀ x ∈ l, EntB x) → (l.foldl (fillE s n) q).1.length ≤ q.1.length + 8192 * l.length ∧ (l.foldl (fillE s n) q).2.length ≤ q.2.length + l.length * 426 := by
    intro l
    induction l with
    | nil => intro q _; simp
    | cons x l ih =>
      intro q hx
      have h1 := entB_len s (hx x (by simp))
      have h2 := ih (fillE s n q x) fun y hy => hx y (by simp [hy])
      have h3 : (fillE s n q x).1.length ≤ q.1.length + 8192 ∧ (fillE s n q x).2.length ≤ q.2.length + 426 := by
        unfold fillE
        have := frB_len q.1 69 q.2 n hn
        split
        · exact ⟨this, by simp only []; omega⟩
        · simp only [List.length_append]; omega
      simp only [List.foldl_cons, List.length_cons]
      omega
  have := key l (frB [] 72 (body0 s seq) n, []) h
  have h0 := frB_len [] 72 (body0 s seq) n hn
  simp only [List.length_nil] at h0 this
  unfold fillAll
  omega
theorem fill_succ (s : List Fld) (seq n : Nat) {l : List Ent} {i : Nat} {x : Ent} (h : l[i]? = some x) : fillAll s seq (l.take (i + 1)) n = fillE s n (fillAll s seq (l.take i) n) x := by
  rw [← take_succ h]; unfold fillAll; rw [List.foldl_append]; rfl
theorem dump22_ok (s : List Fld) (seq : Nat) (l : List Ent) (n : Nat) (hs : SchB s) (hq : seq < 18446744073709551616) (hl : l.length ≤ 2000000) (hx : ∀ x ∈ l, EntB x) (hn : 160 ≤ n ∧ n ≤ 8192) :
    ACalls Γ 11 [.v (sD s), .v (u64 seq), .v (esD l), .v (.int .i64 n)] ⟨bD (dumpR s seq l n), []⟩ := by
  refine acalls_of Tryd.func11 rfl rfl (by kernel_rfl) ?_
  have hr : Tryd.f11.results.toList = [.tmp 8] := rfl
  have hpl := printD_len s
  obtain ⟨T, hT⟩ : ∃ T, T = printD s := ⟨_, rfl⟩
  have hps := printSchema6_ok s hs
  simp only [sD] at hps
  simp only [↓S1, S2, S3, pureOp, fillD, ↓reduceIte, reduceCtorEq, Nat.reduceEqDiff, Nat.reduceAdd, Nat.reduceLeDiff, mdT, mrT, sD, u64, esD]
  refine callV hps rfl rfl ?_
  rw [← hT] at hpl ⊢
  simp only [↓S1, S2, S3, pureOp, fillD, ↓reduceIte, reduceCtorEq, Nat.reduceEqDiff, Nat.reduceAdd, Nat.reduceLeDiff, mdT, mrT]
  refine callN2 (addU64_ok [] seq (by simp) hq) rfl rfl ?_
  simp only [↓S1, S2, S3, pureOp, fillD, ↓reduceIte, reduceCtorEq, Nat.reduceEqDiff, Nat.reduceAdd, Nat.reduceLeDiff, mdT, mrT, List.nil_append, bD]
  refine evW_loop (fun k e => ∃ (i g : Nat), k = T.length - i ∧ i ≤ T.length ∧ e.tm 2 = .val (.sl (l.map eD)) ∧ e.tm 3 = .val (.int .i64 n) ∧ e.tm 4 = .bx 4 0 0 ∧ e.gb 4 = 1 ∧ e.bx 4 0 0 = .val (.sl (s.map fD)) ∧
    e.tm 9 = .val (.str T) ∧ e.tm 12 = .val (.int .i64 i) ∧ e.tm 11 = .own 11 0 g (bD (low seq 8 ++ T.take i)) ∧ e.lv 11 0 g = true) T.length ?_ ?_
  · refine ⟨0, 1, by simp, by simp, rfl, rfl, rfl, rfl, rfl, rfl, rfl, ?_, rfl⟩
    simp only [List.take_zero, List.append_nil]; rfl
  · rintro J hJ k e ⟨i, g, rfl, hi, g2, g3, g4, hg4, b4, g9, g12, g11, hlv⟩
    simp only [↓S1, S2, S3, pureOp, fillD, ↓reduceIte, reduceCtorEq, Nat.reduceEqDiff, Nat.reduceAdd, Nat.reduceLeDiff, mdT, mrT, g2, g3, g4, g9, g12, g11, hlv]
    refine Br_dec (fun h => ?_) (fun h => ?_)
    · obtain ⟨c, hc⟩ : ∃ c, T[i]? = some c := ⟨_, List.getElem?_eq_getElem (show i < T.length by omega)⟩
      have hw : IntKind.i64.wrap ((i : Int) + 1) = ((i + 1 : Nat) : Int) := succ64 (by omega)
      simp only [↓S1, S2, S3, pureOp, fillD, ↓reduceIte, reduceCtorEq, Nat.reduceEqDiff, Nat.reduceAdd, Nat.reduceLeDiff, mdT, mrT, g2, g3, g4, g9, g12, g11, hlv, h, atI_nat, hc, bD, row_ofBytes, len_ofBytes, hw]
      refine ⟨by simp only [List.length_append, List.length_take, low_len, roomy]; omega, _, ?_, hJ _ _ ⟨i + 1, e.gc 11 0, rfl, by omega, g2, g3, g4, hg4, b4, g9, rfl, ?_, ?_⟩⟩
      · omega
      · simp only [↓S1, S2, S3, pureOp, fillD, ↓reduceIte, reduceCtorEq, Nat.reduceEqDiff, Nat.reduceAdd, Nat.reduceLeDiff, mdT, mrT]
        rw [one_ofBytes, add_ofBytes, List.append_assoc, take_succ hc]; rfl
      · simp only [↓S1, S2, S3, pureOp, fillD, ↓reduceIte, reduceCtorEq, Nat.reduceEqDiff, Nat.reduceAdd, Nat.reduceLeDiff, mdT, mrT]
    · have hto : T.take i = T := List.take_of_length_le (by omega)
      rw [hto] at g11
      have hb0 : low seq 8 ++ T = body0 s seq := by unfold body0; rw [hT]
      have hb0l : (body0 s seq).length ≤ 208 := by rw [← hb0, List.length_append, low_len]; omega
      rw [hb0] at g11
      simp only [↓S1, S2, S3, pureOp, fillD, ↓reduceIte, reduceCtorEq, Nat.reduceEqDiff, Nat.reduceAdd, Nat.reduceLeDiff, mdT, mrT, g2, g3, g4, g9, g12, g11, hlv, h]
      refine callN4 (frame22_ok [] 72 (body0 s seq) n hn (by simp) (by omega)) rfl rfl ?_
      simp only [↓S1, S2, S3, pureOp, fillD, ↓reduceIte, reduceCtorEq, Nat.reduceEqDiff, Nat.reduceAdd, Nat.reduceLeDiff, mdT, mrT, bD, g2, g3, g4, g9, g12, g11, hlv]
      refine callO (copyBytes_ok (body0 s seq) (by omega)) rfl rfl ?_
      simp only [↓S1, S2, S3, pureOp, fillD, ↓reduceIte, reduceCtorEq, Nat.reduceEqDiff, Nat.reduceAdd, Nat.reduceLeDiff, mdT, mrT, bD, g2, g3, g4, g9, g12, g11, hlv]
      clear hJ hlv h
      refine evW_loop (fun k e => ∃ (i u v w : Nat), k = l.length - i ∧ i ≤ l.length ∧ e.tm 2 = .val (.sl (l.map eD)) ∧ e.tm 3 = .val (.int .i64 n) ∧ e.tm 4 = .bx 4 0 0 ∧ e.gb 4 = 1 ∧ e.bx 4 0 0 = .val (.sl (s.map fD)) ∧
        e.tm 16 = .val (.int .i64 i) ∧ e.tm 13 = .own 13 0 u (bD (fillAll s seq (l.take i) n).1) ∧ e.lv 13 0 u = true ∧ e.tm 14 = .own 14 0 v (bD (allB s seq (l.take i))) ∧ e.lv 14 0 v = true ∧ e.tm 15 = .own 15 0 w (bD (fillAll s seq (l.take i) n).2) ∧ e.lv 15 0 w = true) l.length ?_ ?_
      · refine ⟨0, e.gc 13 0, e.gc 14 0, e.gc 15 0, by simp, by simp, g2, g3, g4, hg4, b4, rfl, rfl, ?_, ?_, ?_, rfl, ?_⟩
        · simp only [↓S1, S2, S3, pureOp, fillD, ↓reduceIte, reduceCtorEq, Nat.reduceEqDiff, Nat.reduceAdd, Nat.reduceLeDiff, mdT, mrT]
        · simp only [↓S1, S2, S3, pureOp, fillD, ↓reduceIte, reduceCtorEq, Nat.reduceEqDiff, Nat.reduceAdd, Nat.reduceLeDiff, mdT, mrT]
          simp [allB, bD]
        · simp only [↓S1, S2, S3, pureOp, fillD, ↓reduceIte, reduceCtorEq, Nat.reduceEqDiff, Nat.reduceAdd, Nat.reduceLeDiff, mdT, mrT]
        · simp only [↓S1, S2, S3, pureOp, fillD, ↓reduceIte, reduceCtorEq, Nat.reduceEqDiff, Nat.reduceAdd, Nat.reduceLeDiff, mdT, mrT]
      · clear g2 g3 g4 hg4 b4 g9 g12 g11
        rintro J hJ k e ⟨i, u, v, w, rfl, hi, g2, g3, g4, hg4, b4, g16, g13, l13, g14, l14, g15, l15⟩
        have hti : (l.take i).length = i := by simp; omega
        have hxi : ∀ x ∈ l.take i, EntB x := fun x h => hx x (List.mem_of_mem_take h)
        obtain ⟨f1, f2⟩ := fill_len s seq n hn.2 (l.take i) hxi
        have f3 := flatB_len s (l.take i) hxi
        rw [hti] at f1 f2 f3
        have f4 : (allB s seq (l.take i)).length ≤ 208 + i * 426 := by unfold allB; rw [List.length_append]; omega
        simp only [↓S1, S2, S3, pureOp, fillD, ↓reduceIte, reduceCtorEq, Nat.reduceEqDiff, Nat.reduceAdd, Nat.reduceLeDiff, mdT, mrT, g2, g3, g4, hg4, b4, g16, g13, g14, g15]
        refine Br_dec (fun h => ?_) (fun h => ?_)
        · obtain ⟨x, hxx⟩ : ∃ x, l[i]? = some x := ⟨_, List.getElem?_eq_getElem (show i < l.length by omega)⟩
          have hw : IntKind.i64.wrap ((i : Int) + 1) = ((i + 1 : Nat) : Int) := succ64 (by omega)
          have hil : i < l.length := by omega
          have hxb := hx x (List.mem_of_getElem? hxx)
          have hent := entry22_ok s x hs (by have := hxb.1; omega) hxb.2
          have hxl := entB_len s hxb
          have hfs := fill_succ s seq n hxx
          have hal : allB s seq (l.take (i + 1)) = allB s seq (l.take i) ++ entB s x := by
            unfold allB; rw [← take_succ hxx, List.flatMap_append]; simp
          generalize fillAll s seq (l.take i) n = q at *
          obtain ⟨B, P⟩ := q
          dsimp only at f1 f2
          generalize allB s seq (l.take i) = L at *
          simp only [sD, eD, vsD] at hent
          simp only [↓S1, S2, S3, pureOp, fillD, ↓reduceIte, reduceCtorEq, Nat.reduceEqDiff, Nat.reduceAdd, Nat.reduceLeDiff, mdT, mrT, g2, g3, g4, hg4, b4, g16, g13, g14, g15, h, atI_nat, hxx, eD, vsD]
          refine callV hent rfl rfl ?_
          generalize hX : entB s x = X at *
          have q1 : IntKind.i64.wrap ((P.length : Int) + (X.length : Int)) = ((P.length + X.length : Nat) : Int) := by rw [w64 (by omega)]; simp
          simp only [↓S1, S2, S3, pureOp, fillD, ↓reduceIte, reduceCtorEq, Nat.reduceEqDiff, Nat.reduceAdd, Nat.reduceLeDiff, mdT, mrT, bD, g2, g3, g4, hg4, b4, g16, g13, g14, g15, len_ofBytes, q1]
          refine callV (room2_ok n) rfl rfl ?_
          have hro : room (n : Int) = (n : Int) - 15 := by unfold room; rw [if_pos (by omega)]
          have hcase : fillE s n (B, P) x = if n - 15 < P.length + X.length then (frB B 69 P n, X) else (B, P ++ X) := by unfold fillE; rw [hX]
          obtain ⟨B', P', hBP⟩ : ∃ B' P', (B', P') = if n - 15 < P.length + X.length then (frB B 69 P n, []) else (B, P) := ⟨_, _, rfl⟩
          have hBP2 : fillE s n (B, P) x = (B', P' ++ X) := by
            rw [hcase]
            split at hBP
            · rename_i hh; cases hBP; rw [if_pos hh]; simp
            · rename_i hh; cases hBP; rw [if_neg hh]
          have hP'l : P'.length ≤ P.length := by
            split at hBP
            · cases hBP; simp
            · cases hBP; simp
          rw [hBP2] at hfs
          simp only [↓S1, S2, S3, pureOp, fillD, ↓reduceIte, reduceCtorEq, Nat.reduceEqDiff, Nat.reduceAdd, Nat.reduceLeDiff, mdT, mrT, hro]
          refine Br_dec (fun h2 => ?_) (fun h2 => ?_)
          · rw [if_pos (by omega)] at hBP
            cases hBP
            simp only [↓S1, S2, S3, pureOp, fillD, ↓reduceIte, reduceCtorEq, Nat.reduceEqDiff, Nat.reduceAdd, Nat.reduceLeDiff, mdT, mrT, bD, g2, g3, g4, hg4, b4, g16, g13, g14, g15, l13]
            refine callA3 (frame22_ok B 69 P n hn (by omega) (by omega)) rfl rfl ?_
            simp only [↓S1, S2, S3, pureOp, fillD, ↓reduceIte, reduceCtorEq, Nat.reduceEqDiff, Nat.reduceAdd, Nat.reduceLeDiff, mdT, mrT, bD, g2, g3, g4, hg4, b4, g16, g13, g14, g15, l13]
            refine evW_loop (fun k e => ∃ (j u v w : Nat), k = X.length - j ∧ j ≤ X.length ∧ e.tm 2 = .val (.sl (l.map eD)) ∧ e.tm 3 = .val (.int .i64 n) ∧ e.tm 4 = .bx 4 0 0 ∧ e.gb 4 = 1 ∧ e.bx 4 0 0 = .val (.sl (s.map fD)) ∧
              e.tm 16 = .val (.int .i64 i) ∧ e.tm 17 = .val (bD X) ∧ e.tm 18 = .val (.int .i64 j) ∧ e.tm 13 = .own 13 0 u (bD (frB B 69 P n)) ∧ e.lv 13 0 u = true ∧ e.tm 14 = .own 14 0 v (bD (L ++ X.take j)) ∧ e.lv 14 0 v = true ∧ e.tm 15 = .own 15 0 w (bD ([] ++ X.take j)) ∧ e.lv 15 0 w = true) X.length ?_ ?_
            · refine ⟨0, e.gc 13 0, v, e.gc 15 0, by simp, by simp, g2, g3, g4, hg4, b4, g16, rfl, rfl, rfl, ?_, ?_, ?_, rfl, ?_⟩
              · simp only [↓S1, S2, S3, pureOp, fillD, ↓reduceIte, reduceCtorEq, Nat.reduceEqDiff, Nat.reduceAdd, Nat.reduceLeDiff, mdT, mrT]
              · simp only [↓S1, S2, S3, pureOp, fillD, ↓reduceIte, reduceCtorEq, Nat.reduceEqDiff, Nat.reduceAdd, Nat.reduceLeDiff, mdT, mrT, g14]
                simp [bD]
              · simp only [↓S1, S2, S3, pureOp, fillD, ↓reduceIte, reduceCtorEq, Nat.reduceEqDiff, Nat.reduceAdd, Nat.reduceLeDiff, mdT, mrT, l14]
              · simp only [↓S1, S2, S3, pureOp, fillD, ↓reduceIte, reduceCtorEq, Nat.reduceEqDiff, Nat.reduceAdd, Nat.reduceLeDiff, mdT, mrT]
            · all_goals
              clear g2 g3 g4 hg4 b4 g16 g13 l13 g14 l14 g15 l15 h
              rintro J' hJ' k e ⟨j, u, v, w, rfl, hj, g2, g3, g4, hg4, b4, g16, g17, g18, g13, l13, g14, l14, g15, l15⟩
              simp only [↓S1, S2, S3, pureOp, fillD, ↓reduceIte, reduceCtorEq, Nat.reduceEqDiff, Nat.reduceAdd, Nat.reduceLeDiff, mdT, mrT, g2, g3, g4, hg4, b4, g16, g17, g18, g13, g14, g15, bD, len_ofBytes]
              refine Br_dec (fun h => ?_) (fun h => ?_)
              · obtain ⟨c, hc⟩ : ∃ c, X[j]? = some c := ⟨_, List.getElem?_eq_getElem (show j < X.length by omega)⟩
                have hw' : IntKind.i64.wrap ((j : Int) + 1) = ((j + 1 : Nat) : Int) := succ64 (by omega)
                simp only [↓S1, S2, S3, pureOp, fillD, ↓reduceIte, reduceCtorEq, Nat.reduceEqDiff, Nat.reduceAdd, Nat.reduceLeDiff, mdT, mrT, g2, g3, g4, hg4, b4, g16, g17, g18, g13, g14, g15, l14, l15, h, atI_nat, get_ofBytes, hc, bD, row_ofBytes, len_ofBytes, hw']
                refine ⟨by simp only [List.length_append, List.length_take, List.length_nil, roomy]; omega, by simp only [List.length_append, List.length_take, roomy]; omega, _, ?_, hJ' _ _ ⟨j + 1, u, e.gc 14 0, e.gc 15 0, rfl, by omega, g2, g3, g4, hg4, b4, g16, g17, rfl, g13, ?_, ?_, ?_, ?_, ?_⟩⟩
                · omega
                · simp only [↓S1, S2, S3, pureOp, fillD, ↓reduceIte, reduceCtorEq, Nat.reduceEqDiff, Nat.reduceAdd, Nat.reduceLeDiff, mdT, mrT, l13]
                · simp only [↓S1, S2, S3, pureOp, fillD, ↓reduceIte, reduceCtorEq, Nat.reduceEqDiff, Nat.reduceAdd, Nat.reduceLeDiff, mdT, mrT]
                  rw [one_ofBytes, add_ofBytes, List.append_assoc, take_succ hc]; rfl
                · simp only [↓S1, S2, S3, pureOp, fillD, ↓reduceIte, reduceCtorEq, Nat.reduceEqDiff, Nat.reduceAdd, Nat.reduceLeDiff, mdT, mrT]
                · simp only [↓S1, S2, S3, pureOp, fillD, ↓reduceIte, reduceCtorEq, Nat.reduceEqDiff, Nat.reduceAdd, Nat.reduceLeDiff, mdT, mrT]
                  rw [one_ofBytes, add_ofBytes, take_succ hc]; rfl
                · simp only [↓S1, S2, S3, pureOp, fillD, ↓reduceIte, reduceCtorEq, Nat.reduceEqDiff, Nat.reduceAdd, Nat.reduceLeDiff, mdT, mrT]
              · have hto : X.take j = X := List.take_of_length_le (by omega)
                rw [hto] at g14 g15
                simp only [↓S1, S2, S3, pureOp, fillD, ↓reduceIte, reduceCtorEq, Nat.reduceEqDiff, Nat.reduceAdd, Nat.reduceLeDiff, mdT, mrT, g2, g3, g4, hg4, b4, g16, g17, g18, g13, g14, g15, h, hw]
                refine ⟨_, ?_, hJ _ _ ⟨i + 1, u, v, w, rfl, by omega, g2, g3, g4, hg4, b4, rfl, ?_, l13, ?_, l14, ?_, l15⟩⟩
                · omega
                · rw [hfs]; exact g13
                · rw [hal]; exact g14
                · rw [hfs]; exact g15
          · rw [if_neg (by omega)] at hBP
            cases hBP
            simp only [↓S1, S2, S3, pureOp, fillD, ↓reduceIte, reduceCtorEq, Nat.reduceEqDiff, Nat.reduceAdd, Nat.reduceLeDiff, mdT, mrT, bD, g2, g3, g4, hg4, b4, g16, g13, g14, g15, l13]
            refine evW_loop (fun k e => ∃ (j u v w : Nat), k = X.length - j ∧ j ≤ X.length ∧ e.tm 2 = .val (.sl (l.map eD)) ∧ e.tm 3 = .val (.int .i64 n) ∧ e.tm 4 = .bx 4 0 0 ∧ e.gb 4 = 1 ∧ e.bx 4 0 0 = .val (.sl (s.map fD)) ∧
              e.tm 16 = .val (.int .i64 i) ∧ e.tm 17 = .val (bD X) ∧ e.tm 18 = .val (.int .i64 j) ∧ e.tm 13 = .own 13 0 u (bD B) ∧ e.lv 13 0 u = true ∧ e.tm 14 = .own 14 0 v (bD (L ++ X.take j)) ∧ e.lv 14 0 v = true ∧ e.tm 15 = .own 15 0 w (bD (P ++ X.take j)) ∧ e.lv 15 0 w = true) X.length ?_ ?_
            · refine ⟨0, u, v, w, by simp, by simp, g2, g3, g4, hg4, b4, g16, rfl, rfl, g13, l13, ?_, l14, ?_, l15⟩
              · simp only [↓S1, S2, S3, pureOp, fillD, ↓reduceIte, reduceCtorEq, Nat.reduceEqDiff, Nat.reduceAdd, Nat.reduceLeDiff, mdT, mrT, g14]
                simp [bD]
              · simp only [↓S1, S2, S3, pureOp, fillD, ↓reduceIte, reduceCtorEq, Nat.reduceEqDiff, Nat.reduceAdd, Nat.reduceLeDiff, mdT, mrT, g15]
                simp [bD]
            · all_goals
              clear g2 g3 g4 hg4 b4 g16 g13 l13 g14 l14 g15 l15 h
              rintro J' hJ' k e ⟨j, u, v, w, rfl, hj, g2, g3, g4, hg4, b4, g16, g17, g18, g13, l13, g14, l14, g15, l15⟩
              simp only [↓S1, S2, S3, pureOp, fillD, ↓reduceIte, reduceCtorEq, Nat.reduceEqDiff, Nat.reduceAdd, Nat.reduceLeDiff, mdT, mrT, g2, g3, g4, hg4, b4, g16, g17, g18, g13, g14, g15, bD, len_ofBytes]
              refine Br_dec (fun h => ?_) (fun h => ?_)
              · obtain ⟨c, hc⟩ : ∃ c, X[j]? = some c := ⟨_, List.getElem?_eq_getElem (show j < X.length by omega)⟩
                have hw' : IntKind.i64.wrap ((j : Int) + 1) = ((j + 1 : Nat) : Int) := succ64 (by omega)
                simp only [↓S1, S2, S3, pureOp, fillD, ↓reduceIte, reduceCtorEq, Nat.reduceEqDiff, Nat.reduceAdd, Nat.reduceLeDiff, mdT, mrT, g2, g3, g4, hg4, b4, g16, g17, g18, g13, g14, g15, l14, l15, h, atI_nat, get_ofBytes, hc, bD, row_ofBytes, len_ofBytes, hw']
                refine ⟨by simp only [List.length_append, List.length_take, roomy]; omega, by simp only [List.length_append, List.length_take, roomy]; omega, _, ?_, hJ' _ _ ⟨j + 1, u, e.gc 14 0, e.gc 15 0, rfl, by omega, g2, g3, g4, hg4, b4, g16, g17, rfl, g13, ?_, ?_, ?_, ?_, ?_⟩⟩
                · omega
                · simp only [↓S1, S2, S3, pureOp, fillD, ↓reduceIte, reduceCtorEq, Nat.reduceEqDiff, Nat.reduceAdd, Nat.reduceLeDiff, mdT, mrT, l13]
                · simp only [↓S1, S2, S3, pureOp, fillD, ↓reduceIte, reduceCtorEq, Nat.reduceEqDiff, Nat.reduceAdd, Nat.reduceLeDiff, mdT, mrT]
                  rw [one_ofBytes, add_ofBytes, List.append_assoc, take_succ hc]; rfl
                · simp only [↓S1, S2, S3, pureOp, fillD, ↓reduceIte, reduceCtorEq, Nat.reduceEqDiff, Nat.reduceAdd, Nat.reduceLeDiff, mdT, mrT]
                · simp only [↓S1, S2, S3, pureOp, fillD, ↓reduceIte, reduceCtorEq, Nat.reduceEqDiff, Nat.reduceAdd, Nat.reduceLeDiff, mdT, mrT]
                  rw [one_ofBytes, add_ofBytes, List.append_assoc, take_succ hc]; rfl
                · simp only [↓S1, S2, S3, pureOp, fillD, ↓reduceIte, reduceCtorEq, Nat.reduceEqDiff, Nat.reduceAdd, Nat.reduceLeDiff, mdT, mrT]
              · have hto : X.take j = X := List.take_of_length_le (by omega)
                rw [hto] at g14 g15
                simp only [↓S1, S2, S3, pureOp, fillD, ↓reduceIte, reduceCtorEq, Nat.reduceEqDiff, Nat.reduceAdd, Nat.reduceLeDiff, mdT, mrT, g2, g3, g4, hg4, b4, g16, g17, g18, g13, g14, g15, h, hw]
                refine ⟨_, ?_, hJ _ _ ⟨i + 1, u, v, w, rfl, by omega, g2, g3, g4, hg4, b4, rfl, ?_, l13, ?_, l14, ?_, l15⟩⟩
                · omega
                · rw [hfs]; exact g13
                · rw [hal]; exact g14
                · rw [hfs]; exact g15
        · have hto : l.take i = l := List.take_of_length_le (by omega)
          rw [hto] at g13 g14 g15 f1 f2 f4
          clear hJ
          have hdd : dumpR s seq l n = frB (if (fillAll s seq l n).2 = [] then (fillAll s seq l n).1 else frB (fillAll s seq l n).1 69 (fillAll s seq l n).2 n) 90 (tailB s seq l) n := rfl
          have htb : tailB s seq l = low l.length 8 ++ low (extN 0 (allB s seq l)) 4 := rfl
          generalize fillAll s seq l n = q at *
          obtain ⟨B, P⟩ := q
          generalize allB s seq l = L at *
          simp only [] at hdd f1 f2
          have q2 : IntKind.u64.wrap (l.length : Int) = (l.length : Int) := wu64 (by omega)
          have hsl := extN_lt 0 L
          obtain ⟨C, hC⟩ : ∃ C, C = if P = [] then B else frB B 69 P n := ⟨_, rfl⟩
          rw [← hC] at hdd
          have hCl : C.length ≤ 8192 * (i + 2) := by
            rw [hC]
            have := frB_len B 69 P n hn.2
            split <;> omega
          have hP0 : (0 < (P.length : Int)) = (P ≠ []) := by
            rw [eq_iff_iff, ← List.length_pos_iff]; omega
          simp only [↓S1, S2, S3, pureOp, fillD, ↓reduceIte, reduceCtorEq, Nat.reduceEqDiff, Nat.reduceAdd, Nat.reduceLeDiff, mdT, mrT, g2, g3, g13, g14, g15, h, bD, len_ofBytes, hP0]
          by_cases hP : P = []
          all_goals
            first
              | (rw [if_pos hP] at hC
                 simp only [↓S1, S2, S3, pureOp, fillD, ↓reduceIte, reduceCtorEq, Nat.reduceEqDiff, Nat.reduceAdd, Nat.reduceLeDiff, mdT, mrT, hP, g2, g3, g13, g14, g15, h, convD, q2, List.length_map, ne_eq, not_true]
                 refine callN2 (addU64_ok [] l.length (by simp) (by omega)) rfl rfl ?_)
              | (rw [if_neg hP] at hC
                 simp only [↓S1, S2, S3, pureOp, fillD, ↓reduceIte, reduceCtorEq, Nat.reduceEqDiff, Nat.reduceAdd, Nat.reduceLeDiff, mdT, mrT, hP, g2, g3, g13, l13, g14, g15, h, convD, q2, List.length_map, ne_eq, not_false_eq_true]
                 refine callA3 (frame22_ok B 69 P n hn (by omega) (by omega)) rfl rfl ?_
                 simp only [↓S1, S2, S3, pureOp, fillD, ↓reduceIte, reduceCtorEq, Nat.reduceEqDiff, Nat.reduceAdd, Nat.reduceLeDiff, mdT, mrT, bD, g2, g3, g13, l13, g14, g15, h, convD, q2, List.length_map]
                 refine callN2 (addU64_ok [] l.length (by simp) (by omega)) rfl rfl ?_)
          all_goals
            simp only [↓S1, S2, S3, pureOp, fillD, ↓reduceIte, reduceCtorEq, Nat.reduceEqDiff, Nat.reduceAdd, Nat.reduceLeDiff, mdT, mrT, bD, g2, g3, g13, g14, g15, List.nil_append]
            refine callV (sum2_ok L (by omega)) rfl rfl ?_
            obtain ⟨S, hS⟩ : ∃ S, S = extN 0 L := ⟨_, rfl⟩
            rw [← hS] at hsl htb ⊢
            simp only [↓S1, S2, S3, pureOp, fillD, ↓reduceIte, reduceCtorEq, Nat.reduceEqDiff, Nat.reduceAdd, Nat.reduceLeDiff, mdT, mrT, u32]
            refine evW_loop (fun k e => ∃ (j u v : Nat), k = 4 - j ∧ j ≤ 4 ∧ e.tm 3 = .val (.int .i64 n) ∧ e.tm 20 = .val (.int .i64 j) ∧ e.tm 19 = .val (u32 (S / 256 ^ j)) ∧ e.tm 13 = .own 13 0 u (bD C) ∧ e.lv 13 0 u = true ∧ e.tm 11 = .own 11 0 v (bD (low l.length 8 ++ low S j)) ∧ e.lv 11 0 v = true) 4 ?_ ?_
            · first
                | exact ⟨0, u, e.gc 11 0, by simp, by simp, g3, rfl, (by simp only [Nat.pow_zero, Nat.div_one]; rfl), (by rw [hC]; exact g13), l13, (by simp only [low, List.append_nil]; rfl), (by simp only [↓S1, S2, S3, pureOp, fillD, ↓reduceIte, reduceCtorEq, Nat.reduceEqDiff, Nat.reduceAdd, Nat.reduceLeDiff, mdT, mrT])⟩
                | exact ⟨0, e.gc 13 0, e.gc 11 0, by simp, by simp, g3, rfl, (by simp only [Nat.pow_zero, Nat.div_one]; rfl), (by rw [hC]; rfl), (by simp only [↓S1, S2, S3, pureOp, fillD, ↓reduceIte, reduceCtorEq, Nat.reduceEqDiff, Nat.reduceAdd, Nat.reduceLeDiff, mdT, mrT]), (by simp only [low, List.append_nil]; rfl), (by simp only [↓S1, S2, S3, pureOp, fillD, ↓reduceIte, reduceCtorEq, Nat.reduceEqDiff, Nat.reduceAdd, Nat.reduceLeDiff, mdT, mrT])⟩
            · clear g2 g3 g4 hg4 b4 g16 g13 l13 g14 l14 g15 l15 h
              rintro J hJ k e ⟨j, u, v, rfl, hj, g3, g20, g19, g13, l13, g11, l11⟩
              simp only [↓S1, S2, S3, pureOp, fillD, ↓reduceIte, reduceCtorEq, Nat.reduceEqDiff, Nat.reduceAdd, Nat.reduceLeDiff, mdT, mrT, g3, g20, g19, g13, g11]
              refine Br_dec (fun h => ?_) (fun h => ?_)
              · have hq' : S / 256 ^ j ≤ S := Nat.div_le_self _ _
                have z1 : ((S / 256 ^ j : Nat) : Int).tmod 256 = ((S / 256 ^ j % 256 : Nat) : Int) := tmodN _ 256 rfl rfl
                have z2 : ((S / 256 ^ j : Nat) : Int).tdiv 256 = ((S / 256 ^ j / 256 : Nat) : Int) := tdivN _ 256 rfl rfl
                have z3 : IntKind.u32.wrap ((S / 256 ^ j / 256 : Nat) : Int) = ((S / 256 ^ j / 256 : Nat) : Int) := wrapU rfl (show S / 256 ^ j / 256 < 2 ^ 32 by omega)
                have z4 := mod8 (S / 256 ^ j)
                have hw : IntKind.i64.wrap ((j : Int) + 1) = ((j + 1 : Nat) : Int) := succ64 (by omega)
                simp only [↓S1, S2, S3, pureOp, fillD, ↓reduceIte, reduceCtorEq, Nat.reduceEqDiff, Nat.reduceAdd, Nat.reduceLeDiff, mdT, mrT, g3, g20, g19, g13, g11, l11, h, u32, bD, Int.reduceEq, z1, z2, z3, z4, hw, convD, row_ofBytes, len_ofBytes]
                refine ⟨by simp only [len_ofBytes, List.length_append, low_len, roomy]; omega, _, ?_, hJ _ _ ⟨j + 1, u, e.gc 11 0, rfl, by omega, g3, rfl, ?_, g13, ?_, ?_, ?_⟩⟩
                · omega
                · rw [Nat.pow_succ, ← Nat.div_div_eq_div_mul]; rfl
                · simp only [↓S1, S2, S3, pureOp, fillD, ↓reduceIte, reduceCtorEq, Nat.reduceEqDiff, Nat.reduceAdd, Nat.reduceLeDiff, mdT, mrT, l13]
                · simp only [↓S1, S2, S3, pureOp, fillD, ↓reduceIte, reduceCtorEq, Nat.reduceEqDiff, Nat.reduceAdd, Nat.reduceLeDiff, mdT, mrT]
                  rw [one_ofBytes, add_ofBytes, List.append_assoc, ← low_succ]; rfl
                · simp only [↓S1, S2, S3, pureOp, fillD, ↓reduceIte, reduceCtorEq, Nat.reduceEqDiff, Nat.reduceAdd, Nat.reduceLeDiff, mdT, mrT]
              · have hj4 : j = 4 := by omega
                subst hj4
                rw [← htb] at g11
                simp only [↓S1, S2, S3, pureOp, fillD, ↓reduceIte, reduceCtorEq, Nat.reduceEqDiff, Nat.reduceAdd, Nat.reduceLeDiff, mdT, mrT, g3, g20, g19, g13, l13, g11, h]
                have htl : (tailB s seq l).length ≤ 12 := by rw [htb]; simp [low_len]
                refine callA3 (frame22_ok C 90 (tailB s seq l) n hn (by omega) (by omega)) rfl rfl ?_
                simp only [↓S1, S2, S3, pureOp, fillD, ↓reduceIte, reduceCtorEq, Nat.reduceEqDiff, Nat.reduceAdd, Nat.reduceLeDiff, mdT, mrT, bD, g3, g20, g19, g13, g11, postF, retOk, hr, Env.ress, Env.resOf, Env.outsOk, hdd]
                exact .refl _
end Go.Proofs.YtebkaacflocfcaaDoor.Ab

/- Walks: Read in the reference. -/
namespace Go.Proofs.YtebkaacflocfcaaDoor.Ab
open Go
set_option maxRecDepth 100000
set_option linter.unusedSimpArgs false
set_option linter.unusedVariables false

/-- the block number i -/
def blk (b : Str) (n i : Nat) : Str := (b.drop (i * n)).take n
/-- the entries of k blocks from i on -/
def mid (s : List Fld) (b : Str) (n : Nat) : Nat → Nat → Option (List Ent)
  | _, 0 => some []
  | i, k + 1 => if (openR (blk b n i)).2 = 0 then match readE s (openR (blk b n i)).1.body with
      | none => none
      | some x => (mid s b n (i + 1) k).map (x ++ ·)
    else none
def keyLe (a b : Str) : Bool := Op.bytesLess a b || decide (a = b)
def risE : List Ent → Bool
  | [] => true
  | [_] => true
  | x :: y :: r => !(keyLe y.key x.key) && risE (y :: r)
def readO (b : Str) (n : Nat) : Option (List Fld × Nat × List Ent) :=
  if 2 ≤ b.length / n ∧ b.length % n = 0 then
    if (openR (b.take n)).2 = 0 ∧ 8 ≤ (openR (b.take n)).1.body.length then
      if (parseR ((openR (b.take n)).1.body.drop 8)).2 = 0 then
        match mid (parseR ((openR (b.take n)).1.body.drop 8)).1 b n 1 (b.length / n - 2) with
        | none => none
        | some l => if risE l = true then some ((parseR ((openR (b.take n)).1.body.drop 8)).1, num ((openR (b.take n)).1.body.take 8), l) else none
      else none
    else none
  else none
def readR22 (b : Str) (n : Nat) : List Fld × Nat × List Ent × Bool := match readO b n with
  | none => ([], 0, [], false)
  | some q => (q.1, q.2.1, q.2.2, decide (dumpR q.1 q.2.1 q.2.2 n = b))
def readR22D (q : List Fld × Nat × List Ent × Bool) : D := .tup [sD q.1, u64 q.2.1, esD q.2.2.1, .bool q.2.2.2]

theorem rdAll_spec : ∀ (s : List Fld) (h : Nat) (l : Str) (r : List Val), rdAll s h l = some r → r.length = s.length ∧ ∀ v ∈ r, I64 v.n ∧ v.s.length ≤ l.length := by
  intro s
  induction s with
  | nil => intro h l r hh; simp [rdAll] at hh; subst hh; simp
  | cons f s ih =>
    intro h l r hh
    rw [rdAll] at hh
    split at hh
    · simp only [Option.map_eq_some_iff] at hh
      obtain ⟨r', h1, rfl⟩ := hh
      obtain ⟨h2, h3⟩ := ih _ _ _ h1
      refine ⟨by simp [h2], fun v hv => ?_⟩
      rcases List.mem_cons.1 hv with rfl | hv
      · exact ⟨by unfold I64 val0; simp, by simp [val0]⟩
      · exact h3 v hv
    · cases hq : rdV f l with
      | none => rw [hq] at hh; simp at hh
      | some q =>
        obtain ⟨v, l'⟩ := q
        rw [hq] at hh
        simp only [Option.map_eq_some_iff] at hh
        obtain ⟨r', h1, rfl⟩ := hh
        obtain ⟨h2, h3⟩ := ih _ _ _ h1
        obtain ⟨z3, z4, z5⟩ := rdV_spec hq
        have := z5.length_le
        refine ⟨by simp [h2], fun w hw => ?_⟩
        rcases List.mem_cons.1 hw with rfl | hw
        · exact ⟨z3, z4⟩
        · obtain ⟨y1, y2⟩ := h3 w hw
          exact ⟨y1, by omega⟩
theorem decR_B (s : List Fld) (b : Str) : ValB (decR s b).1 := by
  unfold decR
  split
  · exact ⟨by simp, by simp⟩
  · split
    · exact ⟨by simp, by simp⟩
    · rename_i h1 h2
      split
      · exact ⟨by simp, by simp⟩
      · rename_i r hr
        obtain ⟨z1, z2⟩ := rdAll_spec _ _ _ _ hr
        have hs : errS s = 0 := by simpa using h1
        have := schema_len8 hs
        split
        · refine ⟨by simp only []; omega, fun v hv => ⟨(z2 v hv).1, ?_⟩⟩
          have := (z2 v hv).2
          simp only [List.length_drop] at this; omega
        · exact ⟨by simp, by simp⟩
theorem readF_spec (s : List Fld) : ∀ (n : Nat) (l : Str) (es : List Ent), readF s n l = some es → es.length ≤ l.length ∧ ∀ x ∈ es, EntB x := by
  intro n
  induction n with
  | zero => intro l es h; simp [readF] at h; subst h; simp
  | succ n ih =>
    intro l es h
    rw [readF] at h
    split at h
    · cases h; simp
    · split at h
      · cases h
      · rename_i k l1 hp
        split at h
        · cases h
        · rename_i v l2 hq
          split at h
          · simp only [Option.map_eq_some_iff] at h
            obtain ⟨r, h1, rfl⟩ := h
            obtain ⟨h2, h3⟩ := ih _ _ h1
            obtain ⟨a1, a2⟩ := pt_spec hp
            obtain ⟨b1, b2⟩ := pt_spec hq
            have e1 := congrArg List.length a1
            have e2 := congrArg List.length b1
            simp only [List.length_cons, List.length_append] at e1 e2 ⊢
            refine ⟨by omega, fun x hx => ?_⟩
            rcases List.mem_cons.1 hx with rfl | hx
            · exact ⟨a2, decR_B s v⟩
            · exact h3 x hx
          · cases h
theorem openR_body (b : Str) : (openR b).1.body.length ≤ b.length := by
  unfold openR asFrm fr0
  split
  · simp; omega
  · simp
theorem blk_len (b : Str) (n i : Nat) : (blk b n i).length ≤ n := by unfold blk; simp; omega
theorem parseR_B (l : Str) : SchB (parseR l).1 := by
  unfold parseR
  split
  · exact ⟨by simp, by simp⟩
  · rename_i s hs
    split
    · rename_i h
      have := schema_len8 h
      have h8 := name_len8 h
      exact ⟨by simp only []; omega, fun f hf => by have := h8 f hf; omega⟩
    · exact ⟨by simp, by simp⟩
theorem risE_step {l : List Ent} {i : Nat} {x y : Ent} (hi : 1 ≤ i) (hx : l[i - 1]? = some x) (hy : l[i]? = some y) : risE (l.drop (i - 1)) = (!(keyLe y.key x.key) && risE (l.drop i)) := by
  obtain ⟨j, rfl⟩ : ∃ j, i = j + 1 := ⟨i - 1, by omega⟩
  simp only [Nat.add_sub_cancel] at hx ⊢
  rw [drop_cons hx, drop_cons hy, risE]
theorem risE_end {l : List Ent} {i : Nat} (h : l.length ≤ i) (hi : 1 ≤ i) : risE (l.drop (i - 1)) = true := by
  have hl : (l.drop (i - 1)).length ≤ 1 := by simp; omega
  cases hd : l.drop (i - 1) with
  | nil => rfl
  | cons x r =>
    cases r with
    | nil => rfl
    | cons y r => rw [hd] at hl; simp at hl
end Go.Proofs.YtebkaacflocfcaaDoor.Ab

/- Walks: Read in the reference, joined. -/
namespace Go.Proofs.YtebkaacflocfcaaDoor.Ab
open Go
set_option maxRecDepth 100000
set_option linter.unusedSimpArgs false
set_option linter.unusedVariables false

theorem read16_ok (b : Str) (n : Nat) (hb : b.length ≤ 1100000) (hn : 160 ≤ n ∧ n ≤ 8192) : ACalls Γ 16 [.v (bD b), .v (.int .i64 n)] ⟨readR22D (readR22 b n), []⟩ := by
  refine acalls_of Tryd.func16 rfl rfl (by kernel_rfl) ?_
  have hr : Tryd.f16.results.toList = [.cell 4 26, .tmp 5, .tmp 6, .tmp 7] := rfl
  have hn0 : ((n : Int) = 0) = False := by simp only [eq_iff_iff, iff_false]; omega
  obtain ⟨N, hN⟩ : ∃ N, N = b.length / n := ⟨_, rfl⟩
  obtain ⟨R, hR⟩ : ∃ R, R = b.length % n := ⟨_, rfl⟩
  have hNR : n * N + R = b.length := by rw [hN, hR]; exact Nat.div_add_mod _ _
  have q1 : ((b.length : Nat) : Int).tdiv (n : Int) = (N : Int) := by rw [hN, Int.ofNat_tdiv]
  have q1' : ((b.length : Nat) : Int).tmod (n : Int) = (R : Int) := by rw [hR, Int.ofNat_tmod]
  have hNl : N ≤ b.length := by rw [hN]; exact Nat.div_le_self _ _
  have q2 : IntKind.i64.wrap (N : Int) = (N : Int) := w64 (by omega)
  have hbad : readO b n = none → readR22D (readR22 b n) = .tup [.agg [.sl []], .int .u64 0, .sl [], .bool false] := by
    intro h; unfold readR22; rw [h]; rfl
  have hro : readO b n = if 2 ≤ N ∧ R = 0 then
    if (openR (b.take n)).2 = 0 ∧ 8 ≤ (openR (b.take n)).1.body.length then
      if (parseR ((openR (b.take n)).1.body.drop 8)).2 = 0 then
        match mid (parseR ((openR (b.take n)).1.body.drop 8)).1 b n 1 (N - 2) with
        | none => none
        | some l => if risE l = true then some ((parseR ((openR (b.take n)).1.body.drop 8)).1, num ((openR (b.take n)).1.body.take 8), l) else none
      else none
    else none
  else none := by unfold readO; first | (rw [hN, hR]; done) | (rw [hN, hR]; rfl)
  clear hN hR
  have hR0 : ((R : Int) = 0) = (R = 0) := by simp
  simp only [↓S1, S2, S3, pureOp, fillD, ↓reduceIte, reduceCtorEq, Nat.reduceEqDiff, Nat.reduceAdd, Nat.reduceLeDiff, mdT, mrT, bD, len_ofBytes, hn0, q1, q2]
  refine Br_dec (fun h1 => ?_) (fun h1 => ?_)
  · have hnone : readO b n = none := by rw [hro, if_neg (by omega)]
    simp only [↓S1, S2, S3, pureOp, fillD, ↓reduceIte, reduceCtorEq, Nat.reduceEqDiff, Nat.reduceAdd, Nat.reduceLeDiff, mdT, mrT, h1, postF, retOk, hr, Env.ress, Env.resOf, Env.outsOk, hbad hnone]
    exact .refl _
  · simp only [↓S1, S2, S3, pureOp, fillD, ↓reduceIte, reduceCtorEq, Nat.reduceEqDiff, Nat.reduceAdd, Nat.reduceLeDiff, mdT, mrT, h1, len_ofBytes, hn0, q1', hR0]
    refine Br_dec (fun h2 => ?_) (fun h2 => ?_)
    · rw [if_pos ⟨by omega, h2⟩] at hro
      have hbN : b.length = N * n := by rw [← hNR, h2, Nat.mul_comm]; rfl
      have h2n : 2 * n ≤ N * n := Nat.mul_le_mul_right _ (by omega)
      have hcut : cutL (ofBytes b) (some 0) (some (n : Int)) = some (ofBytes (b.take n)) := by
        have := cut_nat (ofBytes b) (Nat.zero_le n) (by rw [len_ofBytes]; omega)
        rw [cut_ofBytes, List.drop_zero] at this
        exact this
      have hop := open2_ok (b.take n) (by simp; omega)
      rw [bD] at hop
      generalize hH : openR (b.take n) = H at *
      obtain ⟨F, E⟩ := H
      have hFb := openR_body (b.take n)
      rw [hH] at hFb
      simp only [List.length_take] at hFb
      dsimp only at hro hop
      simp only [↓S1, S2, S3, pureOp, fillD, ↓reduceIte, reduceCtorEq, Nat.reduceEqDiff, Nat.reduceAdd, Nat.reduceLeDiff, mdT, mrT, h2, boundD, row_ofBytes, hcut]
      refine callV hop rfl rfl ?_
      simp only [↓S1, S2, S3, pureOp, fillD, ↓reduceIte, reduceCtorEq, Nat.reduceEqDiff, Nat.reduceAdd, Nat.reduceLeDiff, mdT, mrT, frD, bD]
      refine Br_dec (fun h3 => ?_) (fun h3 => ?_)
      · simp only [↓S1, S2, S3, pureOp, fillD, ↓reduceIte, reduceCtorEq, Nat.reduceEqDiff, Nat.reduceAdd, Nat.reduceLeDiff, mdT, mrT, h3, len_ofBytes]
        refine Br_dec (fun h4 => ?_) (fun h4 => ?_)
        · have hnone : readO b n = none := by rw [hro, if_neg (by omega)]
          simp only [↓S1, S2, S3, pureOp, fillD, ↓reduceIte, reduceCtorEq, Nat.reduceEqDiff, Nat.reduceAdd, Nat.reduceLeDiff, mdT, mrT, h4, postF, retOk, hr, Env.ress, Env.resOf, Env.outsOk, hbad hnone]
          exact .refl _
        · rw [if_pos ⟨h3, by omega⟩] at hro
          have hcut2 : cutL (ofBytes F.body) (some 8) (some (F.body.length : Int)) = some (ofBytes (F.body.drop 8)) := by
            have := cut_nat (ofBytes F.body) (show 8 ≤ F.body.length by omega) (by rw [len_ofBytes]; omega)
            rw [cut_ofBytes, List.take_of_length_le (Nat.le_refl _)] at this
            exact this
          have hpa := parseSchema6_ok (F.body.drop 8) (by simp; omega)
          have hsb := parseR_B (F.body.drop 8)
          generalize parseR (F.body.drop 8) = p at *
          obtain ⟨s, E2⟩ := p
          dsimp only at hro hpa hsb
          simp only [↓S1, S2, S3, pureOp, fillD, ↓reduceIte, reduceCtorEq, Nat.reduceEqDiff, Nat.reduceAdd, Nat.reduceLeDiff, mdT, mrT, h4, boundD, row_ofBytes, len_ofBytes, hcut2, convD, bytes_ofBytes]
          refine callV hpa rfl rfl ?_
          simp only [↓S1, S2, S3, pureOp, fillD, ↓reduceIte, reduceCtorEq, Nat.reduceEqDiff, Nat.reduceAdd, Nat.reduceLeDiff, mdT, mrT, sD]
          refine Br_dec (fun h5 => ?_) (fun h5 => ?_)
          · rw [if_pos h5] at hro
            have hs1 : IntKind.i64.wrap ((N : Int) - 1) = (N : Int) - 1 := w64 (by omega)
            have h33 := u64_ok F.body (by omega) (by omega)
            rw [bD] at h33
            simp only [↓S1, S2, S3, pureOp, fillD, ↓reduceIte, reduceCtorEq, Nat.reduceEqDiff, Nat.reduceAdd, Nat.reduceLeDiff, mdT, mrT, h5]
            refine evW_loop (fun k e => ∃ (i u v : Nat) (acc : List Ent), k = N - 1 - i ∧ 1 ≤ i ∧ i ≤ N - 1 ∧ e.tm 0 = .val (bD b) ∧ e.tm 1 = .val (.int .i64 n) ∧ e.tm 4 = .bx 4 0 0 ∧ e.gb 4 = 1 ∧ e.bx 4 0 0 = .own 4 1 u (.sl []) ∧
              e.tm 8 = .val (.int .i64 N) ∧ e.tm 9 = .bx 9 0 0 ∧ e.gb 9 = 1 ∧ e.bx 9 0 2 = .val (.sl (ofBytes F.body)) ∧ e.tm 11 = .bx 11 0 0 ∧ e.gb 11 = 1 ∧ e.bx 11 0 0 = .val (.sl (s.map fD)) ∧ e.tm 13 = .val (.int .i64 i) ∧
              e.tm 12 = .own 12 0 v (esD acc) ∧ e.lv 12 0 v = true ∧ acc.length ≤ (i - 1) * n ∧ (∀ x ∈ acc, EntB x) ∧ mid s b n 1 (N - 2) = (mid s b n i (N - 1 - i)).map (acc ++ ·)) (N - 2) ?_ ?_
            · refine ⟨1, _, _, [], by omega, by omega, by omega, rfl, rfl, rfl, rfl, rfl, rfl, rfl, rfl, rfl, rfl, rfl, rfl, rfl, rfl, rfl, by simp, by simp, ?_⟩
              rw [show N - 1 - 1 = N - 2 by omega]
              cases mid s b n 1 (N - 2) <;> rfl
            · rintro J hJ k e ⟨i, u, v, acc, rfl, hi1, hi, g0, g1, g4, hg4, b4, g8, g9, hg9, b92, g11, hg11, b11, g13, g12, l12, hal, hax, hmid⟩
              simp only [↓S1, S2, S3, pureOp, fillD, ↓reduceIte, reduceCtorEq, Nat.reduceEqDiff, Nat.reduceAdd, Nat.reduceLeDiff, mdT, mrT, g0, g1, g4, g8, g9, g11, g13, g12, hs1]
              refine Br_dec (fun h => ?_) (fun h => ?_)
              · have hin : (i + 1) * n ≤ N * n := Nat.mul_le_mul_right _ (by omega)
                have hin0 : i * n ≤ (i + 1) * n := Nat.mul_le_mul_right _ (by omega)
                have hin1 : (i + 1) * n = i * n + n := by rw [Nat.add_mul, Nat.one_mul]
                have hin2 : (i - 1) * n + n = i * n := by
                  obtain ⟨j, rfl⟩ : ∃ j, i = j + 1 := ⟨i - 1, by omega⟩
                  rw [Nat.add_sub_cancel, Nat.add_mul, Nat.one_mul]
                have hw : IntKind.i64.wrap ((i : Int) + 1) = ((i + 1 : Nat) : Int) := succ64 (by omega)
                have hm1 : IntKind.i64.wrap ((i : Int) * (n : Int)) = ((i * n : Nat) : Int) := by
                  rw [← Int.natCast_mul]; exact w64 (by omega)
                have hm2 : IntKind.i64.wrap (((i + 1 : Nat) : Int) * (n : Int)) = (((i + 1) * n : Nat) : Int) := by
                  rw [← Int.natCast_mul]; exact w64 (by omega)
                have hcut3 : cutL (ofBytes b) (some ((i * n : Nat) : Int)) (some (((i + 1) * n : Nat) : Int)) = some (ofBytes (blk b n i)) := by
                  rw [cut_nat _ (by omega) (by rw [len_ofBytes]; omega), cut_ofBytes]
                  unfold blk; rw [hin1, List.take_drop]
                have hbl := blk_len b n i
                have hop2 := open2_ok (blk b n i) (by omega)
                rw [bD] at hop2
                obtain ⟨m, hm⟩ : ∃ m, N - 1 - i = m + 1 := ⟨N - 2 - i, by omega⟩
                rw [hm, mid] at hmid
                have hGb := openR_body (blk b n i)
                generalize openR (blk b n i) = G at *
                obtain ⟨G, E3⟩ := G
                dsimp only at hmid hop2 hGb
                have hrd := read22_ok s G.body hsb (by omega)
                simp only [sD, bD] at hrd
                simp only [↓S1, S2, S3, pureOp, fillD, ↓reduceIte, reduceCtorEq, Nat.reduceEqDiff, Nat.reduceAdd, Nat.reduceLeDiff, mdT, mrT, g0, g1, g4, g8, g9, g11, hg11, b11, g13, g12, h, bD, hw, hm1, hm2, row_ofBytes, boundD, hcut3]
                refine callV hop2 rfl rfl ?_
                simp only [↓S1, S2, S3, pureOp, fillD, ↓reduceIte, reduceCtorEq, Nat.reduceEqDiff, Nat.reduceAdd, Nat.reduceLeDiff, mdT, mrT, frD, bD, g0, g1, g4, g8, g9, g11, hg11, b11, g13, g12]
                refine callV hrd rfl rfl ?_
                cases hre : readE s G.body with
                | none =>
                  have hnone : readO b n = none := by
                    rw [hro, hmid, hre]
                    by_cases hE : E3 = 0
                    · rw [if_pos hE]; rfl
                    · rw [if_neg hE]; rfl
                  have hrdd : readD s G.body = .tup [esD [], .bool false] := by unfold readD; rw [hre]
                  simp only [↓S1, S2, S3, pureOp, fillD, ↓reduceIte, reduceCtorEq, Nat.reduceEqDiff, Nat.reduceAdd, Nat.reduceLeDiff, mdT, mrT, hrdd, esD]
                  refine Br_dec (fun h6 => ?_) (fun h6 => ?_)
                  · simp only [↓S1, S2, S3, pureOp, fillD, ↓reduceIte, reduceCtorEq, Nat.reduceEqDiff, Nat.reduceAdd, Nat.reduceLeDiff, mdT, mrT, h6, g4, hg4, b4, postF, retOk, hr, Env.ress, Env.resOf, Env.outsOk, hbad hnone]
                    exact .refl _
                  · simp only [↓S1, S2, S3, pureOp, fillD, ↓reduceIte, reduceCtorEq, Nat.reduceEqDiff, Nat.reduceAdd, Nat.reduceLeDiff, mdT, mrT, h6, g4, hg4, b4, postF, retOk, hr, Env.ress, Env.resOf, Env.outsOk, hbad hnone]
                    exact .refl _
                | some x =>
                  have hrdd : readD s G.body = .tup [esD x, .bool true] := by unfold readD; rw [hre]
                  simp only [↓S1, S2, S3, pureOp, fillD, ↓reduceIte, reduceCtorEq, Nat.reduceEqDiff, Nat.reduceAdd, Nat.reduceLeDiff, mdT, mrT, hrdd, esD]
                  refine Br_dec (fun h6 => ?_) (fun h6 => ?_)
                  · rw [if_pos h6, hre] at hmid
                    dsimp only at hmid
                    obtain ⟨x1, x2⟩ := readF_spec _ _ _ _ hre
                    have hnl : (N - 1) * n ≤ N * n := Nat.mul_le_mul_right _ (by omega)
                    simp only [↓S1, S2, S3, pureOp, fillD, ↓reduceIte, reduceCtorEq, Nat.reduceEqDiff, Nat.reduceAdd, Nat.reduceLeDiff, mdT, mrT, h6]
                    refine evW_loop (fun k e => ∃ (j u v : Nat), k = x.length - j ∧ j ≤ x.length ∧ e.tm 0 = .val (bD b) ∧ e.tm 1 = .val (.int .i64 n) ∧ e.tm 4 = .bx 4 0 0 ∧ e.gb 4 = 1 ∧ e.bx 4 0 0 = .own 4 1 u (.sl []) ∧
                      e.tm 8 = .val (.int .i64 N) ∧ e.tm 9 = .bx 9 0 0 ∧ e.gb 9 = 1 ∧ e.bx 9 0 2 = .val (.sl (ofBytes F.body)) ∧ e.tm 11 = .bx 11 0 0 ∧ e.gb 11 = 1 ∧ e.bx 11 0 0 = .val (.sl (s.map fD)) ∧ e.tm 13 = .val (.int .i64 i) ∧ e.tm 16 = .val (.sl (x.map eD)) ∧ e.tm 18 = .val (.int .i64 j) ∧
                      e.tm 12 = .own 12 0 v (esD (acc ++ x.take j)) ∧ e.lv 12 0 v = true) x.length ?_ ?_
                    · refine ⟨0, u, v, by simp, by simp, g0, g1, g4, hg4, ?_, g8, g9, hg9, ?_, g11, hg11, ?_, g13, rfl, rfl, ?_, l12⟩
                      · simp only [↓S1, S2, S3, pureOp, fillD, ↓reduceIte, reduceCtorEq, Nat.reduceEqDiff, Nat.reduceAdd, Nat.reduceLeDiff, mdT, mrT, b4]
                      · simp only [↓S1, S2, S3, pureOp, fillD, ↓reduceIte, reduceCtorEq, Nat.reduceEqDiff, Nat.reduceAdd, Nat.reduceLeDiff, mdT, mrT, b92]
                      · simp only [↓S1, S2, S3, pureOp, fillD, ↓reduceIte, reduceCtorEq, Nat.reduceEqDiff, Nat.reduceAdd, Nat.reduceLeDiff, mdT, mrT, b11]
                      · simp only [↓S1, S2, S3, pureOp, fillD, ↓reduceIte, reduceCtorEq, Nat.reduceEqDiff, Nat.reduceAdd, Nat.reduceLeDiff, mdT, mrT, g12]
                        simp [esD]
                    · clear g0 g1 g4 hg4 b4 g8 g9 hg9 b92 g11 hg11 b11 g13 g12 l12 u v e
                      rintro J' hJ' k e ⟨j, u, v, rfl, hj, g0, g1, g4, hg4, b4, g8, g9, hg9, b92, g11, hg11, b11, g13, g16, g18, g12, l12⟩
                      simp only [↓S1, S2, S3, pureOp, fillD, ↓reduceIte, reduceCtorEq, Nat.reduceEqDiff, Nat.reduceAdd, Nat.reduceLeDiff, mdT, mrT, g0, g1, g4, g8, g9, g11, hg11, b11, g13, g12, g16, g18]
                      refine Br_dec (fun h7 => ?_) (fun h7 => ?_)
                      · obtain ⟨y, hy⟩ : ∃ y, x[j]? = some y := ⟨_, List.getElem?_eq_getElem (show j < x.length by omega)⟩
                        have hw' : IntKind.i64.wrap ((j : Int) + 1) = ((j + 1 : Nat) : Int) := succ64 (by omega)
                        have hrow : rowB 2 ((acc ++ x.take j).map eD) = true := row_e _
                        simp only [↓S1, S2, S3, pureOp, fillD, ↓reduceIte, reduceCtorEq, Nat.reduceEqDiff, Nat.reduceAdd, Nat.reduceLeDiff, mdT, mrT, g0, g1, g4, g8, g9, g11, hg11, b11, g13, g12, l12, g16, g18, h7, atI_nat, hy, eD, esD, vsD, hw', hrow]
                        refine ⟨rfl, by omega, rfl, by simp only [List.length_map, List.length_append, List.length_take, roomy]; omega, _, ?_, hJ' _ _ ⟨j + 1, u, e.gc 12 0, rfl, by omega, g0, g1, g4, hg4, b4, g8, g9, hg9, b92, g11, hg11, b11, g13, g16, rfl, ?_, ?_⟩⟩
                        · omega
                        · simp only [↓S1, S2, S3, pureOp, fillD, ↓reduceIte, reduceCtorEq, Nat.reduceEqDiff, Nat.reduceAdd, Nat.reduceLeDiff, mdT, mrT]
                          have hye : [D.agg [D.str y.key, D.sl (y.vals.map vD)]] = [y].map eD := rfl
                          rw [hye, ← List.map_append, List.append_assoc, take_succ hy]; rfl
                        · simp only [↓S1, S2, S3, pureOp, fillD, ↓reduceIte, reduceCtorEq, Nat.reduceEqDiff, Nat.reduceAdd, Nat.reduceLeDiff, mdT, mrT]
                      · have hto : x.take j = x := List.take_of_length_le (by omega)
                        rw [hto] at g12
                        simp only [↓S1, S2, S3, pureOp, fillD, ↓reduceIte, reduceCtorEq, Nat.reduceEqDiff, Nat.reduceAdd, Nat.reduceLeDiff, mdT, mrT, g0, g1, g4, g8, g9, g11, hg11, b11, g13, g12, l12, g16, g18, h7, hw]
                        refine ⟨_, ?_, hJ _ _ ⟨i + 1, u, v, acc ++ x, rfl, by omega, by omega, g0, g1, g4, hg4, b4, g8, g9, hg9, b92, g11, hg11, b11, rfl, g12, l12, ?_, ?_, ?_⟩⟩
                        · omega
                        · rw [List.length_append, Nat.add_sub_cancel]; omega
                        · intro z hz
                          rcases List.mem_append.1 hz with hz | hz
                          · exact hax z hz
                          · exact x2 z hz
                        · rw [hmid, show N - 1 - (i + 1) = m by omega]
                          cases mid s b n (i + 1) m with
                          | none => rfl
                          | some r => simp
                  · rw [if_neg h6] at hmid
                    have hnone : readO b n = none := by rw [hro, hmid]; rfl
                    simp only [↓S1, S2, S3, pureOp, fillD, ↓reduceIte, reduceCtorEq, Nat.reduceEqDiff, Nat.reduceAdd, Nat.reduceLeDiff, mdT, mrT, h6, g4, hg4, b4, postF, retOk, hr, Env.ress, Env.resOf, Env.outsOk, hbad hnone]
                    exact .refl _
              · have hi2 : i = N - 1 := by omega
                have hnl : (N - 2) * n ≤ N * n := Nat.mul_le_mul_right _ (by omega)
                have hmid2 : mid s b n 1 (N - 2) = some acc := by
                  rw [hmid, hi2, show N - 1 - (N - 1) = 0 by omega]; simp [mid]
                rw [hmid2] at hro
                dsimp only at hro
                have hacl : acc.length ≤ 1100000 := by rw [hi2, show N - 1 - 1 = N - 2 by omega] at hal; omega
                clear hJ hmid hal hi hi1
                simp only [↓S1, S2, S3, pureOp, fillD, ↓reduceIte, reduceCtorEq, Nat.reduceEqDiff, Nat.reduceAdd, Nat.reduceLeDiff, mdT, mrT, g0, g1, g4, g8, g9, g11, g13, g12, hs1, h]
                refine evW_loop (fun k e => ∃ (j u v : Nat), k = acc.length + 1 - j ∧ 1 ≤ j ∧ j ≤ acc.length + 1 ∧ e.tm 0 = .val (bD b) ∧ e.tm 1 = .val (.int .i64 n) ∧ e.tm 4 = .bx 4 0 0 ∧ e.gb 4 = 1 ∧ e.bx 4 0 0 = .own 4 1 u (.sl []) ∧
                      e.tm 9 = .bx 9 0 0 ∧ e.gb 9 = 1 ∧ e.bx 9 0 2 = .val (.sl (ofBytes F.body)) ∧ e.tm 11 = .bx 11 0 0 ∧ e.gb 11 = 1 ∧ e.bx 11 0 0 = .val (.sl (s.map fD)) ∧ e.tm 19 = .val (.int .i64 j) ∧
                      e.tm 12 = .own 12 0 v (esD acc) ∧ e.lv 12 0 v = true ∧ risE acc = risE (acc.drop (j - 1))) (acc.length) ?_ ?_
                · exact ⟨1, u, v, by omega, by omega, by omega, g0, g1, g4, hg4, b4, g9, hg9, b92, g11, hg11, b11, rfl, g12, l12, by simp⟩
                · clear g0 g1 g4 hg4 b4 g8 g9 hg9 b92 g11 hg11 b11 g13 g12 l12 u v h
                  rintro J hJ k e ⟨j, u, v, rfl, hj1, hj, g0, g1, g4, hg4, b4, g9, hg9, b92, g11, hg11, b11, g19, g12, l12, hris⟩
                  simp only [↓S1, S2, S3, pureOp, fillD, ↓reduceIte, reduceCtorEq, Nat.reduceEqDiff, Nat.reduceAdd, Nat.reduceLeDiff, mdT, mrT, g0, g1, g4, g9, g11, hg11, b11, g19, g12, esD]
                  refine Br_dec (fun h7 => ?_) (fun h7 => ?_)
                  · obtain ⟨y, hy⟩ : ∃ y, acc[j]? = some y := ⟨_, List.getElem?_eq_getElem (show j < acc.length by omega)⟩
                    obtain ⟨x, hx⟩ : ∃ x, acc[j - 1]? = some x := ⟨_, List.getElem?_eq_getElem (show j - 1 < acc.length by omega)⟩
                    have hw' : IntKind.i64.wrap ((j : Int) + 1) = ((j + 1 : Nat) : Int) := succ64 (by omega)
                    have hw2 : IntKind.i64.wrap ((j : Int) - 1) = ((j - 1 : Nat) : Int) := by rw [w64 (by omega)]; omega
                    rw [risE_step hj1 hx hy] at hris
                    have hkl : (Op.bytesLess y.key x.key || decide (y.key = x.key)) = keyLe y.key x.key := rfl
                    simp only [↓S1, S2, S3, pureOp, fillD, ↓reduceIte, reduceCtorEq, Nat.reduceEqDiff, Nat.reduceAdd, Nat.reduceLeDiff, mdT, mrT, g0, g1, g4, g9, g11, hg11, b11, g19, g12, esD, h7, hw', hw2, atI_nat, hy, hx, eD, vsD, hkl]
                    cases hk : keyLe y.key x.key with
                    | true =>
                      rw [hk] at hris
                      have hnone : readO b n = none := by rw [hro, hris]; rfl
                      simp only [↓S1, S2, S3, pureOp, fillD, ↓reduceIte, reduceCtorEq, Nat.reduceEqDiff, Nat.reduceAdd, Nat.reduceLeDiff, mdT, mrT, g4, hg4, b4, postF, retOk, hr, Env.ress, Env.resOf, Env.outsOk, hbad hnone]
                      exact .refl _
                    | false =>
                      rw [hk] at hris
                      simp only [↓S1, S2, S3, pureOp, fillD, ↓reduceIte, reduceCtorEq, Nat.reduceEqDiff, Nat.reduceAdd, Nat.reduceLeDiff, mdT, mrT, g0, g1, g4, g9, g11, g19, g12, hw']
                      exact ⟨_, by omega, hJ _ _ ⟨j + 1, u, v, rfl, by omega, by omega, g0, g1, g4, hg4, b4, g9, hg9, b92, g11, hg11, b11, rfl, g12, l12, hris⟩⟩
                  · rw [risE_end (by omega) hj1] at hris
                    rw [if_pos hris] at hro
                    simp only [↓S1, S2, S3, pureOp, fillD, ↓reduceIte, reduceCtorEq, Nat.reduceEqDiff, Nat.reduceAdd, Nat.reduceLeDiff, mdT, mrT, g0, g1, g4, g9, g11, hg11, hg9, b92, b11, g19, g12, esD, h7]
                    refine callV h33 rfl rfl ?_
                    have hdu := dump22_ok s (num (F.body.take 8)) acc n hsb (num_lt8 (by omega)) (by omega) hax hn
                    simp only [sD, esD] at hdu
                    have hdl : (dumpR s (num (F.body.take 8)) acc n).length ≤ 1000000000000 := by
                      have z1 := fill_len s (num (F.body.take 8)) n hn.2 acc hax
                      unfold dumpR
                      have z2 := frB_len (fillAll s (num (F.body.take 8)) acc n).1 69 (fillAll s (num (F.body.take 8)) acc n).2 n hn.2
                      have z3 := frB_len (if (fillAll s (num (F.body.take 8)) acc n).2 = [] then (fillAll s (num (F.body.take 8)) acc n).1 else frB (fillAll s (num (F.body.take 8)) acc n).1 69 (fillAll s (num (F.body.take 8)) acc n).2 n) 90 (tailB s (num (F.body.take 8)) acc) n hn.2
                      refine Nat.le_trans z3 ?_
                      split <;> omega
                    have heq := eqBytes_ok (dumpR s (num (F.body.take 8)) acc n) b hdl (by omega)
                    rw [bD, bD] at heq
                    simp only [↓S1, S2, S3, pureOp, fillD, ↓reduceIte, reduceCtorEq, Nat.reduceEqDiff, Nat.reduceAdd, Nat.reduceLeDiff, mdT, mrT, u64, g0, g1, g4, g9, g11, hg11, b11, g19, g12, esD]
                    refine callV hdu rfl rfl ?_
                    simp only [↓S1, S2, S3, pureOp, fillD, ↓reduceIte, reduceCtorEq, Nat.reduceEqDiff, Nat.reduceAdd, Nat.reduceLeDiff, mdT, mrT, bD, g0, g1, g4, g9, g11, hg11, b11, g19, g12, esD]
                    refine callV heq rfl rfl ?_
                    have hres : readR22D (readR22 b n) = .tup [sD s, u64 (num (F.body.take 8)), esD acc, .bool (decide (dumpR s (num (F.body.take 8)) acc n = b))] := by
                      unfold readR22; rw [hro]; rfl
                    simp only [↓S1, S2, S3, pureOp, fillD, ↓reduceIte, reduceCtorEq, Nat.reduceEqDiff, Nat.reduceAdd, Nat.reduceLeDiff, mdT, mrT, g0, g1, g4, hg4, b4, g9, g11, hg11, b11, g19, g12, l12, esD, postF, retOk, hr, Env.ress, Env.resOf, Env.outsOk, hres, sD, u64]
                    exact .refl _
          · have hnone : readO b n = none := by rw [hro, if_neg h5]
            simp only [↓S1, S2, S3, pureOp, fillD, ↓reduceIte, reduceCtorEq, Nat.reduceEqDiff, Nat.reduceAdd, Nat.reduceLeDiff, mdT, mrT, h5, postF, retOk, hr, Env.ress, Env.resOf, Env.outsOk, hbad hnone]
            exact .refl _
      · have hnone : readO b n = none := by rw [hro, if_neg (fun hh => h3 hh.1)]
        simp only [↓S1, S2, S3, pureOp, fillD, ↓reduceIte, reduceCtorEq, Nat.reduceEqDiff, Nat.reduceAdd, Nat.reduceLeDiff, mdT, mrT, h3, postF, retOk, hr, Env.ress, Env.resOf, Env.outsOk, hbad hnone]
        exact .refl _
    · have hnone : readO b n = none := by rw [hro, if_neg (fun hh => h2 hh.2)]
      simp only [↓S1, S2, S3, pureOp, fillD, ↓reduceIte, reduceCtorEq, Nat.reduceEqDiff, Nat.reduceAdd, Nat.reduceLeDiff, mdT, mrT, h2, postF, retOk, hr, Env.ress, Env.resOf, Env.outsOk, hbad hnone]
      exact .refl _
end Go.Proofs.YtebkaacflocfcaaDoor.Ab

/- Walks: Check and Entries in the reference. -/
namespace Go.Proofs.YtebkaacflocfcaaDoor.Ab
open Go
set_option maxRecDepth 100000
set_option linter.unusedSimpArgs false
set_option linter.unusedVariables false

/-- what a dump holds -/
def goodO (b : Str) (n : Nat) : Option (List Fld × Nat × List Ent) := match readO b n with
  | some q => if dumpR q.1 q.2.1 q.2.2 n = b then some q else none
  | none => none
def infoD (s : List Fld) (q : Nat) (c : Int) : D := .agg [.sl (s.map fD), .int .u64 q, .int .i64 c]
def checkR (b : Str) (n : Int) : (List Fld × Nat × Nat) × Int :=
  if 160 ≤ n ∧ n ≤ 8192 then match goodO b n.toNat with
    | some q => ((q.1, q.2.1, q.2.2.length), 0)
    | none => (([], 0, 0), 220)
  else (([], 0, 0), 1)
def checkD (q : (List Fld × Nat × Nat) × Int) : D := .tup [infoD q.1.1 q.1.2.1 q.1.2.2, .int .i64 q.2]
def entriesR (b : Str) (n : Int) : List Ent :=
  if 160 ≤ n ∧ n ≤ 8192 then match goodO b n.toNat with
    | some q => q.2.2
    | none => []
  else []
theorem readR22_cases (b : Str) (n : Nat) : (∃ s q l, goodO b n = some (s, q, l) ∧ readR22 b n = (s, q, l, true)) ∨ (goodO b n = none ∧ ∃ s q l, readR22 b n = (s, q, l, false)) := by
  unfold goodO readR22
  cases readO b n with
  | none => exact .inr ⟨rfl, _, _, _, rfl⟩
  | some q =>
    obtain ⟨s, q, l⟩ := q
    by_cases h : dumpR s q l n = b
    · left; exact ⟨s, q, l, by simp [h], by simp [h]⟩
    · right; exact ⟨by simp [h], s, q, l, by simp [h]⟩
theorem check22_ok (b : Str) (n : Int) (hb : b.length ≤ 1100000) : ACalls Γ 7 [.v (bD b), .v (.int .i64 n)] ⟨checkD (checkR b n), []⟩ := by
  refine acalls_of Tryd.func7 rfl rfl (by kernel_rfl) ?_
  have hr : Tryd.f7.results.toList = [.cell 4 29, .tmp 5] := rfl
  simp only [↓S1, S2, S3, pureOp, fillD, ↓reduceIte, reduceCtorEq, Nat.reduceEqDiff, Nat.reduceAdd, Nat.reduceLeDiff, mdT, mrT, bD]
  refine callV (isSize22_ok n) rfl rfl ?_
  simp only [↓S1, S2, S3, pureOp, fillD, ↓reduceIte, reduceCtorEq, Nat.reduceEqDiff, Nat.reduceAdd, Nat.reduceLeDiff, mdT, mrT]
  refine Br_dec (fun h1 => ?_) (fun h1 => ?_)
  · obtain ⟨m, rfl⟩ : ∃ m : Nat, n = m := ⟨n.toNat, by omega⟩
    have hrd := read16_ok b m hb (by omega)
    rw [bD] at hrd
    have hc : checkR b (m : Int) = match goodO b m with
        | some q => ((q.1, q.2.1, q.2.2.length), 0)
        | none => (([], 0, 0), 220) := by unfold checkR; rw [if_pos h1, Int.toNat_natCast]
    simp only [↓S1, S2, S3, pureOp, fillD, ↓reduceIte, reduceCtorEq, Nat.reduceEqDiff, Nat.reduceAdd, Nat.reduceLeDiff, mdT, mrT, h1]
    refine callV hrd rfl rfl ?_
    rcases readR22_cases b m with ⟨s, q, l, h2, h3⟩ | ⟨h2, s, q, l, h3⟩
    · rw [h2] at hc
      simp only [↓S1, S2, S3, pureOp, fillD, ↓reduceIte, reduceCtorEq, Nat.reduceEqDiff, Nat.reduceAdd, Nat.reduceLeDiff, mdT, mrT, h3, readR22D, sD, u64, esD, postF, retOk, hr, Env.ress, Env.resOf, Env.outsOk, hc, checkD, infoD]
      exact .refl _
    · rw [h2] at hc
      simp only [↓S1, S2, S3, pureOp, fillD, ↓reduceIte, reduceCtorEq, Nat.reduceEqDiff, Nat.reduceAdd, Nat.reduceLeDiff, mdT, mrT, h3, readR22D, sD, u64, esD, postF, retOk, hr, Env.ress, Env.resOf, Env.outsOk, hc, checkD, infoD]
      exact .refl _
  · have hc : checkR b n = (([], 0, 0), 1) := by unfold checkR; rw [if_neg h1]
    simp only [↓S1, S2, S3, pureOp, fillD, ↓reduceIte, reduceCtorEq, Nat.reduceEqDiff, Nat.reduceAdd, Nat.reduceLeDiff, mdT, mrT, h1, postF, retOk, hr, Env.ress, Env.resOf, Env.outsOk, hc, checkD, infoD]
    exact .refl _
theorem entries22_ok (b : Str) (n : Int) (hb : b.length ≤ 1100000) : ACalls Γ 14 [.v (bD b), .v (.int .i64 n)] ⟨esD (entriesR b n), []⟩ := by
  refine acalls_of Tryd.func14 rfl rfl (by kernel_rfl) ?_
  have hr : Tryd.f14.results.toList = [.tmp 4] := rfl
  have hck := check22_ok b n hb
  rw [bD] at hck
  simp only [↓S1, S2, S3, pureOp, fillD, ↓reduceIte, reduceCtorEq, Nat.reduceEqDiff, Nat.reduceAdd, Nat.reduceLeDiff, mdT, mrT, bD]
  refine callV hck rfl rfl ?_
  by_cases h1 : 160 ≤ n ∧ n ≤ 8192
  · obtain ⟨m, rfl⟩ : ∃ m : Nat, n = m := ⟨n.toNat, by omega⟩
    have hrd := read16_ok b m hb (by omega)
    rw [bD] at hrd
    have hc : checkR b (m : Int) = match goodO b m with
        | some q => ((q.1, q.2.1, q.2.2.length), 0)
        | none => (([], 0, 0), 220) := by unfold checkR; rw [if_pos h1, Int.toNat_natCast]
    have he : entriesR b (m : Int) = match goodO b m with
        | some q => q.2.2
        | none => [] := by unfold entriesR; rw [if_pos h1, Int.toNat_natCast]
    rcases readR22_cases b m with ⟨s, q, l, h2, h3⟩ | ⟨h2, s, q, l, h3⟩
    · rw [h2] at hc he
      simp only [↓S1, S2, S3, pureOp, fillD, ↓reduceIte, reduceCtorEq, Nat.reduceEqDiff, Nat.reduceAdd, Nat.reduceLeDiff, mdT, mrT, hc, checkD, infoD]
      refine callV hrd rfl rfl ?_
      simp only [↓S1, S2, S3, pureOp, fillD, ↓reduceIte, reduceCtorEq, Nat.reduceEqDiff, Nat.reduceAdd, Nat.reduceLeDiff, mdT, mrT, h3, readR22D, sD, u64, esD, postF, retOk, hr, Env.ress, Env.resOf, Env.outsOk, he]
      exact .refl _
    · rw [h2] at hc he
      simp only [↓S1, S2, S3, pureOp, fillD, ↓reduceIte, reduceCtorEq, Nat.reduceEqDiff, Nat.reduceAdd, Nat.reduceLeDiff, mdT, mrT, hc, checkD, infoD, Int.reduceEq, postF, retOk, hr, Env.ress, Env.resOf, Env.outsOk, he, esD]
      exact .refl _
  · have hc : checkR b n = (([], 0, 0), 1) := by unfold checkR; rw [if_neg h1]
    have he : entriesR b n = [] := by unfold entriesR; rw [if_neg h1]
    simp only [↓S1, S2, S3, pureOp, fillD, ↓reduceIte, reduceCtorEq, Nat.reduceEqDiff, Nat.reduceAdd, Nat.reduceLeDiff, mdT, mrT, hc, checkD, infoD, Int.reduceEq, postF, retOk, hr, Env.ress, Env.resOf, Env.outsOk, he, esD]
    exact .refl _
end Go.Proofs.YtebkaacflocfcaaDoor.Ab

/- Walks: a schema, values, entries are equal to themselves. -/
namespace Go.Proofs.YtebkaacflocfcaaDoor.Ab
open Go
set_option maxRecDepth 100000
set_option linter.unusedSimpArgs false
set_option linter.unusedVariables false

theorem eqValue_self (v : Val) : ACalls Γ 41 [.v (vD v), .v (vD v)] ⟨.bool true, []⟩ := by
  refine acalls_of Tryd.func41 rfl rfl (by kernel_rfl) ?_
  have hr : Tryd.f41.results.toList = [.tmp 4] := rfl
  simp only [↓S1, S2, S3, pureOp, fillD, ↓reduceIte, reduceCtorEq, Nat.reduceEqDiff, Nat.reduceAdd, Nat.reduceLeDiff, mdT, mrT, vD, strD, postF, retOk, hr, Env.ress, Env.resOf, Env.outsOk]
  exact .refl _
theorem eqVals_self (l : List Val) (hl : l.length ≤ 1000000000) : ACalls Γ 24 [.v (vsD l), .v (vsD l)] ⟨.bool true, []⟩ := by
  refine acalls_of Tryd.func24 rfl rfl (by kernel_rfl) ?_
  have hr : Tryd.f24.results.toList = [.tmp 4] := rfl
  simp only [↓S1, S2, S3, pureOp, fillD, ↓reduceIte, reduceCtorEq, Nat.reduceEqDiff, Nat.reduceAdd, Nat.reduceLeDiff, mdT, mrT, vsD]
  refine evW_loop (fun n e => ∃ i : Nat, n = l.length - i ∧ i ≤ l.length ∧ e.tm 0 = .val (.sl (l.map vD)) ∧ e.tm 1 = .val (.sl (l.map vD)) ∧ e.tm 5 = .val (.int .i64 i)) l.length ?_ ?_
  · exact ⟨0, by simp, by simp, rfl, rfl, rfl⟩
  · rintro J hJ n e ⟨i, rfl, hi, g0, g1, g5⟩
    simp only [↓S1, S2, S3, pureOp, fillD, ↓reduceIte, reduceCtorEq, Nat.reduceEqDiff, Nat.reduceAdd, Nat.reduceLeDiff, mdT, mrT, g0, g1, g5]
    refine Br_dec (fun h => ?_) (fun h => ?_)
    · obtain ⟨v, hv⟩ : ∃ v, l[i]? = some v := ⟨_, List.getElem?_eq_getElem (show i < l.length by omega)⟩
      have hw : IntKind.i64.wrap ((i : Int) + 1) = ((i + 1 : Nat) : Int) := succ64 (by omega)
      have hev := eqValue_self v
      simp only [vD] at hev
      simp only [↓S1, S2, S3, pureOp, fillD, ↓reduceIte, reduceCtorEq, Nat.reduceEqDiff, Nat.reduceAdd, Nat.reduceLeDiff, mdT, mrT, g0, g1, g5, h, atI_nat, hv, vD]
      refine callV hev rfl rfl ?_
      simp only [↓S1, S2, S3, pureOp, fillD, ↓reduceIte, reduceCtorEq, Nat.reduceEqDiff, Nat.reduceAdd, Nat.reduceLeDiff, mdT, mrT, g0, g1, g5, hw]
      exact ⟨_, by omega, hJ _ _ ⟨i + 1, rfl, by omega, g0, g1, rfl⟩⟩
    · simp only [↓S1, S2, S3, pureOp, fillD, ↓reduceIte, reduceCtorEq, Nat.reduceEqDiff, Nat.reduceAdd, Nat.reduceLeDiff, mdT, mrT, g0, g1, g5, h, postF, retOk, hr, Env.ress, Env.resOf, Env.outsOk]
      exact .refl _
theorem eqEntries_self (l : List Ent) (hl : l.length ≤ 1000000000) (hx : ∀ x ∈ l, x.vals.length ≤ 1000000000) : ACalls Γ 12 [.v (esD l), .v (esD l)] ⟨.bool true, []⟩ := by
  refine acalls_of Tryd.func12 rfl rfl (by kernel_rfl) ?_
  have hr : Tryd.f12.results.toList = [.tmp 4] := rfl
  simp only [↓S1, S2, S3, pureOp, fillD, ↓reduceIte, reduceCtorEq, Nat.reduceEqDiff, Nat.reduceAdd, Nat.reduceLeDiff, mdT, mrT, esD]
  refine evW_loop (fun n e => ∃ i : Nat, n = l.length - i ∧ i ≤ l.length ∧ e.tm 0 = .val (.sl (l.map eD)) ∧ e.tm 1 = .val (.sl (l.map eD)) ∧ e.tm 5 = .val (.int .i64 i)) l.length ?_ ?_
  · exact ⟨0, by simp, by simp, rfl, rfl, rfl⟩
  · rintro J hJ n e ⟨i, rfl, hi, g0, g1, g5⟩
    simp only [↓S1, S2, S3, pureOp, fillD, ↓reduceIte, reduceCtorEq, Nat.reduceEqDiff, Nat.reduceAdd, Nat.reduceLeDiff, mdT, mrT, g0, g1, g5]
    refine Br_dec (fun h => ?_) (fun h => ?_)
    · obtain ⟨v, hv⟩ : ∃ v, l[i]? = some v := ⟨_, List.getElem?_eq_getElem (show i < l.length by omega)⟩
      have hw : IntKind.i64.wrap ((i : Int) + 1) = ((i + 1 : Nat) : Int) := succ64 (by omega)
      have hev := eqVals_self v.vals (hx v (List.mem_of_getElem? hv))
      simp only [vsD] at hev
      simp only [↓S1, S2, S3, pureOp, fillD, ↓reduceIte, reduceCtorEq, Nat.reduceEqDiff, Nat.reduceAdd, Nat.reduceLeDiff, mdT, mrT, g0, g1, g5, h, atI_nat, hv, eD, vsD]
      refine callV hev rfl rfl ?_
      simp only [↓S1, S2, S3, pureOp, fillD, ↓reduceIte, reduceCtorEq, Nat.reduceEqDiff, Nat.reduceAdd, Nat.reduceLeDiff, mdT, mrT, g0, g1, g5, hw, atI_nat, hv, eD, vsD, strD]
      exact ⟨_, by omega, hJ _ _ ⟨i + 1, rfl, by omega, g0, g1, rfl⟩⟩
    · simp only [↓S1, S2, S3, pureOp, fillD, ↓reduceIte, reduceCtorEq, Nat.reduceEqDiff, Nat.reduceAdd, Nat.reduceLeDiff, mdT, mrT, g0, g1, g5, h, postF, retOk, hr, Env.ress, Env.resOf, Env.outsOk]
      exact .refl _
theorem eqSchema_self (l : List Fld) (hl : l.length ≤ 1000000000) : ACalls Γ 9 [.v (sD l), .v (sD l)] ⟨.bool true, []⟩ := by
  refine acalls_of Tryd.func9 rfl rfl (by kernel_rfl) ?_
  have hr : Tryd.f9.results.toList = [.tmp 4] := rfl
  simp only [↓S1, S2, S3, pureOp, fillD, ↓reduceIte, reduceCtorEq, Nat.reduceEqDiff, Nat.reduceAdd, Nat.reduceLeDiff, mdT, mrT, sD]
  refine evW_loop (fun n e => ∃ i : Nat, n = l.length - i ∧ i ≤ l.length ∧ e.tm 2 = .bx 2 0 0 ∧ e.gb 2 = 1 ∧ e.bx 2 0 0 = .val (.sl (l.map fD)) ∧ e.tm 3 = .bx 3 0 0 ∧ e.gb 3 = 1 ∧ e.bx 3 0 0 = .val (.sl (l.map fD)) ∧ e.tm 5 = .val (.int .i64 i)) l.length ?_ ?_
  · exact ⟨0, by simp, by simp, rfl, rfl, rfl, rfl, rfl, rfl, rfl⟩
  · rintro J hJ n e ⟨i, rfl, hi, g2, hg2, b2, g3, hg3, b3, g5⟩
    simp only [↓S1, S2, S3, pureOp, fillD, ↓reduceIte, reduceCtorEq, Nat.reduceEqDiff, Nat.reduceAdd, Nat.reduceLeDiff, mdT, mrT, g2, hg2, b2, g3, hg3, b3, g5]
    refine Br_dec (fun h => ?_) (fun h => ?_)
    · obtain ⟨v, hv⟩ : ∃ v, l[i]? = some v := ⟨_, List.getElem?_eq_getElem (show i < l.length by omega)⟩
      have hw : IntKind.i64.wrap ((i : Int) + 1) = ((i + 1 : Nat) : Int) := succ64 (by omega)
      have hu : Γ.P.underlying 4 = some .bool := TT.2.2.1
      have hb : binD Γ.P .neq 4 (D.bool v.opt) (D.bool v.opt) = some (.bool false) := by
        simp only [binD, hu, beq_self_eq_true, Bool.not_true]
      simp only [↓S1, S2, S3, pureOp, fillD, ↓reduceIte, reduceCtorEq, Nat.reduceEqDiff, Nat.reduceAdd, Nat.reduceLeDiff, mdT, mrT, g2, hg2, b2, g3, hg3, b3, g5, h, atI_nat, hv, fD, strD, hw, hb]
      refine ⟨_, ?_, hJ _ _ ⟨i + 1, rfl, by omega, g2, hg2, ?_, g3, hg3, ?_, rfl⟩⟩
      · omega
      · simp only [↓S1, S2, S3, pureOp, fillD, ↓reduceIte, reduceCtorEq, Nat.reduceEqDiff, Nat.reduceAdd, Nat.reduceLeDiff, mdT, mrT, b2]
      · simp only [↓S1, S2, S3, pureOp, fillD, ↓reduceIte, reduceCtorEq, Nat.reduceEqDiff, Nat.reduceAdd, Nat.reduceLeDiff, mdT, mrT, b3]
    · simp only [↓S1, S2, S3, pureOp, fillD, ↓reduceIte, reduceCtorEq, Nat.reduceEqDiff, Nat.reduceAdd, Nat.reduceLeDiff, mdT, mrT, g2, hg2, b2, g3, hg3, b3, g5, h, postF, retOk, hr, Env.ress, Env.resOf, Env.outsOk]
      exact .refl _
end Go.Proofs.YtebkaacflocfcaaDoor.Ab
