/- Plain laws: the program and the reference check a dump alike. -/
import Derived.Test.YtebkaacflocfcaaDoorM11
import Derived.Test.YtebkaacflocfcaaDoorM10
set_option linter.unusedVariables false
set_option linter.unusedSimpArgs false
set_option linter.defProp false
/- Plain: the entries of a body, read in both ways. -/
namespace Go.Proofs.YtebkaacflocfcaaDoor.Ab
open Go
set_option linter.unusedSimpArgs false
set_option linter.unusedVariables false

/-- an entry that can be in a dump -/
def EntV (s : List Fld) (x : Ent) : Prop := errK x.key = 0 ∧ decR s (encD s x.vals) = (x.vals, 0) ∧ (encD s x.vals).length ≤ 64
theorem errK_0 {k : Str} (h : errK k = 0) : 1 ≤ k.length ∧ k.length ≤ 16 := by
  unfold errK at h
  split at h
  · assumption
  · cases h
theorem errR_of {s : List Fld} {r : List Val} (hs : errS s = 0) (hl : r.length = s.length) (hf : fitsAll s r = true) : errR s r = 0 := by
  unfold errR; rw [if_neg (by simpa using hs), if_neg (by simpa using hl), if_pos hf]
/-- bytes that decode are their values' bytes -/
theorem dec_enc {s : List Fld} {v : Str} (h : (decR s v).2 = 0) : encD s (decR s v).1 = v ∧ v.length ≤ 64 := by
  obtain ⟨a1, a2, a3, a4, a5⟩ := decR_inv h
  have he := errR_of a1 a2 a3
  refine ⟨?_, (decode_good a1 a2 a3 a4 a5).2.2⟩
  unfold encD; rw [if_pos he]; exact a5.symm
theorem entV_of {s : List Fld} {k v : Str} (h1 : errK k = 0) (h2 : (decR s v).2 = 0) : EntV s ⟨k, (decR s v).1⟩ ∧ encD s (decR s v).1 = v := by
  obtain ⟨e1, e2⟩ := dec_enc h2
  refine ⟨⟨h1, ?_, ?_⟩, e1⟩
  · dsimp only; rw [e1]
    exact Prod.ext rfl h2
  · dsimp only; rw [e1]; exact e2
theorem pt_cons {k t : Str} (h : k.length ≤ 255) : pt (UInt8.ofNat (k.length % 256) :: (k ++ t)) = some (k, t) := by
  have hc : (UInt8.ofNat (k.length % 256)).toNat = k.length := by rw [ofNat_nat (by omega)]; omega
  rw [pt, hc, if_neg (by simp), List.take_left' rfl, List.drop_left' rfl]
theorem entB_eq (s : List Fld) (x : Ent) (t : Str) : entB s x ++ t = UInt8.ofNat (x.key.length % 256) :: (x.key ++ (UInt8.ofNat ((encD s x.vals).length % 256) :: (encD s x.vals ++ t))) := by
  unfold entB; simp
theorem ofNat_mod (n : Nat) (h : n ≤ 255) : UInt8.ofNat n = UInt8.ofNat (n % 256) := by rw [Nat.mod_eq_of_lt (by omega)]
theorem pt_entB {l k r k2 r2 : Str} {s : List Fld} (h1 : pt l = some (k, r)) (h2 : pt r = some (k2, r2)) (h3 : (decR s k2).2 = 0) : l = entB s ⟨k, (decR s k2).1⟩ ++ r2 := by
  obtain ⟨a1, a2⟩ := pt_spec h1
  obtain ⟨b1, b2⟩ := pt_spec h2
  rw [entB_eq]
  dsimp only
  rw [(dec_enc h3).1, a1, b1, ofNat_mod _ a2, ofNat_mod _ b2]
/-- R1 -/
theorem readF_inv (s : List Fld) : ∀ (m : Nat) (l : Str) (es : List Ent), l.length ≤ m → readF s m l = some es → l = es.flatMap (entB s) ∧ ∀ x ∈ es, EntV s x := by
  intro m
  induction m with
  | zero =>
    intro l es hm h
    have : l = [] := by cases l with | nil => rfl | cons => simp at hm
    simp [readF] at h; subst h; exact ⟨by simp [this], by simp⟩
  | succ m ih =>
    intro l es hm h
    rw [readF] at h
    split at h
    · rename_i hl; cases h; exact ⟨by simp [hl], by simp⟩
    · split at h
      · cases h
      · rename_i k l1 hp
        split at h
        · cases h
        · rename_i v l2 hq
          split at h
          · rename_i hok
            simp only [Option.map_eq_some_iff] at h
            obtain ⟨r, h1, rfl⟩ := h
            have e1 := congrArg List.length (pt_spec hp).1
            have e2 := congrArg List.length (pt_spec hq).1
            simp only [List.length_cons, List.length_append] at e1 e2
            obtain ⟨g1, g2⟩ := ih l2 r (by omega) h1
            have he := pt_entB hp hq hok.1
            refine ⟨by rw [List.flatMap_cons, ← g1]; exact he, fun x hx => ?_⟩
            rcases List.mem_cons.1 hx with rfl | hx
            · exact (entV_of hok.2 hok.1).1
            · exact g2 x hx
          · cases h
theorem entB_ne (s : List Fld) (x : Ent) : entB s x ≠ [] := by unfold entB; simp
theorem entV_len {s : List Fld} {x : Ent} (h : EntV s x) : (entB s x).length = x.key.length + (encD s x.vals).length + 2 ∧ (entB s x).length ≤ 82 := by
  have h1 := errK_0 h.1
  have h2 := h.2.2
  have : (entB s x).length = x.key.length + (encD s x.vals).length + 2 := by unfold entB; simp; omega
  exact ⟨this, by omega⟩
/-- R2 -/
theorem readF_flat (s : List Fld) : ∀ (es : List Ent) (m : Nat), (∀ x ∈ es, EntV s x) → (es.flatMap (entB s)).length ≤ m → readF s m (es.flatMap (entB s)) = some es := by
  intro es
  induction es with
  | nil => intro m _ _; cases m <;> simp [readF]
  | cons x es ih =>
    intro m hv hm
    have hx := hv x (by simp)
    have hl := entV_len hx
    have hk := errK_0 hx.1
    simp only [List.flatMap_cons, List.length_append] at hm
    obtain ⟨m', rfl⟩ : ∃ m', m = m' + 1 := ⟨m - 1, by omega⟩
    rw [List.flatMap_cons, readF, if_neg (by simp [entB_ne]), entB_eq, pt_cons (by omega)]
    dsimp only
    rw [pt_cons (by have := hx.2.2; omega)]
    dsimp only
    rw [hx.2.1, if_pos ⟨rfl, hx.1⟩, ih m' (fun y hy => hv y (by simp [hy])) (by omega)]
    rfl
/-- rising keys, from one on -/
def chainE : Str → List Ent → Prop
  | _, [] => True
  | last, x :: r => keyLe x.key last = false ∧ chainE x.key r
def lastK : Str → List Ent → Str
  | last, [] => last
  | _, x :: r => lastK x.key r
theorem chain_append : ∀ (a b : List Ent) (last : Str), chainE last (a ++ b) ↔ chainE last a ∧ chainE (lastK last a) b := by
  intro a
  induction a with
  | nil => intro b last; simp [chainE, lastK]
  | cons x a ih => intro b last; simp only [List.cons_append, chainE, lastK, ih, and_assoc]
theorem lastK_append : ∀ (a b : List Ent) (last : Str), lastK last (a ++ b) = lastK (lastK last a) b := by
  intro a
  induction a with
  | nil => intro b last; rfl
  | cons x a ih => intro b last; simp only [List.cons_append, lastK, ih]
theorem risE_chain : ∀ (l : List Ent) (x : Ent), risE (x :: l) = true ↔ chainE x.key l := by
  intro l
  induction l with
  | nil => intro x; simp [risE, chainE]
  | cons y l ih => intro x; simp only [risE, chainE, Bool.and_eq_true, Bool.not_eq_true', ih]
theorem keyLe_nil {k : Str} (h : 1 ≤ k.length) : keyLe k [] = false := by
  unfold keyLe
  cases k with
  | nil => simp at h
  | cons a b => simp [Op.bytesLess]
theorem risE_nil {s : List Fld} {l : List Ent} (hv : ∀ x ∈ l, EntV s x) : risE l = true ↔ chainE [] l := by
  cases l with
  | nil => simp [risE, chainE]
  | cons x l =>
    rw [risE_chain, chainE]
    have := keyLe_nil (errK_0 (hv x (by simp)).1).1
    simp [this]
theorem textR_iff {b k r : Str} : textR b = (k, r, true) ↔ pt b = some (k, r) := by
  unfold textR
  cases pt b with
  | none => simp
  | some q => obtain ⟨x, y⟩ := q; simp
/-- where the first entry may not stand in the frame ahead -/
def firstOk (s : List Fld) (room bf : Nat) : List Ent → Prop
  | [] => True
  | x :: _ => room < bf + (entB s x).length
theorem stepP_inv {s : List Fld} {room bf : Nat} {b : Str} {first : Bool} {last : Str} {q : Str × Str} (h : stepP s room bf b first last = some q) :
    ∃ x, EntV s x ∧ b = entB s x ++ q.2 ∧ q.1 = x.key ∧ keyLe x.key last = false ∧ (first = true → room < bf + (entB s x).length) := by
  unfold stepP at h
  split at h
  · rename_i hh
    cases h
    obtain ⟨h1, h2, h3, h4, h5, h6⟩ := hh
    have t1 : pt b = some ((textR b).1, (textR b).2.1) := textR_iff.1 (Prod.ext rfl (Prod.ext rfl h1))
    have t2 : pt (textR b).2.1 = some ((textR (textR b).2.1).1, (textR (textR b).2.1).2.1) := textR_iff.1 (Prod.ext rfl (Prod.ext rfl h2))
    rw [decP_eq] at h3
    have he := pt_entB t1 t2 h3
    refine ⟨_, (entV_of h4 h3).1, he, rfl, h5, fun hf => ?_⟩
    have hl := congrArg List.length he
    rw [List.length_append] at hl
    rcases Nat.lt_or_ge room (bf + (entB s ⟨(textR b).1, (decR s (textR (textR b).2.1).1).1⟩).length) with h' | h'
    · exact h'
    · exact absurd ⟨hf, by omega⟩ h6
  · cases h
theorem stepP_ent {s : List Fld} {room bf : Nat} {x : Ent} {first : Bool} {last t : Str} (hv : EntV s x) (hk : keyLe x.key last = false) (hf : first = true → room < bf + (entB s x).length) :
    stepP s room bf (entB s x ++ t) first last = some (x.key, t) := by
  have hkl := errK_0 hv.1
  have t1 : textR (entB s x ++ t) = (x.key, UInt8.ofNat ((encD s x.vals).length % 256) :: (encD s x.vals ++ t), true) := by
    rw [textR_iff, entB_eq, pt_cons (by omega)]
  have t2 : textR (UInt8.ofNat ((encD s x.vals).length % 256) :: (encD s x.vals ++ t)) = (encD s x.vals, t, true) := by
    rw [textR_iff, pt_cons (by have := hv.2.2; omega)]
  unfold stepP
  rw [t1]
  dsimp only
  rw [t2]
  dsimp only
  rw [if_pos]
  refine ⟨rfl, rfl, by rw [decP_eq, hv.2.1], hv.1, hk, ?_⟩
  rintro ⟨h1, h2⟩
  have := hf h1
  rw [List.length_append] at h2
  omega
/-- I1 -/
theorem inP_inv (s : List Fld) (room bf : Nat) : ∀ (m : Nat) (b : Str) (first : Bool) (last : Str) (c : Nat) (q : Str × Nat), b.length ≤ m → inP s room bf m b first last c = (false, q) →
    ∃ es, b = es.flatMap (entB s) ∧ (∀ x ∈ es, EntV s x) ∧ chainE last es ∧ q = (lastK last es, c + es.length) ∧ (first = true → firstOk s room bf es) := by
  intro m
  induction m with
  | zero =>
    intro b first last c q hm h
    have : b = [] := by cases b with | nil => rfl | cons => simp at hm
    simp only [inP, Prod.mk.injEq, true_and] at h
    exact ⟨[], by simp [this], by simp, trivial, by rw [← h]; rfl, fun _ => trivial⟩
  | succ m ih =>
    intro b first last c q hm h
    rw [inP] at h
    split at h
    · rename_i hb
      simp only [Prod.mk.injEq, true_and] at h
      exact ⟨[], by simp [hb], by simp, trivial, by rw [← h]; rfl, fun _ => trivial⟩
    · split at h
      · simp at h
      · rename_i p hp
        obtain ⟨x, x1, x2, x3, x4, x5⟩ := stepP_inv hp
        have hl := congrArg List.length x2
        rw [List.length_append] at hl
        have hxl := entV_len x1
        obtain ⟨es, e1, e2, e3, e4, _⟩ := ih p.2 false p.1 (c + 1) q (by omega) h
        refine ⟨x :: es, by rw [List.flatMap_cons, ← e1]; exact x2, fun y hy => ?_, ⟨x4, by rw [← x3]; exact e3⟩, ?_, fun hf => x5 hf⟩
        · rcases List.mem_cons.1 hy with rfl | hy
          · exact x1
          · exact e2 y hy
        · rw [e4, x3]; simp only [lastK, List.length_cons]
          congr 1; omega
/-- I2 -/
theorem inP_flat (s : List Fld) (room bf : Nat) : ∀ (es : List Ent) (m : Nat) (first : Bool) (last : Str) (c : Nat), (es.flatMap (entB s)).length ≤ m → (∀ x ∈ es, EntV s x) → chainE last es → (first = true → firstOk s room bf es) →
    inP s room bf m (es.flatMap (entB s)) first last c = (false, lastK last es, c + es.length) := by
  intro es
  induction es with
  | nil => intro m first last c _ _ _ _; cases m <;> simp [inP, lastK]
  | cons x es ih =>
    intro m first last c hm hv hc hf
    have hx := hv x (by simp)
    have hl := entV_len hx
    simp only [List.flatMap_cons, List.length_append] at hm
    obtain ⟨m', rfl⟩ : ∃ m', m = m' + 1 := ⟨m - 1, by omega⟩
    rw [List.flatMap_cons, inP, if_neg (by simp [entB_ne]), stepP_ent hx hc.1 (fun h => hf h)]
    dsimp only
    rw [ih m' false x.key (c + 1) (by omega) (fun y hy => hv y (by simp [hy])) hc.2 (fun h => by cases h)]
    simp only [lastK, List.length_cons]
    congr 2; omega
end Go.Proofs.YtebkaacflocfcaaDoor.Ab

/- Plain: the frames of a dump. -/
namespace Go.Proofs.YtebkaacflocfcaaDoor.Ab
open Go
set_option linter.unusedSimpArgs false
set_option linter.unusedVariables false

def bodyG (s : List Fld) (g : List Ent) : Str := g.flatMap (entB s)
def FrG (s : List Fld) (b : Str) (n : Nat) : Nat → List (List Ent) → Prop
  | _, [] => True
  | i, g :: r => openR (blk b n i) = (⟨69, i, bodyG s g⟩, 0) ∧ FrG s b n (i + 1) r
def packG (s : List Fld) (room : Nat) : Nat → List (List Ent) → Prop
  | _, [] => True
  | bf, g :: r => g ≠ [] ∧ firstOk s room bf g ∧ (bodyG s g).length ≤ room ∧ packG s room (bodyG s g).length r
def ValG (s : List Fld) (gs : List (List Ent)) : Prop := ∀ g ∈ gs, ∀ x ∈ g, EntV s x
theorem bodyG_append (s : List Fld) (a b : List Ent) : bodyG s (a ++ b) = bodyG s a ++ bodyG s b := by unfold bodyG; simp
theorem bodyG_ne {s : List Fld} {g : List Ent} (h : g ≠ []) : bodyG s g ≠ [] := by
  cases g with
  | nil => exact absurd rfl h
  | cons x r => unfold bodyG; simp [entB_ne]
theorem extN_nil (s : Nat) (hs : s < 4294967296) : extN s [] = s := by unfold extN crcR; simp; omega
theorem frmBad_iff {b : Str} {n i : Nat} {k : UInt8} : frmBad b n i k = false ↔ ∃ body, openR (blk b n i) = (⟨k, i, body⟩, 0) := by
  unfold frmBad
  rw [openP_eq]
  generalize openR (blk b n i) = G
  obtain ⟨⟨k', g', body⟩, e⟩ := G
  simp only [decide_eq_false_iff_not, not_or, ne_eq, Decidable.not_not, Prod.mk.injEq, Frm.mk.injEq]
  constructor
  · rintro ⟨rfl, rfl, rfl⟩; exact ⟨body, ⟨rfl, rfl, rfl⟩, rfl⟩
  · rintro ⟨body', ⟨rfl, rfl, rfl⟩, rfl⟩; exact ⟨rfl, rfl, rfl⟩
theorem openR_room {b : Str} {n i : Nat} {f : Frm} (h : openR (blk b n i) = (f, 0)) : f.body.length ≤ n - 15 ∧ blk b n i = sealB f (blk b n i).length ∧ f.gen < 18446744073709551616 ∧ 15 ≤ (blk b n i).length := by
  have h2 : (openR (blk b n i)).2 = 0 := by rw [h]
  obtain ⟨a1, a2, a3, a4⟩ := openR_ok h2
  rw [h] at a2 a3 a4
  dsimp only at a2 a3 a4
  have := blk_len b n i
  exact ⟨by omega, a3, a4, a1.1⟩
/-- what the program's loop over the frames tells -/
theorem outP_inv (s : List Fld) (b : Str) (n : Nat) : ∀ (k i sum : Nat) (last : Str) (bf c sum' c' : Nat), sum < 4294967296 → outP s b n (n - 15) k i sum last bf c = (false, sum', c') →
    ∃ gs, gs.length = k ∧ FrG s b n i gs ∧ packG s (n - 15) bf gs ∧ ValG s gs ∧ chainE last gs.flatten ∧ sum' = extN sum (bodyG s gs.flatten) ∧ c' = c + gs.flatten.length := by
  intro k
  induction k with
  | zero =>
    intro i sum last bf c sum' c' hs h
    simp only [outP, Prod.mk.injEq, true_and] at h
    exact ⟨[], rfl, trivial, trivial, by intro g hg; simp at hg, trivial, by rw [← h.1]; simp [bodyG, extN_nil _ hs], by simp [h.2]⟩
  | succ k ih =>
    intro i sum last bf c sum' c' hs h
    rw [outP] at h
    split at h
    · simp at h
    · rename_i h1
      simp only [not_or, Bool.not_eq_true] at h1
      obtain ⟨body, hbody⟩ := frmBad_iff.1 h1.1
      have hPb : (openP (blk b n i)).1.body = body := by rw [openP_eq, hbody]
      rw [hPb] at h h1
      split at h
      · simp at h
      · rename_i h2
        cases hin : inP s (n - 15) bf body.length body true last c with
        | mk q1 q2 =>
          rw [hin] at h h2
          have hq1 : q1 = false := by simpa using h2
          subst hq1
          obtain ⟨es, e1, e2, e3, e4, e5⟩ := inP_inv s (n - 15) bf body.length body true last c q2 (Nat.le_refl _) hin
          subst e4
          dsimp only at h
          have hx := extN_lt sum body
          obtain ⟨gs, g1, g2, g3, g4, g5, g6, g7⟩ := ih _ _ _ _ _ _ _ hx h
          have hb : bodyG s es = body := e1.symm
          refine ⟨es :: gs, by simp [g1], ⟨by rw [hbody, hb], g2⟩, ⟨?_, e5 rfl, ?_, by rw [hb]; exact g3⟩, ?_, ?_, ?_, ?_⟩
          · intro hh; rw [hh] at e1; exact h1.2 e1
          · rw [hb]; exact (openR_room hbody).1
          · intro g hg
            rcases List.mem_cons.1 hg with rfl | hg
            · exact e2
            · exact g4 g hg
          · rw [List.flatten_cons, chain_append]; exact ⟨e3, g5⟩
          · rw [List.flatten_cons, bodyG_append, hb, extN_append]; exact g6
          · rw [List.flatten_cons, List.length_append, g7]; omega
theorem outP_flat (s : List Fld) (b : Str) (n : Nat) : ∀ (gs : List (List Ent)) (i sum : Nat) (last : Str) (bf c : Nat), sum < 4294967296 → FrG s b n i gs → packG s (n - 15) bf gs → ValG s gs → chainE last gs.flatten →
    outP s b n (n - 15) gs.length i sum last bf c = (false, extN sum (bodyG s gs.flatten), c + gs.flatten.length) := by
  intro gs
  induction gs with
  | nil => intro i sum last bf c hs _ _ _ _; simp [outP, bodyG, extN_nil _ hs]
  | cons g gs ih =>
    intro i sum last bf c hs hF hp hv hc
    obtain ⟨p1, p2, p3, p4⟩ := hp
    rw [List.flatten_cons, chain_append] at hc
    have hbad : frmBad b n i 69 = false := frmBad_iff.2 ⟨_, hF.1⟩
    have hPb : (openP (blk b n i)).1.body = bodyG s g := by rw [openP_eq, hF.1]
    have hin := inP_flat s (n - 15) bf g (bodyG s g).length true last c (Nat.le_refl _) (fun x hx => hv g (by simp) x hx) hc.1 (fun _ => p2)
    rw [List.length_cons, outP, hPb, if_neg (by simp [hbad, bodyG_ne p1])]
    have hin' : inP s (n - 15) bf (bodyG s g).length (bodyG s g) true last c = (false, lastK last g, c + g.length) := hin
    rw [hin', if_neg (by simp)]
    dsimp only
    rw [ih _ _ _ _ _ (extN_lt _ _) hF.2 p4 (fun x hx => hv x (by simp [hx])) hc.2, ← extN_append, List.flatten_cons, bodyG_append, List.length_append]
    congr 2; omega

/-- frames, one behind the other -/
def framesB (n : Nat) : Nat → List (UInt8 × Str) → Str
  | _, [] => []
  | i, p :: r => sealB ⟨p.1, i, p.2⟩ n ++ framesB n (i + 1) r
def SmallF (n : Nat) (L : List (UInt8 × Str)) : Prop := ∀ p ∈ L, p.2.length ≤ n - 15
theorem framesB_len {n : Nat} (hn : 15 ≤ n) : ∀ (L : List (UInt8 × Str)) (i : Nat), SmallF n L → (framesB n i L).length = L.length * n := by
  intro L
  induction L with
  | nil => intro i _; simp [framesB]
  | cons p L ih =>
    intro i h
    rw [framesB, List.length_append, sealB_len hn (h p (by simp)), ih _ (fun q hq => h q (by simp [hq])), List.length_cons, Nat.add_mul, Nat.one_mul]; omega
theorem framesB_append (n : Nat) : ∀ (L M : List (UInt8 × Str)) (i : Nat), framesB n i (L ++ M) = framesB n i L ++ framesB n (i + L.length) M := by
  intro L
  induction L with
  | nil => intro M i; simp [framesB]
  | cons p L ih => intro M i; simp only [List.cons_append, framesB, ih, List.append_assoc, List.length_cons]; congr 3; omega
theorem blk_zero (b : Str) (n : Nat) : blk b n 0 = b.take n := by unfold blk; simp
theorem blk_succ (b : Str) (n j : Nat) : blk b n (j + 1) = blk (b.drop n) n j := by
  unfold blk; rw [List.drop_drop]; congr 2; rw [Nat.add_mul, Nat.one_mul]; omega
theorem blk_framesB {n : Nat} (hn : 15 ≤ n) : ∀ (L : List (UInt8 × Str)) (i j : Nat) (p : UInt8 × Str), SmallF n L → L[j]? = some p → blk (framesB n i L) n j = sealB ⟨p.1, i + j, p.2⟩ n := by
  intro L
  induction L with
  | nil => intro i j p _ h; simp at h
  | cons q L ih =>
    intro i j p hs h
    have hl := sealB_len (f := ⟨q.1, i, q.2⟩) hn (hs q (by simp))
    cases j with
    | zero =>
      simp only [List.getElem?_cons_zero, Option.some.injEq] at h
      subst h
      rw [blk_zero, framesB, List.take_left' hl]; rfl
    | succ j =>
      rw [blk_succ, framesB, List.drop_left' hl, ih (i + 1) j p (fun x hx => hs x (by simp [hx])) (by simpa using h)]
      congr 2; omega
theorem framesB_of {n : Nat} : ∀ (L : List (UInt8 × Str)) (i : Nat) (b : Str), b.length = L.length * n → (∀ j p, L[j]? = some p → blk b n j = sealB ⟨p.1, i + j, p.2⟩ n) → b = framesB n i L := by
  intro L
  induction L with
  | nil => intro i b hl _; simp at hl; simp [hl, framesB]
  | cons q L ih =>
    intro i b hl h
    rw [List.length_cons, Nat.add_mul, Nat.one_mul] at hl
    have h0 := h 0 q rfl
    rw [blk_zero] at h0
    have hr := ih (i + 1) (b.drop n) (by simp; omega) (fun j p hj => by
      have := h (j + 1) p (by simpa using hj)
      rw [blk_succ] at this
      rw [this]; congr 2; omega)
    rw [framesB, ← hr]
    have h0' : b.take n = sealB ⟨q.1, i, q.2⟩ n := h0
    rw [← h0', List.take_append_drop]
/-- one frame more is sealed -/
theorem frB_seal {b : Str} {k : UInt8} {body : Str} {n i : Nat} (hn : 15 ≤ n ∧ n ≤ 8192) (hb : b.length = i * n) (hl : body.length ≤ n - 15) : frB b k body n = b ++ sealB ⟨k, i, body⟩ n := by
  unfold frB sealR
  rw [hb, Nat.mul_div_cancel _ (by omega), if_pos (by omega), if_pos (by simp only; omega), Int.toNat_natCast]
theorem fill_fit (s : List Fld) (n : Nat) : ∀ (g : List Ent) (B P : Str), P.length + (bodyG s g).length ≤ n - 15 → g.foldl (fillE s n) (B, P) = (B, P ++ bodyG s g) := by
  intro g
  induction g with
  | nil => intro B P _; simp [bodyG]
  | cons x g ih =>
    intro B P h
    have e : bodyG s (x :: g) = entB s x ++ bodyG s g := by unfold bodyG; simp
    rw [e, List.length_append] at h
    rw [List.foldl_cons, fillE, if_neg (by dsimp only; omega)]
    rw [ih B (P ++ entB s x) (by rw [List.length_append]; omega), e, List.append_assoc]
/-- the entries' last frame is closed -/
def closeF (n : Nat) (q : Str × Str) : Str := if q.2 = [] then q.1 else frB q.1 69 q.2 n
theorem fill_groups (s : List Fld) {n : Nat} (hn : 15 ≤ n ∧ n ≤ 8192) : ∀ (gs : List (List Ent)) (B P : Str) (i : Nat), B.length = i * n → P ≠ [] → P.length ≤ n - 15 → packG s (n - 15) P.length gs →
    closeF n (gs.flatten.foldl (fillE s n) (B, P)) = B ++ framesB n i ((69, P) :: gs.map fun g => (69, bodyG s g)) := by
  intro gs
  induction gs with
  | nil =>
    intro B P i hB hP hl _
    have e : closeF n (B, P) = frB B 69 P n := by unfold closeF; exact if_neg hP
    simp only [List.flatten_nil, List.foldl_nil, List.map_nil, framesB, List.append_nil]
    rw [e, frB_seal hn hB hl]
  | cons g gs ih =>
    intro B P i hB hP hl hp
    obtain ⟨p1, p2, p3, p4⟩ := hp
    cases g with
    | nil => exact absurd rfl p1
    | cons x g =>
      have e : bodyG s (x :: g) = entB s x ++ bodyG s g := by unfold bodyG; simp
      have hB' : (frB B 69 P n).length = (i + 1) * n := by
        rw [frB_seal hn hB hl, List.length_append, sealB_len hn.1 hl, hB, Nat.add_mul, Nat.one_mul]
      rw [List.flatten_cons, List.foldl_append, List.foldl_cons, fillE, if_pos (show n - 15 < P.length + (entB s x).length from p2),
        fill_fit s n g (frB B 69 P n) (entB s x) (by rw [← List.length_append, ← e]; exact p3), ← e, ih _ _ (i + 1) hB' (bodyG_ne (by simp)) p3 p4, frB_seal hn hB hl]
      simp only [List.map_cons, framesB, List.append_assoc]
theorem dumpR_frames (s : List Fld) (q : Nat) {n : Nat} (gs : List (List Ent)) (hn : 160 ≤ n ∧ n ≤ 8192) (h0 : (body0 s q).length ≤ n - 15) {bf : Nat} (hp : packG s (n - 15) bf gs) :
    dumpR s q gs.flatten n = framesB n 0 ((72, body0 s q) :: ((gs.map fun g => (69, bodyG s g)) ++ [(90, tailB s q gs.flatten)])) := by
  have hn' : 15 ≤ n ∧ n ≤ 8192 := by omega
  have hd : dumpR s q gs.flatten n = frB (closeF n (fillAll s q gs.flatten n)) 90 (tailB s q gs.flatten) n := rfl
  have hsmall : ∀ (bf : Nat) (gs : List (List Ent)), packG s (n - 15) bf gs → ∀ p ∈ gs.map (fun g => ((69 : UInt8), bodyG s g)), p.2.length ≤ n - 15 := by
    intro bf gs
    induction gs generalizing bf with
    | nil => intro _ p hp; simp at hp
    | cons g gs ih =>
      intro h p hp
      rcases List.mem_cons.1 hp with rfl | hp
      · exact h.2.2.1
      · exact ih _ h.2.2.2 p hp
  have hB1 : frB [] 72 (body0 s q) n = sealB ⟨72, 0, body0 s q⟩ n := by
    rw [frB_seal (i := 0) hn' (by simp) h0]; rfl
  have hcl : closeF n (fillAll s q gs.flatten n) = framesB n 0 ((72, body0 s q) :: gs.map fun g => (69, bodyG s g)) := by
    unfold fillAll
    rw [hB1]
    have hBl : (sealB ⟨72, 0, body0 s q⟩ n).length = 1 * n := by rw [sealB_len hn'.1 h0, Nat.one_mul]
    cases gs with
    | nil => simp [closeF, framesB]
    | cons g gs =>
      obtain ⟨p1, p2, p3, p4⟩ := hp
      rw [List.flatten_cons, List.foldl_append, fill_fit s n g _ [] (by simpa using p3), List.nil_append, fill_groups s hn' gs _ _ 1 hBl (bodyG_ne p1) p3 p4]
      simp only [framesB, List.map_cons]
  have htl : (tailB s q gs.flatten).length ≤ n - 15 := by unfold tailB; simp [low_len]; omega
  have hsm : SmallF n ((72, body0 s q) :: gs.map fun g => (69, bodyG s g)) := by
    intro p hp'
    rcases List.mem_cons.1 hp' with rfl | hp'
    · exact h0
    · exact hsmall _ _ hp p hp'
  have hlen := framesB_len hn'.1 _ 0 hsm
  rw [hd, hcl, frB_seal hn' hlen htl, ← List.cons_append, framesB_append]
  simp [framesB]
/-- the greedy grouping -/
def grp (s : List Fld) (room : Nat) : List Ent → List Ent → List (List Ent)
  | g, [] => [g]
  | g, x :: r => if (bodyG s g).length + (entB s x).length ≤ room then grp s room (g ++ [x]) r else g :: grp s room [x] r
theorem grp_flatten (s : List Fld) (room : Nat) : ∀ (r g : List Ent), (grp s room g r).flatten = g ++ r := by
  intro r
  induction r with
  | nil => intro g; simp [grp]
  | cons x r ih =>
    intro g
    rw [grp]
    split
    · rw [ih]; simp
    · rw [List.flatten_cons, ih]; simp
theorem bodyG_one (s : List Fld) (x : Ent) : bodyG s [x] = entB s x := by unfold bodyG; simp
theorem grp_pack (s : List Fld) (room : Nat) (hroom : 82 ≤ room) : ∀ (r g : List Ent) (bf : Nat), g ≠ [] → firstOk s room bf g → (bodyG s g).length ≤ room → (∀ x ∈ r, EntV s x) → packG s room bf (grp s room g r) := by
  intro r
  induction r with
  | nil => intro g bf h1 h2 h3 _; exact ⟨h1, h2, h3, trivial⟩
  | cons x r ih =>
    intro g bf h1 h2 h3 hv
    have hx := (entV_len (hv x (by simp))).2
    rw [grp]
    split
    · rename_i hfit
      refine ih (g ++ [x]) bf (by simp) ?_ ?_ (fun y hy => hv y (by simp [hy]))
      · cases g with
        | nil => exact absurd rfl h1
        | cons y g => exact h2
      · rw [bodyG_append, bodyG_one, List.length_append]; exact hfit
    · rename_i hfit
      refine ⟨h1, h2, h3, ih [x] _ (by simp) ?_ ?_ (fun y hy => hv y (by simp [hy]))⟩
      · show room < (bodyG s g).length + (entB s x).length; omega
      · rw [bodyG_one]; omega
end Go.Proofs.YtebkaacflocfcaaDoor.Ab

/- Plain: both Checks of a dump tell the same. -/
namespace Go.Proofs.YtebkaacflocfcaaDoor.Ab
open Go
set_option linter.unusedSimpArgs false
set_option linter.unusedVariables false

theorem printD_127 (s : List Fld) : (printD s).length ≤ 127 := by
  unfold printD
  split
  · rename_i h
    have h8 := name_len8 h
    have hl := (schema_len8 h).2
    have key : ∀ r : List Fld, (∀ f ∈ r, f.name.length ≤ 8) → (r.flatMap fun f => 44 :: fldS f).length ≤ r.length * 16 := by
      intro r
      induction r with
      | nil => intro _; simp
      | cons f r ih =>
        intro h
        have h1 := ih fun g hg => h g (by simp [hg])
        have h2 := fldS_len f
        have h3 := h f (by simp)
        simp only [List.flatMap_cons, List.length_append, List.length_cons]
        omega
    cases s with
    | nil => simp [joinS]
    | cons f r =>
      have h1 := key r fun g hg => h8 g (by simp [hg])
      have h2 := fldS_len f
      have h3 := h8 f (by simp)
      simp only [List.length_cons] at hl
      simp only [joinS, List.length_append]
      omega
  · simp
theorem mid_flat (s : List Fld) (b : Str) (n : Nat) : ∀ (gs : List (List Ent)) (i : Nat), FrG s b n i gs → ValG s gs → mid s b n i gs.length = some gs.flatten := by
  intro gs
  induction gs with
  | nil => intro i _ _; rfl
  | cons g gs ih =>
    intro i hF hv
    rw [List.length_cons, mid, hF.1]
    dsimp only
    have hr : readE s (bodyG s g) = some g := readF_flat s g _ (fun x hx => hv g (by simp) x hx) (Nat.le_refl _)
    rw [if_pos rfl, hr]
    dsimp only
    rw [ih (i + 1) hF.2 (fun x hx => hv x (by simp [hx]))]
    simp
theorem mid_val (s : List Fld) (b : Str) (n : Nat) : ∀ (k i : Nat) (l : List Ent), mid s b n i k = some l → ∀ x ∈ l, EntV s x := by
  intro k
  induction k with
  | zero => intro i l h; simp only [mid, Option.some.injEq] at h; subst h; simp
  | succ k ih =>
    intro i l h
    rw [mid] at h
    split at h
    · split at h
      · cases h
      · rename_i y hy
        simp only [Option.map_eq_some_iff] at h
        obtain ⟨l', h1, rfl⟩ := h
        intro x hx
        rcases List.mem_append.1 hx with hx | hx
        · exact (readF_inv s _ _ _ (Nat.le_refl _) hy).2 x hx
        · exact ih _ _ h1 x hx
    · cases h
theorem FrG_of (s : List Fld) (b : Str) (n : Nat) : ∀ (gs : List (List Ent)) (i : Nat), (∀ j g, gs[j]? = some g → openR (blk b n (i + j)) = (⟨69, i + j, bodyG s g⟩, 0)) → FrG s b n i gs := by
  intro gs
  induction gs with
  | nil => intro i _; trivial
  | cons g gs ih =>
    intro i h
    refine ⟨h 0 g rfl, ih (i + 1) fun j g' hj => ?_⟩
    have := h (j + 1) g' (by simpa using hj)
    rw [show i + 1 + j = i + (j + 1) by omega]; exact this
theorem FrG_get (s : List Fld) (b : Str) (n : Nat) : ∀ (gs : List (List Ent)) (i : Nat), FrG s b n i gs → ∀ j g, gs[j]? = some g → openR (blk b n (i + j)) = (⟨69, i + j, bodyG s g⟩, 0) := by
  intro gs
  induction gs with
  | nil => intro i _ j g h; simp at h
  | cons g gs ih =>
    intro i hF j g' h
    cases j with
    | zero => simp only [List.getElem?_cons_zero, Option.some.injEq] at h; subst h; exact hF.1
    | succ j =>
      have := ih (i + 1) hF.2 j g' (by simpa using h)
      rw [show i + (j + 1) = i + 1 + j by omega]; exact this
theorem blk_full {b : Str} {n j : Nat} (h : (j + 1) * n ≤ b.length) : (blk b n j).length = n := by
  unfold blk
  rw [Nat.add_mul, Nat.one_mul] at h
  simp; omega
theorem openR_blk {b : Str} {n j : Nat} {f : Frm} (hl : (j + 1) * n ≤ b.length) (h : openR (blk b n j) = (f, 0)) : blk b n j = sealB f n := by
  have := (openR_room h).2.1
  rw [blk_full hl] at this
  exact this
theorem low_take {H : Str} (h : 8 ≤ H.length) : low (num (H.take 8)) 8 = H.take 8 := by
  have hl : (H.take 8).length = 8 := by simp; omega
  have := low_num (H.take 8)
  rwa [hl] at this
theorem getL {a : UInt8 × Str} {M : List (UInt8 × Str)} {z : UInt8 × Str} {j : Nat} {p : UInt8 × Str} (h : (a :: (M ++ [z]))[j]? = some p) : (j = 0 ∧ p = a) ∨ (∃ i, j = i + 1 ∧ M[i]? = some p) ∨ (j = M.length + 1 ∧ p = z) := by
  cases j with
  | zero => left; simp at h; exact ⟨rfl, h.symm⟩
  | succ j =>
    right
    simp only [List.getElem?_cons_succ] at h
    rcases Nat.lt_or_ge j M.length with hlt | hge
    · rw [List.getElem?_append_left hlt] at h; exact .inl ⟨j, rfl, h⟩
    · rw [List.getElem?_append_right hge] at h
      have : j - M.length = 0 := by
        rcases Nat.eq_zero_or_pos (j - M.length) with h' | h'
        · exact h'
        · rw [List.getElem?_eq_none (by simp; omega)] at h; cases h
      rw [this] at h
      simp at h
      exact .inr ⟨by omega, h.symm⟩
/-- A -/
theorem openI_good {b : Str} {n : Nat} (hn : 160 ≤ n ∧ n ≤ 8192) {s : List Fld} {q cnt sm : Nat} (h : openI b n = ((s, q, cnt), false, sm)) : ∃ l, goodO b n = some (s, q, l) ∧ l.length = cnt := by
  obtain ⟨N, hN⟩ : ∃ N, N = b.length / n := ⟨_, rfl⟩
  have hdm := Nat.div_add_mod b.length n
  unfold openI at h
  rw [← hN] at h hdm
  split at h
  · simp at h
  · rename_i h1
    have hR : b.length % n = 0 := by omega
    rw [hR, Nat.add_zero, Nat.mul_comm] at hdm
    split at h
    · simp at h
    · rename_i h2
      simp only [not_or, Bool.not_eq_true] at h2
      obtain ⟨H, hH⟩ := frmBad_iff.1 h2.1
      have hPb : (openP (blk b n 0)).1.body = H := by rw [openP_eq, hH]
      rw [hPb] at h h2
      split at h
      · simp at h
      · rename_i h3
        dsimp only at h
        cases hp : parseR (H.drop 8) with
        | mk s' e' =>
          rw [hp] at h h3
          dsimp only at h h3
          have he' : e' = 0 := by simpa using h3
          subst he'
          cases ho : outP s' b n (n - 15) (N - 2) 1 (extN 0 H) [] (n - 15) 0 with
          | mk bad2 o2 =>
            obtain ⟨sm2, cnt2⟩ := o2
            rw [ho] at h
            simp only [Prod.mk.injEq, Bool.or_eq_false_iff, decide_eq_false_iff_not, ne_eq, Decidable.not_not] at h
            obtain ⟨⟨rfl, rfl, rfl⟩, ⟨⟨rfl, hb3⟩, hT⟩, _⟩ := h
            obtain ⟨T, hTT⟩ := frmBad_iff.1 hb3
            have hPT : (openP (blk b n (N - 1))).1.body = T := by rw [openP_eq, hTT]
            rw [hPT] at hT
            obtain ⟨gs, g1, g2, g3, g4, g5, g6, g7⟩ := outP_inv s' b n (N - 2) 1 (extN 0 H) [] (n - 15) 0 sm2 cnt2 (extN_lt _ _) ho
            obtain ⟨hse, hpr⟩ := parse_print hp
            have hb0 : body0 s' (num (H.take 8)) = H := by
              unfold body0; rw [low_take (by omega), hpr, List.take_append_drop]
            have hH15 : H.length ≤ n - 15 := (openR_room hH).1
            have hval : ∀ x ∈ gs.flatten, EntV s' x := by
              intro x hx
              obtain ⟨g, hg, hxg⟩ := List.mem_flatten.1 hx
              exact g4 g hg x hxg
            have hread : readO b n = some (s', num (H.take 8), gs.flatten) := by
              unfold readO
              rw [← hN, hR, if_pos ⟨by omega, rfl⟩]
              have hop : openR (b.take n) = (⟨72, 0, H⟩, 0) := by rw [← blk_zero]; exact hH
              rw [hop]
              dsimp only
              rw [if_pos ⟨rfl, by omega⟩, hp]
              dsimp only
              rw [if_pos rfl, ← g1, mid_flat s' b n gs 1 g2 g4]
              dsimp only
              rw [if_pos ((risE_nil hval).2 g5)]
            have hfr : dumpR s' (num (H.take 8)) gs.flatten n = b := by
              rw [dumpR_frames s' _ gs hn (by rw [hb0]; exact hH15) g3]
              symm
              refine framesB_of _ 0 b ?_ fun j p hj => ?_
              · simp only [List.length_cons, List.length_append, List.length_map, List.length_nil, g1]
                rw [show N - 2 + (0 + 1) + 1 = N by omega, hdm]
              · have hjN : j < N := by
                  have := (List.getElem?_eq_some_iff.1 hj).1
                  simp only [List.length_cons, List.length_append, List.length_map, List.length_nil, g1] at this
                  omega
                have hfull : (j + 1) * n ≤ b.length := by rw [← hdm]; exact Nat.mul_le_mul_right _ hjN
                rw [Nat.zero_add]
                rcases getL hj with ⟨rfl, rfl⟩ | ⟨i, rfl, hi⟩ | ⟨hjl, rfl⟩
                · rw [hb0]; exact openR_blk hfull hH
                · rw [List.getElem?_map] at hi
                  simp only [Option.map_eq_some_iff] at hi
                  obtain ⟨g, hg, rfl⟩ := hi
                  have := FrG_get s' b n gs 1 g2 i g hg
                  rw [show 1 + i = i + 1 by omega] at this
                  exact openR_blk hfull this
                · rw [List.length_map, g1] at hjl
                  have hj1 : j = N - 1 := by omega
                  subst hj1
                  have htl : tailB s' (num (H.take 8)) gs.flatten = T := by
                    unfold tailB allB
                    rw [hb0, extN_append]
                    have hb : bodyG s' gs.flatten = gs.flatten.flatMap (entB s') := rfl
                    rw [← hb, ← g6, hT]
                    unfold wantP
                    rw [g7, Nat.zero_add]
                  rw [htl]; exact openR_blk hfull hTT
            refine ⟨gs.flatten, ?_, by rw [g7]; omega⟩
            unfold goodO
            rw [hread]
            dsimp only
            rw [if_pos hfr]
/-- B -/
theorem good_openI {b : Str} {n : Nat} (hn : 160 ≤ n ∧ n ≤ 8192) (hbl : b.length ≤ 1100000) {s : List Fld} {q : Nat} {l : List Ent} (h : goodO b n = some (s, q, l)) : (openI b n).1 = (s, q, l.length) ∧ (openI b n).2.1 = false := by
  have hn' : 15 ≤ n ∧ n ≤ 8192 := by omega
  unfold goodO at h
  cases hr : readO b n with
  | none => rw [hr] at h; cases h
  | some p =>
    rw [hr] at h
    dsimp only at h
    split at h
    · rename_i hd
      cases h
      dsimp only at hd
      unfold readO at hr
      split at hr
      · rename_i h1
        split at hr
        · rename_i h2
          split at hr
          · rename_i h3
            split at hr
            · cases hr
            · rename_i l' hmid
              split at hr
              · rename_i hris
                simp only [Option.some.injEq, Prod.mk.injEq] at hr
                obtain ⟨rfl, rfl, rfl⟩ := hr
                obtain ⟨N, hN⟩ : ∃ N, N = b.length / n := ⟨_, rfl⟩
                obtain ⟨F, hF⟩ : ∃ F, F = openR (b.take n) := ⟨_, rfl⟩
                rw [← hF] at h2 h3 hmid hd ⊢
                obtain ⟨⟨k0, g0, H⟩, e0⟩ := F
                dsimp only at h2 h3 hmid hd ⊢
                cases hp : parseR (H.drop 8) with
                | mk s e =>
                  rw [hp] at h3 hmid hd
                  dsimp only at h3 hmid hd ⊢
                  subst h3
                  obtain ⟨hse, hpr⟩ := parse_print hp
                  have hval := mid_val s b n _ _ _ hmid
                  have hch := (risE_nil hval).1 hris
                  -- the groups
                  obtain ⟨gs, hgf, hgp⟩ : ∃ gs : List (List Ent), gs.flatten = l' ∧ packG s (n - 15) (n - 15) gs := by
                    cases l' with
                    | nil => exact ⟨[], rfl, trivial⟩
                    | cons x r =>
                      have hx := entV_len (hval x (by simp))
                      refine ⟨grp s (n - 15) [x] r, by rw [grp_flatten]; rfl, grp_pack s (n - 15) (by omega) r [x] (n - 15) (by simp) ?_ (by rw [bodyG_one]; omega) (fun y hy => hval y (by simp [hy]))⟩
                      show n - 15 < n - 15 + (entB s x).length
                      omega
                  have hgv : ValG s gs := by
                    intro g hg x hx
                    exact hval x (by rw [← hgf]; exact List.mem_flatten.2 ⟨g, hg, hx⟩)
                  have hb0l : (body0 s (num (H.take 8))).length ≤ n - 15 := by
                    unfold body0; rw [List.length_append, low_len]; have := printD_127 s; omega
                  have hfr := dumpR_frames s (num (H.take 8)) gs hn hb0l hgp
                  rw [hgf, hd] at hfr
                  obtain ⟨L, hL⟩ : ∃ L, L = ((72 : UInt8), body0 s (num (H.take 8))) :: ((gs.map fun g => ((69 : UInt8), bodyG s g)) ++ [(90, tailB s (num (H.take 8)) l')]) := ⟨_, rfl⟩
                  rw [← hL] at hfr
                  have htl : (tailB s (num (H.take 8)) l').length ≤ n - 15 := by unfold tailB; simp [low_len]; omega
                  have hpk : ∀ (bf : Nat) (gs : List (List Ent)), packG s (n - 15) bf gs → ∀ g ∈ gs, (bodyG s g).length ≤ n - 15 := by
                    intro bf gs
                    induction gs generalizing bf with
                    | nil => intro _ g hg; simp at hg
                    | cons g gs ih =>
                      intro h g' hg'
                      rcases List.mem_cons.1 hg' with rfl | hg'
                      · exact h.2.2.1
                      · exact ih _ h.2.2.2 g' hg'
                  have hsm : SmallF n L := by
                    intro p hp'
                    rw [hL] at hp'
                    rcases List.mem_cons.1 hp' with rfl | hp'
                    · exact hb0l
                    · rcases List.mem_append.1 hp' with hp' | hp'
                      · obtain ⟨g, hg, rfl⟩ := List.mem_map.1 hp'
                        exact hpk _ _ hgp g hg
                      · rw [List.mem_singleton.1 hp']; exact htl
                  have hlen := framesB_len hn'.1 L 0 hsm
                  rw [← hfr] at hlen
                  have hLl : L.length = gs.length + 2 := by rw [hL]; simp
                  have hNL : N = gs.length + 2 := by rw [hN, hlen, Nat.mul_div_cancel _ (by omega), hLl]
                  have hNb : N ≤ b.length := by rw [hN]; exact Nat.div_le_self _ _
                  have hopen : ∀ j p, L[j]? = some p → openR (blk b n j) = (⟨p.1, j, p.2⟩, 0) := by
                    intro j p hj
                    have hjl := (List.getElem?_eq_some_iff.1 hj).1
                    have := blk_framesB hn'.1 L 0 j p hsm hj
                    rw [← hfr, Nat.zero_add] at this
                    rw [this]
                    exact openR_seal hn' (hsm p (List.mem_of_getElem? hj)) (by dsimp only; omega)
                  have ho0 := hopen 0 (72, body0 s (num (H.take 8))) (by rw [hL]; rfl)
                  dsimp only at ho0
                  have hHb : body0 s (num (H.take 8)) = H := by
                    rw [blk_zero, ← hF] at ho0
                    simp only [Prod.mk.injEq, Frm.mk.injEq] at ho0
                    exact ho0.1.2.2.symm
                  have hoT := hopen (gs.length + 1) (90, tailB s (num (H.take 8)) l') (by rw [hL, List.getElem?_cons_succ, List.getElem?_append_right (by simp)]; simp)
                  dsimp only at hoT
                  have hFr : FrG s b n 1 gs := FrG_of s b n gs 1 fun j g hj => by
                    have := hopen (j + 1) (69, bodyG s g) (by
                      rw [hL, List.getElem?_cons_succ, List.getElem?_append_left (by simp; exact (List.getElem?_eq_some_iff.1 hj).1), List.getElem?_map, hj]; rfl)
                    rw [show 1 + j = j + 1 by omega]; exact this
                  have hP0 : (openP (blk b n 0)).1.body = H := by rw [openP_eq, ho0]; exact hHb
                  have hPT : (openP (blk b n (gs.length + 1))).1.body = tailB s (num (H.take 8)) l' := by rw [openP_eq, hoT]
                  have hbad0 : frmBad b n 0 72 = false := frmBad_iff.2 ⟨_, ho0⟩
                  have hbadT : frmBad b n (gs.length + 1) 90 = false := frmBad_iff.2 ⟨_, hoT⟩
                  have hout := outP_flat s b n gs 1 (extN 0 H) [] (n - 15) 0 (extN_lt _ _) hFr hgp hgv (by rw [hgf]; exact hch)
                  rw [hgf] at hout
                  have hT : tailB s (num (H.take 8)) l' = wantP (0 + l'.length) (extN (extN 0 H) (bodyG s l')) := by
                    unfold tailB allB wantP
                    rw [hHb, extN_append, Nat.zero_add]; rfl
                  have hoI : openI b n = ((s, num (H.take 8), 0 + l'.length), (false || false) || decide (tailB s (num (H.take 8)) l' ≠ wantP (0 + l'.length) (extN (extN 0 H) (bodyG s l'))), extN (extN (extN 0 H) (bodyG s l')) (tailB s (num (H.take 8)) l')) := by
                    unfold openI
                    rw [← hN, if_neg (by have := h1.2; omega), hP0, hbad0, if_neg (by simp; omega), hp]
                    dsimp only
                    rw [if_neg (by simp), show N - 2 = gs.length by omega, show N - 1 = gs.length + 1 by omega, hout]
                    dsimp only
                    rw [hbadT, hPT]
                  rw [hoI, hT]
                  simp
              · cases hr
          · cases hr
        · cases hr
      · cases hr
    · cases h
theorem check_same (b : Str) (n : Int) (hb : b.length ≤ 1100000) : checkPR b n = checkR b n := by
  unfold checkPR checkR
  split
  · rename_i hn
    obtain ⟨m, rfl⟩ : ∃ m : Nat, n = m := ⟨n.toNat, by omega⟩
    rw [Int.toNat_natCast]
    have hm : 160 ≤ m ∧ m ≤ 8192 := by omega
    cases ho : openI b m with
    | mk i p =>
      obtain ⟨bad, sm⟩ := p
      obtain ⟨s, q, cnt⟩ := i
      cases bad with
      | false =>
        obtain ⟨l, h1, h2⟩ := openI_good hm ho
        rw [h1]
        dsimp only
        rw [if_neg (by simp), h2]
      | true =>
        cases hg : goodO b m with
        | none => simp
        | some r =>
          obtain ⟨s', q', l⟩ := r
          have := (good_openI hm hb hg).2
          rw [ho] at this
          cases this
  · rfl
end Go.Proofs.YtebkaacflocfcaaDoor.Ab
