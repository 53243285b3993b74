/- The abstract operations are sound: second half. -/
import Derived.Laws.MakeOwn
import Derived.Laws.CopyRow
import Derived.Test.YtebkaacflocfcaaDoorM1
set_option linter.unusedVariables false
set_option linter.unusedSimpArgs false
set_option linter.defProp false
/- Slices that are filled in place: how they are made, and how they become data. -/
namespace Go.Proofs.YtebkaacflocfcaaDoor.Ab
open Go
set_option linter.unusedVariables false
set_option linter.unusedSimpArgs false

section
variable {Γ : Ctx} {nt : Nat} {w0 : World} {com0 : (Nat → Nat) × (Nat → Nat)} {os ps : List Nat} {G : Gh} {e : Env} {a : Act} {w : World} {Q : Exit → Act → World → Prop}

theorem forget_unbox (e : Env) (b g : Nat) (xs : List D) : (e.forget b g).unbox b g xs = e.unbox b g xs := by
  simp only [Env.forget, Env.unbox, Env.mk.injEq, true_and, and_true]
  funext b' g' o'
  by_cases h : b' = b ∧ g' = g <;> simp [h]

/-- such a slice becomes data -/
theorem Rel.unbox (h : Rel Γ nt w0 com0 os ps G e a w) {b g n sz : Nat} {xs : List D} (hg : e.gb b = g + 1) (hb : b < 100000) (hn : xs.length = n)
    (hx : ∀ (i : Nat) (x : D), xs[i]? = some x → x.cnt = sz ∧ x.isTup = false ∧ ∀ (j : Nat) (d : D), x.cells[j]? = some d → d.flat = true ∧ ∃ v, w.cell? ⟨G.β b g, i * sz + j, none⟩ = some v ∧ Den w G.com d v) :
    ∃ G', Rel Γ nt w0 com0 os ps G' (e.unbox b g xs) a w ∧ Den w G'.com (.sl xs) (.slice (some ⟨G.β b g, 0, none⟩) n n) := by
  have hlt : g < e.gb b := by omega
  obtain ⟨p1, p2, arr, E, p3, p4⟩ := h.bx b g hlt
  obtain ⟨κ, hκ⟩ : ∃ κ, κ = G.β b g := ⟨_, rfl⟩
  rw [← hκ] at p1 p2 p3 hx ⊢
  let G' : Gh := { G with com := fun k => if k = κ then n * sz else G.com k, ρ := fun k => if k = κ then .ext else G.ρ k }
  have hksz : κ < w.heap.size := (Array.getElem?_eq_some_iff.1 p3).1
  have ag : Agree w w G.com G'.com := ⟨fun _ _ _ => rfl, fun k => by
    simp only [G']; split
    · rename_i hk; rw [hk, p2]; exact Nat.zero_le _
    · exact Nat.le_refl _⟩
  have hden : Den w G'.com (.sl xs) (.slice (some ⟨κ, 0, none⟩) n n) := by
    simp only [Den]
    refine ⟨some ⟨κ, 0, none⟩, n, by rw [hn], by omega, rfl, sz, DenM_of fun i x hi => ?_⟩
    obtain ⟨h1, h2, h3⟩ := hx i x hi
    have hil : i < n := by
      rw [← hn]
      rcases Nat.lt_or_ge i xs.length with h' | h'
      · exact h'
      · rw [List.getElem?_eq_none h'] at hi; cases hi
    have hmul : i * sz + sz ≤ n * sz := by rw [← Nat.succ_mul]; exact Nat.mul_le_mul_right _ hil
    refine ⟨h1, ?_⟩
    have cell : ∀ (j : Nat) (d : D), x.cells[j]? = some d → ∃ v, At w G'.com κ (0 + i * sz + j) v ∧ d.flat = true ∧ Den w G'.com d v := by
      intro j d hj
      obtain ⟨k1, v, k2, k3⟩ := h3 j d hj
      have hjl : j < sz := by
        rw [← h1]; unfold D.cnt
        rcases Nat.lt_or_ge j x.cells.length with h' | h'
        · exact h'
        · rw [List.getElem?_eq_none h'] at hj; cases hj
      refine ⟨v, ⟨?_, by rw [Nat.zero_add]; exact k2⟩, k1, Den.mono ag d v k3⟩
      simp only [G', if_true]; omega
    cases x with
    | agg ds => exact DenR_of fun j d hj => cell j d hj
    | tup ds => cases h2
    | int k m => exact cell 0 _ rfl
    | bool k => exact cell 0 _ rfl
    | str k => exact cell 0 _ rfl
    | nil => exact cell 0 _ rfl
    | sl k => exact cell 0 _ rfl
  have gbn : ∀ b', (e.unbox b g xs).gb b' = if b' = b then g else e.gb b' := fun _ => rfl
  have other : ∀ b' g', g' < e.gb b' → ¬ (b' = b ∧ g' = g) → g' < (e.unbox b g xs).gb b' := by
    intro b' g' h1 h2
    rw [gbn]; split
    · rename_i hb'; subst hb'
      rcases Nat.lt_or_ge g' g with h3 | h3
      · exact h3
      · exact absurd ⟨rfl, by omega⟩ h2
    · exact h1
  have frel : ∀ (x : AV) (v : Value), AVRel w G e x v → AVRel w G' (e.unbox b g xs) (frz b g xs x) v := by
    intro x v hx'
    cases x with
    | no => trivial
    | val d => exact Den.mono ag d v hx'
    | rp d => obtain ⟨b', o, rfl, hd⟩ := hx'; exact ⟨b', o, rfl, DenC.mono ag d b' o hd⟩
    | own c k g' d =>
      obtain ⟨h1, h2, h3⟩ := hx'
      refine ⟨h1, Den.mono ag d v h2, fun hl => ?_⟩
      rcases h3 hl with h3 | ⟨ys, rfl, hρ, hh⟩
      · exact .inl h3
      · have hne : G.κ c k g' ≠ κ := by intro he; rw [he, p1] at hρ; cases hρ
        obtain ⟨cap, sz', arr', E', q1, q2, q3, q4, q5, q6, q7, q8⟩ := hh
        exact .inr ⟨ys, rfl, by simp only [G']; rw [if_neg hne]; exact hρ, cap, sz', arr', E', q1, q2, q3, q4, q5, q6, by simp only [G']; rw [if_neg hne]; exact q7, q8⟩
    | bx b' g' o =>
      simp only [frz]
      split
      · trivial
      · rename_i hne; exact ⟨other _ _ hx'.1 hne, hx'.2⟩
    | cl f b' g' =>
      simp only [frz]
      split
      · trivial
      · rename_i hne; exact ⟨other _ _ hx'.1 hne, hx'.2⟩
    | ms b' g' n' sz' =>
      simp only [frz]
      split
      · rename_i he
        obtain ⟨rfl, rfl⟩ := he
        split
        · rename_i hnn
          obtain ⟨_, rfl⟩ := hx'
          show Den w G'.com _ _
          rw [← hκ, hnn, hn]; exact hden
        · trivial
      · rename_i hne; exact ⟨other _ _ hx'.1 hne, hx'.2⟩
  have kold : κ < w0.heap.size → κ ∈ os := fun hlt0 => by
    refine Decidable.byContradiction fun hno => ?_
    by_cases hp : κ ∈ ps
    · obtain ⟨b', g', e1, e2, e3, e4⟩ := h.fr.pbox κ hp
      rw [p1] at e1; injection e1 with e1 _; omega
    · have := h.fr.ext_old κ hlt0 hno hp; rw [p1] at this; cases this
  have kps : κ ∉ ps := fun hp => by
    obtain ⟨b', g', e1, e2, e3, e4⟩ := h.fr.pbox κ hp
    rw [p1] at e1; injection e1 with e1 _; omega
  refine ⟨G', ⟨h.nt, fun t => frel _ _ (h.tm t), h.defers, fun b' g' hg' => ?_, fun k hk => ?_, fun k hk => ?_, fun g' d hd => DenC.mono ag d g' 0 (h.glob g' d hd), ?_, fun k b' g' hk => ?_⟩, hden⟩
  · have hold : g' < e.gb b' ∧ ¬ (b' = b ∧ g' = g) := by
      rw [gbn] at hg'
      split at hg'
      · rename_i hb'; subst hb'; exact ⟨by omega, fun hh => by omega⟩
      · rename_i hb'; exact ⟨hg', fun hh => hb' hh.1⟩
    obtain ⟨r1, r2, arr', E', r3, r4⟩ := h.bx b' g' hold.1
    have hne : G.β b' g' ≠ κ := by
      intro he; rw [he, p1] at r1; injection r1 with e1 e2; exact hold.2 ⟨e1.symm, e2.symm⟩
    refine ⟨by simp only [G']; rw [if_neg hne]; exact r1, by simp only [G']; rw [if_neg hne]; exact r2, arr', E', r3, fun o ho => ?_⟩
    have hbx : (e.unbox b g xs).bx b' g' o = frz b g xs (e.bx b' g' o) := by simp only [Env.unbox]; rw [if_neg hold.2]
    rw [hbx] at ho ⊢
    obtain ⟨v, q1, q2, q3⟩ := r4 o (fun hno => by rw [hno] at ho; exact ho rfl)
    exact ⟨v, q1, q2, frel _ _ q3⟩
  · simp only [G']; split
    · rfl
    · exact h.ext k hk
  · simp only [G']; rw [if_neg (by omega)]; exact h.com_new k hk
  · have f := h.fr
    refine ⟨f.osame, f.tape, f.output, f.size, f.old, fun k hk hno => ?_, f.agree.trans ag, f.psz, fun k h1 h2 h3 => ?_, fun k hk => ?_⟩
    · simp only [G']; rw [if_neg (fun he => hno (by rw [he]; exact kold (by rw [← he]; exact hk)))]; exact f.com_old k hk hno
    · simp only [G']; split
      · rfl
      · exact f.ext_old k h1 h2 h3
    · obtain ⟨b', g', e1, hpp⟩ := f.pbox k hk
      exact ⟨b', g', by simp only [G']; rw [if_neg (fun he => kps (by rw [← he]; exact hk))]; exact e1, hpp⟩
  · simp only [G'] at hk
    split at hk
    · cases hk
    · rename_i hne
      obtain ⟨r1, r2⟩ := h.rb k b' g' hk
      refine ⟨other _ _ r1 ?_, r2⟩
      rintro ⟨rfl, rfl⟩
      exact hne (by rw [hκ]; exact r2.symm)

/-- a box's block is filled anew -/
theorem Rel.pokeRow (h : Rel Γ nt w0 com0 os ps G e a w) {b g : Nat} (hg : g < e.gb b) {arr arr' : Array Value} {E : TypeId} (hh : w.heap[G.β b g]? = some (.cells arr E (0, 0))) (hsz : arr'.size = arr.size) :
    Rel Γ nt w0 com0 os ps G (e.forget b g) a (w.setRow (G.β b g) arr') ∧ Agree w (w.setRow (G.β b g) arr') G.com G.com := by
  obtain ⟨p1, p2, parr, pE, p3, p4⟩ := h.bx b g hg
  have here := setRow_heap w (G.β b g) arr arr' E (0, 0) hh
  have heap : ∀ k, k ≠ G.β b g → (w.setRow (G.β b g) arr').heap[k]? = w.heap[k]? := fun k hk => setRow_other w _ k arr' hk
  have hsize : (w.setRow (G.β b g) arr').heap.size = w.heap.size := by simp [World.setRow]
  have ag : Agree w (w.setRow (G.β b g) arr') G.com G.com := ⟨fun b' o' ho' => by
    by_cases hb : b' = G.β b g
    · subst hb; omega
    · exact World.cell?_of_block (a := ⟨b', o', none⟩) (heap b' hb), fun _ => Nat.le_refl _⟩
  have m : Mv w G e (w.setRow (G.β b g) arr') G (e.forget b g) := by
    refine ⟨ag, fun _ => Nat.le_refl _, fun _ _ _ => rfl, fun _ _ => Nat.le_refl _, fun c k g' hg' hl => ⟨hl, rfl, fun hr => ⟨hr, heap _ ?_, rfl⟩⟩⟩
    intro he; rw [he, p1] at hr; cases hr
  refine ⟨⟨h.nt, fun t => (h.tm t).mono m, h.defers, fun b' g' hg' => ?_, ?_, ?_, fun g' d hd => DenC.mono ag d g' 0 (h.glob g' d hd), ?_, h.rb⟩, ag⟩
  · obtain ⟨r1, r2, arr2, E2, r3, r4⟩ := h.bx b' g' hg'
    by_cases hb : b' = b ∧ g' = g
    · obtain ⟨rfl, rfl⟩ := hb
      exact ⟨r1, r2, arr', E, here, fun o' ho' => by simp [Env.forget] at ho'⟩
    · have hne : G.β b' g' ≠ G.β b g := by
        intro he; rw [he, p1] at r1; injection r1 with r1 r2; exact hb ⟨r1.symm, r2.symm⟩
      refine ⟨r1, r2, arr2, E2, by rw [heap _ hne]; exact r3, fun o' ho' => ?_⟩
      have hbx : (e.forget b g).bx b' g' o' = e.bx b' g' o' := by simp only [Env.forget]; rw [if_neg hb]
      rw [hbx] at ho' ⊢
      obtain ⟨u, q1, q2, q3⟩ := r4 o' ho'
      exact ⟨u, q1, q2, q3.mono m⟩
  · intro b' hb'; exact h.ext b' (by rw [hsize] at hb'; exact hb')
  · intro b' hb'; exact h.com_new b' (by rw [hsize] at hb'; exact hb')
  · have f := h.fr
    refine ⟨f.osame, f.tape, f.output, by rw [hsize]; exact f.size, fun b' h1 h2 h3 => ?_, f.com_old, f.agree.trans ag, fun k hk arr2 E2 hw => ?_, f.ext_old, f.pbox⟩
    · have hne : b' ≠ G.β b g := by
        intro he; have := f.ext_old b' h1 h2 h3; rw [he, p1] at this; cases this
      rw [heap _ hne]; exact f.old b' h1 h2 h3
    · obtain ⟨arr3, q1, q2⟩ := f.psz k hk arr2 E2 hw
      by_cases he : k = G.β b g
      · subst he
        rw [q1] at hh; injection hh with hh; injection hh with e1 e2 e3
        subst e1 e2
        exact ⟨_, here, by rw [hsz]; exact q2⟩
      · exact ⟨arr3, by rw [heap _ he]; exact q1, q2⟩

/-- a slice is made -/
theorem Rel.newMs (h : Rel Γ nt w0 com0 os ps G e a w) (b : Nat) (hb : b < nt) (E : TypeId) {v : Value} {z : D} (m : Nat) (hz : Den w G.com z v) (hf : z.cells.all D.flat = true) (hpos : 0 < v.cells.size) (sz : Nat) :
    ∃ G', Rel Γ nt w0 com0 os ps G' ((e.newMs b m z.cells).setT b (.ms b (e.gb b) m sz)) (a.put (some b) (.slice (some ⟨w.heap.size, 0, none⟩) m m)) (w.alloc (.cells (madeCells v.cells (m * v.cells.size)) E)) := by
  obtain ⟨G1, g1, g2, mm, r⟩ := h.newBlock b (madeCells v.cells (m * v.cells.size)) E
  have hlt : e.gb b < (e.newGen b).gb b := by simp [Env.newGen]
  have hL := Den_cells hz
  have hlen : z.cells.length = v.cells.size := by have := DenL_length hL; simpa using this.symm
  have ag := mm.agree
  rw [g1] at ag
  have cg : ∀ x u, AVRel (w.alloc (.cells (madeCells v.cells (m * v.cells.size)) E)) G1 (e.newMs b m z.cells) x u = AVRel (w.alloc (.cells (madeCells v.cells (m * v.cells.size)) E)) G1 (e.newGen b) x u :=
    fun x u => AVRel_congr (e := e.newGen b) (e' := e.newMs b m z.cells) rfl rfl rfl x u
  have r2 : Rel Γ nt w0 com0 os ps G1 (e.newMs b m z.cells) a (w.alloc (.cells (madeCells v.cells (m * v.cells.size)) E)) := by
    refine ⟨r.nt, fun t => by rw [cg]; exact r.tm t, r.defers, fun b' g' hg' => ?_, r.ext, r.com_new, r.glob, r.fr, r.rb⟩
    obtain ⟨r1, r2, arr, E', r3, r4⟩ := r.bx b' g' hg'
    refine ⟨r1, r2, arr, E', r3, fun o ho => ?_⟩
    simp only [Env.newMs] at ho ⊢
    by_cases hh : b' = b ∧ g' = e.gb b
    · obtain ⟨rfl, rfl⟩ := hh
      simp only [and_self, if_true] at ho ⊢
      split at ho
      · rename_i hol
        rw [if_pos hol]
        rw [hlen] at hol ho ⊢
        have hmod : o % v.cells.size < v.cells.size := Nat.mod_lt _ hpos
        obtain ⟨d, hd⟩ : ∃ d, z.cells[o % v.cells.size]? = some d := ⟨_, List.getElem?_eq_getElem (by rw [hlen]; exact hmod)⟩
        rw [hd]
        obtain ⟨u, q1, q2⟩ := DenL_get hL _ d hd
        have hfd := List.all_eq_true.1 hf d (List.mem_of_getElem? hd)
        rw [g2, heap_alloc_new] at r3
        injection r3 with r3; injection r3 with e1 e2 e3
        refine ⟨u, ?_, Den_flat_one hfd q2, ?_⟩
        · rw [← e1]
          simp only [madeCells]
          have hol' : o < (Array.range (m * v.cells.size)).size := by simpa using hol
          rw [Array.getElem?_map, Array.getElem?_eq_getElem hol']
          simp only [Option.map_some, Array.getElem_range]
          have : v.cells[o % v.cells.size]? = some u := by simpa using q1
          rw [getElem!_def, this]
        · show Den _ _ d u
          rw [g1]; exact Den.mono ag d u q2
      · exact absurd rfl ho
    · rw [if_neg hh] at ho ⊢
      have hbx : (e.newGen b).bx b' g' o = e.bx b' g' o := by simp only [Env.newGen]; rw [if_neg hh]
      obtain ⟨u, q1, q2, q3⟩ := r4 o (by rw [hbx]; exact ho)
      rw [hbx] at q3
      refine ⟨u, q1, q2, ?_⟩
      have := cg (e.bx b' g' o) u
      rw [← this] at q3
      exact q3
  refine ⟨G1, r2.setT hb ⟨hlt, by rw [g2]⟩⟩
end
end Go.Proofs.YtebkaacflocfcaaDoor.Ab

/- evOp against the model, for every operation but a call of a function. -/
namespace Go.Proofs.YtebkaacflocfcaaDoor.Ab
open Go
set_option linter.unusedVariables false
set_option linter.unusedSimpArgs false

section
variable {Γ : Ctx} {nt : Nat} {w0 : World} {com0 : (Nat → Nat) × (Nat → Nat)} {os ps : List Nat} {G : Gh} {e : Env} {a : Act} {w : World} {Q : Exit → Act → World → Prop} {next : Act → World → Prop}

theorem wp_val {o : Oper} {v : Value} {w' : World} (h : (execOp a.eval o).run Γ.P w = .ok (.value v) w') (hn : next (a.put o.dst v) w') : o.wp Γ.P a w next Q := by
  unfold Oper.wp; rw [h]; exact hn
theorem wp_unit {o : Oper} {w' : World} (h : (execOp a.eval o).run Γ.P w = .ok .skip w') (hn : next (a.put o.dst undef) w') : o.wp Γ.P a w next Q := by
  unfold Oper.wp; rw [h]; exact hn

/-- what holds behind a step -/
def Nx (Γ : Ctx) (nt : Nat) (w0 : World) (com0 : (Nat → Nat) × (Nat → Nat)) (os ps : List Nat) (K : Env → Prop) (a' : Act) (w' : World) : Prop :=
  ∃ G' e', Rel Γ nt w0 com0 os ps G' e' a' w' ∧ K e'

theorem rd_spec (h : Rel Γ nt w0 com0 os ps G e a w) {b g : Nat} (hg : g < e.gb b) : ∀ {n o : Nat} {ds : List D}, e.rdCells b g o n = some ds →
    ∃ vs : List Value, vs.length = n ∧ (∀ (j : Nat) (v : Value), vs[j]? = some v → w.cell? ⟨G.β b g, o + j, none⟩ = some v) ∧ DenL w G.com ds vs ∧ ds.all D.flat = true := by
  intro n
  induction n with
  | zero => intro o ds hr; simp [Env.rdCells] at hr; subst hr; exact ⟨[], rfl, fun j v h => by simp at h, by simp [DenL], rfl⟩
  | succ n ih =>
    intro o ds hr
    simp only [Env.rdCells] at hr
    split at hr
    · rename_i d ds' h1 h2
      obtain rfl := Option.some.inj hr
      obtain ⟨vs, k1, k2, k3, k4⟩ := ih h2
      obtain ⟨p1, p2, arr, E, p3, p4⟩ := h.bx b g hg
      obtain ⟨v, q1, q2, q3⟩ := p4 o (fun hne => by rw [hne] at h1; simp [AV.d] at h1)
      have hden := q3.den h1
      refine ⟨v :: vs, by simp [k1], fun j u hj => ?_, by simp only [DenL]; exact ⟨v, vs, rfl, hden, k3⟩, by simp [k4, flat_of_one hden q2]⟩
      cases j with
      | zero => simp at hj; subst hj; simp [World.cell?, p3, q1]
      | succ j => rw [show o + (j + 1) = o + 1 + j by omega]; exact k2 j u (by simpa using hj)
    · cases hr

theorem ev_bx (h : Rel Γ nt w0 com0 os ps G e a w) {x : Operand} {b g o : Nat} (hx : e.ev Γ x = .bx b g o) : g < e.gb b ∧ a.eval x = .pointer (some ⟨G.β b g, o, none⟩) := by
  have := h.ev x; rw [hx] at this; exact this

theorem load_sound (h : Rel Γ nt w0 com0 os ps G e a w) {o : Oper} {t : TypeId} {x : Operand} (ho : o.op = .load t x) (hd : ∀ t, o.dst = some t → t < nt) {K : Env → Prop} (hk : evOp Γ o e K) :
    o.wp Γ.P a w (Nx Γ nt w0 com0 os ps K) Q := by
  unfold evOp at hk
  rw [ho] at hk
  simp only at hk
  have exec : ∀ {ad : Addr} {v : Value}, a.eval x = .pointer (some ad) → (loadVar t ad).run Γ.P w = .ok v w → (execOp a.eval o).run Γ.P w = .ok (.value v) w := by
    intro ad v h1 h2
    simp [execOp, ho, Instr.loadAt, h1, Instr.sureAddr, h2]
  split at hk
  · rename_i b g o' n hx hs
    obtain ⟨hg, hv⟩ := ev_bx h hx
    split at hk
    · rename_i ds hr
      replace hk := hk.2
      obtain ⟨vs, k1, k2, k3, k4⟩ := rd_spec h hg hr
      obtain ⟨s1, s2⟩ := szT_spec hs w
      have hl := run_loadCells_list (P := Γ.P) w ⟨G.β b g, o', none⟩ vs (fun j v hj => by rw [add_none]; exact k2 j v hj)
      rw [k1] at hl
      refine wp_val (v := .agg vs.toArray) (w' := w) (exec hv ?_) ⟨G, _, h.setD hd ?_, hk⟩
      · simp only [loadVar, Sem.run_bind, s1, s2, Result.andThen, if_true, hl, Sem.run_pure]
      · show Den w G.com _ _; simp only [Den]; exact ⟨vs, rfl, k4, k3⟩
    · exact hk.elim
  · rename_i b g o' n hx hs
    obtain ⟨hg, hv⟩ := ev_bx h hx
    obtain ⟨s1, s2⟩ := szT_spec hs w
    obtain ⟨p1, p2, arr, E, p3, p4⟩ := h.bx b g hg
    split at hk
    · exact hk.elim
    · rename_i y hne
      replace hk := hk.2
      obtain ⟨v, q1, q2, q3⟩ := p4 o' hne
      refine wp_val (v := v) (w' := w) (exec hv ?_) ⟨G, _, h.setD hd q3, hk⟩
      have hc : w.cell? ⟨G.β b g, o', none⟩ = some v := by simp [World.cell?, p3, q1]
      simp [loadVar, s2, hc]
  · rename_i d n ag hx hs
    obtain ⟨hag, hn, hk⟩ := hk
    have hxr := h.ev x
    rw [hx] at hxr
    obtain ⟨b, off, hv, hden⟩ := hxr
    obtain ⟨s1, s2⟩ := szT_spec hs w
    obtain ⟨f1, us, f2, f3⟩ := DenC_cells hden
    cases d with
    | agg ds =>
      simp only [D.isAgg] at hag
      subst hag
      have hlen : us.length = n := by rw [DenL_length f2]; exact hn
      have hl := run_loadCells_list (P := Γ.P) w ⟨b, off, none⟩ us (fun j v hj => by rw [add_none]; exact (f3 j v hj).2)
      rw [hlen] at hl
      refine wp_val (v := .agg us.toArray) (w' := w) (exec hv ?_) ⟨G, _, h.setD hd ?_, hk⟩
      · simp only [loadVar, Sem.run_bind, s1, s2, Result.andThen, if_true, hl, Sem.run_pure]
      · show Den w G.com _ _; simp only [Den]; exact ⟨us, rfl, f1, f2⟩
    | _ =>
      simp only [D.isAgg] at hag
      subst hag
      simp only [D.cells, DenL] at f2
      obtain ⟨v, r, rfl, hdv, rfl⟩ := f2
      have hc := (f3 0 v rfl).2
      refine wp_val (v := v) (w' := w) (exec hv ?_) ⟨G, _, h.setD hd (AVRel_val hdv), hk⟩
      simp only [Nat.add_zero] at hc
      simp [loadVar, s2, hc]
  · exact hk.elim

theorem store_sound (h : Rel Γ nt w0 com0 os ps G e a w) {o : Oper} {t : TypeId} {x v : Operand} (ho : o.op = .store t x v) {K : Env → Prop} (hk : evOp Γ o e K) :
    o.wp Γ.P a w (Nx Γ nt w0 com0 os ps K) Q := by
  unfold evOp at hk
  rw [ho] at hk
  simp only at hk
  have exec : ∀ {ad : Addr} {w' : World}, a.eval x = .pointer (some ad) → (storeVar t ad (a.eval v)).run Γ.P w = .ok () w' → (execOp a.eval o).run Γ.P w = .ok .skip w' := by
    intro ad w' h1 h2
    simp [execOp, ho, Instr.storeAt, h1, Instr.sureAddr, h2]
  split at hk
  · rename_i b g o' n hdst hx hs
    obtain ⟨hg, hv⟩ := ev_bx h hx
    obtain ⟨s1, s2⟩ := szT_spec hs w
    split at hk
    · rename_i ds hvd
      obtain ⟨k1, k2, k3⟩ := hk
      obtain ⟨vs, e1, e2, e3⟩ := Den_agg ((h.ev v).den hvd)
      have hlen : vs.length = n := by rw [DenL_length e3, k1]
      obtain ⟨w', G', r1, r2⟩ := h.storeCells (vs := vs) (ds := ds) (i := 0) (b := b) (g := g) (o := o') hg (fun j hj => hasCells_ne k2 j (by omega)) e3 e2
      refine wp_unit (w' := w') (exec hv ?_) ?_
      · rw [e1]
        simp [storeVar, s1, Value.cells, hlen, r1]
      · rw [hdst]; exact ⟨G', _, r2, k3⟩
    · exact hk.elim
  · rename_i b g o' n hdst hx hs
    obtain ⟨k1, k2, k3⟩ := hk
    subst k1
    obtain ⟨hg, hv⟩ := ev_bx h hx
    obtain ⟨s1, s2⟩ := szT_spec hs w
    have hc : e.bx b g o' ≠ .no := hasCells_ne k2 0 (by omega)
    have key : ∀ y, e.ev Γ v = y → (a.eval v).oneCell' = true → K ((e.land y b (o' + 1)).1.setB b g o' (e.land y b (o' + 1)).2) → o.wp Γ.P a w (Nx Γ nt w0 com0 os ps K) Q := by
      intro y hy hone hK
      obtain ⟨G1, g1, g2, m1, r1, y1⟩ := h.land y (a.eval v) b (o' + 1) (by rw [← hy]; exact h.ev v)
      obtain ⟨t1, t2, t3⟩ := r1.setB (b := b) (g := g) (o := o') (by rw [land_gb]; exact hg) (by rw [land_bx]; exact hc) hone y1
      rw [g2] at t1 t2 t3
      have hcell : (a.eval v).cells = #[a.eval v] := by cases hav : a.eval v <;> first | rfl | (rw [hav] at hone; simp [Value.oneCell'] at hone)
      refine wp_unit (w' := w.setCell ⟨G.β b g, o', none⟩ (a.eval v)) (exec hv ?_) ?_
      · obtain ⟨u, hu⟩ := Option.isSome_iff_exists.1 t1
        have hst : (store ((⟨G.β b g, o', none⟩ : Addr).add 0) (a.eval v)).run Γ.P w = .ok () (w.setCell ⟨G.β b g, o', none⟩ (a.eval v)) := by
          rw [add_none, run_store Γ.P w _ _ _ hone]; simp [hu, t2]
        simp [storeVar, s1, hcell, Go.storeCells, hst]
      · rw [hdst]; exact ⟨G1, _, t3, hK⟩
    have hvr := h.ev v
    split at k3
    · exact k3.elim
    · rename_i y hn1
      obtain ⟨hfl, k3⟩ := k3
      refine key _ rfl ?_ k3
      cases hy : e.ev Γ v with
      | no => exact absurd hy hn1
      | val d => rw [hy] at hvr hfl; exact Den_flat_one (w := w) (com := G.com) (d := d) hfl hvr
      | own c k g' d => rw [hy] at hvr hfl; exact Den_flat_one (w := w) (com := G.com) (d := d) hfl hvr.2.1
      | bx b' g' o'' => rw [hy] at hvr; rw [hvr.2]; rfl
      | rp d => rw [hy] at hvr; obtain ⟨_, _, hp, _⟩ := hvr; rw [hp]; rfl
      | cl f b' g' => rw [hy] at hvr; rw [hvr.2]; rfl
      | ms b' g' n' sz' => rw [hy] at hvr; rw [hvr.2]; rfl
  · exact hk.elim

theorem assign_sound (h : Rel Γ nt w0 com0 os ps G e a w) {o : Oper} {x : Operand} (ho : o.op = .assign x) (hd : ∀ t, o.dst = some t → t < nt) {K : Env → Prop} (hk : evOp Γ o e K) :
    o.wp Γ.P a w (Nx Γ nt w0 com0 os ps K) Q := by
  unfold evOp at hk
  rw [ho] at hk
  simp only at hk
  split at hk
  · rename_i t hdst
    have plain : K ((e.land (e.ev Γ x) t 0).1.setT t (e.land (e.ev Γ x) t 0).2) → o.wp Γ.P a w (Nx Γ nt w0 com0 os ps K) Q := by
      intro hk
      obtain ⟨G1, g1, g2, m1, r1, y1⟩ := h.land (e.ev Γ x) (a.eval x) t 0 (h.ev x)
      exact wp_val (v := a.eval x) (w' := w) (by simp [execOp, ho]) (by rw [hdst]; exact ⟨G1, _, r1.setT (hd t hdst) y1, hk⟩)
    unfold evAsg at hk
    split at hk
    · rename_i b g n sz hx
      split at hk
      · obtain ⟨xs, ⟨f1, f2, f3, f4⟩, hk⟩ := hk
        have hxr := h.ev x
        rw [hx] at hxr
        obtain ⟨hg, hv⟩ := hxr
        obtain ⟨p1, p2, arr, E, p3, p4⟩ := h.bx b g hg
        obtain ⟨G1, r1, d1⟩ := h.unbox (n := n) (sz := sz) (xs := xs) f1 f2 f3 (fun i x hi => by
          obtain ⟨q1, q2, q3⟩ := f4 i x hi
          refine ⟨q1, q2, fun j d hj => ?_⟩
          obtain ⟨q4, q5⟩ := q3 j d hj
          obtain ⟨v, s1, s2, s3⟩ := p4 (i * sz + j) (by rw [q5]; simp)
          rw [q5] at s3
          exact ⟨q4, v, by simp [World.cell?, p3, s1], s3⟩)
        exact wp_val (v := a.eval x) (w' := w) (by simp [execOp, ho]) (by rw [hdst]; exact ⟨G1, _, r1.setT (hd t hdst) (x := .val (.sl xs)) (by rw [hv]; exact d1), hk⟩)
      · refine plain ?_
        rw [hx]; exact hk
    · exact plain hk
  · exact hk.elim

theorem makeSlice_sound (h : Rel Γ nt w0 com0 os ps G e a w) {o : Oper} {t : TypeId} {l c : Operand} (ho : o.op = .makeSlice t l c) (hd : ∀ t, o.dst = some t → t < nt) {K : Env → Prop} (hk : evOp Γ o e K) :
    o.wp Γ.P a w (Nx Γ nt w0 com0 os ps K) Q := by
  unfold evOp at hk
  rw [ho] at hk
  simp only [evMake] at hk
  split at hk
  · rename_i s el n ag by_ m m' hdst hE hl hc
    obtain ⟨rfl, k1, k2, hk⟩ := hk
    split at hk
    · rename_i z hz
      obtain ⟨c1, c2, c3, hk⟩ := hk
      obtain ⟨q1, q2, q3, i, q4, q5, q6, q7, z', q8, q9⟩ := elT_spec hE
      obtain ⟨i', v, hi, hv, hL, hf, hden, _⟩ := zeroT_spec (w := w) (com := G.com) hz
      rw [q4] at hi; obtain rfl := Option.some.inj hi
      rw [q8] at hv; obtain rfl := Option.some.inj hv
      have e1 := h.ev l
      rw [hl] at e1
      have e2 := h.ev c
      rw [hc] at e2
      have e1' := Den_int (w := w) (com := G.com) e1
      have e2' := Den_int (w := w) (com := G.com) e2
      have hby : m' ≤ 281474976710656 ∧ (i.bytes : Int) * m' ≤ 281474976710656 := by
        rw [q5]
        simp only [roomy] at k2
        have : (1 : Int) ≤ by_ := by omega
        have h2 : m' * 1 ≤ m' * by_ := Int.mul_le_mul_of_nonneg_left this k1
        rw [Int.mul_comm (by_ : Int)]
        omega
      have hrun := run_make (P := Γ.P) w t el i z' q1 q4 q8 .i64 .i64 m' m' k1 (Int.le_refl _) hby.2 (by omega)
      obtain ⟨G1, r1⟩ := h.newMs s (hd s hdst) el m'.toNat hden c3 (by omega) n
      rw [q9] at r1
      refine wp_val (v := .slice (some ⟨w.heap.size, 0, none⟩) m'.toNat m'.toNat) ?_ (by rw [hdst]; exact ⟨G1, _, r1, hk⟩)
      simp only [execOp, ho, e1', e2']
      rw [← q6]
      simp [hrun]
    · exact hk.elim
  · exact hk.elim

theorem copy_sound (h : Rel Γ nt w0 com0 os ps G e a w) {o : Oper} {as : Array Operand} {ts : Array TypeId} (ho : o.op = .call { callee := .builtin .copy, args := as, argTypes := ts })
    (hd : ∀ t, o.dst = some t → t < nt) {K : Env → Prop} (hk : evOp Γ o e K) : o.wp Γ.P a w (Nx Γ nt w0 com0 os ps K) Q := by
  unfold evOp at hk
  rw [ho] at hk
  simp only at hk
  split at hk
  · rename_i x y t1 t2 has hts
    have e1 : as = #[x, y] := by rw [← Array.toArray_toList (xs := as), has]
    have e2 : ts = #[t1, t2] := by rw [← Array.toArray_toList (xs := ts), hts]
    subst e1 e2
    simp only [evCopy] at hk
    split at hk
    · rename_i el by_ el2 b g n ys hE hu hx hy
      obtain ⟨k1, k2, k3, k4, k5, k6, hk⟩ := hk
      obtain ⟨q1, q2, q3, i, q4, q5, q6, q7, z', q8, q9⟩ := elT_spec hE
      have hxr := h.ev x
      rw [hx] at hxr
      obtain ⟨hg, hv⟩ := hxr
      have hden := (h.ev y).den hy
      obtain ⟨A, c, hyv, hyc, hA⟩ := Den_list (xs := ys) rfl hden
      obtain ⟨p1, p2, arr, E, p3, p4⟩ := h.bx b g hg
      have hsz : (Γ.P.info? el).map (·.size) = some 1 := by rw [q4]; simp [q6]
      have harr : n ≤ arr.size := by
        rcases Nat.lt_or_ge arr.size n with hh | hh
        · exfalso
          have hne := hasCells_ne k6 arr.size hh
          obtain ⟨v, s1, _⟩ := p4 (0 + arr.size) hne
          rw [Nat.zero_add] at s1
          simp at s1
        · exact hh
      have fin : ∀ (w' : World) (r : Value) (hrun : (Builtin.copy_ #[t1, t2] o.type #[.slice (some ⟨G.β b g, 0, none⟩) n n, .slice A ys.length c]).run Γ.P w = .ok r w') (hr : r = .int .i64 (n : Int))
          (h1 : ∃ G', Rel Γ nt w0 com0 os ps G' (e.unbox b g (ys.take n)) a w'), o.wp Γ.P a w (Nx Γ nt w0 com0 os ps K) Q := by
        intro w' r hrun hr ⟨G', h1⟩
        refine wp_val (v := r) (w' := w') ?_ ⟨G', _, h1.setD hd (x := .val (.int .i64 n)) (by rw [hr]; simp [AVRel, Den]), hk⟩
        simp [execOp, ho, resolve, invoke, builtin, hv, hyv, hrun]
      have hmin : Nat.min ys.length n = n := Nat.min_eq_right k3
      by_cases hn : n = 0
      · subst hn
        refine fin w (goInt 0) (run_copy_none (P := Γ.P) w t1 t2 o.type el _ _ _ _ _ _ q1 hsz hmin) rfl ?_
        obtain ⟨G1, r1, d1⟩ := h.unbox (n := 0) (sz := 1) (xs := ys.take 0) k4 k5 (by simp) (fun i x hi => by simp at hi)
        exact ⟨G1, r1⟩
      · cases A with
        | none => simp only at hA; subst hA; simp at k3; omega
        | some ad =>
          obtain ⟨hsp, sz, hM⟩ := hA
          obtain ⟨ab, ao, asp⟩ := ad
          simp only at hsp hM; subst hsp
          -- the source's cells
          have hcell : ∀ j (d : D), ys[j]? = some d → ∃ v, w.cell? ⟨ab, ao + j, none⟩ = some v ∧ Den w G.com d v ∧ d.flat = true ∧ d.cnt = 1 := by
            intro j d hj
            obtain ⟨m1, m2⟩ := DenM_get hM j d hj
            have c1 : d.cnt = 1 := by
              have := List.all_eq_true.1 k1 d (List.mem_of_getElem? hj)
              simpa using this
            have f1 := List.all_eq_true.1 k2 d (List.mem_of_getElem? hj)
            rw [c1] at m1
            rw [← m1, Nat.mul_one] at m2
            cases d with
            | agg ds => simp [D.flat] at f1
            | _ => obtain ⟨v, a1, a2, a3⟩ := m2; exact ⟨v, a1.2, a3, f1, c1⟩
          obtain ⟨cs, hcs1, hcs2⟩ : ∃ cs : List Value, cs.length = n ∧ ∀ j, j < n → ∃ d v, ys[j]? = some d ∧ cs[j]? = some v ∧ w.cell? ⟨ab, ao + j, none⟩ = some v ∧ Den w G.com d v ∧ d.flat = true ∧ d.cnt = 1 := by
            refine ⟨(List.range n).map fun j => (w.cell? ⟨ab, ao + j, none⟩).getD undef, by simp, fun j hj => ?_⟩
            obtain ⟨v, a1, a2, a3, a4⟩ := hcell j _ (List.getElem?_eq_getElem (show j < ys.length by omega))
            exact ⟨_, v, List.getElem?_eq_getElem _, by simp [hj, a1], a1, a2, a3, a4⟩
          have hsrc : ∀ j v, cs[j]? = some v → w.cell? ((⟨ab, ao, none⟩ : Addr).add j) = some v := by
            intro j v hj
            have hjn : j < n := by
              rw [← hcs1]
              rcases Nat.lt_or_ge j cs.length with h' | h'
              · exact h'
              · rw [List.getElem?_eq_none h'] at hj; cases hj
            obtain ⟨d, v', b1, b2, b3, _⟩ := hcs2 j hjn
            rw [hj] at b2; obtain rfl := Option.some.inj b2
            rw [add_none]; exact b3
          have hone : ∀ v ∈ cs, v.oneCell' = true := by
            intro v hv'
            obtain ⟨j, hj⟩ := List.mem_iff_getElem?.1 hv'
            have hjn : j < n := by
              rw [← hcs1]
              rcases Nat.lt_or_ge j cs.length with h' | h'
              · exact h'
              · rw [List.getElem?_eq_none h'] at hj; cases hj
            obtain ⟨d, v', b1, b2, b3, b4, b5, b6⟩ := hcs2 j hjn
            rw [hj] at b2; obtain rfl := Option.some.inj b2
            exact Den_flat_one b5 b4
          have hrun := run_copy_row (P := Γ.P) w t1 t2 o.type el (G.β b g) 0 n n ⟨ab, ao, none⟩ ys.length c arr E cs q1 hsz p3 (by rw [hcs1]; exact hmin.symm) hsrc (by omega) hone
          rw [hcs1] at hrun
          obtain ⟨r0, ag⟩ := h.pokeRow hg (arr' := (arr.toList.take 0 ++ cs ++ arr.toList.drop (0 + n)).toArray) p3 (by simp [hcs1]; omega)
          refine fin _ _ hrun rfl ?_
          obtain ⟨G1, r1, d1⟩ := r0.unbox (b := b) (g := g) (n := n) (sz := 1) (xs := ys.take n) k4 k5 (by simp; omega) (fun i x hi => by
            have hin : i < n := by
              rcases Nat.lt_or_ge i n with h' | h'
              · exact h'
              · rw [List.getElem?_eq_none (by simp; omega)] at hi; cases hi
            rw [List.getElem?_take_of_lt hin] at hi
            obtain ⟨d, v, b1, b2, b3, b4, b5, b6⟩ := hcs2 i hin
            rw [hi] at b1; obtain rfl := Option.some.inj b1
            refine ⟨b6, by cases x <;> simp_all [D.flat, D.isTup], fun j d hj => ?_⟩
            have hcx : x.cells = [x] := by cases x <;> simp_all [D.flat, D.cells]
            rw [hcx] at hj
            have hj0 : j = 0 := by
              cases j with
              | zero => rfl
              | succ j => simp at hj
            subst hj0
            simp only [List.getElem?_cons_zero, Option.some.injEq] at hj
            subst hj
            refine ⟨b5, v, ?_, Den.mono ag x v b4⟩
            have := setRow_heap w (G.β b g) arr (arr.toList.take 0 ++ cs ++ arr.toList.drop (0 + n)).toArray E (0, 0) p3
            simp only [World.cell?, this, Nat.mul_one, Nat.add_zero]
            simp only [List.take_zero, List.nil_append, List.getElem?_toArray]
            rw [List.getElem?_append_left (by omega)]
            exact b2)
          rw [forget_unbox] at r1
          exact ⟨G1, r1⟩
    · exact hk.elim
  · exact hk.elim

theorem alloc_sound (h : Rel Γ nt w0 com0 os ps G e a w) {o : Oper} {t : TypeId} (ho : o.op = .alloc t) (hd : ∀ t, o.dst = some t → t < nt) {K : Env → Prop} (hk : evOp Γ o e K) :
    o.wp Γ.P a w (Nx Γ nt w0 com0 os ps K) Q := by
  unfold evOp at hk
  rw [ho] at hk
  simp only at hk
  split at hk
  · rename_i s z hdst hz
    obtain ⟨i, v, hi, hv, hl, hf, hden, _⟩ := zeroT_spec (w := w) (com := G.com) hz
    obtain ⟨G', r⟩ := h.newBox s (hd s hdst) t hden hf
    refine wp_val (v := .pointer (some ⟨w.heap.size, 0, none⟩)) (w' := w.alloc (.cells v.cells t)) ?_ (by rw [hdst]; exact ⟨G', _, r, hk⟩)
    simp [execOp, ho, Instr.alloc, zeroValue, typeInfo, hi, hv, newVar, newRow]
  · exact hk.elim

theorem box_sound (h : Rel Γ nt w0 com0 os ps G e a w) {o : Oper} {t : TypeId} {x : Operand} (ho : o.op = .box t x) (hd : ∀ t, o.dst = some t → t < nt) {K : Env → Prop} (hk : evOp Γ o e K) :
    o.wp Γ.P a w (Nx Γ nt w0 com0 os ps K) Q := by
  unfold evOp at hk
  rw [ho] at hk
  simp only at hk
  split at hk
  · exact hk.elim
  · rename_i s z hnt hdst hz
    have hden := (h.ev x).den hz
    have hf : z.cells.all D.flat = true := by
      cases z with
      | agg ds => obtain ⟨_, _, hf, _⟩ := Den_agg hden; exact hf
      | tup ds => exact absurd rfl (hnt ds)
      | _ => rfl
    obtain ⟨G', r⟩ := h.newBox s (hd s hdst) t hden hf
    refine wp_val (v := .pointer (some ⟨w.heap.size, 0, none⟩)) (w' := w.alloc (.cells (a.eval x).cells t)) ?_ (by rw [hdst]; exact ⟨G', _, r, hk⟩)
    simp [execOp, ho, Instr.box, newVar, newRow]
  · exact hk.elim

theorem mapM_id {α : Type} : ∀ {l : List (Option α)} {r : List α}, l.mapM (m := Option) id = some r → l = r.map some := by
  intro l
  induction l with
  | nil => intro r h; simp at h; subst h; rfl
  | cons x l ih =>
    intro r h
    cases x with
    | none => simp at h
    | some x =>
      cases hl : l.mapM (m := Option) id with
      | none => simp [hl] at h
      | some r' =>
        simp [hl] at h
        subst h
        simp [ih hl]

theorem buildSlice_sound (h : Rel Γ nt w0 com0 os ps G e a w) {o : Oper} {t : TypeId} {len : Nat} {parts : Array (Nat × Operand)} (ho : o.op = .buildSlice t len parts)
    (hd : ∀ t, o.dst = some t → t < nt) {K : Env → Prop} (hk : evOp Γ o e K) : o.wp Γ.P a w (Nx Γ nt w0 com0 os ps K) Q := by
  unfold evOp at hk
  rw [ho] at hk
  simp only at hk
  split at hk
  · rename_i s el n ag by_ hdst hE
    split at hk
    · rename_i ds hm
      obtain ⟨k1, k2, k3, k4, k6, k5⟩ := hk
      simp only [List.all_eq_true] at k6
      obtain ⟨q1, q2, q3, i, q4, rfl, q6, q7, z, q8, q9⟩ := elT_spec hE
      have hsome := mapM_id hm
      have hpl : parts.toList.length = ds.length := by simpa using congrArg List.length hsome
      have hlen : len = ds.length := by have := congrArg List.length k1; simp at this; rw [← hpl]; simpa using this.symm
      -- the parts' values
      have hvals : ∀ (j : Nat) (p : Nat × Operand) (d : D), parts.toList[j]? = some p → ds[j]? = some d → Den w G.com d (a.eval p.2) := by
        intro j p d hp hdj
        have : (parts.toList.map fun p => (e.ev Γ p.2).d)[j]? = (ds.map some)[j]? := by rw [hsome]
        simp only [List.getElem?_map, hp, hdj, Option.map_some, Option.some.injEq] at this
        exact (h.ev p.2).den this
      let vs := parts.toList.map fun p => a.eval p.2
      have hrow : ∀ x ∈ ds, x.cnt = n := by simpa [rowB] using k3
      have hcells : ∀ v ∈ vs, v.cells.size = i.size := by
        intro v hv
        obtain ⟨j, hj⟩ := List.mem_iff_getElem?.1 hv
        simp only [vs, List.getElem?_map] at hj
        cases hp : parts.toList[j]? with
        | none => simp [hp] at hj
        | some p =>
          simp only [hp, Option.map_some, Option.some.injEq] at hj
          subst hj
          have hlt : j < ds.length := by
            rw [← hpl]
            rcases Nat.lt_or_ge j parts.toList.length with h' | h'
            · exact h'
            · rw [List.getElem?_eq_none h'] at hp; cases hp
          have hdj := List.getElem?_eq_getElem hlt
          have := DenL_length (Den_cells (hvals j p _ hp hdj))
          have h2 := hrow _ (List.getElem_mem hlt)
          rw [Array.length_toList] at this
          rw [this]; unfold D.cnt at h2; omega
      have hzip : (parts.map fun (i, x) => (i, a.eval x)).toList = (vs.zipIdx 0).map fun x => (x.2, x.1) := by
        apply List.ext_getElem?
        intro j
        simp only [Array.toList_map, List.getElem?_map, List.getElem?_zipIdx, vs]
        cases hp : parts.toList[j]? with
        | none => simp
        | some p =>
          have : (parts.toList.map (·.1))[j]? = (List.range len)[j]? := by rw [k1]
          simp only [List.getElem?_map, hp, Option.map_some] at this
          have hlt : j < len := by
            rcases Nat.lt_or_ge j len with h' | h'
            · exact h'
            · rw [List.getElem?_eq_none (by simpa using h')] at this; cases this
          rw [List.getElem?_range hlt] at this
          simp only [Option.some.injEq] at this
          simp [this]
      have hpos : 0 < ds.length := List.length_pos_iff.2 k2
      have hisz : 0 < i.size := by omega
      have hvl : vs.length = len := by simp only [vs, List.length_map, hpl, hlen]
      have hfill := Go.Great.fill_whole hisz vs ((Array.range (len * i.size)).map (z.cells[· % z.cells.size]!)) hcells (by simp [hvl])
      have hlay : Lay w G.com ds i.size (vs.flatMap fun v => v.cells.toList) := by
        have gen : ∀ (ds : List D) (vs : List Value), vs.length = ds.length → (∀ x ∈ ds, x.cnt = i.size ∧ ∀ l, x ≠ .tup l) → (∀ (j : Nat) (v : Value) (d : D), vs[j]? = some v → ds[j]? = some d → Den w G.com d v) →
            Lay w G.com ds i.size (vs.flatMap fun v => v.cells.toList) := by
          intro ds
          induction ds with
          | nil =>
            intro vs hl _ _
            have : vs = [] := by simpa using hl
            subst this
            exact Lay.nil _
          | cons d ds ih =>
            intro vs hl hc hv
            cases vs with
            | nil => simp at hl
            | cons v vs =>
              have hdv := hv 0 v d rfl rfl
              simp only [List.flatMap_cons]
              refine Lay.cons (hc d (by simp)).1 ?_ (Den_cells hdv) (ih vs (by simpa using hl) (fun x hx => hc x (by simp [hx])) fun j v' d' h1 h2 => hv (j + 1) v' d' (by simpa using h1) (by simpa using h2))
              cases d with
              | agg l => obtain ⟨_, _, hf, _⟩ := Den_agg hdv; exact hf
              | tup l => exact absurd rfl ((hc _ (by simp)).2 l)
              | _ => rfl
        refine gen ds vs (by rw [hvl, hlen]) (fun x hx => ⟨by have := hrow x hx; omega, fun l hl => ?_⟩) fun j v d hj hdj => ?_
        · have := k6 x hx; subst hl; simp [D.isTup] at this
        · simp only [vs, List.getElem?_map] at hj
          cases hp : parts.toList[j]? with
          | none => simp [hp] at hj
          | some p => simp only [hp, Option.map_some, Option.some.injEq] at hj; subst hj; exact hvals j p d hp hdj
      have hfl : (vs.flatMap fun v => v.cells.toList).length = ds.length * i.size := hlay.1
      obtain ⟨G', r, y⟩ := h.newRow s (vs.flatMap fun v => v.cells.toList).toArray el hlay (cap := len) k2 hisz (by simp only [List.size_toArray]; rw [hfl, hlen]) (by omega) (List.take_length (l := vs.flatMap fun v => v.cells.toList))
      rw [← hlen] at y
      refine wp_val (v := .slice (some ⟨w.heap.size, 0, none⟩) len len) (w' := w.alloc (.cells (vs.flatMap fun v => v.cells.toList).toArray el)) ?_ (by rw [hdst]; exact ⟨G', _, r.setT (hd s hdst) y, k5⟩)
      have hr := Go.run_buildSlice (P := Γ.P) w t el len (parts.map fun (i, x) => (i, a.eval x)) _ i z q1 q4 q8 (by rw [hlen, q6]; omega) (by rw [hlen]; exact Nat.ne_of_gt (Nat.mul_pos hpos hisz)) (by rw [hzip]; exact hfill)
      simp [execOp, ho, hr]
    · exact hk.elim
  · exact hk.elim
end
end Go.Proofs.YtebkaacflocfcaaDoor.Ab

/- Calls. -/
namespace Go.Proofs.YtebkaacflocfcaaDoor.Ab
open Go
set_option linter.unusedVariables false
set_option linter.unusedSimpArgs false

section
variable {Γ : Ctx} {nt : Nat} {w0 : World} {com0 : (Nat → Nat) × (Nat → Nat)} {os0 ps0 : List Nat} {G : Gh} {e : Env} {a : Act} {w : World} {Q : Exit → Act → World → Prop}

/-- whose block it is -/
def ownerOf : Bool × Nat × Nat × Nat → Owner
  | (true, c, k, g) => .cls c k g
  | (false, b, g, _) => .box b g

theorem box_at (h : Rel Γ nt w0 com0 os0 ps0 G e a w) {b g n : Nat} {ds : List D} (hg : g < e.gb b) (hr : e.rdCells b g 0 n = some ds) : BoxAt w G.com (G.β b g) ds := by
  obtain ⟨p1, p2, arr, E, p3, p4⟩ := h.bx b g hg
  obtain ⟨vs, k1, k2, k3, k4⟩ := rd_spec h hg hr
  refine ⟨p2, arr, E, p3, fun i d hi => ?_⟩
  obtain ⟨v, q1, q2⟩ := DenL_get k3 i d hi
  refine ⟨v, ?_, List.all_eq_true.1 k4 d (List.mem_of_getElem? hi), q2⟩
  have := k2 i v q1
  simpa [World.cell?, p3] using this

/-- the arguments as the callee meets them -/
theorem args_of (h : Rel Γ nt w0 com0 os0 ps0 G e a w) : ∀ {ms : List Mode} {xs : List AV} {vs : List Value} {as : List A}, e.argsA ms xs = some as → (argIds ms xs).Nodup →
    xs.length = vs.length → (∀ (i : Nat) (x : AV) (v : Value), xs[i]? = some x → vs[i]? = some v → AVRel w G e x v) →
    ∃ os ps, Args w G.com as vs os ps ∧ (∀ k ∈ os, ∃ id ∈ argIds ms xs, id.1 = true ∧ G.ρ k = ownerOf id) ∧ (∀ k ∈ ps, ∃ id ∈ argIds ms xs, id.1 = false ∧ G.ρ k = ownerOf id) ∧
      (∀ c k g, (true, c, k, g) ∈ argIds ms xs → g < e.gc c k ∧ e.lv c k g = true) := by
  intro ms xs
  induction xs generalizing ms with
  | nil =>
    intro vs as ha hn hl hv
    have hvs : vs = [] := by simpa using hl.symm
    subst hvs
    have : as = [] := by cases ms <;> simpa [Env.argsA] using ha.symm
    subst this
    refine ⟨[], [], .nil, fun k hk => by simp at hk, fun k hk => by simp at hk, fun c k g hm => ?_⟩
    cases ms with
    | nil => simp [argIds] at hm
    | cons m ms => cases m <;> simp [argIds] at hm
  | cons x xs ih =>
    intro vs as ha hn hl hv
    cases vs with
    | nil => simp at hl
    | cons v vs =>
      have hx : AVRel w G e x v := hv 0 x v rfl rfl
      have hv' : ∀ (i : Nat) (x : AV) (v : Value), xs[i]? = some x → vs[i]? = some v → AVRel w G e x v := fun i y u h1 h2 => hv (i + 1) y u (by simpa using h1) (by simpa using h2)
      have hl' : xs.length = vs.length := by simpa using hl
      -- a plain argument
      have plain : ∀ ms' as' d, e.argsA ms' xs = some as' → x.d = some d → argIds ms (x :: xs) = argIds ms' xs → as = .v d :: as' → ∃ os ps, Args w G.com as (v :: vs) os ps ∧
          (∀ k ∈ os, ∃ id ∈ argIds ms (x :: xs), id.1 = true ∧ G.ρ k = ownerOf id) ∧ (∀ k ∈ ps, ∃ id ∈ argIds ms (x :: xs), id.1 = false ∧ G.ρ k = ownerOf id) ∧
          (∀ c k g, (true, c, k, g) ∈ argIds ms (x :: xs) → g < e.gc c k ∧ e.lv c k g = true) := by
        intro ms' as' d h1 h2 h3 h4
        subst h4
        rw [h3] at hn ⊢
        obtain ⟨os, ps, q1, q2, q3, q4⟩ := ih h1 hn hl' hv'
        exact ⟨os, ps, .v (hx.den h2) q1, q2, q3, q4⟩
      cases ms with
      | nil =>
        simp only [Env.argsA] at ha
        split at ha
        · rename_i a1 as' h1 h2
          obtain rfl := Option.some.inj ha
          simp only [Env.argA] at h1
          split at h1
          · rename_i d hd
            obtain rfl := Option.some.inj h1
            exact plain [] as' d h2 hd (by cases xs <;> simp [argIds]) rfl
          · cases h1
        · cases ha
      | cons m ms =>
        simp only [Env.argsA] at ha
        split at ha
        · rename_i a1 as' h1 h2
          obtain rfl := Option.some.inj ha
          cases m with
          | v =>
            simp only [Env.argA] at h1
            split at h1
            · rename_i d hd
              obtain rfl := Option.some.inj h1
              exact plain ms as' d h2 hd (by simp [argIds]) rfl
            · cases h1
          | o =>
            simp only [Env.argA] at h1
            split at h1
            · rename_i c k g d
              split at h1
              · rename_i hlv
                obtain rfl := Option.some.inj h1
                obtain ⟨p1, p2, p3⟩ := hx
                simp only [argIds, List.nodup_cons] at hn
                obtain ⟨os, ps, q1, q2, q3, q4⟩ := ih h2 hn.2 hl' hv'
                have q4' : ∀ c' k' g', (true, c', k', g') ∈ argIds (.o :: ms) (.own c k g d :: xs) → g' < e.gc c' k' ∧ e.lv c' k' g' = true := by
                  intro c' k' g' hm
                  simp only [argIds, List.mem_cons, Prod.mk.injEq, true_and] at hm
                  rcases hm with ⟨rfl, rfl, rfl⟩ | hm
                  · exact ⟨p1, hlv⟩
                  · exact q4 c' k' g' hm
                rcases p3 hlv with ⟨hnil, rfl⟩ | ⟨ys, rfl, hρ, hh⟩
                · subst hnil
                  exact ⟨os, ps, .oNil q1, fun k' hk' => by obtain ⟨id, i1, i2⟩ := q2 k' hk'; exact ⟨id, by simp [argIds, i1], i2⟩,
                    fun k' hk' => by obtain ⟨id, i1, i2⟩ := q3 k' hk'; exact ⟨id, by simp [argIds, i1], i2⟩, q4'⟩
                · refine ⟨G.κ c k g :: os, ps, .o p2 hh ?_ ?_ q1, fun k' hk' => ?_, fun k' hk' => by obtain ⟨id, i1, i2⟩ := q3 k' hk'; exact ⟨id, by simp [argIds, i1], i2⟩, q4'⟩
                  · intro hmem
                    obtain ⟨⟨b, c', k', g'⟩, i1, i2, i3⟩ := q2 _ hmem
                    simp only at i2; subst i2
                    rw [hρ] at i3; simp only [ownerOf, Owner.cls.injEq] at i3
                    obtain ⟨rfl, rfl, rfl⟩ := i3
                    exact hn.1 i1
                  · intro hmem
                    obtain ⟨⟨b, c', k', g'⟩, i1, i2, i3⟩ := q3 _ hmem
                    simp only at i2; subst i2
                    rw [hρ] at i3; simp [ownerOf] at i3
                  · simp only [List.mem_cons] at hk'
                    rcases hk' with rfl | hk'
                    · exact ⟨(true, c, k, g), by simp [argIds], rfl, hρ⟩
                    · obtain ⟨id, i1, i2⟩ := q2 k' hk'; exact ⟨id, by simp [argIds, i1], i2⟩
              · cases h1
            · obtain rfl := Option.some.inj h1
              have hnil : v = .slice none 0 0 := by simpa [AVRel, Den] using hx
              subst hnil
              have e1 : argIds (.o :: ms) (.val .nil :: xs) = argIds ms xs := by simp [argIds]
              rw [e1] at hn ⊢
              obtain ⟨os, ps, q1, q2, q3, q4⟩ := ih h2 hn hl' hv'
              exact ⟨os, ps, .oNil q1, q2, q3, q4⟩
            · cases h1
          | p n =>
            simp only [Env.argA] at h1
            split at h1
            · rename_i b g
              split at h1
              · rename_i ds hr
                obtain rfl := Option.some.inj h1
                obtain ⟨p1, rfl⟩ := hx
                simp only [argIds, List.nodup_cons] at hn
                obtain ⟨os, ps, q1, q2, q3, q4⟩ := ih h2 hn.2 hl' hv'
                have hρ := (h.bx b g p1).1
                refine ⟨os, G.β b g :: ps, .p (box_at h p1 hr) ?_ ?_ q1, fun k' hk' => by obtain ⟨id, i1, i2⟩ := q2 k' hk'; exact ⟨id, by simp [argIds, i1], i2⟩, fun k' hk' => ?_, fun c' k' g' hm => ?_⟩
                · intro hmem
                  obtain ⟨⟨b2, c', k', g'⟩, i1, i2, i3⟩ := q2 _ hmem
                  simp only at i2; subst i2
                  rw [hρ] at i3; simp [ownerOf] at i3
                · intro hmem
                  obtain ⟨⟨b2, c', k', g'⟩, i1, i2, i3⟩ := q3 _ hmem
                  simp only at i2; subst i2
                  rw [hρ] at i3; simp only [ownerOf, Owner.box.injEq] at i3
                  obtain ⟨rfl, rfl⟩ := i3
                  have hz : g' = 0 := by
                    have hall : ∀ (ms : List Mode) (xs : List AV), ∀ id ∈ argIds ms xs, id.1 = false → id.2.2.2 = 0 := by
                      intro ms
                      induction ms with
                      | nil => intro xs id hm _; cases xs <;> simp [argIds] at hm
                      | cons m ms ih2 =>
                        intro xs id hm hf
                        cases xs with
                        | nil => cases m <;> simp [argIds] at hm
                        | cons x xs =>
                          cases m <;> cases x <;> simp only [argIds, List.mem_cons] at hm <;> first
                            | exact ih2 xs id hm hf
                            | (rcases hm with rfl | hm
                               · first | rfl | (simp at hf)
                               · exact ih2 xs id hm hf)
                    exact hall ms xs _ i1 rfl
                  subst hz
                  exact hn.1 i1
                · simp only [List.mem_cons] at hk'
                  rcases hk' with rfl | hk'
                  · exact ⟨(false, b, g, 0), by simp [argIds], rfl, hρ⟩
                  · obtain ⟨id, i1, i2⟩ := q3 k' hk'; exact ⟨id, by simp [argIds, i1], i2⟩
                · simp only [argIds, List.mem_cons, Prod.mk.injEq, Bool.true_eq_false, false_and, false_or] at hm
                  exact q4 c' k' g' hm
              · cases h1
            · rename_i f b g
              split at h1
              · rename_i ds hr
                obtain rfl := Option.some.inj h1
                obtain ⟨p1, rfl⟩ := hx
                simp only [argIds, List.nodup_cons] at hn
                obtain ⟨os, ps, q1, q2, q3, q4⟩ := ih h2 hn.2 hl' hv'
                have hρ := (h.bx b g p1).1
                refine ⟨os, G.β b g :: ps, .p (box_at h p1 hr) ?_ ?_ q1, fun k' hk' => by obtain ⟨id, i1, i2⟩ := q2 k' hk'; exact ⟨id, by simp [argIds, i1], i2⟩, fun k' hk' => ?_, fun c' k' g' hm => ?_⟩
                · intro hmem
                  obtain ⟨⟨b2, c', k', g'⟩, i1, i2, i3⟩ := q2 _ hmem
                  simp only at i2; subst i2
                  rw [hρ] at i3; simp [ownerOf] at i3
                · intro hmem
                  obtain ⟨⟨b2, c', k', g'⟩, i1, i2, i3⟩ := q3 _ hmem
                  simp only at i2; subst i2
                  rw [hρ] at i3; simp only [ownerOf, Owner.box.injEq] at i3
                  obtain ⟨rfl, rfl⟩ := i3
                  have hz : g' = 0 := by
                    have hall : ∀ (ms : List Mode) (xs : List AV), ∀ id ∈ argIds ms xs, id.1 = false → id.2.2.2 = 0 := by
                      intro ms
                      induction ms with
                      | nil => intro xs id hm _; cases xs <;> simp [argIds] at hm
                      | cons m ms ih2 =>
                        intro xs id hm hf
                        cases xs with
                        | nil => cases m <;> simp [argIds] at hm
                        | cons x xs =>
                          cases m <;> cases x <;> simp only [argIds, List.mem_cons] at hm <;> first
                            | exact ih2 xs id hm hf
                            | (rcases hm with rfl | hm
                               · first | rfl | (simp at hf)
                               · exact ih2 xs id hm hf)
                    exact hall ms xs _ i1 rfl
                  subst hz
                  exact hn.1 i1
                · simp only [List.mem_cons] at hk'
                  rcases hk' with rfl | hk'
                  · exact ⟨(false, b, g, 0), by simp [argIds], rfl, hρ⟩
                  · obtain ⟨id, i1, i2⟩ := q3 k' hk'; exact ⟨id, by simp [argIds, i1], i2⟩
                · simp only [argIds, List.mem_cons, Prod.mk.injEq, Bool.true_eq_false, false_and, false_or] at hm
                  exact q4 c' k' g' hm
              · cases h1
            · cases h1
        · cases ha
end
end Go.Proofs.YtebkaacflocfcaaDoor.Ab

/- Behind a call. -/
namespace Go.Proofs.YtebkaacflocfcaaDoor.Ab
open Go
set_option linter.unusedVariables false
set_option linter.unusedSimpArgs false

theorem strip_lv (e : Env) : ∀ (ms : List Mode) (xs : List AV) (c k g : Nat), (e.strip ms xs).lv c k g = true → e.lv c k g = true ∧ (true, c, k, g) ∉ argIds ms xs := by
  intro ms
  induction ms generalizing e with
  | nil => intro xs c k g h; cases xs <;> exact ⟨h, by simp [argIds]⟩
  | cons m ms ih =>
    intro xs c k g h
    cases xs with
    | nil => cases m <;> exact ⟨h, by simp [argIds]⟩
    | cons x xs =>
      cases m <;> cases x <;> simp only [Env.strip, argIds] at h ⊢ <;> first
        | exact ih e xs c k g h
        | (have := ih _ xs c k g h
           simp only [List.mem_cons, Prod.mk.injEq, true_and, Bool.false_eq_true, false_and, false_or, Bool.true_eq_false, reduceCtorEq] at this ⊢
           first
            | exact this
            | (obtain ⟨h1, h2⟩ := this
               simp only [Env.kill] at h1
               split at h1
               · cases h1
               · rename_i hne; exact ⟨h1, fun hm => hm.elim (fun hm => hne hm) h2⟩))

theorem strip_same (e : Env) : ∀ (ms : List Mode) (xs : List AV), (e.strip ms xs).tm = e.tm ∧ (e.strip ms xs).gb = e.gb ∧ (e.strip ms xs).gc = e.gc := by
  intro ms
  induction ms generalizing e with
  | nil => intro xs; cases xs <;> exact ⟨rfl, rfl, rfl⟩
  | cons m ms ih =>
    intro xs
    cases xs with
    | nil => cases m <;> exact ⟨rfl, rfl, rfl⟩
    | cons x xs => cases m <;> cases x <;> simp only [Env.strip] <;> first | exact ih e xs | exact ih (e.kill _ _ _) xs | exact ih (e.forget _ _) xs

theorem strip_bx (e : Env) : ∀ (ms : List Mode) (xs : List AV) (b g o : Nat), (e.strip ms xs).bx b g o ≠ .no → (e.strip ms xs).bx b g o = e.bx b g o ∧ (false, b, g, 0) ∉ argIds ms xs := by
  intro ms
  induction ms generalizing e with
  | nil => intro xs b g o h; cases xs <;> exact ⟨rfl, by simp [argIds]⟩
  | cons m ms ih =>
    intro xs b g o h
    cases xs with
    | nil => cases m <;> exact ⟨rfl, by simp [argIds]⟩
    | cons x xs =>
      cases m <;> cases x <;> simp only [Env.strip, argIds] at h ⊢ <;> first
        | exact ih e xs b g o h
        | (have := ih _ xs b g o h
           obtain ⟨h1, h2⟩ := this
           first
            | (refine ⟨h1, ?_⟩
               simp only [List.mem_cons, Prod.mk.injEq, Bool.false_eq_true, false_and, false_or]
               exact h2)
            | (rw [h1] at h
               simp only [Env.forget] at h h1
               split at h
               · exact absurd rfl h
               · rename_i hne
                 rw [if_neg hne] at h1
                 refine ⟨h1, ?_⟩
                 simp only [List.mem_cons, Prod.mk.injEq, true_and, and_true, not_or]
                 exact ⟨hne, h2⟩))

section
variable {Γ : Ctx} {nt : Nat} {w0 : World} {com0 : (Nat → Nat) × (Nat → Nat)} {os0 ps0 : List Nat} {G : Gh} {e : Env} {a : Act} {w : World} {Q : Exit → Act → World → Prop}

theorem Rel.strip (h : Rel Γ nt w0 com0 os0 ps0 G e a w) {ms : List Mode} {xs : List AV} {os ps : List Nat} {outs : List (List D)} {w' : World} {com' : Nat → Nat}
    (hb : Behind w G.com os ps outs w' com') (ho : ∀ k ∈ os, ∃ id ∈ argIds ms xs, id.1 = true ∧ G.ρ k = ownerOf id) (hp : ∀ k ∈ ps, ∃ id ∈ argIds ms xs, id.1 = false ∧ G.ρ k = ownerOf id)
    (hpz : ∀ b g r, (false, b, g, r) ∈ argIds ms xs → r = 0) :
    ∃ G', G'.com = com' ∧ G'.β = G.β ∧ (∀ k, w.heap.size ≤ k → G'.ρ k = .ext) ∧ (∀ k ∈ os, G'.ρ k = .ext) ∧ (∀ k, G.ρ k = .ext → G'.ρ k = .ext) ∧ (∀ b g, g < e.gb b → G'.ρ (G.β b g) = .box b g) ∧
      Rel Γ nt w0 com0 os0 ps0 G' (e.strip ms xs) a w' := by
  obtain ⟨t1, t2, t3⟩ := strip_same e ms xs
  let G' : Gh := { G with com := com', ρ := fun k => if k ∈ os then .ext else G.ρ k }
  have hbox : ∀ b g, g < e.gb b → G.β b g ∉ os := fun b g hg hm => by
    obtain ⟨⟨b2, c, k, g2⟩, i1, i2, i3⟩ := ho _ hm
    simp only at i2; subst i2
    rw [(h.bx b g hg).1] at i3; simp [ownerOf] at i3
  have lt_of : ∀ k, G.ρ k ≠ .ext → k < w.heap.size := fun k hk => by
    rcases Nat.lt_or_ge k w.heap.size with hlt | hge
    · exact hlt
    · exact absurd (h.ext k hge) hk
  have boxps : ∀ k ∈ ps, ∃ b g, (false, b, g, 0) ∈ argIds ms xs ∧ G.ρ k = .box b g := fun k hk => by
    obtain ⟨⟨b2, b, g, r⟩, i1, i2, i3⟩ := hp k hk
    simp only at i2; subst i2
    have := hpz b g r i1; subst this
    exact ⟨b, g, i1, by simpa [ownerOf] using i3⟩
  have m : Mv w G e w' G' (e.strip ms xs) := by
    refine ⟨hb.agree, fun b => by rw [t2]; exact Nat.le_refl _, fun _ _ _ => rfl, fun c k => by rw [t3]; exact Nat.le_refl _, fun c k g hg hl => ?_⟩
    obtain ⟨l1, l2⟩ := strip_lv e ms xs c k g hl
    refine ⟨l1, rfl, fun hr => ?_⟩
    have n1 : G.κ c k g ∉ os := fun hm => by
      obtain ⟨⟨b2, c', k', g'⟩, i1, i2, i3⟩ := ho _ hm
      simp only at i2; subst i2
      rw [hr] at i3; simp only [ownerOf, Owner.cls.injEq] at i3
      obtain ⟨rfl, rfl, rfl⟩ := i3
      exact l2 i1
    have n2 : G.κ c k g ∉ ps := fun hm => by
      obtain ⟨b, g', _, i3⟩ := boxps _ hm
      rw [hr] at i3; cases i3
    have hlt := lt_of _ (by rw [hr]; simp)
    exact ⟨by simp only [G']; rw [if_neg n1]; exact hr, hb.old _ hlt n1 n2, hb.com_old _ hlt n1⟩
  refine ⟨G', rfl, rfl, fun k hk => ?_, fun k hk => by simp [G', hk], fun k hk => by simp only [G']; split <;> simp [hk], fun b g hg => by simp only [G']; rw [if_neg (hbox b g hg)]; exact (h.bx b g hg).1,
    h.nt, fun t => by rw [t1]; exact (h.tm t).mono m, h.defers, fun b g hg => ?_, fun k hk => ?_, hb.com_new, fun g d hg => DenC.mono hb.agree d g 0 (h.glob g d hg), ?_, fun k b g hk => by
      simp only [G'] at hk; split at hk
      · cases hk
      · rw [t2]; exact h.rb k b g hk⟩
  · simp only [G']; split
    · rfl
    · exact h.ext k hk
  · rw [t2] at hg
    obtain ⟨r1, r2, arr, E, r3, r4⟩ := h.bx b g hg
    have n1 := hbox b g hg
    have hlt := lt_of _ (by rw [r1]; simp)
    have hc : com' (G.β b g) = 0 := by rw [hb.com_old _ hlt n1]; exact r2
    refine ⟨by simp only [G']; rw [if_neg n1]; exact r1, hc, ?_⟩
    by_cases hm : G.β b g ∈ ps
    · obtain ⟨arr', q1, q2⟩ := hb.boxes_size _ hm arr E r3
      obtain ⟨b', g', i1, i3⟩ := boxps _ hm
      rw [r1] at i3; injection i3 with e1 e2; subst e1 e2
      exact ⟨arr', E, q1, fun o ho' => absurd i1 (strip_bx e ms xs b g o ho').2⟩
    · refine ⟨arr, E, by rw [hb.old _ hlt n1 hm]; exact r3, fun o ho' => ?_⟩
      obtain ⟨s1, _⟩ := strip_bx e ms xs b g o ho'
      rw [s1] at ho' ⊢
      obtain ⟨v, q1, q2, q3⟩ := r4 o ho'
      exact ⟨v, q1, q2, q3.mono m⟩
  · have := hb.size
    simp only [G']; split
    · rfl
    · exact h.ext k (by omega)
  · have f := h.fr
    have exto : ∀ b, b < w0.heap.size → b ∉ os0 → b ∉ ps0 → b ∉ os ∧ b ∉ ps := fun b h1 h2 h3 => by
      have hx := f.ext_old b h1 h2 h3
      refine ⟨fun hm => ?_, fun hm => ?_⟩
      · obtain ⟨⟨b2, c, k, g2⟩, i1, i2, i3⟩ := ho _ hm
        simp only at i2; subst i2; rw [hx] at i3; simp [ownerOf] at i3
      · obtain ⟨b', g', _, i3⟩ := boxps _ hm
        rw [hx] at i3; cases i3
    have pxo : ∀ k, k ∈ ps0 → k ∉ os := fun k hk hm => by
      obtain ⟨b', g', i3, _⟩ := f.pbox k hk
      obtain ⟨⟨b2, c, k', g2⟩, i1, i2, i4⟩ := ho _ hm
      simp only at i2; subst i2; rw [i3] at i4; simp [ownerOf] at i4
    refine ⟨hb.osame.trans f.osame, hb.tape.trans f.tape, hb.output.trans f.output, Nat.le_trans f.size hb.size, fun b h1 h2 h3 => ?_, fun b h1 h2 => ?_, f.agree.trans hb.agree, fun k hk arr E hw => ?_, fun b h1 h2 h3 => ?_, fun k hk => ?_⟩
    · obtain ⟨n1, n2⟩ := exto b h1 h2 h3
      rw [hb.old b (Nat.lt_of_lt_of_le h1 f.size) n1 n2]; exact f.old b h1 h2 h3
    · have n1 : b ∉ os := by
        by_cases h3 : b ∈ ps0
        · exact pxo b h3
        · exact (exto b h1 h2 h3).1
      rw [← f.com_old b h1 h2]; exact hb.com_old b (Nat.lt_of_lt_of_le h1 f.size) n1
    · obtain ⟨arr1, q1, q2⟩ := f.psz k hk arr E hw
      have n1 := pxo k hk
      have hlt : k < w.heap.size := by
        rcases Nat.lt_or_ge k w.heap.size with hlt | hge
        · exact hlt
        · rw [Array.getElem?_eq_none hge] at q1; cases q1
      by_cases hm : k ∈ ps
      · obtain ⟨arr2, s1, s2⟩ := hb.boxes_size k hm arr1 E q1
        exact ⟨arr2, s1, s2.trans q2⟩
      · exact ⟨arr1, by rw [hb.old k hlt n1 hm]; exact q1, q2⟩
    · simp only [G']; split
      · rfl
      · exact f.ext_old b h1 h2 h3
    · obtain ⟨b', g', i3, hpp⟩ := f.pbox k hk
      exact ⟨b', g', by simp only [G']; rw [if_neg (pxo k hk)]; exact i3, hpp⟩

theorem Rel.putCells (h : Rel Γ nt w0 com0 os0 ps0 G e a w) {b g : Nat} (hg : g < e.gb b) : ∀ {ds : List D} {o : Nat} {e : Env}, Rel Γ nt w0 com0 os0 ps0 G e a w → g < e.gb b →
    (∀ (i : Nat) (d : D), ds[i]? = some d → ∃ v, w.cell? ⟨G.β b g, o + i, none⟩ = some v ∧ v.oneCell' = true ∧ Den w G.com d v) → Rel Γ nt w0 com0 os0 ps0 G (e.putCells b g o ds) a w := by
  intro ds
  induction ds with
  | nil => intro o e h _ _; exact h
  | cons d ds ih =>
    intro o e h hg hd
    simp only [Env.putCells]
    obtain ⟨v, q1, q2, q3⟩ := hd 0 d rfl
    exact ih (h.know hg (by simpa using q1) q2 (AVRel_val q3)) hg fun i d' hi => by
      have := hd (i + 1) d' (by simpa using hi)
      rwa [show o + (i + 1) = o + 1 + i by omega] at this

/-- a row that a call has left comes to stand in the class t 0 -/
theorem Rel.adopt (h : Rel Γ nt w0 com0 os0 ps0 G e a w) (t : Nat) {k : Nat} {v : Value} {xs : List D} (hρ : G.ρ k = .ext) (hk : k < w0.heap.size → k ∈ os0) (hps : k ∉ ps0)
    (hh : Hdr w G.com k v xs) (hd : Den w G.com (.sl xs) v) :
    ∃ G', Rel Γ nt w0 com0 os0 ps0 G' (e.birth t 0) a w ∧ AVRel w G' (e.birth t 0) (.own t 0 (e.gc t 0) (.sl xs)) v := by
  let G' : Gh := { G with κ := fun c' k' g' => if c' = t ∧ k' = 0 ∧ g' = e.gc t 0 then k else G.κ c' k' g', ρ := fun b => if b = k then .cls t 0 (e.gc t 0) else G.ρ b }
  have hlt : k < w.heap.size := by
    obtain ⟨cap, sz, arr, E, _, _, _, _, q5, _⟩ := hh
    rcases Nat.lt_or_ge k w.heap.size with hlt | hge
    · exact hlt
    · rw [Array.getElem?_eq_none hge] at q5; cases q5
  have ne_of : ∀ b, G.ρ b ≠ .ext → b ≠ k := fun b hb he => hb (by rw [he]; exact hρ)
  have m : Mv w G e w G' (e.birth t 0) := by
    refine ⟨Agree.refl _ _, fun _ => Nat.le_refl _, fun _ _ _ => rfl, fun c' k' => ?_, fun c' k' g hg hl => ?_⟩
    · simp only [Env.birth]; split
      · rename_i h; obtain ⟨rfl, rfl⟩ := h; omega
      · exact Nat.le_refl _
    · replace hl : (if c' = t ∧ k' = 0 ∧ g = e.gc t 0 then true else e.lv c' k' g) = true := hl
      by_cases hn : c' = t ∧ k' = 0 ∧ g = e.gc t 0
      · obtain ⟨rfl, rfl, rfl⟩ := hn; omega
      · rw [if_neg hn] at hl
        refine ⟨hl, by simp only [G']; rw [if_neg hn], fun hr => ⟨?_, rfl, rfl⟩⟩
        simp only [G']; rw [if_neg (ne_of _ (by rw [hr]; simp))]; exact hr
  have f := h.fr
  refine ⟨G', h.move m rfl rfl rfl (fun b g hg => ⟨?_, rfl, (h.bx b g hg).2.1⟩) (fun b hb => ?_) h.com_new ?_ (fun k b g hk => by simp only [G'] at hk; split at hk <;> first | exact hk | cases hk), birth_lt e t 0, hd, fun _ => .inr ⟨xs, rfl, by simp [G'], by simpa [G'] using hh⟩⟩
  · have := (h.bx b g hg).1
    simp only [G']; rw [if_neg (ne_of _ (by rw [this]; simp))]; exact this
  · simp only [G']; rw [if_neg (by omega)]; exact h.ext b hb
  · refine ⟨f.osame, f.tape, f.output, f.size, f.old, f.com_old, f.agree, f.psz, fun b h1 h2 h3 => ?_, fun b hb => ?_⟩
    · simp only [G']; rw [if_neg (fun he => h2 (by subst he; exact hk h1))]; exact f.ext_old b h1 h2 h3
    · obtain ⟨b', g', hb', hpp⟩ := f.pbox b hb
      exact ⟨b', g', by simp only [G']; rw [if_neg (fun he => hps (by rw [← he]; exact hb))]; exact hb', hpp⟩

/-- the blocks of the boxes that a call is handed, in their order -/
theorem ps_of {vs : List Value} {as : List A} {os ps : List Nat} {com : Nat → Nat} : ∀ {ms : List Mode} {xs : List AV}, e.argsA ms xs = some as → Args w com as vs os ps →
    (∀ (i : Nat) (x : AV) (v : Value), xs[i]? = some x → vs[i]? = some v → AVRel w G e x v) →
    ∀ {outs : List (List D)} {e' : Env} {G' : Gh} {w' : World} {a' : Act}, outs.length = ps.length → (∀ (i k : Nat) (ds : List D), ps[i]? = some k → outs[i]? = some ds → BoxAt w' G'.com k ds) → G'.β = G.β → (∀ b, e.gb b ≤ e'.gb b) →
      Rel Γ nt w0 com0 os0 ps0 G' e' a' w' → Rel Γ nt w0 com0 os0 ps0 G' (e'.fillIn ms xs outs) a' w' := by
  intro ms xs ha hargs
  induction hargs generalizing ms xs with
  | nil =>
    intro hv outs e' G' w' a' hl hb hβ hgb h
    have : xs = [] := by
      cases xs with
      | nil => rfl
      | cons x xs => cases ms <;> simp only [Env.argsA] at ha <;> split at ha <;> cases ha
    subst this
    cases ms with
    | nil => exact h
    | cons m ms => cases m <;> exact h
  | @v d as v vs os ps hd hr ih =>
    intro hv outs e' G' w' a' hl hb hβ hgb h
    cases xs with
    | nil => cases ms <;> simp [Env.argsA] at ha
    | cons x xs =>
      have hv' := fun (i : Nat) (y : AV) (u : Value) (h1 : xs[i]? = some y) (h2 : vs[i]? = some u) => hv (i + 1) y u (by simpa using h1) (by simpa using h2)
      cases ms with
      | nil => cases outs <;> exact h
      | cons m ms =>
        simp only [Env.argsA] at ha
        split at ha
        · rename_i a1 as' h1 h2
          injection ha with ha; injection ha with e1 e2; subst e1 e2
          cases m with
          | v => simp only [Env.fillIn]; exact ih h2 hv' hl hb hβ hgb h
          | o => simp only [Env.fillIn]; exact ih h2 hv' hl hb hβ hgb h
          | p n =>
            simp only [Env.argA] at h1
            split at h1
            · split at h1 <;> cases h1
            · split at h1 <;> cases h1
            · cases h1
        · cases ha
  | @oNil as vs os ps hr ih =>
    intro hv outs e' G' w' a' hl hb hβ hgb h
    cases xs with
    | nil => cases ms <;> simp [Env.argsA] at ha
    | cons x xs =>
      have hv' := fun (i : Nat) (y : AV) (u : Value) (h1 : xs[i]? = some y) (h2 : vs[i]? = some u) => hv (i + 1) y u (by simpa using h1) (by simpa using h2)
      cases ms with
      | nil => cases outs <;> exact h
      | cons m ms =>
        simp only [Env.argsA] at ha
        split at ha
        · rename_i a1 as' h1 h2
          injection ha with ha; injection ha with e1 e2; subst e1 e2
          cases m with
          | v => simp only [Env.fillIn]; exact ih h2 hv' hl hb hβ hgb h
          | o => simp only [Env.fillIn]; exact ih h2 hv' hl hb hβ hgb h
          | p n =>
            simp only [Env.argA] at h1
            split at h1
            · split at h1 <;> cases h1
            · split at h1 <;> cases h1
            · cases h1
        · cases ha
  | @o ys as v vs os ps k hd hh hk1 hk2 hr ih =>
    intro hv outs e' G' w' a' hl hb hβ hgb h
    cases xs with
    | nil => cases ms <;> simp [Env.argsA] at ha
    | cons x xs =>
      have hv' := fun (i : Nat) (y : AV) (u : Value) (h1 : xs[i]? = some y) (h2 : vs[i]? = some u) => hv (i + 1) y u (by simpa using h1) (by simpa using h2)
      cases ms with
      | nil => cases outs <;> exact h
      | cons m ms =>
        simp only [Env.argsA] at ha
        split at ha
        · rename_i a1 as' h1 h2
          injection ha with ha; injection ha with e1 e2; subst e1 e2
          cases m with
          | v => simp only [Env.fillIn]; exact ih h2 hv' hl hb hβ hgb h
          | o => simp only [Env.fillIn]; exact ih h2 hv' hl hb hβ hgb h
          | p n =>
            simp only [Env.argA] at h1
            split at h1
            · split at h1 <;> cases h1
            · split at h1 <;> cases h1
            · cases h1
        · cases ha
  | @p fc ds as vs os ps k hbx hk1 hk2 hr ih =>
    intro hv outs e' G' w' a' hl hb hβ hgb h
    cases xs with
    | nil => cases ms <;> simp [Env.argsA] at ha
    | cons x xs =>
      have hv' := fun (i : Nat) (y : AV) (u : Value) (h1 : xs[i]? = some y) (h2 : vs[i]? = some u) => hv (i + 1) y u (by simpa using h1) (by simpa using h2)
      cases ms with
      | nil => cases outs <;> exact h
      | cons m ms =>
        simp only [Env.argsA] at ha
        split at ha
        · rename_i a1 as' h1 h2
          injection ha with ha; injection ha with e1 e2; subst e1 e2
          cases m with
          | v => simp only [Env.argA] at h1; split at h1 <;> cases h1
          | o => simp only [Env.argA] at h1; split at h1 <;> first | (split at h1 <;> cases h1) | cases h1
          | p n =>
            simp only [Env.argA] at h1
            split at h1
            · rename_i b g
              have hfc : fc = none := by split at h1 <;> first | (cases h1; done) | (injection h1 with h1; injection h1 with h1 _; exact h1.symm)
              subst hfc
              obtain ⟨x1, x2⟩ := hv 0 _ _ rfl rfl
              simp only [fnV, Value.pointer.injEq, Option.some.injEq, Addr.mk.injEq, and_true] at x2
              cases outs with
              | nil => simp at hl
              | cons o1 outs =>
                simp only [Env.fillIn]
                refine ih h2 hv' (by simpa using hl) (fun i k' ds' q1 q2 => hb (i + 1) k' ds' (by simpa using q1) (by simpa using q2)) hβ (fun b' => ?_) ?_
                · have : ∀ (l : List D) (e : Env) (o : Nat), (e.putCells b g o l).gb = e.gb := by
                    intro l
                    induction l with
                    | nil => intro e o; rfl
                    | cons d l ih2 => intro e o; simp only [Env.putCells]; rw [ih2]; rfl
                  rw [this]; exact hgb b'
                · obtain ⟨_, arr, E, b3, b4⟩ := hb 0 k o1 rfl rfl
                  have hg : g < e'.gb b := Nat.lt_of_lt_of_le x1 (hgb b)
                  refine Rel.putCells h hg h hg fun i d hi => ?_
                  obtain ⟨v, q1, qf, q2⟩ := b4 i d hi
                  refine ⟨v, ?_, Den_flat_one qf q2, q2⟩
                  rw [hβ, ← x2]
                  simp [World.cell?, b3, q1]
            · rename_i f b g
              have hfc : fc = some f := by split at h1 <;> first | (cases h1; done) | (injection h1 with h1; injection h1 with h1 _; exact h1.symm)
              subst hfc
              obtain ⟨x1, x2⟩ := hv 0 _ _ rfl rfl
              simp only [fnV, Value.func.injEq, Array.mk.injEq, List.cons.injEq, Value.pointer.injEq, Option.some.injEq, Addr.mk.injEq, and_true, true_and] at x2
              cases outs with
              | nil => simp at hl
              | cons o1 outs =>
                simp only [Env.fillIn]
                refine ih h2 hv' (by simpa using hl) (fun i k' ds' q1 q2 => hb (i + 1) k' ds' (by simpa using q1) (by simpa using q2)) hβ (fun b' => ?_) ?_
                · have : ∀ (l : List D) (e : Env) (o : Nat), (e.putCells b g o l).gb = e.gb := by
                    intro l
                    induction l with
                    | nil => intro e o; rfl
                    | cons d l ih2 => intro e o; simp only [Env.putCells]; rw [ih2]; rfl
                  rw [this]; exact hgb b'
                · obtain ⟨_, arr, E, b3, b4⟩ := hb 0 k o1 rfl rfl
                  have hg : g < e'.gb b := Nat.lt_of_lt_of_le x1 (hgb b)
                  refine Rel.putCells h hg h hg fun i d hi => ?_
                  obtain ⟨v, q1, qf, q2⟩ := b4 i d hi
                  refine ⟨v, ?_, Den_flat_one qf q2, q2⟩
                  rw [hβ, ← x2]
                  simp [World.cell?, b3, q1]
            · cases h1
        · cases ha
end
end Go.Proofs.YtebkaacflocfcaaDoor.Ab

/- The evaluator is sound: operations, regions in the text's order, code, functions. -/
namespace Go.Proofs.YtebkaacflocfcaaDoor.Ab
open Go
set_option linter.unusedVariables false
set_option linter.unusedSimpArgs false

section
variable {Γ : Ctx} {nt : Nat} {w0 : World} {com0 : (Nat → Nat) × (Nat → Nat)} {os0 ps0 : List Nat} {G : Gh} {e : Env} {a : Act} {w : World} {Q : Exit → Act → World → Prop}

theorem argIds_zero : ∀ (ms : List Mode) (xs : List AV) (b g r : Nat), (false, b, g, r) ∈ argIds ms xs → r = 0 := by
  intro ms
  induction ms with
  | nil => intro xs b g r hm; cases xs <;> simp [argIds] at hm
  | cons m ms ih =>
    intro xs b g r hm
    cases xs with
    | nil => cases m <;> simp [argIds] at hm
    | cons x xs =>
      cases m <;> cases x <;> simp only [argIds, List.mem_cons, Prod.mk.injEq, Bool.false_eq_true, false_and, false_or, true_and] at hm <;> first
        | exact ih xs b g r hm
        | (rcases hm with ⟨_, _, h⟩ | hm
           · exact h
           · exact ih xs b g r hm)

theorem fillIn_same (e : Env) : ∀ (ms : List Mode) (xs : List AV) (outs : List (List D)), (e.fillIn ms xs outs).gc = e.gc := by
  have put : ∀ (l : List D) (e : Env) (b g o : Nat), (e.putCells b g o l).gc = e.gc := by
    intro l
    induction l with
    | nil => intro e b g o; rfl
    | cons d l ih => intro e b g o; simp only [Env.putCells]; rw [ih]; rfl
  intro ms
  induction ms generalizing e with
  | nil => intro xs outs; cases xs <;> cases outs <;> rfl
  | cons m ms ih =>
    intro xs outs
    cases xs with
    | nil => cases m <;> cases outs <;> rfl
    | cons x xs => cases m <;> cases x <;> cases outs <;> simp only [Env.fillIn] <;> first | exact ih e xs _ | (rw [ih]; exact put _ _ _ _ _)

theorem call_core (h : Rel Γ nt w0 com0 os0 ps0 G e a w) {o : Oper} {f : FuncId} {xs : List AV} {us : List Value} (hxl : xs.length = us.length)
    (hrel : ∀ (i : Nat) (x : AV) (v : Value), xs[i]? = some x → us[i]? = some v → AVRel w G e x v) (hrun0 : callOk Γ.P f → (execOp a.eval o).run Γ.P w = .ok (.enter f us.toArray) w)
    (hd : ∀ t, o.dst = some t → t < nt) {K : Env → Prop} (hk : evCall Γ o.dst f xs e K) : o.wp Γ.P a w (Nx Γ nt w0 com0 os0 ps0 K) Q := by
  unfold evCall at hk
  split at hk
  · rename_i As hAs
    obtain ⟨hnd, res, ⟨hok, hcall⟩, hk⟩ := hk
    obtain ⟨os, ps, ha, hos, hps, hlive⟩ := args_of h (vs := us) hAs hnd hxl hrel
    have hrun := hrun0 hok
    unfold Oper.wp
    rw [hrun]
    refine (hcall w G.com _ os ps h.glob h.com_new ha).mono ?_
    rintro en w' ⟨v, com', rfl, hden, hbeh, hown⟩
    show Nx Γ nt w0 com0 os0 ps0 K (a.put o.dst v) w'
    obtain ⟨G1, g1, g2, g3, g4, g5, g6, r1⟩ := h.strip hbeh hos hps (argIds_zero _ _)
    obtain ⟨t1, t2, t3⟩ := strip_same e (Γ.md f) xs
    have r2 : Rel Γ nt w0 com0 os0 ps0 G1 (e.after (Γ.md f) xs res.outs) a w' :=
      ps_of hAs ha hrel hbeh.boxes.1 (fun i k ds h1 h2 => by rw [g1]; exact hbeh.boxes.2 i k ds h1 h2) g2 (fun b => by rw [t2]; exact Nat.le_refl _) r1
    have hgc : (e.after (Γ.md f) xs res.outs).gc = e.gc := by unfold Env.after; rw [fillIn_same, t3]
    split at hk
    · rename_i t hdst hmr
      rw [hdst]
      rw [← g1] at hden
      rcases hown hmr with ⟨hn1, hn2⟩ | ⟨zs, k, hx, hh, hkp, hko⟩
      · obtain ⟨m, r3⟩ := r2.birth t 0
        refine ⟨G1, _, r3.setT (x := .own t 0 (e.gc t 0) res.ret) (hd t hdst) ?_, hk⟩
        have := birth_lt (e.after (Γ.md f) xs res.outs) t 0
        rw [hgc] at this
        exact ⟨this, hden, fun _ => .inl ⟨hn1, hn2⟩⟩
      · rw [hx] at hden
        have hρ : G1.ρ k = .ext := by
          rcases hko with hko | hko
          · exact g3 k hko
          · exact g4 k hko
        have f := h.fr
        have hρ0 : ∀ (b g : Nat), G.ρ k ≠ .box b g := by
          intro b g hb
          rcases hko with hko | hko
          · rw [h.ext k hko] at hb; cases hb
          · obtain ⟨⟨b2, c, k', g2⟩, i1, i2, i3⟩ := hos k hko
            simp only at i2; subst i2; rw [hb] at i3; simp [ownerOf] at i3
        have hk0 : k < w0.heap.size → k ∈ os0 := fun hlt => by
          rcases hko with hko | hko
          · have := f.size; omega
          · obtain ⟨⟨b2, c, k', g2⟩, i1, i2, i3⟩ := hos k hko
            simp only at i2; subst i2
            refine Decidable.byContradiction fun hn => ?_
            by_cases hp : k ∈ ps0
            · obtain ⟨b, g, hb, _⟩ := f.pbox k hp; exact hρ0 b g hb
            · rw [f.ext_old k hlt hn hp] at i3; simp [ownerOf] at i3
        have hp0 : k ∉ ps0 := fun hp => by obtain ⟨b, g, hb, _⟩ := f.pbox k hp; exact hρ0 b g hb
        obtain ⟨G2, r3, y⟩ := r2.adopt t hρ hk0 hp0 (by rw [g1]; exact hh) hden
        rw [hgc] at y
        refine ⟨G2, _, r3.setT (x := .own t 0 (e.gc t 0) res.ret) (hd t hdst) (by rw [hx]; exact y), hk⟩
    · refine ⟨G1, _, r2.setD hd (AVRel_val (by rw [g1]; exact hden)), hk⟩
  · exact hk.elim

theorem call_sound (h : Rel Γ nt w0 com0 os0 ps0 G e a w) {o : Oper} {f : FuncId} {as : Array Operand} {ts : Array TypeId} (ho : o.op = .call { callee := .value (.func f), args := as, argTypes := ts })
    (hd : ∀ t, o.dst = some t → t < nt) {K : Env → Prop} (hk : evCall Γ o.dst f (as.toList.map (e.ev Γ)) e K) : o.wp Γ.P a w (Nx Γ nt w0 com0 os0 ps0 K) Q := by
  refine call_core h (us := as.toList.map a.eval) (by simp) (fun i x v h1 h2 => ?_) (fun hok => ?_) hd hk
  · simp only [List.getElem?_map] at h1 h2
    cases hp : as.toList[i]? with
    | none => simp [hp] at h1
    | some y =>
      simp only [hp, Option.map_some, Option.some.injEq] at h1 h2
      subst h1 h2
      exact h.ev y
  · have e1 : as.map a.eval = (as.toList.map a.eval).toArray := by apply Array.ext'; simp
    simp only [execOp, ho, resolve, Act.eval, Deferred.ofValue, Sem.run_bind, Sem.run_pure, Result.andThen, invoke, Array.empty_append, Array.append_empty, e1]
    exact hok _ w
/-- a closure is called -/
theorem callT_sound (h : Rel Γ nt w0 com0 os0 ps0 G e a w) {o : Oper} {t : Nat} {as : Array Operand} {ts : Array TypeId} (ho : o.op = .call { callee := .value (.tmp t), args := as, argTypes := ts })
    (hd : ∀ t, o.dst = some t → t < nt) {K : Env → Prop} (hk : match e.tm t with | .cl f b g => evCall Γ o.dst f (as.toList.map (e.ev Γ) ++ [.bx b g 0]) e K | _ => False) : o.wp Γ.P a w (Nx Γ nt w0 com0 os0 ps0 K) Q := by
  split at hk
  · rename_i f b g hb
    have hv := h.tm t
    rw [hb] at hv
    obtain ⟨hg, hv⟩ := hv
    refine call_core h (us := as.toList.map a.eval ++ [.pointer (some ⟨G.β b g, 0, none⟩)]) (by simp) (fun i x v h1 h2 => ?_) (fun hok => ?_) hd hk
    · rcases Nat.lt_or_ge i as.toList.length with hlt | hge
      · rw [List.getElem?_append_left (by simpa using hlt)] at h1 h2
        simp only [List.getElem?_map] at h1 h2
        cases hp : as.toList[i]? with
        | none => simp [hp] at h1
        | some y =>
          simp only [hp, Option.map_some, Option.some.injEq] at h1 h2
          subst h1 h2
          exact h.ev y
      · rw [List.getElem?_append_right (by simpa using hge)] at h1 h2
        simp only [List.length_map] at h1 h2
        cases hi : i - as.toList.length with
        | zero =>
          rw [hi] at h1 h2
          simp only [List.getElem?_cons_zero, Option.some.injEq] at h1 h2
          subst h1 h2
          exact ⟨hg, rfl⟩
        | succ k => rw [hi] at h1; simp at h1
    · have e1 : as.map a.eval ++ #[Value.pointer (some ⟨G.β b g, 0, none⟩)] = (as.toList.map a.eval ++ [Value.pointer (some ⟨G.β b g, 0, none⟩)]).toArray := by apply Array.ext'; simp
      have e2 : a.eval (.tmp t) = .func (.func f) #[] #[.pointer (some ⟨G.β b g, 0, none⟩)] := hv
      simp only [execOp, ho, resolve, e2, Deferred.ofValue, Sem.run_bind, Sem.run_pure, Result.andThen, invoke, Array.empty_append, e1]
      exact hok _ w
  · exact hk.elim

theorem append_sound (h : Rel Γ nt w0 com0 os0 ps0 G e a w) {o : Oper} {as : Array Operand} {ts : Array TypeId} (ho : o.op = .call { callee := .builtin .append, args := as, argTypes := ts })
    (hd : ∀ t, o.dst = some t → t < nt) {K : Env → Prop} (hk : evOp Γ o e K) : o.wp Γ.P a w (Nx Γ nt w0 com0 os0 ps0 K) Q := by
  unfold evOp at hk
  rw [ho] at hk
  simp only at hk
  split at hk
  · rename_i s x t1 t2 has hts
    have e1 : as = #[s, x] := by rw [← Array.toArray_toList (xs := as), has]
    have e2 : ts = #[t1, t2] := by rw [← Array.toArray_toList (xs := ts), hts]
    subst e1 e2
    cases hdst : o.dst with
    | none => rw [hdst] at hk; simp [evAppend] at hk
    | some t =>
      rw [hdst] at hk
      obtain ⟨v', w', G', e', q1, q2, q3⟩ := evAppend_sound h (hd t hdst) (h.ev s) (h.ev x) (ty := o.type) hk
      refine wp_val (v := v') (w' := w') ?_ (by rw [hdst]; exact ⟨G', e', q2, q3⟩)
      simp [execOp, ho, resolve, invoke, builtin, q1]
  · exact hk.elim

theorem pure_sound (h : Rel Γ nt w0 com0 os0 ps0 G e a w) {o : Oper} (hd : ∀ t, o.dst = some t → t < nt) {K : Env → Prop}
    (hk : match pureOp Γ.P (e.ev Γ) o.op with | some y => K (e.setD o.dst y) | none => False) : o.wp Γ.P a w (Nx Γ nt w0 com0 os0 ps0 K) Q := by
  split at hk
  · rename_i y hy
    obtain ⟨v, q1, q2⟩ := pureOp_sound (w := w) (fun x => h.ev x) o hy
    exact wp_val q1 ⟨G, _, h.setD hd q2, hk⟩
  · exact hk.elim

theorem evOp_sound (h : Rel Γ nt w0 com0 os0 ps0 G e a w) (o : Oper) (hd : ∀ t, o.dst = some t → t < nt) {K : Env → Prop} (hk : evOp Γ o e K) : o.wp Γ.P a w (Nx Γ nt w0 com0 os0 ps0 K) Q := by
  cases ho : o.op with
  | assign x => exact assign_sound h ho hd hk
  | load t x => exact load_sound h ho hd hk
  | store t x v => exact store_sound h ho hk
  | alloc t => exact alloc_sound h ho hd hk
  | box t x => exact box_sound h ho hd hk
  | buildSlice t n ps => exact buildSlice_sound h ho hd hk
  | makeSlice t l c => exact makeSlice_sound h ho hd hk
  | call c =>
    obtain ⟨callee, as, ts⟩ := c
    cases callee with
    | value x =>
      cases x with
      | func f => unfold evOp at hk; rw [ho] at hk; exact call_sound h ho hd hk
      | tmp t => unfold evOp at hk; rw [ho] at hk; exact callT_sound h ho hd hk
      | _ => unfold evOp at hk; rw [ho] at hk; exact pure_sound h hd (by rw [ho]; exact hk)
    | builtin b =>
      cases b with
      | append => exact append_sound h ho hd hk
      | copy => exact copy_sound h ho hd hk
      | _ => unfold evOp at hk; rw [ho] at hk; exact pure_sound h hd (by rw [ho]; exact hk)
    | invoke r m => unfold evOp at hk; rw [ho] at hk; exact pure_sound h hd (by rw [ho]; exact hk)
  | _ => unfold evOp at hk; rw [ho] at hk; exact pure_sound h hd (by rw [ho]; exact hk)

/-- the closed facts on a region's operations: every slot is one of the frame's -/
def slotsOk (nt : Nat) (ops : List Oper) : Bool := ops.all fun o => match o.dst with | some t => decide (t < nt) | none => true

/-- a guarded operation -/
theorem evG_sound (h : Rel Γ nt w0 com0 os0 ps0 G e a w) (all : Array Oper) (o : Oper) (hd : ∀ t, o.dst = some t → t < nt) {K : Env → Prop} (hk : evG Γ all o e K) :
    (Region.wanted o (yielded all a.tmps) = true ∧ o.wp Γ.P a w (Nx Γ nt w0 com0 os0 ps0 K) Q) ∨ (Region.wanted o (yielded all a.tmps) = false ∧ Nx Γ nt w0 com0 os0 ps0 K (a.put o.dst undef) w) := by
  unfold evG at hk
  split at hk
  · rename_i hg
    exact .inl ⟨by simp [Region.wanted, hg], evOp_sound h o hd hk⟩
  · rename_i j want hg
    split at hk
    · rename_i t ht
      split at hk
      · rename_i b hb
        have hv := h.tm t
        rw [hb] at hv
        have hv' : a.tmps.getD t undef = .bool b := Den_bool (w := w) (com := G.com) hv
        have hy : yielded all a.tmps j = some b := by
          unfold yielded
          rw [ht]
          simp only [Option.bind_some]
          rw [Array.getD_eq_getD_getElem?] at hv'
          cases hq : a.tmps[t]? with
          | none => rw [hq] at hv'; simp [undef] at hv'
          | some u => rw [hq] at hv'; simp only [Option.getD_some] at hv'; subst hv'; rfl
        by_cases hw : b = want
        · subst hw
          exact .inl ⟨by simp [Region.wanted, hg, hy], evOp_sound h o hd (hk.1 (by simp))⟩
        · refine .inr ⟨?_, G, _, h.setD hd (x := .val (.tup [])) (AVRel_val ⟨[], rfl, by simp [DenL]⟩), hk.2 (by simpa using hw)⟩
          simp only [Region.wanted, hg, hy]
          simpa using hw
      · rename_i hb
        have hv := h.tm t
        rw [hb] at hv
        have hv0 : Den w G.com (.tup []) (a.tmps.getD t undef) := hv
        obtain ⟨vs, hvs, hL⟩ := hv0
        have hy : yielded all a.tmps j = none := by
          unfold yielded
          rw [ht]
          simp only [Option.bind_some]
          rw [Array.getD_eq_getD_getElem?] at hvs
          cases hq : a.tmps[t]? with
          | none => rfl
          | some u => rw [hq] at hvs; simp only [Option.getD_some] at hvs; subst hvs; rfl
        refine .inr ⟨by simp [Region.wanted, hg, hy], G, _, h.setD hd (x := .val (.tup [])) (AVRel_val ⟨[], rfl, by simp [DenL]⟩), hk⟩
      · exact hk.elim
    · exact hk.elim

theorem upon_mono {P : Program} {o : Oper} {a : Act} {next next' : Act → World → Prop} {Q : Exit → Act → World → Prop} (hn : ∀ a' w', next a' w' → next' a' w') {r : Result Next}
    (h : o.upon P a next Q r) : o.upon P a next' Q r := by
  cases r with
  | ok n w' =>
    cases n <;> simp only [Oper.upon] at h ⊢ <;> first
      | exact hn _ _ h
      | (refine Calls.mono h fun en w'' hen => ?_
         cases en with
         | returned v => exact hn _ _ hen
         | panicked ch => exact hen
         | outgrown => exact hen)
      | exact Rows.mono h fun v w'' hv => hn _ _ hv
      | exact h
  | halt x w' => cases x <;> exact h

/-- operations of a region, in whatever order they stand in the list -/
theorem evOps_sound (all : Array Oper) (hs : slotsOk nt all.toList = true) : ∀ (l : List Nat) {G : Gh} {e : Env} {a : Act} {w : World} {os : List Oper} {K : Env → Prop},
    l.map (all[·]?) = os.map some → Rel Γ nt w0 com0 os0 ps0 G e a w → evOps Γ all os e K → (∀ a' w', Nx Γ nt w0 com0 os0 ps0 K a' w' → Q .normal a' w') → wpOps Γ.P all Q l a w := by
  intro l
  induction l with
  | nil =>
    intro G e a w os K hl h hk hQ
    have : os = [] := by cases os with | nil => rfl | cons => simp at hl
    subst this
    exact hQ a w ⟨G, e, h, hk⟩
  | cons i l ih =>
    intro G e a w os K hl h hk hQ
    cases os with
    | nil => simp at hl
    | cons o os =>
      simp only [List.map_cons, List.cons.injEq] at hl
      simp only [evOps] at hk
      have hd : ∀ t, o.dst = some t → t < nt := by
        intro t ht
        simp only [slotsOk, List.all_eq_true] at hs
        have hm : o ∈ all.toList := by have := Array.mem_of_getElem? hl.1; exact Array.mem_toList_iff.2 this
        have := hs o hm
        rw [ht] at this
        simpa using this
      have next : ∀ a' w', Nx Γ nt w0 com0 os0 ps0 (fun e' => evOps Γ all os e' K) a' w' → wpOps Γ.P all Q l a' w' := fun a' w' ⟨G', e', h', hk'⟩ => ih hl.2 h' hk' hQ
      simp only [wpOps, hl.1]
      rcases evG_sound (Q := Q) h all o hd hk with ⟨h1, h2⟩ | ⟨h1, h2⟩
      · rw [if_pos h1]
        refine .inl ?_
        exact upon_mono next h2
      · rw [if_neg (by simp [h1])]
        exact next _ _ h2
end
end Go.Proofs.YtebkaacflocfcaaDoor.Ab
