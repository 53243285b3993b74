/- The card of DumpChecks, second form: for every bytes and every size, of bulk at most 1048576 together, the program and the reference check alike, and the input reads as it did. -/
import Derived.WalkKit
import Derived.ProofKit
import Derived.OpenShut
import Derived.WideKeyArgs
import Derived.MakeChecks
import Derived.Deep.DeepHandedRow
import Derived.Lib.LaidTab
import Derived.Test.YtebkaacflocfcaaDoorCards
import Derived.Test.YtebkaacflocfcaaDoorTie
import Derived.Test.YtebkaacflocfcaaDoorM12
set_option linter.unusedVariables false
set_option linter.unusedSimpArgs false
set_option linter.defProp false
/- What the listed variable and the arguments give the walk, and what a walk that changes nothing old gives the row. -/
namespace Go.Proofs.YtebkaacflocfcaaDoor
open Go.ChangeShapes Go.WideShapes Go.ChangeAt Go.RowKit Go.WideElems Ab
set_option linter.unusedVariables false
set_option linter.constructorNameAsVariable false

theorem gK : Tryd.prog.globalNamed "arbor/value.kinds" = some 0 := by kernel_rfl
theorem gKType : (Tryd.prog.globals[0]?).map (·.type) = some 94 := by kernel_rfl
theorem cells93 : Tryd.prog.cellsOf 93 = 2 := by kernel_rfl
theorem cells94 : Tryd.prog.cellsOf 94 = 8 := by kernel_rfl
theorem cells9 : Tryd.prog.cellsOf 9 = 1 := by kernel_rfl
theorem cells3 : Tryd.prog.cellsOf 3 = 1 := by kernel_rfl
theorem cells5 : Tryd.prog.cellsOf 5 = 1 := by kernel_rfl

/-- all that lies in memory -/
def comW (W : World) (b : Nat) : Nat := match W.heap[b]? with | some (.cells c _ _) => c.size | _ => 0
theorem comW_new (W : World) (b : Nat) (h : W.heap.size ≤ b) : comW W b = 0 := by
  unfold comW; rw [Array.getElem?_eq_none h]
theorem at_of_cell {W : World} {b o : Nat} {v : Value} (h : W.cell? ⟨b, o, none⟩ = some v) : At W (comW W) b o v := by
  refine ⟨?_, h⟩
  unfold World.cell? at h
  unfold comW
  dsimp only at h
  split at h
  · rename_i c _ _ hc
    simp only [Option.isSome_none, Bool.false_eq_true, if_false] at h
    rw [hc]
    exact (Array.getElem?_eq_some_iff.1 h).1
  · cases h

theorem len2 {α : Type} {l : List α} (h : l.length = 2) : ∃ a b, l = [a, b] := by
  match l, h with
  | [a, b], _ => exact ⟨a, b, rfl⟩
theorem len4 {α : Type} {l : List α} (h : l.length = 4) : ∃ a b c d, l = [a, b, c, d] := by
  match l, h with
  | [a, b, c, d], _ => exact ⟨a, b, c, d, rfl⟩
theorem len8 {α : Type} {l : List α} (h : l.length = 8) : ∃ a b c d e f g i, l = [a, b, c, d, e, f, g, i] := by
  match l, h with
  | [a, b, c, d, e, f, g, i], _ => exact ⟨a, b, c, d, e, f, g, i, rfl⟩

section
variable {H : Type} {enc : TypeId × Value → H} {W : World} {base : Nat} {sp : Nat → Bool} {hd : Bool}

theorem rowK {m : Nat} {cs : List Value} {s : List UInt8} {k : Int} {x : DataW H × List MemPlace} (h : DataW.trod enc Tryd.prog W base sp hd m 93 cs = some x) (hx : x.1 = .agg [.lit (.string s), .lit (.int .i64 k)]) :
    cs = [.string ⟨s.toArray⟩, .int .i64 k] := by
  obtain ⟨y0, y1, n, e, hl, h0, h1⟩ := trod_struct2 Tryd.underlying93 h
  obtain ⟨s', e1, e2, _⟩ := DataW.trod_string Tryd.underlying9 h0
  obtain ⟨k', e3, e4, _⟩ := DataW.trod_int Tryd.underlying3 h1
  rw [e] at hx
  simp only [DataW.agg.injEq, List.cons.injEq, and_true] at hx
  rw [e2, e4] at hx
  simp only [DataW.lit.injEq, Lit.string.injEq, Lit.int.injEq, true_and] at hx
  rw [cells93] at hl
  simp only [cells9, cells3] at e1 e3
  obtain ⟨q1, q2⟩ := hx
  obtain ⟨c0, c1, rfl⟩ := len2 hl
  simp at e1 e3
  subst e1 e3 q1 q2
  rfl
end

theorem glob_of_laid {W : World} (h : laidMetH Tryd.prog [("arbor/value.kinds", Rows.laid_arbor_value_kinds)] W) : Glob Γ W (comW W) := by
  rw [MakeChecks.laidMetH_plain _ _ _ (by kernel_rfl)] at h
  obtain ⟨ps, ⟨g0, t0, cs0, f0, p0, q0, hg0, ht0, hv0, hd0, _, _⟩, _, _⟩ := h
  obtain rfl := Option.some.inj (gK.symm.trans hg0)
  obtain rfl := Option.some.inj (gKType.symm.trans ht0)
  obtain ⟨xs, m, rfl, hx1, hlen, hn, hel⟩ := DataW.trod_array Tryd.underlying94 hd0
  rw [cells93] at hel
  rw [cells94] at hlen
  simp only [Rows.laid_arbor_value_kinds, Prod.mk.injEq, DataW.agg.injEq] at hx1
  obtain ⟨hx1, _⟩ := hx1
  have hc : cs0.toList = [.string ⟨#[]⟩, .int .i64 0, .string ⟨#[105, 110, 116]⟩, .int .i64 10, .string ⟨#[98, 111, 111, 108]⟩, .int .i64 1, .string ⟨#[98, 121, 116, 101, 115]⟩, .int .i64 21] := by
    obtain ⟨x0, x1, x2, x3, rfl⟩ := len4 hn
    simp only [List.map_cons, List.map_nil, List.cons.injEq, and_true] at hx1
    obtain ⟨a0, a1, a2, a3⟩ := hx1
    have r0 := rowK (hel 0 (by decide)) a0.symm
    have r1 := rowK (hel 1 (by decide)) a1.symm
    have r2 := rowK (hel 2 (by decide)) a2.symm
    have r3 := rowK (hel 3 (by decide)) a3.symm
    clear hel hd0 hv0 hg0 ht0 a0 a1 a2 a3
    generalize cs0.toList = l at *
    obtain ⟨c0, c1, c2, c3, c4, c5, c6, c7, rfl⟩ := len8 hlen
    simp at r0 r1 r2 r3
    simp [r0, r1, r2, r3]
  have cell : ∀ i v, cs0.toList[i]? = some v → At W (comW W) 0 i v := fun i v hi => by
    refine at_of_cell ?_
    rw [World.var?_cell hg0 hv0 i]
    simpa using hi
  rw [hc] at cell
  intro g d hgd
  rw [ΓG] at hgd
  split at hgd
  · rename_i e
    subst e
    cases hgd
    simp only [kindsD, DenC, DenR, D.flat, Den, and_true, true_and]
    exact ⟨⟨_, cell 0 _ rfl, rfl⟩, ⟨_, cell 1 _ rfl, rfl⟩, ⟨_, cell 2 _ rfl, rfl⟩, ⟨_, cell 3 _ rfl, rfl⟩, ⟨_, cell 4 _ rfl, rfl⟩, ⟨_, cell 5 _ rfl, rfl⟩, ⟨_, cell 6 _ rfl, rfl⟩, ⟨_, cell 7 _ rfl, rfl⟩⟩
  · cases hgd

theorem u8_wf {z : Int} (h : (Lit.int .u8 z).wf = true) : 0 ≤ z ∧ z ≤ 255 := by
  simp only [Lit.wf, Bool.and_eq_true, decide_eq_true_eq] at h
  exact ⟨h.1, h.2⟩

theorem byte_of {z : Int} (h0 : 0 ≤ z) (h1 : z ≤ 255) : (((UInt8.ofNat z.toNat).toNat : Nat) : Int) = z := by
  have : (UInt8.ofNat z.toNat).toNat = z.toNat := by
    rw [UInt8.toNat_ofNat']
    exact Nat.mod_eq_of_lt (by omega)
  rw [this]
  omega

set_option maxRecDepth 100000 in
/-- A SLICE OF BYTES, OPENED -/
theorem open_bytes {H : Type} {enc : TypeId × Value → H} {W : World} {base b0 : Nat} {sp : Nat → Bool} {v : Value} {d : DataW H} {ps : List MemPlace}
    (hval : Value.okWide Tryd.prog W .any b0 22 v) (hd : DataW.Trod enc Tryd.prog W base sp true 22 v d ps) :
    ∃ b : List UInt8, Den W (comW W) (bD b) v ∧ b.length ≤ Rows.uptoBulk d := by
  obtain ⟨fuel, h⟩ := hd
  have hv : v.cells.toList = [v] := by
    simp only [Value.okWide, Tryd.underlying22, Cell.okWide, Cell.ok] at hval
    cases v <;> first | rfl | (exact absurd hval (by simp))
  rw [hv] at h
  rcases open_ints Tryd.underlying22 Tryd.underlying5 cells5 h with ⟨e1, e2⟩ | ⟨a, len, cap, zs, e1, _, hl, hm, hz, e2, hc, hwf⟩
  · obtain rfl : v = .slice none 0 0 := by simpa using e1
    refine ⟨[], ⟨none, 0, rfl, Nat.le_refl _, rfl⟩, by simp⟩
  · obtain rfl : v = .slice (some a) len cap := by simpa using e1
    have hs : a.spot = none := by
      simp only [Value.okWide, Tryd.underlying22, Cell.okWide, Cell.ok] at hval
      exact hval.2.2.2.1
    have hlz : len ≤ zs.length := by rw [hz]; split <;> omega
    have e3 := congrArg Prod.fst e2
    refine ⟨(zs.take len).map fun z => UInt8.ofNat z.toNat, ?_, ?_⟩
    · refine ⟨some a, cap, by simp [ofBytes, Nat.min_eq_left hlz], by simpa [ofBytes, Nat.min_eq_left hlz] using hl, hs, 1, DenM_of fun i x hi => ?_⟩
      rw [get_ofBytes] at hi
      simp only [List.getElem?_map, Option.map_map, Option.map_eq_some_iff] at hi
      obtain ⟨z, hz1, rfl⟩ := hi
      have hi' : i < len := by
        rcases Nat.lt_or_ge i len with h' | h'
        · exact h'
        · rw [List.getElem?_eq_none (by simp; omega)] at hz1; cases hz1
      rw [List.getElem?_take_of_lt hi'] at hz1
      have hw := hwf z (List.mem_of_getElem? hz1)
      have hcell := hc i (by omega)
      have ha : a.add i = ⟨a.block, a.off + i, none⟩ := by
        obtain ⟨ab, ao, aspot⟩ := a
        cases hs
        unfold Addr.add
        split
        · rename_i h0; simp [h0]
        · rfl
      rw [ha, List.getD_eq_getElem?_getD, hz1] at hcell
      refine ⟨rfl, _, by simpa using at_of_cell hcell, rfl, ?_⟩
      obtain ⟨z0, z1⟩ := u8_wf hw
      rw [Function.comp_apply, byte_of z0 z1]
      rfl
    · obtain rfl : d = _ := e3
      simp only [List.length_map, List.length_take, Rows.uptoBulk]
      have : ∀ l : List (DataW H), l.length ≤ Rows.uptoBulkAll l := fun l => by
        induction l with
        | nil => simp [Rows.uptoBulkAll]
        | cons x r ih =>
          have : 1 ≤ Rows.uptoBulk x := by
            cases x with
            | lit l => cases l <;> simp [Rows.uptoBulk]
            | nil => simp [Rows.uptoBulk]
            | ptr d => simp [Rows.uptoBulk]
            | slice elems spare => simp [Rows.uptoBulk]
            | agg parts => simp [Rows.uptoBulk]
            | iface t d => simp [Rows.uptoBulk]
            | map entries => simp [Rows.uptoBulk]
            | held h => simp [Rows.uptoBulk]
          simp only [Rows.uptoBulkAll, List.length_cons]; omega
      have h2 := this (lits .u8 (zs.take len) : List (DataW H))
      simp only [lits, List.length_map, List.length_take] at h2
      simp only [lits]
      omega

end Go.Proofs.YtebkaacflocfcaaDoor

/- The card of DumpChecks: for every bytes and every size, of bulk at most 1048576 together, the two Checks tell the same and the input reads as it did. -/
namespace Go.Proofs.YtebkaacflocfcaaDoor
open Go.ChangeShapes Go.WideShapes Go.ChangeAt Go.RowKit Go.WideElems Ab
set_option linter.unusedVariables false
set_option linter.constructorNameAsVariable false

theorem own : ownKnob Tryd.prog.godebug = none := by kernel_rfl
theorem bookB : laidOutB Tryd.prog = true := by kernel_rfl
theorem read22 : Tryd.prog.readableRec 22 = true := by kernel_rfl
theorem read3 : Tryd.prog.readableRec 3 = true := by kernel_rfl
theorem size22 : 22 < Tryd.prog.types.size := of_decide_eq_true (by kernel_rfl)
theorem size3 : 3 < Tryd.prog.types.size := of_decide_eq_true (by kernel_rfl)

section
variable {H : Type} {enc : TypeId × Value → H} {P : Program}
/-- A walk that changes nothing of what was: the row's sentence behind it. -/
theorem post_of_old {f : Func} {s : ChangeSpec} {apart fresh handsOn again : Bool} {W W' : World} {args : Array Value} {v : Value} {ds gs : List (DataW H)} {before pa pv : List MemPlace}
    (hW : DataW.Whole enc P f.params.toList s.vars apart W args.toList ds gs before)
    (hres : ∀ (b : Nat) (sp : Nat → Bool) (hd : Bool), DataW.TrodAll enc P W' b sp hd f.resultTypes.toList (v.resultList f.resultTypes.size) (s.fn H (ds ++ gs)).results [])
    (hargs : ∀ sp : Nat → Bool, (∀ p ∈ before, sp p.block = true) → DataW.TrodAll enc P W' 0 sp true f.params.toList args.toList (s.fn H (ds ++ gs)).args pa)
    (hvars : ∀ sp : Nat → Bool, (∀ p ∈ before, sp p.block = true) → DataW.TrodVars enc P W' sp s.vars (s.fn H (ds ++ gs)).vars pv)
    (hps : before = pa ++ pv) (hk : W.keptBut W' (· ∈ before)) (hfz : ∀ a : Addr, a.block < W.heap.size → W'.frozen? a = W.frozen? a)
    (hok : ∀ (j : Nat) (t : TypeId) (r : Value), f.resultTypes[j]? = some t → (v.resultList f.resultTypes.size)[j]? = some r → Value.okWide P W' .any 0 t r) :
    s.post enc P f apart fresh handsOn again W args v W' := by
  have hold : ∀ p ∈ before, (fun b => decide (b < W.heap.size)) p.block = true := fun p hp => by simpa using hW.lt p hp
  have hlt := hW.lt
  refine ⟨ds, gs, before, [], pa, pv, hW, hres _ _ _, hargs _ hold, hvars _ hold, World.keptBut_mono (fun p hp => ⟨hp, ?_⟩) hk, fun _ => ?_⟩
  · rw [hps, List.mem_append] at hp
    exact Or.inr hp
  · obtain ⟨_, _, _, _, _, hz, hn⟩ := hW
    refine ⟨hok, _, _, ([] ++ pa) ++ pv, ⟨[] ++ pa, pv, trodAll_append (hargs _ (fun _ _ => rfl)) (hres _ _ _), hvars _ (fun _ _ => rfl), rfl, ?_, ?_⟩, ?_⟩
    · intro b off hp
      have hm : MemPlace.cell b off ∈ before := by rw [hps]; simpa using hp
      rw [hfz _ (hlt _ hm)]
      exact hz b off hm
    · intro ha
      have := hn ha
      rw [hps] at this
      simpa using this
    · intro p hp _
      rw [hps]
      simpa using hp
end

section
variable {W W' : World} {com com' : Nat → Nat} {outs : List (List D)}
theorem Ab.Behind.block (h : Behind W com [] [] outs W' com') (b : Nat) (hb : b < W.heap.size) : W'.heap[b]? = W.heap[b]? := h.old b hb (by simp) (by simp)
theorem Ab.Behind.same (h : Behind W com [] [] outs W' com') {p : MemPlace} (hp : p.block < W.heap.size) : W.sameAt W' p := by
  cases p with
  | cell b off =>
    have := h.block b hp
    simp only [World.sameAt, World.cell?, this]
  | map b => exact h.block b hp
theorem Ab.Behind.frz (h : Behind W com [] [] outs W' com') (a : Addr) (ha : a.block < W.heap.size) : W'.frozen? a = W.frozen? a := by
  simp only [World.frozen?, h.block a.block ha]
theorem Ab.Behind.kept (h : Behind W com [] [] outs W' com') (may : MemPlace → Prop) : W.keptBut W' may := by
  refine ⟨h.osame, h.output, fun i hi => ?_⟩
  rw [h.block i hi]
  split
  · rename_i h1 h2
    rw [h1] at h2
    cases h2
    exact ⟨rfl, rfl, rfl, fun _ _ => rfl⟩
  · rename_i h1 h2
    rw [h1] at h2
    cases h2
    exact Or.inr ⟨rfl, rfl⟩
  · rfl
end

theorem bound {H : Type} {l : List (DataW H)} (hk : Rows.uptoSmall H l = true) : Rows.uptoBulkAll l ≤ 1048576 := by
  simpa [Rows.uptoSmall] using hk

set_option maxRecDepth 100000 in
theorem contract (H : Type) (enc : TypeId × Value → H) (W : World) (base : Nat) (args : Array Value) (ds gs : List (DataW H)) (before : List MemPlace)
    (hval : ∀ (j : Nat) t v, Tryd.f3.params[j]? = some t → args[j]? = some v → Value.okWide Tryd.prog W .any base t v)
    (hW : DataW.Whole enc Tryd.prog Tryd.f3.params.toList Rows.dumpChecksSpec.vars false W args.toList ds gs before) (hk : Rows.uptoSmall H (ds ++ gs) = true)
    (hL : laidMetH Tryd.prog Rows.dumpChecksUptoRow.laid W) :
    Calls Tryd.prog 3 args W fun e W' => ∃ v, e = .returned v ∧ Rows.dumpChecksSpec.post enc Tryd.prog Tryd.f3 false true false false W args v W' := by
  have hW' := hW
  have hlt := hW.lt
  obtain ⟨p, q, hA0, hV, rfl, hfz, hnd⟩ := hW
  have hA : DataW.TrodAll enc Tryd.prog W 0 (fun _ => true) true Tryd.f3.params.toList args.toList ds p := hA0
  rw [Tryd.params3] at hA hval
  obtain ⟨v0, vs0, d0, ds0, p0, q0, hargs, rfl, rfl, h0, r0⟩ := trodAll_cons hA
  obtain ⟨v1, vs1, d1, ds1, p1, q1, rfl, rfl, rfl, h1, r1⟩ := trodAll_cons r0
  obtain ⟨rfl, rfl, rfl⟩ := trodAll_nil r1
  obtain rfl : args = #[v0, v1] := by cases args; simp_all
  obtain ⟨rfl, rfl⟩ := trodVars_none hV
  have hv1 : Value.okWide Tryd.prog W .any base 3 v1 := hval 1 3 v1 (by simp) (by simp)
  obtain ⟨n, rfl, rfl, rfl, hn⟩ := open_int Tryd.underlying3 hv1 h1
  have hv0 : Value.okWide Tryd.prog W .any base 22 v0 := hval 0 22 v0 (by simp) (by simp)
  obtain ⟨b, hb, hlen⟩ := open_bytes hv0 h0
  have hb2 : b.length ≤ 1100000 := by
    have := bound hk
    simp only [List.append_nil, Rows.uptoBulkAll] at this
    omega
  have call := (law3_ok b n hb2 (check_same b n hb2)).2 W (comW W) [v0, .int .i64 n] [] [] (glob_of_laid hL) (comW_new W) (.v hb (.v rfl .nil))
  refine Calls.mono call fun e W' hx => ?_
  obtain ⟨v, com', rfl, hd, hbe, _⟩ := hx
  obtain rfl : v = .bool true := hd
  have stay0 : ∀ sp : Nat → Bool, (∀ p ∈ p0, sp p.block = true) → DataW.Trod enc Tryd.prog W' 0 sp true 22 v0 d0 p0 := fun sp hs =>
    Trod_stays bookB read22 size22 h0 (fun p hp => hbe.same (hlt p (by simp [hp]))) hs
  have stay1 : ∀ sp : Nat → Bool, DataW.Trod enc Tryd.prog W' 0 sp true 3 (.int .i64 n) (.lit (.int .i64 n)) [] := fun sp =>
    Trod_stays bookB read3 size3 h1 (fun p hp => by cases hp) (fun p hp => by cases hp)
  simp only [List.append_nil] at hW'
  exact ⟨_, rfl, post_of_old (pa := p0) (pv := []) hW' (fun _ _ _ => trodAll_cons_mk (shut_bool Tryd.underlying4 _) trodAll_mk0)
    (fun sp hs => by
      have := trodAll_cons_mk (stay0 sp hs) (trodAll_cons_mk (stay1 sp) trodAll_mk0)
      rw [List.append_nil, List.append_nil] at this
      exact this)
    (fun _ _ => rfl) (by simp) (hbe.kept _) hbe.frz (ok_one (by kernel_rfl) rfl (okWide_bool_mk Tryd.underlying4 _))⟩

/-- A WORLD FOR THE WITNESS: the settled one, the table (block 0) holding what its initialiser lays. -/
noncomputable def laidWorld (os : Os) : World :=
  { World.holding Tryd.prog os ⟨#[], #[], []⟩ with heap := (World.holding Tryd.prog os ⟨#[], #[], []⟩).heap.modify 0 fun
      | .cells _ t frozen => .cells #[.string ⟨#[]⟩, .int .i64 0, .string ⟨#[105, 110, 116]⟩, .int .i64 10, .string ⟨#[98, 111, 111, 108]⟩, .int .i64 1, .string ⟨#[98, 121, 116, 101, 115]⟩, .int .i64 21] t frozen
      | o => o }
theorem laid_met (os : Os) : laidMetH Tryd.prog Rows.dumpChecksUptoRow.laid ((laidWorld os).forCall (fun _ _ => 0) ⟨#[], #[.slice none 0 0, .int .i64 0], []⟩).memory :=
  laidMet_of_run' 8 (by kernel_rfl) (by kernel_rfl)
theorem reads (os : Os) {H : Type} (enc : TypeId × Value → H) : ∃ places, DataW.whole enc Tryd.prog ((laidWorld os).forCall (fun _ _ => 0) ⟨#[], #[.slice none 0 0, .int .i64 0], []⟩).memory Tryd.f3.params.toList Rows.dumpChecksSpec.vars false #[Value.slice none 0 0, Value.int .i64 0].toList 8 = some ([.nil, .lit (.int .i64 0)], [], places) :=
  ⟨[], by kernel_rfl⟩

set_option maxRecDepth 100000 in
theorem liftedUpto (os : Os) (started : os.Started) (H : Type) (enc : TypeId × Value → H) (F : Stop.Interp) :
    ReturnsInHanded {} Tryd.checked os 3 .any ((Rows.OpenSpec.upto Rows.dumpChecksSpec).preRow enc Tryd.prog Tryd.f3 Rows.dumpChecksUptoRow.domain false Rows.dumpChecksUptoRow.laid) (((Rows.OpenSpec.upto Rows.dumpChecksSpec).at F).post enc Tryd.prog Tryd.f3 false true false false) := by
  obtain ⟨places, hx⟩ := reads os enc
  refine returnsInHanded_of_row (C := Tryd.checked) (s := Rows.OpenSpec.upto Rows.dumpChecksSpec) own started (by kernel_rfl) Tryd.func3
    (witness_row_at (enc := enc) (C := Tryd.checked) false (laidWorld os) #[.slice none 0 0, .int .i64 0] rfl (by kernel_rfl) (by kernel_rfl) (by kernel_rfl)
      (OpenSpec.preRow_of_cond 8 hx (by kernel_rfl) (fun k hk => by cases hk; kernel_rfl) (by kernel_rfl) (laid_met os))) ?_
  intro W base args ds gs before hval hW _ hcond _ hL _ _
  exact contract H enc W base args ds gs before hval hW (hcond _ rfl) hL

theorem saidUpto : Rows.DumpChecksUptoSaid :=
  OpenClaim.holds_of_cond 3 Tryd.f3 rfl rfl rfl rfl rfl rfl rfl ⟨rfl, rfl, rfl, rfl, rfl⟩ rfl rfl rfl rfl rfl (by kernel_rfl) Tryd.func3 (by kernel_rfl)
    (of_decide_eq_true (by kernel_rfl)) (by unfold Func.isWrapper; first | (rw [if_pos (by decide +kernel)]; kernel_rfl) | (rw [if_neg (by decide +kernel)]; exact ⟨rfl, rfl⟩))
    (fun os started H enc _ F => by rw [OpenClaim.pre_eq_preRow]; exact liftedUpto os started H enc F)

theorem plain (f : FuncId) (fn : Func) (hf : Tryd.pinned.checked.prog.funcNamed "arbor/arborlaw22.DumpChecks" = some f) (hfn : Tryd.pinned.checked.prog.funcs[f]? = some fn) :
    false = Tryd.pinned.checked.prog.looks [] ∧ ∀ (j : Nat) t, fn.params[j]? = some t → Tryd.pinned.checked.prog.wantsStandIn t = false := by
  obtain rfl : f = 3 := Option.some.inj ((show Tryd.prog.funcNamed "arbor/arborlaw22.DumpChecks" = some 3 by kernel_rfl).symm.trans hf) |>.symm
  obtain rfl : fn = Tryd.f3 := (Option.some.inj (Tryd.func3.symm.trans hfn)).symm
  refine ⟨by kernel_rfl, fun j t ht => ?_⟩
  rw [Tryd.params3] at ht
  have hm : t = 22 ∨ t = 3 := by simpa using Array.mem_of_getElem? ht
  rcases hm with rfl | rfl
  · exact (show Tryd.prog.wantsStandIn 22 = false by kernel_rfl)
  · exact (show Tryd.prog.wantsStandIn 3 = false by kernel_rfl)

/-- THE SECOND FORM's CARD OF DumpChecks -/
theorem dumpChecksUpto_card : Rows.DumpChecksUptoCardSaid :=
  Claim7.holds_tied_plain_at .later [] _ _ _ _ saidUpto (fun _ h => by cases h) (by kernel_rfl) (fun _ h => by cases h) dumpChecksUpto_row_tie rfl ⟨rfl, rfl⟩ (by kernel_rfl) rfl plain (by kernel_rfl)
#print axioms dumpChecksUpto_card
end Go.Proofs.YtebkaacflocfcaaDoor
