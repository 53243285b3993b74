/- The abstract evaluator is sound for every code of the kinds that it covers, and its rules as rewriting laws. -/
import Derived.Orders
import Derived.Test.YtebkaacflocfcaaDoorM2
set_option linter.unusedVariables false
set_option linter.unusedSimpArgs false
set_option linter.defProp false
/- Regions whose order is drawn: what may change places. -/
namespace Go.Proofs.YtebkaacflocfcaaDoor.Ab.Dr
open Go
set_option linter.unusedVariables false
set_option linter.unusedSimpArgs false

theorem Env.ext' {e e' : Env} (h1 : e.tm = e'.tm) (h2 : e.bx = e'.bx) (h3 : e.gb = e'.gb) (h4 : e.lv = e'.lv) (h5 : e.gc = e'.gc) : e = e' := by
  cases e; cases e'; simp_all

section
variable {Γ : Ctx}

theorem ev_congr {e e' : Env} (x : Operand) (h : ∀ t, x = .tmp t → e'.tm t = e.tm t) : e'.ev Γ x = e.ev Γ x := by
  cases x with
  | tmp t => exact h t rfl
  | _ => rfl

theorem pureOp_congr {P : Program} {ρ ρ' : Operand → AV} (op : Op) (h : ∀ x ∈ op.operands, ρ x = ρ' x) : pureOp P ρ op = pureOp P ρ' op := by
  cases op with
  | move x => simp only [pureOp]; rw [h x (by simp [Op.operands])]
  | pick c a b => simp only [pureOp]; rw [h c (by simp [Op.operands]), h a (by simp [Op.operands]), h b (by simp [Op.operands])]
  | nilCheck x => simp only [pureOp]; rw [h x (by simp [Op.operands])]
  | binOp o t x y t' => simp only [pureOp]; rw [h x (by simp [Op.operands]), h y (by simp [Op.operands])]
  | unOp o t x => simp only [pureOp]; rw [h x (by simp [Op.operands])]
  | convert s t x => simp only [pureOp]; rw [h x (by simp [Op.operands])]
  | fieldAddr s x i => simp only [pureOp]; rw [h x (by simp [Op.operands])]
  | field s x i => simp only [pureOp]; rw [h x (by simp [Op.operands])]
  | indexAddr t x i => simp only [pureOp]; rw [h x (by simp [Op.operands]), h i (by simp [Op.operands])]
  | index t x i => simp only [pureOp]; rw [h x (by simp [Op.operands]), h i (by simp [Op.operands])]
  | extract x i => simp only [pureOp]; rw [h x (by simp [Op.operands])]
  | slice t x lo hi m =>
    cases m with
    | some m => simp only [pureOp]
    | none =>
      have h1 : ∀ d, boundD ρ lo d = boundD ρ' lo d := by
        intro d; cases lo with
        | none => rfl
        | some l => simp only [boundD]; rw [h l (by simp [Op.operands])]
      have h2 : ∀ d, boundD ρ hi d = boundD ρ' hi d := by
        intro d; cases hi with
        | none => rfl
        | some l => simp only [boundD]; rw [h l (by simp [Op.operands])]
      simp only [pureOp, h1, h2]; rw [h x (by simp [Op.operands])]
  | build t ps =>
    have h1 : (ps.toList.map fun p => (p.1, (ρ p.2).d)) = ps.toList.map fun p => (p.1, (ρ' p.2).d) := by
      apply List.map_congr_left
      intro p hp
      rw [h p.2 (by simp only [Op.operands, List.mem_toArray, List.mem_map]; exact ⟨p, hp, rfl⟩)]
    simp only [pureOp, h1]
  | call c =>
    obtain ⟨cal, as, ts⟩ := c
    cases cal with
    | builtin b =>
      cases b <;> try rfl
      simp only [pureOp]
      split
      · rename_i x t hx ht
        rw [h x ?_]
        have : x ∈ as := by rw [← Array.mem_toList_iff, hx]; simp
        simp [Op.operands, Call.operands, this]
      · rfl
    | _ => rfl
  | makeFunc fn fs cs =>
    cases fn with
    | func f =>
      simp only [pureOp]
      split
      · rename_i x hfs hcs
        rw [h x ?_]
        have h1 : x ∈ cs := by rw [← Array.mem_toList_iff, hcs]; simp
        simp [Op.operands, h1]
      · rfl
    | _ => rfl
  | _ => rfl

theorem setT_setT (e : Env) (d : Nat) (x y : AV) : (e.setT d x).setT d y = e.setT d y := by
  apply Env.ext' <;> try rfl
  funext i; simp only [Env.setT]; split <;> simp_all
theorem setT_same (e : Env) (d : Nat) {y : AV} (h : e.tm d = y) : e.setT d y = e := by
  apply Env.ext' <;> try rfl
  funext i; simp only [Env.setT]; split <;> simp_all
theorem setT_comm (e : Env) {d d' : Nat} (x y : AV) (h : d ≠ d') : (e.setT d x).setT d' y = (e.setT d' y).setT d x := by
  apply Env.ext' <;> try rfl
  funext i; simp only [Env.setT]; split <;> split <;> simp_all
theorem setD_comm (e : Env) {d : Nat} {o : Option Nat} (x y : AV) (h : o ≠ some d) : (e.setT d x).setD o y = (e.setD o y).setT d x := by
  cases o with
  | none => rfl
  | some t => exact setT_comm e x y fun hh => h (by rw [hh])
theorem setD_tm (e : Env) {o : Option Nat} (y : AV) {t : Nat} (h : o ≠ some t) : (e.setD o y).tm t = e.tm t := by
  cases o with
  | none => rfl
  | some s => simp only [Env.setD, Env.setT]; rw [if_neg]; intro hh; exact h (by rw [hh])
theorem setD_bx (e : Env) (o : Option Nat) (y : AV) : (e.setD o y).bx = e.bx := by cases o <;> rfl
theorem setD_gb (e : Env) (o : Option Nat) (y : AV) : (e.setD o y).gb = e.gb := by cases o <;> rfl

theorem land_setT (e : Env) (d : Nat) (y x : AV) (c k : Nat) : (e.setT d y).land x c k = ((e.land x c k).1.setT d y, (e.land x c k).2) := by
  cases x with
  | own c0 k0 g z =>
    simp only [Env.land]
    have : (e.setT d y).lv = e.lv := rfl
    rw [this]
    cases e.lv c0 k0 g <;> rfl
  | val z => cases z <;> rfl
  | _ => rfl
theorem land_tm (e : Env) (x : AV) (c k : Nat) : (e.land x c k).1.tm = e.tm ∧ (e.land x c k).1.bx = e.bx ∧ (e.land x c k).1.gb = e.gb := by
  cases x with
  | own c0 k0 g z => simp only [Env.land]; cases e.lv c0 k0 g <;> exact ⟨rfl, rfl, rfl⟩
  | val z => cases z <;> exact ⟨rfl, rfl, rfl⟩
  | _ => exact ⟨rfl, rfl, rfl⟩
theorem wrCells_setT (d : Nat) (y : AV) (b g : Nat) : ∀ (ds : List D) (o : Nat) (e : Env), (e.setT d y).wrCells b g o ds = (e.wrCells b g o ds).setT d y := by
  intro ds
  induction ds with
  | nil => intro o e; rfl
  | cons z ds ih => intro o e; simp only [Env.wrCells, land_setT]; exact ih (o + 1) ((e.land (.val z) b (o + 1)).1.setB b g o (e.land (.val z) b (o + 1)).2)
theorem wrCells_tm (b g : Nat) : ∀ (ds : List D) (o : Nat) (e : Env), (e.wrCells b g o ds).tm = e.tm ∧ (e.wrCells b g o ds).gb = e.gb ∧ ∀ b' g' o', ¬ (b' = b ∧ g' = g) → (e.wrCells b g o ds).bx b' g' o' = e.bx b' g' o' := by
  intro ds
  induction ds with
  | nil => intro o e; exact ⟨rfl, rfl, fun _ _ _ _ => rfl⟩
  | cons z ds ih =>
    intro o e
    simp only [Env.wrCells]
    obtain ⟨h1, h2, h3⟩ := ih (o + 1) ((e.land (.val z) b (o + 1)).1.setB b g o (e.land (.val z) b (o + 1)).2)
    obtain ⟨l1, l2, l3⟩ := land_tm e (.val z) b (o + 1)
    refine ⟨h1.trans l1, h2.trans l3, fun b' g' o' h => ?_⟩
    rw [h3 b' g' o' h]
    simp only [Env.setB]
    rw [if_neg (fun hh => h ⟨hh.1, hh.2.1⟩), l2]
theorem rdCells_congr {e e' : Env} {b g : Nat} (h : ∀ o, e'.bx b g o = e.bx b g o) : ∀ (n o : Nat), e'.rdCells b g o n = e.rdCells b g o n := by
  intro n
  induction n with
  | zero => intro o; rfl
  | succ n ih => intro o; simp only [Env.rdCells, h, ih]
theorem hasCells_congr {e e' : Env} {b g : Nat} (h : ∀ o, e'.bx b g o = e.bx b g o) : ∀ (n o : Nat), e'.hasCells b g o n = e.hasCells b g o n := by
  intro n
  induction n with
  | zero => intro o; rfl
  | succ n ih => intro o; simp only [Env.hasCells, h, ih]

def Mode.noP : Mode → Bool
  | .p _ => false
  | _ => true
theorem strip_setT (d : Nat) (y : AV) : ∀ (ms : List Mode) (xs : List AV) (e : Env), ms.all Mode.noP = true → (e.setT d y).strip ms xs = (e.strip ms xs).setT d y := by
  intro ms
  induction ms with
  | nil => intro xs e _; rfl
  | cons m ms ih =>
    intro xs e h
    simp only [List.all_cons, Bool.and_eq_true] at h
    cases xs with
    | nil => cases m <;> rfl
    | cons x xs =>
      cases m with
      | p n => simp [Mode.noP] at h
      | v => exact ih xs e h.2
      | o => cases x with
        | own c k g z => exact ih xs (e.kill c k g) h.2
        | _ => exact ih xs e h.2
theorem strip_tm : ∀ (ms : List Mode) (xs : List AV) (e : Env), ms.all Mode.noP = true → (e.strip ms xs).tm = e.tm ∧ (e.strip ms xs).bx = e.bx ∧ (e.strip ms xs).gb = e.gb := by
  intro ms
  induction ms with
  | nil => intro xs e _; exact ⟨rfl, rfl, rfl⟩
  | cons m ms ih =>
    intro xs e h
    simp only [List.all_cons, Bool.and_eq_true] at h
    cases xs with
    | nil => cases m <;> exact ⟨rfl, rfl, rfl⟩
    | cons x xs =>
      cases m with
      | p n => simp [Mode.noP] at h
      | v => exact ih xs e h.2
      | o => cases x with
        | own c k g z => exact ih xs (e.kill c k g) h.2
        | _ => exact ih xs e h.2
theorem fillIn_noP : ∀ (ms : List Mode) (xs : List AV) (outs : List (List D)) (e : Env), ms.all Mode.noP = true → e.fillIn ms xs outs = e := by
  intro ms
  induction ms with
  | nil => intro xs outs e _; simp [Env.fillIn]
  | cons m ms ih =>
    intro xs outs e h
    simp only [List.all_cons, Bool.and_eq_true] at h
    cases xs with
    | nil => cases m <;> simp [Env.fillIn]
    | cons x xs =>
      cases m with
      | p n => simp [Mode.noP] at h
      | v => simp only [Env.fillIn]; exact ih xs outs e h.2
      | o => simp only [Env.fillIn]; exact ih xs outs e h.2
theorem argA_setT (e : Env) (d : Nat) (y : AV) (m : Mode) (x : AV) : (e.setT d y).argA m x = e.argA m x := by
  cases m with
  | v => rfl
  | o => rfl
  | p n =>
    simp only [Env.argA]
    cases x with
    | bx b g o => cases o with
      | zero => simp only []; rw [rdCells_congr (e := e) (e' := e.setT d y) (fun _ => rfl)]
      | succ o => rfl
    | cl f b g => simp only []; rw [rdCells_congr (e := e) (e' := e.setT d y) (fun _ => rfl)]
    | _ => rfl
theorem argsA_setT (e : Env) (d : Nat) (y : AV) : ∀ (ms : List Mode) (xs : List AV), (e.setT d y).argsA ms xs = e.argsA ms xs := by
  intro ms xs
  induction xs generalizing ms with
  | nil => cases ms <;> rfl
  | cons x xs ih => cases ms <;> simp only [Env.argsA, argA_setT, ih]
theorem argsA_v {e e' : Env} : ∀ (ms : List Mode) (xs : List AV), ms.all (fun m => match m with | .v => true | _ => false) = true → e'.argsA ms xs = e.argsA ms xs := by
  intro ms xs
  induction xs generalizing ms with
  | nil => intro _; cases ms <;> rfl
  | cons x xs ih =>
    intro h
    cases ms with
    | nil => simp only [Env.argsA, Env.argA]; rw [ih [] (by simp)]
    | cons m ms =>
      simp only [List.all_cons, Bool.and_eq_true] at h
      cases m with
      | v => simp only [Env.argsA, Env.argA]; rw [ih ms h.2]
      | _ => simp at h
theorem after_v {e : Env} : ∀ (ms : List Mode) (xs : List AV) (outs : List (List D)), ms.all (fun m => match m with | .v => true | _ => false) = true → e.after ms xs outs = e := by
  intro ms xs outs h
  have h' : ms.all Mode.noP = true := by
    rw [List.all_eq_true] at h ⊢
    intro m hm
    have := h m hm
    cases m <;> simp_all [Mode.noP]
  simp only [Env.after, fillIn_noP _ _ _ _ h']
  clear h'
  induction ms generalizing xs with
  | nil => rfl
  | cons m ms ih =>
    simp only [List.all_cons, Bool.and_eq_true] at h
    cases xs with
    | nil => cases m <;> rfl
    | cons x xs => cases m with
      | v => exact ih xs h.2
      | _ => simp at h
end
end Go.Proofs.YtebkaacflocfcaaDoor.Ab.Dr

/- One operation's step, apart from what it does not look at. -/
namespace Go.Proofs.YtebkaacflocfcaaDoor.Ab.Dr
open Go
set_option linter.unusedVariables false
set_option linter.unusedSimpArgs false

def plainCall (Γ : Ctx) (o : Oper) : Bool := match o.op with
  | .call { callee := .value (.func f), .. } => (Γ.md f).all Mode.noP
  | .call { callee := .value _, .. } => false
  | .call { callee := .builtin .copy, .. } => false
  | .makeSlice .. => false
  | .assign _ => !(o.dst == some 4 && o.type == 40)
  | _ => true
theorem evAsg_plain {e : Env} {x : AV} {d ty : Nat} {K : Env → AV → Prop} (h : ¬ (d = 4 ∧ ty = 40)) : evAsg e x d ty K = K (e.land x d 0).1 (e.land x d 0).2 := by
  unfold evAsg
  split
  · rw [if_neg h]; rfl
  · rfl
def noBox (o : Oper) : Bool := match o.op with
  | .store .. => false
  | .alloc .. => false
  | .box .. => false
  | _ => true
def noSt (o : Oper) : Bool := match o.op with
  | .store .. => false
  | _ => true
def Moves (o : Oper) (e e' : Env) : Prop :=
  (∀ t, o.dst ≠ some t → e'.tm t = e.tm t) ∧ (noBox o = true → e'.bx = e.bx ∧ e'.gb = e.gb) ∧ (noSt o = true → ∀ b, e.gb b ≤ e'.gb b ∧ ∀ g o', g < e.gb b → e'.bx b g o' = e.bx b g o')

theorem Moves.of_setD {o : Oper} {e e1 : Env} {y : AV} (h1 : e1.tm = e.tm) (h2 : e1.bx = e.bx) (h3 : e1.gb = e.gb) : Moves o e (e1.setD o.dst y) := by
  refine ⟨fun t ht => by rw [setD_tm _ _ ht, h1], fun _ => ⟨by rw [setD_bx, h2], by rw [setD_gb, h3]⟩, fun _ b => ⟨by rw [setD_gb, h3]; exact Nat.le_refl _, fun g o' _ => by rw [setD_bx, h2]⟩⟩

section
variable {Γ : Ctx}

theorem ev_setT {e : Env} {d : Nat} {y : AV} {x : Operand} (h : x ≠ .tmp d) : (e.setT d y).ev Γ x = e.ev Γ x := by
  refine ev_congr x fun t ht => ?_
  subst ht
  simp only [Env.setT]
  rw [if_neg]
  intro hh; exact h (by rw [hh])

/-- what is to be shown of an operation -/
def StepOk (Γ : Ctx) (o : Oper) (e : Env) (K : Env → Prop) : Prop :=
  ∃ e', K e' ∧ Moves o e e' ∧ (∀ K' : Env → Prop, K' e' → evOp Γ o e K') ∧
    (∀ d y, (∀ x ∈ o.op.operands, x ≠ .tmp d) → o.dst ≠ some d → ∀ K' : Env → Prop, K' (e'.setT d y) → evOp Γ o (e.setT d y) K')

theorem step_pure {o : Oper} {e : Env} {K : Env → Prop} (hev : ∀ (e : Env) (K : Env → Prop), evOp Γ o e K ↔ ∃ z, pureOp Γ.P (e.ev Γ) o.op = some z ∧ K (e.setD o.dst z)) (h : evOp Γ o e K) : StepOk Γ o e K := by
  obtain ⟨z, hz, hk⟩ := (hev e K).1 h
  refine ⟨e.setD o.dst z, hk, Moves.of_setD rfl rfl rfl, fun K' hk' => (hev e K').2 ⟨z, hz, hk'⟩, fun d y hx hd K' hk' => (hev _ K').2 ⟨z, ?_, ?_⟩⟩
  · rw [← hz]; exact pureOp_congr _ fun x hx' => ev_setT (hx x hx')
  · rw [setD_comm _ _ _ hd]; exact hk'

theorem evOp_step {o : Oper} {e : Env} {K : Env → Prop} (hp : plainCall Γ o = true) (h : evOp Γ o e K) : StepOk Γ o e K := by
  obtain ⟨dst, op, ty, pos, after, guard⟩ := o
  cases op with
  | assign x =>
    simp only [evOp] at h
    cases dst with
    | none => exact h.elim
    | some t =>
      simp only [] at h
      have hpl : ¬ (t = 4 ∧ ty = 40) := by
        rintro ⟨rfl, rfl⟩; simp [plainCall] at hp
      rw [evAsg_plain hpl] at h
      obtain ⟨l1, l2, l3⟩ := land_tm e (e.ev Γ x) t 0
      refine ⟨_, h, Moves.of_setD (o := ⟨some t, .assign x, ty, pos, after, guard⟩) l1 l2 l3, fun K' hk' => by simp only [evOp]; rw [evAsg_plain hpl]; exact hk', fun d y hx hd K' hk' => ?_⟩
      have hx' : x ≠ .tmp d := hx x (by simp [Op.operands])
      simp only [evOp, ev_setT hx']
      rw [evAsg_plain hpl]
      simp only [land_setT]
      rw [setT_comm _ _ _ (fun hh => hd (by rw [hh]))]
      exact hk'
  | load t x =>
    simp only [evOp] at h
    have hb : ∀ {b g o' n a}, e.ev Γ x = .bx b g o' → szT Γ.P t = some (n, a) → StepOk Γ ⟨dst, .load t x, ty, pos, after, guard⟩ e K := by
      intro b g o' n a hv hs
      rw [hv, hs] at h
      cases a with
      | true =>
        simp only [] at h
        cases hr : e.rdCells b g o' n with
        | none => rw [hr] at h; exact h.elim
        | some ds =>
          rw [hr] at h
          simp only [] at h
          refine ⟨_, h.2, Moves.of_setD (o := ⟨dst, .load t x, ty, pos, after, guard⟩) rfl rfl rfl, fun K' hk' => by simp only [evOp, hv, hs, hr]; exact ⟨h.1, hk'⟩, fun d y hx hd K' hk' => ?_⟩
          have hx' : x ≠ .tmp d := hx x (by simp [Op.operands])
          have hr' : (e.setT d y).rdCells b g o' n = some ds := by rw [rdCells_congr (e := e) (e' := e.setT d y) (fun _ => rfl), hr]
          simp only [evOp, ev_setT hx', hv, hs, hr']
          exact ⟨h.1, by rw [setD_comm _ _ _ hd]; exact hk'⟩
      | false =>
        simp only [] at h
        have hne : ∃ z, e.bx b g o' = z ∧ z ≠ .no ∧ g < e.gb b ∧ K (e.setD dst z) := by
          refine ⟨_, rfl, ?_, ?_⟩
          · intro hz; rw [hz] at h; exact h.elim
          · split at h
            · exact h.elim
            · exact h
        obtain ⟨z, hz, hz', hg, hk⟩ := hne
        have back : ∀ {e1 : Env} {K' : Env → Prop}, e1.ev Γ x = .bx b g o' → e1.bx b g o' = z → g < e1.gb b → K' (e1.setD dst z) → evOp Γ ⟨dst, .load t x, ty, pos, after, guard⟩ e1 K' := by
          intro e1 K' h1 h2 h3 h4
          simp only [evOp, h1, hs, h2]
          cases z <;> first | exact (hz' rfl).elim | exact ⟨h3, h4⟩
        refine ⟨_, hk, Moves.of_setD (o := ⟨dst, .load t x, ty, pos, after, guard⟩) rfl rfl rfl, fun K' hk' => back hv hz hg hk', fun d y hx hd K' hk' => ?_⟩
        have hx' : x ≠ .tmp d := hx x (by simp [Op.operands])
        exact back (by rw [ev_setT hx', hv]) hz hg (by rw [setD_comm _ _ _ hd]; exact hk')
    cases hv : e.ev Γ x with
    | bx b g o' => cases hs : szT Γ.P t with
      | none => rw [hv, hs] at h; exact h.elim
      | some s => obtain ⟨n, a⟩ := s; exact hb hv hs
    | rp z => cases hs : szT Γ.P t with
      | none => rw [hv, hs] at h; exact h.elim
      | some s =>
        obtain ⟨n, a⟩ := s
        rw [hv, hs] at h
        simp only [] at h
        refine ⟨_, h.2.2, Moves.of_setD (o := ⟨dst, .load t x, ty, pos, after, guard⟩) rfl rfl rfl, fun K' hk' => by simp only [evOp, hv, hs]; exact ⟨h.1, h.2.1, hk'⟩, fun d y hx hd K' hk' => ?_⟩
        have hx' : x ≠ .tmp d := hx x (by simp [Op.operands])
        simp only [evOp, ev_setT hx', hv, hs]
        exact ⟨h.1, h.2.1, by rw [setD_comm _ _ _ hd]; exact hk'⟩
    | _ => rw [hv] at h; exact h.elim
  | store t x v =>
    simp only [evOp] at h
    cases dst with
    | some d => exact h.elim
    | none =>
      cases hv : e.ev Γ x with
      | bx b g o' => cases hs : szT Γ.P t with
        | none => rw [hv, hs] at h; exact h.elim
        | some s =>
          obtain ⟨n, a⟩ := s
          rw [hv, hs] at h
          cases a with
          | true =>
            simp only [] at h
            split at h
            · rename_i ds hd
              refine ⟨_, h.2.2, ⟨fun t _ => by rw [(wrCells_tm b g ds o' e).1], (by intro hh; cases hh), (by intro hh; cases hh)⟩, fun K' hk' => by simp only [evOp, hv, hs, hd]; exact ⟨h.1, h.2.1, hk'⟩, fun d y hx hdd K' hk' => ?_⟩
              have hx' : x ≠ .tmp d := hx x (by simp [Op.operands])
              have hv' : v ≠ .tmp d := hx v (by simp [Op.operands])
              simp only [evOp, ev_setT hx', ev_setT hv', hv, hs, hd, wrCells_setT]
              rw [hasCells_congr (e := e) (e' := e.setT d y) (fun _ => rfl)]
              exact ⟨h.1, h.2.1, hk'⟩
            · exact h.elim
          | false =>
            simp only [] at h
            obtain ⟨h1, h2, h3⟩ := h
            have back : ∀ {e1 : Env} {K' : Env → Prop}, e1.ev Γ x = .bx b g o' → e1.ev Γ v = e.ev Γ v → e1.hasCells b g o' 1 = true → K' ((e1.land (e.ev Γ v) b (o' + 1)).1.setB b g o' (e1.land (e.ev Γ v) b (o' + 1)).2) → evOp Γ ⟨none, .store t x v, ty, pos, after, guard⟩ e1 K' := by
              intro e1 K' q1 q2 q3 q4
              simp only [evOp, q1, hs, q2]
              refine ⟨h1, q3, ?_⟩
              cases hz : e.ev Γ v <;> rw [hz] at h3 q4 <;> first | exact h3.elim | exact ⟨h3.1, q4⟩
            refine ⟨(e.land (e.ev Γ v) b (o' + 1)).1.setB b g o' (e.land (e.ev Γ v) b (o' + 1)).2, ?_, ⟨fun t _ => ?_, (by intro hh; cases hh), (by intro hh; cases hh)⟩, fun K' hk' => back hv rfl h2 hk', fun d y hx hdd K' hk' => ?_⟩
            · cases hz : e.ev Γ v <;> rw [hz] at h3 <;> first | exact h3.elim | exact h3.2
            · have := (land_tm e (e.ev Γ v) b (o' + 1)).1
              simp only [Env.setB, this]
            · have hx' : x ≠ .tmp d := hx x (by simp [Op.operands])
              have hv' : v ≠ .tmp d := hx v (by simp [Op.operands])
              refine back (by rw [ev_setT hx', hv]) (ev_setT hv') (by rw [hasCells_congr (e := e) (e' := e.setT d y) (fun _ => rfl)]; exact h2) ?_
              rw [land_setT]
              exact hk'
      | _ => rw [hv] at h; exact h.elim
  | alloc t =>
    simp only [evOp] at h
    cases dst with
    | none => exact h.elim
    | some s =>
      cases hz : zeroT Γ.P t with
      | none => rw [hz] at h; exact h.elim
      | some z =>
        rw [hz] at h
        simp only [] at h
        have hw := wrCells_tm s (e.gb s) z.cells 0 (e.newGen s)
        refine ⟨_, h, ⟨fun t ht => ?_, (by intro hh; cases hh), fun _ b => ⟨?_, fun g o' hg => ?_⟩⟩, fun K' hk' => by simp only [evOp, hz]; exact hk', fun d y hx hd K' hk' => ?_⟩
        · simp only [Env.newBox, Env.setT]
          rw [if_neg (fun hh => ht (by rw [hh])), hw.1]; rfl
        · show e.gb b ≤ ((e.newGen s).wrCells s (e.gb s) 0 z.cells).gb b
          rw [hw.2.1]; simp only [Env.newGen]; split <;> simp_all
        · simp only [Env.newBox, Env.setT]
          rw [hw.2.2 b g o' (by rintro ⟨rfl, rfl⟩; omega)]
          simp only [Env.newGen]; rw [if_neg (by rintro ⟨rfl, rfl⟩; omega)]
        · simp only [evOp, hz]
          have : (e.setT d y).newBox s z.cells = (e.newBox s z.cells).setT d y := by
            simp only [Env.newBox]; exact wrCells_setT d y s (e.gb s) z.cells 0 (e.newGen s)
          rw [this, setT_comm _ _ _ (fun hh => hd (by rw [hh]))]
          exact hk'
  | box t x =>
    simp only [evOp] at h
    cases dst with
    | none => exact h.elim
    | some s =>
      cases hz : (e.ev Γ x).d with
      | none => rw [hz] at h; exact h.elim
      | some z =>
        rw [hz] at h
        have hnt : z.isTup = false ∧ K ((e.newBox s z.cells).setT s (.bx s (e.gb s) 0)) := by
          cases z <;> first | exact h.elim | exact ⟨rfl, h⟩
        obtain ⟨hnt, hk⟩ := hnt
        have back : ∀ {e1 : Env} {K' : Env → Prop}, (e1.ev Γ x).d = some z → K' ((e1.newBox s z.cells).setT s (.bx s (e1.gb s) 0)) → evOp Γ ⟨some s, .box t x, ty, pos, after, guard⟩ e1 K' := by
          intro e1 K' q1 q2
          simp only [evOp, q1]
          cases z <;> first | exact q2 | simp [D.isTup] at hnt
        have hw := wrCells_tm s (e.gb s) z.cells 0 (e.newGen s)
        refine ⟨_, hk, ⟨fun t ht => ?_, (by intro hh; cases hh), fun _ b => ⟨?_, fun g o' hg => ?_⟩⟩, fun K' hk' => back hz hk', fun d y hx hd K' hk' => back ?_ ?_⟩
        · simp only [Env.newBox, Env.setT]
          rw [if_neg (fun hh => ht (by rw [hh])), hw.1]; rfl
        · show e.gb b ≤ ((e.newGen s).wrCells s (e.gb s) 0 z.cells).gb b
          rw [hw.2.1]; simp only [Env.newGen]; split <;> simp_all
        · simp only [Env.newBox, Env.setT]
          rw [hw.2.2 b g o' (by rintro ⟨rfl, rfl⟩; omega)]
          simp only [Env.newGen]; rw [if_neg (by rintro ⟨rfl, rfl⟩; omega)]
        · rw [ev_setT (hx x (by simp [Op.operands])), hz]
        · have : (e.setT d y).newBox s z.cells = (e.newBox s z.cells).setT d y := by
            simp only [Env.newBox]; exact wrCells_setT d y s (e.gb s) z.cells 0 (e.newGen s)
          rw [this, setT_comm _ _ _ (fun hh => hd (by rw [hh]))]
          exact hk'
  | buildSlice t len ps =>
    simp only [evOp] at h
    cases dst with
    | none => exact h.elim
    | some s =>
      cases hs : elT Γ.P t with
      | none => rw [hs] at h; exact h.elim
      | some q =>
        obtain ⟨q1, n, a, by_⟩ := q
        rw [hs] at h
        simp only [] at h
        cases hm : (ps.toList.map fun p => (e.ev Γ p.2).d).mapM (m := Option) id with
        | none => rw [hm] at h; exact h.elim
        | some ds =>
          rw [hm] at h
          simp only [] at h
          obtain ⟨h1, h2, h3, h4, h5, hk⟩ := h
          refine ⟨_, hk, Moves.of_setD (o := ⟨some s, .buildSlice t len ps, ty, pos, after, guard⟩) (e1 := e.birth s 0) rfl rfl rfl, fun K' hk' => by simp only [evOp, hs, hm]; exact ⟨h1, h2, h3, h4, h5, hk'⟩, fun d y hx hd K' hk' => ?_⟩
          have hmm : (ps.toList.map fun p => ((e.setT d y).ev Γ p.2).d) = ps.toList.map fun p => (e.ev Γ p.2).d := by
            apply List.map_congr_left
            intro p hp
            rw [ev_setT (hx p.2 (by simp only [Op.operands, List.mem_toArray, List.mem_map]; exact ⟨p, hp, rfl⟩))]
          simp only [evOp, hs, hmm, hm]
          refine ⟨h1, h2, h3, h4, h5, ?_⟩
          have : (e.setT d y).birth s 0 = (e.birth s 0).setT d y := rfl
          rw [this, setT_comm _ _ _ (fun hh => hd (by rw [hh]))]
          exact hk'
  | call c =>
    obtain ⟨cal, as, ts⟩ := c
    cases cal with
    | value v =>
      cases v with
      | func f =>
        have hnp : (Γ.md f).all Mode.noP = true := by simpa [plainCall] using hp
        simp only [evOp, evCall] at h
        cases has : e.argsA (Γ.md f) (as.toList.map (e.ev Γ)) with
        | none => rw [has] at h; exact h.elim
        | some aa =>
          rw [has] at h
          simp only [] at h
          obtain ⟨hn, res, hc, hk⟩ := h
          have haf : ∀ e : Env, e.after (Γ.md f) (as.toList.map (e.ev Γ)) res.outs = e.strip (Γ.md f) (as.toList.map (e.ev Γ)) := fun e => by simp only [Env.after, fillIn_noP _ _ _ _ hnp]
          obtain ⟨s1, s2, s3⟩ := strip_tm (Γ.md f) (as.toList.map (e.ev Γ)) e hnp
          have hmap : ∀ d y, (∀ x ∈ (Op.call ⟨.value (.func f), as, ts⟩).operands, x ≠ .tmp d) → as.toList.map ((e.setT d y).ev Γ) = as.toList.map (e.ev Γ) := by
            intro d y hx
            apply List.map_congr_left
            intro x hx'
            exact ev_setT (hx x (by simp [Op.operands, Call.operands]; right; simpa using hx'))
          rw [haf] at hk
          by_cases hmr : ∃ t, dst = some t ∧ Γ.mr f = true
          · obtain ⟨t, rfl, hm⟩ := hmr
            rw [hm] at hk
            simp only [] at hk
            refine ⟨_, hk, Moves.of_setD (o := ⟨some t, .call ⟨.value (.func f), as, ts⟩, ty, pos, after, guard⟩) (e1 := (e.strip (Γ.md f) (as.toList.map (e.ev Γ))).birth t 0) s1 s2 s3, fun K' hk' => ?_, fun d y hx hd K' hk' => ?_⟩
            · simp only [evOp, evCall, has]
              refine ⟨hn, res, hc, ?_⟩
              rw [haf, hm]; exact hk'
            · simp only [evOp, evCall, hmap d y hx, argsA_setT, has]
              refine ⟨hn, res, hc, ?_⟩
              have := haf (e.setT d y)
              rw [hmap d y hx, strip_setT d y _ _ _ hnp] at this
              rw [this, hm]
              simp only []
              have e1 : ((e.strip (Γ.md f) (as.toList.map (e.ev Γ))).setT d y).birth t 0 = ((e.strip (Γ.md f) (as.toList.map (e.ev Γ))).birth t 0).setT d y := rfl
              rw [e1, setT_comm _ _ _ (fun hh => hd (by rw [hh]))]
              exact hk'
          · have hk2 : K ((e.strip (Γ.md f) (as.toList.map (e.ev Γ))).setD dst (.val res.ret)) := by
              cases dst with
              | none => exact hk
              | some t => cases hm : Γ.mr f with
                | true => exact (hmr ⟨t, rfl, hm⟩).elim
                | false => rw [hm] at hk; exact hk
            refine ⟨_, hk2, Moves.of_setD (o := ⟨dst, .call ⟨.value (.func f), as, ts⟩, ty, pos, after, guard⟩) s1 s2 s3, fun K' hk' => ?_, fun d y hx hd K' hk' => ?_⟩
            · simp only [evOp, evCall, has]
              refine ⟨hn, res, hc, ?_⟩
              rw [haf]
              cases dst with
              | none => exact hk'
              | some t => cases hm : Γ.mr f with
                | true => exact (hmr ⟨t, rfl, hm⟩).elim
                | false => exact hk'
            · simp only [evOp, evCall, hmap d y hx, argsA_setT, has]
              refine ⟨hn, res, hc, ?_⟩
              have := haf (e.setT d y)
              rw [hmap d y hx, strip_setT d y _ _ _ hnp] at this
              rw [this]
              rw [← setD_comm _ _ _ hd] at hk'
              cases dst with
              | none => exact hk'
              | some t => cases hm : Γ.mr f with
                | true => exact (hmr ⟨t, rfl, hm⟩).elim
                | false => exact hk'
      | tmp t => simp [plainCall] at hp
      | _ => exact step_pure (fun e K => by simp only [evOp]; cases pureOp _ _ _ <;> simp) h
    | builtin b =>
      cases b with
      | append =>
        simp only [evOp] at h
        split at h
        · rename_i s x ts' tx has hts
          have hs' : ∀ d y, (∀ x ∈ (Op.call ⟨.builtin .append, as, ts⟩).operands, x ≠ .tmp d) → (e.setT d y).ev Γ s = e.ev Γ s ∧ (e.setT d y).ev Γ x = e.ev Γ x := by
            intro d y hx
            have h1 : s ∈ as := by rw [← Array.mem_toList_iff, has]; simp
            have h2 : x ∈ as := by rw [← Array.mem_toList_iff, has]; simp
            exact ⟨ev_setT (hx s (by simp [Op.operands, Call.operands, h1])), ev_setT (hx x (by simp [Op.operands, Call.operands, h2]))⟩
          have hop : ∀ (e1 : Env) (K' : Env → Prop), evOp Γ ⟨dst, .call ⟨.builtin .append, as, ts⟩, ty, pos, after, guard⟩ e1 K' = evAppend Γ dst (e1.ev Γ s) (e1.ev Γ x) ts' tx e1 K' := by
            intro e1 K'
            simp only [evOp, has, hts]
          suffices hsuf : ∃ e', K e' ∧ Moves ⟨dst, .call ⟨.builtin .append, as, ts⟩, ty, pos, after, guard⟩ e e' ∧ (∀ K' : Env → Prop, K' e' → evAppend Γ dst (e.ev Γ s) (e.ev Γ x) ts' tx e K') ∧
              (∀ d y, dst ≠ some d → ∀ K' : Env → Prop, K' (e'.setT d y) → evAppend Γ dst (e.ev Γ s) (e.ev Γ x) ts' tx (e.setT d y) K') by
            obtain ⟨e', q1, q2, q3, q4⟩ := hsuf
            refine ⟨e', q1, q2, fun K' hk' => by rw [hop]; exact q3 K' hk', fun d y hx hd K' hk' => ?_⟩
            rw [hop, (hs' d y hx).1, (hs' d y hx).2]
            exact q4 d y hd K' hk'
          generalize e.ev Γ s = vs at h
          generalize e.ev Γ x = vx at h
          simp only [evAppend] at h ⊢
          cases dst with
          | none => exact h.elim
          | some t =>
          cases hel : elT Γ.P ts' with
          | none => rw [hel] at h; exact h.elim
          | some q =>
          obtain ⟨q1, n, a, by_⟩ := q
          rw [hel] at h
          cases hu : Γ.P.underlying tx with
          | none => rw [hu] at h; exact h.elim
          | some u =>
          rw [hu] at h
          cases hxd : vx.d with
          | none => rw [hxd] at h; exact h.elim
          | some z =>
          rw [hxd] at h
          simp only [] at h ⊢
          split at h
          · rename_i ys hys
            split at h
            · obtain ⟨h1, h2, hk⟩ := h
              refine ⟨_, hk, Moves.of_setD (o := ⟨some t, .call ⟨.builtin .append, as, ts⟩, ty, pos, after, guard⟩) (e1 := e.birth t 0) rfl rfl rfl, fun K' hk' => ⟨h1, h2, hk'⟩, fun d y hd K' hk' => ⟨h1, h2, ?_⟩⟩
              have e1 : (e.setT d y).birth t 0 = (e.birth t 0).setT d y := rfl
              rw [e1, setT_comm _ _ _ (fun hh => hd (by rw [hh]))]
              exact hk'
            · rename_i c k g dd
              split at h
              · rename_i xs hlv
                obtain ⟨h1, h2, h3, hk⟩ := h
                refine ⟨_, hk, Moves.of_setD (o := ⟨some t, .call ⟨.builtin .append, as, ts⟩, ty, pos, after, guard⟩) (e1 := (e.kill c k g).birth t 0) rfl rfl rfl, fun K' hk' => ?_, fun d y hd K' hk' => ?_⟩
                · exact ⟨h1, h2, h3, hk'⟩
                · have el : (e.setT d y).lv c k g = true := hlv
                  simp only [el]
                  refine ⟨h1, h2, h3, ?_⟩
                  have e1 : ((e.setT d y).kill c k g).birth t 0 = ((e.kill c k g).birth t 0).setT d y := rfl
                  rw [e1, setT_comm _ _ _ (fun hh => hd (by rw [hh]))]
                  exact hk'
              · exact h.elim
            · exact h.elim
          · exact h.elim
        · exact h.elim
      | copy => simp [plainCall] at hp
      | _ => exact step_pure (fun e K => by simp only [evOp]; cases pureOp _ _ _ <;> simp) h
    | invoke r m => exact step_pure (fun e K => by simp only [evOp]; cases pureOp _ _ _ <;> simp) h
  | makeSlice t l c => simp [plainCall] at hp
  | _ => exact step_pure (fun e K => by simp only [evOp]; cases pureOp _ _ _ <;> simp) h
end
end Go.Proofs.YtebkaacflocfcaaDoor.Ab.Dr

/- What may change places in a region, and every order that may be drawn. -/
namespace Go.Proofs.YtebkaacflocfcaaDoor.Ab.Dr
open Go
set_option linter.unusedVariables false
set_option linter.unusedSimpArgs false

section
variable {Γ : Ctx}

theorem mem_look {all : Array Oper} {o : Oper} {t : Nat} (h : Operand.tmp t ∈ o.op.operands) : t ∈ o.looksAt all := by
  simp only [Oper.looksAt, List.mem_append, List.mem_filterMap]
  exact .inl ⟨.tmp t, by simpa using h, rfl⟩
theorem look_guard {all : Array Oper} {o : Oper} {j : Nat} {w : Bool} {t : Nat} (hg : o.guard = some (j, w)) (ht : (all[j]?).bind (·.dst) = some t) : t ∈ o.looksAt all := by
  simp only [Oper.looksAt, List.mem_append, hg, ht, Option.toList_some]
  exact .inr (by simp)

theorem evG_step {all : Array Oper} {o : Oper} {e : Env} {K : Env → Prop} (hp : plainCall Γ o = true) (h : evG Γ all o e K) :
    ∃ e', K e' ∧ Moves o e e' ∧ (∀ K' : Env → Prop, K' e' → evG Γ all o e K') ∧
      (∀ d y, d ∉ o.looksAt all → o.dst ≠ some d → ∀ K' : Env → Prop, K' (e'.setT d y) → evG Γ all o (e.setT d y) K') := by
  unfold evG at h ⊢
  cases hg : o.guard with
  | none =>
    rw [hg] at h
    simp only [] at h ⊢
    obtain ⟨e', h1, h2, h3, h4⟩ := evOp_step hp h
    exact ⟨e', h1, h2, h3, fun d y hd => h4 d y fun x hx hxd => hd (mem_look (by rw [← hxd]; exact hx))⟩
  | some q =>
    obtain ⟨j, want⟩ := q
    rw [hg] at h
    simp only [] at h ⊢
    cases ht : (all[j]?).bind (·.dst) with
    | none => rw [ht] at h; exact h.elim
    | some t =>
      rw [ht] at h
      simp only [] at h ⊢
      have hne : ∀ d y, d ∉ o.looksAt all → (e.setT d y).tm t = e.tm t := by
        intro d y hd
        simp only [Env.setT]; rw [if_neg]; rintro rfl; exact hd (look_guard hg ht)
      cases hb : e.tm t with
      | val z => cases z with
        | bool b =>
          rw [hb] at h
          simp only [] at h ⊢
          cases hw : b == want with
          | true =>
            obtain ⟨e', h1, h2, h3, h4⟩ := evOp_step hp (h.1 hw)
            refine ⟨e', h1, h2, fun K' hk' => ⟨fun _ => h3 K' hk', fun h0 => by simp at h0⟩, fun d y hd hdd K' hk' => ?_⟩
            rw [hne d y hd, hb]
            simp only [hw]
            exact ⟨fun _ => h4 d y (fun x hx hxd => hd (mem_look (by rw [← hxd]; exact hx))) hdd K' hk', fun h0 => by simp at h0⟩
          | false =>
            refine ⟨_, h.2 hw, Moves.of_setD rfl rfl rfl, fun K' hk' => ⟨(fun h0 => by simp at h0), fun _ => hk'⟩, fun d y hd hdd K' hk' => ?_⟩
            rw [hne d y hd, hb]
            simp only [hw]
            refine ⟨(fun h0 => by simp at h0), fun _ => ?_⟩
            rw [setD_comm _ _ _ hdd]; exact hk'
        | tup ds => cases ds with
          | nil =>
            rw [hb] at h
            simp only [] at h ⊢
            refine ⟨_, h, Moves.of_setD rfl rfl rfl, fun K' hk' => hk', fun d y hd hdd K' hk' => ?_⟩
            rw [hne d y hd, hb]
            simp only []
            rw [setD_comm _ _ _ hdd]; exact hk'
          | cons _ _ => rw [hb] at h; exact h.elim
        | _ => rw [hb] at h; exact h.elim
      | _ => rw [hb] at h; exact h.elim

/-- an operation that writes one temporary and looks at what it names, and, if it loads, at boxes -/
def isV (Γ : Ctx) (o : Oper) : Bool := match o.op with
  | .move _ => true
  | .pick .. => true
  | .nilCheck _ => true
  | .binOp .. => true
  | .unOp .. => true
  | .convert .. => true
  | .fieldAddr .. => true
  | .field .. => true
  | .indexAddr .. => true
  | .index .. => true
  | .extract .. => true
  | .slice .. => true
  | .build .. => true
  | .load .. => true
  | .call c => match c.callee with
    | .builtin .len => true
    | .value (.func f) => (Γ.md f).all (fun m => match m with | .v => true | _ => false) && !Γ.mr f
    | _ => false
  | _ => false
def noLoad (o : Oper) : Bool := match o.op with
  | .load .. => false
  | _ => true

/-- what an operation that loads needs of two frames -/
def Boxes (e e' : Env) : Prop := ∀ b g o, g < e.gb b → g < e'.gb b ∧ e'.bx b g o = e.bx b g o

theorem pure_local {o : Oper} {e : Env} {K : Env → Prop} (hev : ∀ (e : Env) (K : Env → Prop), evOp Γ o e K ↔ ∃ z, pureOp Γ.P (e.ev Γ) o.op = some z ∧ K (e.setD o.dst z)) (h : evOp Γ o e K) :
    ∃ y, K (e.setD o.dst y) ∧ ∀ e' : Env, (∀ x ∈ o.op.operands, e'.ev Γ x = e.ev Γ x) → (noLoad o = false → Boxes e e') → ∀ K' : Env → Prop, K' (e'.setD o.dst y) → evOp Γ o e' K' := by
  obtain ⟨z, hz, hk⟩ := (hev e K).1 h
  refine ⟨z, hk, fun e' hx _ K' hk' => (hev e' K').2 ⟨z, ?_, hk'⟩⟩
  rw [← hz]; exact pureOp_congr _ hx

theorem evOp_local {o : Oper} {e : Env} {K : Env → Prop} (hv : isV Γ o = true) (h : evOp Γ o e K) :
    ∃ y, K (e.setD o.dst y) ∧ ∀ e' : Env, (∀ x ∈ o.op.operands, e'.ev Γ x = e.ev Γ x) → (noLoad o = false → Boxes e e') → ∀ K' : Env → Prop, K' (e'.setD o.dst y) → evOp Γ o e' K' := by
  obtain ⟨dst, op, ty, pos, after, guard⟩ := o
  cases op with
  | load t x =>
    simp only [evOp] at h
    cases hv : e.ev Γ x with
    | bx b g o' => cases hs : szT Γ.P t with
      | none => rw [hv, hs] at h; exact h.elim
      | some s =>
        obtain ⟨n, a⟩ := s
        rw [hv, hs] at h
        cases a with
        | true =>
          simp only [] at h
          cases hr : e.rdCells b g o' n with
          | none => rw [hr] at h; exact h.elim
          | some ds =>
            rw [hr] at h
            simp only [] at h
            refine ⟨_, h.2, fun e' hx hb K' hk' => ?_⟩
            have hb' := hb rfl
            have hxx : e'.ev Γ x = .bx b g o' := by rw [hx x (by simp [Op.operands]), hv]
            have hr' : e'.rdCells b g o' n = some ds := by rw [rdCells_congr (e := e) (e' := e') (fun q => (hb' b g q h.1).2), hr]
            simp only [evOp, hxx, hs, hr']
            exact ⟨(hb' b g 0 h.1).1, hk'⟩
        | false =>
          simp only [] at h
          have hne : ∃ z, e.bx b g o' = z ∧ z ≠ .no ∧ g < e.gb b ∧ K (e.setD dst z) := by
            refine ⟨_, rfl, ?_, ?_⟩
            · intro hz; rw [hz] at h; exact h.elim
            · split at h
              · exact h.elim
              · exact h
          obtain ⟨z, hz, hz', hg, hk⟩ := hne
          refine ⟨z, hk, fun e' hx hb K' hk' => ?_⟩
          have hb' := hb rfl
          have hxx : e'.ev Γ x = .bx b g o' := by rw [hx x (by simp [Op.operands]), hv]
          have hz2 : e'.bx b g o' = z := by rw [(hb' b g o' hg).2, hz]
          simp only [evOp, hxx, hs, hz2]
          cases z <;> first | exact (hz' rfl).elim | exact ⟨(hb' b g 0 hg).1, hk'⟩
    | rp z => cases hs : szT Γ.P t with
      | none => rw [hv, hs] at h; exact h.elim
      | some s =>
        obtain ⟨n, a⟩ := s
        rw [hv, hs] at h
        simp only [] at h
        refine ⟨_, h.2.2, fun e' hx hb K' hk' => ?_⟩
        have hxx : e'.ev Γ x = .rp z := by rw [hx x (by simp [Op.operands]), hv]
        simp only [evOp, hxx, hs]
        exact ⟨h.1, h.2.1, hk'⟩
    | _ => rw [hv] at h; exact h.elim
  | call c =>
    obtain ⟨cal, as, ts⟩ := c
    cases cal with
    | value v =>
      cases v with
      | func f =>
        simp only [isV, Bool.and_eq_true, Bool.not_eq_true'] at hv
        obtain ⟨hm, hr⟩ := hv
        simp only [evOp, evCall] at h
        cases has : e.argsA (Γ.md f) (as.toList.map (e.ev Γ)) with
        | none => rw [has] at h; exact h.elim
        | some aa =>
          rw [has] at h
          simp only [after_v _ _ _ hm, hr] at h
          obtain ⟨hn, res, hc, hk⟩ := h
          have hk2 : K (e.setD dst (.val res.ret)) := by cases dst <;> exact hk
          refine ⟨_, hk2, fun e' hx hb K' hk' => ?_⟩
          have hmap : as.toList.map (e'.ev Γ) = as.toList.map (e.ev Γ) := by
            apply List.map_congr_left
            intro x hx'
            exact hx x (by simp [Op.operands, Call.operands]; right; simpa using hx')
          simp only [evOp, evCall, hmap]
          rw [argsA_v (e := e) (e' := e') _ _ hm, has]
          simp only [after_v _ _ _ hm, hr]
          exact ⟨hn, res, hc, by cases dst <;> exact hk'⟩
      | _ => simp [isV] at hv
    | builtin b => cases b <;> first | (simp [isV] at hv; done) | exact pure_local (fun e K => by simp only [evOp]; cases pureOp _ _ _ <;> simp) h
    | invoke r m => simp [isV] at hv
  | _ => first | (simp [isV] at hv; done) | exact pure_local (fun e K => by simp only [evOp]; cases pureOp _ _ _ <;> simp) h

theorem evG_local {all : Array Oper} {o : Oper} {e : Env} {K : Env → Prop} (hv : isV Γ o = true) (h : evG Γ all o e K) :
    ∃ y, K (e.setD o.dst y) ∧ ∀ e' : Env, (∀ t ∈ o.looksAt all, e'.tm t = e.tm t) → (noLoad o = false → Boxes e e') → ∀ K' : Env → Prop, K' (e'.setD o.dst y) → evG Γ all o e' K' := by
  have hev : ∀ e' : Env, (∀ t ∈ o.looksAt all, e'.tm t = e.tm t) → ∀ x ∈ o.op.operands, e'.ev Γ x = e.ev Γ x := by
    intro e' hl x hx
    exact ev_congr x fun t ht => hl t (mem_look (by rw [← ht]; exact hx))
  unfold evG at h ⊢
  cases hg : o.guard with
  | none =>
    rw [hg] at h
    simp only [] at h ⊢
    obtain ⟨y, h1, h2⟩ := evOp_local hv h
    exact ⟨y, h1, fun e' hl hb K' hk' => h2 e' (hev e' hl) hb K' hk'⟩
  | some q =>
    obtain ⟨j, want⟩ := q
    rw [hg] at h
    simp only [] at h ⊢
    cases ht : (all[j]?).bind (·.dst) with
    | none => rw [ht] at h; exact h.elim
    | some t =>
      rw [ht] at h
      simp only [] at h ⊢
      cases hb : e.tm t with
      | val z => cases z with
        | bool b =>
          rw [hb] at h
          simp only [] at h ⊢
          cases hw : b == want with
          | true =>
            obtain ⟨y, h1, h2⟩ := evOp_local hv (h.1 hw)
            refine ⟨y, h1, fun e' hl hbx K' hk' => ?_⟩
            rw [hl t (look_guard hg ht), hb]
            simp only [hw]
            exact ⟨fun _ => h2 e' (hev e' hl) hbx K' hk', fun h0 => by simp at h0⟩
          | false =>
            refine ⟨_, h.2 hw, fun e' hl hbx K' hk' => ?_⟩
            rw [hl t (look_guard hg ht), hb]
            simp only [hw]
            exact ⟨(fun h0 => by simp at h0), fun _ => hk'⟩
        | tup ds => cases ds with
          | nil =>
            rw [hb] at h
            simp only [] at h ⊢
            refine ⟨_, h, fun e' hl hbx K' hk' => ?_⟩
            rw [hl t (look_guard hg ht), hb]
            exact hk'
          | cons _ _ => rw [hb] at h; exact h.elim
        | _ => rw [hb] at h; exact h.elim
      | _ => rw [hb] at h; exact h.elim

def commOk (Γ : Ctx) (all : Array Oper) (y x : Oper) : Bool :=
  plainCall Γ y && plainCall Γ x && y.apart all x && ((isV Γ y && (noLoad y || noSt x)) || (isV Γ x && (noLoad x || noBox y)))

theorem comm_ok {all : Array Oper} {y x : Oper} {e : Env} {K : Env → Prop} (hc : commOk Γ all y x = true) (h : evG Γ all y e fun e1 => evG Γ all x e1 K) : evG Γ all x e fun e1 => evG Γ all y e1 K := by
  simp only [commOk, Bool.and_eq_true, Bool.or_eq_true] at hc
  obtain ⟨⟨⟨hpy, hpx⟩, hap⟩, hc⟩ := hc
  obtain ⟨a1, a2, a3⟩ := Oper.apart_spec hap
  rcases hc with ⟨hv, hl⟩ | ⟨hv, hl⟩
  · obtain ⟨z, h1, h2⟩ := evG_local hv h
    obtain ⟨e2, k1, k2, k3, k4⟩ := evG_step hpx h1
    -- the frame behind x alone
    have hx : ∃ e', e2 = e'.setD y.dst z ∧ Moves x e e' ∧ ∀ K' : Env → Prop, K' e' → evG Γ all x e K' := by
      cases hd : y.dst with
      | none =>
        rw [hd] at k2 k3
        exact ⟨e2, rfl, k2, k3⟩
      | some d =>
        rw [hd] at k2 k3 k4
        simp only [Env.setD] at k2 k3 k4 ⊢
        have hdx : x.dst ≠ some d := a2 d hd
        have hlx : d ∉ x.looksAt all := a1 d hd
        have htm : e2.tm d = z := by rw [k2.1 d hdx]; simp [Env.setT]
        refine ⟨e2.setT d (e.tm d), by rw [setT_setT, setT_same _ _ htm], ⟨fun t ht => ?_, fun hn => k2.2.1 hn, fun hn => k2.2.2 hn⟩, fun K' hk' => ?_⟩
        · by_cases hdt : t = d
          · subst hdt; simp [Env.setT]
          · have := k2.1 t ht
            simp only [Env.setT, if_neg hdt] at this ⊢
            exact this
        · have := k4 d (e.tm d) hlx hdx K' hk'
          rw [setT_setT, setT_same _ _ rfl] at this
          exact this
    obtain ⟨e', he, hm, hk⟩ := hx
    refine hk _ ?_
    refine h2 e' (fun t ht => hm.1 t fun hxt => a3 t hxt ht) (fun hnl => ?_) _ (by rw [← he]; exact k1)
    have hs : noSt x = true := by simpa [hnl] using hl
    intro b g o hg
    have hq := hm.2.2 hs b
    exact ⟨Nat.lt_of_lt_of_le hg hq.1, hq.2 g o hg⟩
  · obtain ⟨e', k1, k2, k3, k4⟩ := evG_step hpy h
    obtain ⟨z, h1, h2⟩ := evG_local hv k1
    refine h2 e (fun t ht => (k2.1 t fun hyt => a1 t hyt ht).symm) (fun hnl => ?_) _ ?_
    · have hs : noBox y = true := by simpa [hnl] using hl
      obtain ⟨q1, q2⟩ := k2.2.1 hs
      intro b g o hg
      rw [q2] at hg
      exact ⟨hg, by rw [q1]⟩
    · cases hd : x.dst with
      | none => rw [hd] at h1; exact k3 _ h1
      | some d =>
        rw [hd] at h1
        exact k4 d z (a3 d hd) (fun hh => a2 d hh hd) _ h1
end
end Go.Proofs.YtebkaacflocfcaaDoor.Ab.Dr

/- Every order that may be drawn gives what the order of the text gives. -/
namespace Go.Proofs.YtebkaacflocfcaaDoor.Ab.Dr
open Go
set_option linter.unusedVariables false
set_option linter.unusedSimpArgs false

def preds (o : Oper) : List Nat := (o.after.toList.filter (Region.binds .any)).map (·.on)
def maskOf (M : List Nat) (o : Oper) : Nat := (preds o).foldl (fun s z => s ||| 2 ^ z ||| M.getD z 0) 0
def masks (ops : List Oper) : List Nat := ops.foldl (fun M o => M ++ [maskOf M o]) []
def regAt (Γ : Ctx) (ops : Array Oper) (M : List Nat) (i : Nat) : Bool := match ops[i]? with
  | some o => plainCall Γ o && (preds o).all (fun z => decide (z < i)) && M.getD i 0 == maskOf M o && (List.range i).all fun y => (M.getD i 0).testBit y || (match ops[y]? with | some o' => commOk Γ ops o' o | none => false)
  | none => false
/-- may a region's order be drawn? -/
def regOk (Γ : Ctx) (ops : Array Oper) : Bool := Γ.P.follows .mixedOrders && (List.range ops.size).all (regAt Γ ops (masks ops.toList))

theorem fold_bit (M : List Nat) (y : Nat) : ∀ (ps : List Nat) (s : Nat), (ps.foldl (fun s z => s ||| 2 ^ z ||| M.getD z 0) s).testBit y = true → s.testBit y = true ∨ ∃ z ∈ ps, y = z ∨ (M.getD z 0).testBit y = true := by
  intro ps
  induction ps with
  | nil => intro s h; exact .inl h
  | cons p ps ih =>
    intro s h
    rw [List.foldl_cons] at h
    rcases ih _ h with h | ⟨z, hz, h⟩
    · simp only [Nat.testBit_or, Bool.or_eq_true] at h
      rcases h with (h | h) | h
      · exact .inl h
      · rw [Nat.testBit_two_pow] at h
        exact .inr ⟨p, by simp, .inl (by simpa using h : p = y).symm⟩
      · exact .inr ⟨p, by simp, .inr h⟩
    · exact .inr ⟨z, by simp [hz], h⟩

section
variable {Γ : Ctx} {ops : Array Oper}

def evI (Γ : Ctx) (ops : Array Oper) : List Nat → Env → (Env → Prop) → Prop
  | [], e, K => K e
  | i :: is, e, K => match ops[i]? with
    | some o => evG Γ ops o e fun e' => evI Γ ops is e' K
    | none => False

theorem evI_ops : ∀ (is : List Nat) (os : List Oper), is.map (ops[·]?) = os.map some → ∀ (e : Env) (K : Env → Prop), evI Γ ops is e K = evOps Γ ops os e K := by
  intro is
  induction is with
  | nil => intro os h e K; cases os with
    | nil => rfl
    | cons o os => simp at h
  | cons i is ih =>
    intro os h e K
    cases os with
    | nil => simp at h
    | cons o os =>
      simp only [List.map_cons, List.cons.injEq] at h
      simp only [evI, evOps, h.1]
      congr 1
      funext e'
      exact ih os h.2 e' K

theorem evG_mono' {o : Oper} {e : Env} {K K' : Env → Prop} (hp : plainCall Γ o = true) (hk : ∀ e, K e → K' e) (h : evG Γ ops o e K) : evG Γ ops o e K' := by
  obtain ⟨e', h1, _, h3, _⟩ := evG_step hp h
  exact h3 K' (hk e' h1)

theorem bubble {i : Nat} {o : Oper} (hi : ops[i]? = some o) (rest : List Nat) : ∀ (pre : List Nat), (∀ y ∈ pre, ∃ o', ops[y]? = some o' ∧ commOk Γ ops o' o = true) → ∀ (e : Env) (K : Env → Prop),
    evI Γ ops (pre ++ i :: rest) e K → evI Γ ops (i :: (pre ++ rest)) e K := by
  intro pre
  induction pre with
  | nil => intro _ e K h; exact h
  | cons y pre ih =>
    intro hp e K h
    obtain ⟨o', hy, hc⟩ := hp y (by simp)
    simp only [List.cons_append, evI, hy] at h
    have hpl : plainCall Γ o' = true := by
      simp only [commOk, Bool.and_eq_true] at hc
      exact hc.1.1.1
    have h2 : evG Γ ops o' e fun e1 => evG Γ ops o e1 fun e2 => evI Γ ops (pre ++ rest) e2 K := by
      refine evG_mono' hpl (fun e1 h1 => ?_) h
      have := ih (fun z hz => hp z (by simp [hz])) e1 K h1
      simpa only [evI, hi] using this
    have h3 := comm_ok hc h2
    simp only [List.cons_append, evI, hi, hy]
    exact h3

def rem (ops : Array Oper) (listed : Array Bool) : List Nat := (List.range ops.size).filter fun i => !listed.getD i true
/-- what is listed, is listed with all that goes ahead of it -/
def Cl (ops : Array Oper) (listed : Array Bool) : Prop := ∀ i o, ops[i]? = some o → listed.getD i true = true → ∀ z ∈ preds o, listed.getD z false = true

theorem closure {M : List Nat} (hM : ∀ i, i < ops.size → regAt Γ ops M i = true) {listed : Array Bool} (hcl : Cl ops listed) : ∀ (n i : Nat) (o : Oper), i < n → ops[i]? = some o → (∀ z ∈ preds o, listed.getD z false = true) →
    ∀ y, (M.getD i 0).testBit y = true → listed.getD y false = true := by
  intro n
  induction n with
  | zero => intro i o h; omega
  | succ n ih =>
    intro i o hin ho hp y hy
    have hlt : i < ops.size := (Array.getElem?_eq_some_iff.1 ho).1
    have hr := hM i hlt
    simp only [regAt, ho, Bool.and_eq_true, List.all_eq_true, decide_eq_true_eq, beq_iff_eq] at hr
    rw [hr.1.2] at hy
    rcases fold_bit M y (preds o) 0 hy with h | ⟨z, hz, h⟩
    · simp at h
    · have hzl := hp z hz
      rcases h with rfl | h
      · exact hzl
      · have hzi := hr.1.1.2 z hz
        have hzs : z < ops.size := by omega
        refine ih z ops[z] (by omega) (Array.getElem?_eq_getElem hzs) (hcl z _ (Array.getElem?_eq_getElem hzs) ?_) y h
        have : listed.getD z true = true := by
          cases hq : listed[z]? with
          | none => simp [hq]
          | some b => simp [hq] at hzl ⊢; exact hzl
        exact this

theorem mem_preds {o : Oper} {ed : Edge} (h : ed ∈ o.after) (hb : Region.binds .any ed = true) : ed.on ∈ preds o := by
  simp only [preds, List.mem_map, List.mem_filter]
  exact ⟨ed, ⟨by simpa using h, hb⟩, rfl⟩
theorem of_preds {o : Oper} {z : Nat} (h : z ∈ preds o) : ∃ ed ∈ o.after, Region.binds .any ed = true ∧ ed.on = z := by
  simp only [preds, List.mem_map, List.mem_filter] at h
  obtain ⟨ed, ⟨h1, h2⟩, h3⟩ := h
  exact ⟨ed, by simpa using h1, h2, h3⟩

theorem getD_of {listed : Array Bool} {i : Nat} (hi : i < listed.size) (d d' : Bool) : listed.getD i d = listed.getD i d' := by
  simp [hi]

theorem drawn {M : List Nat} (hM : ∀ i, i < ops.size → regAt Γ ops M i = true) : ∀ (fuel t : Nat) (listed : Array Bool) (e : Env) (K : Env → Prop), listed.size = ops.size → Cl ops listed →
    (rem ops listed).length ≤ fuel → evI Γ ops (rem ops listed) e K → evI Γ ops (Region.linearise.go .any ops fuel t listed []) e K := by
  intro fuel
  induction fuel with
  | zero =>
    intro t listed e K hsz hcl hl h
    have : rem ops listed = [] := List.length_eq_zero_iff.1 (by omega)
    rw [this] at h
    simp only [Region.linearise.go, List.reverse_nil]
    exact h
  | succ fuel ih =>
    intro t listed e K hsz hcl hl h
    simp only [Region.linearise.go]
    change evI Γ ops (match (Region.ready .any ops listed)[t % (Region.ready .any ops listed).length]? with
      | some i => Region.linearise.go .any ops fuel (t / (Region.ready .any ops listed).length) (listed.setIfInBounds i true) [i]
      | none => [].reverse) e K
    cases hi : (Region.ready .any ops listed)[t % (Region.ready .any ops listed).length]? with
    | none =>
      have hnil : Region.ready .any ops listed = [] := by
        cases hr : Region.ready .any ops listed with
        | nil => rfl
        | cons x xs =>
          rw [hr] at hi
          have hlt : t % (x :: xs).length < (x :: xs).length := Nat.mod_lt _ (by simp)
          simp at hi
          simp at hlt
          omega
      have hrem : rem ops listed = [] := by
        cases hr : rem ops listed with
        | nil => rfl
        | cons i0 r =>
          exfalso
          have hmem : i0 ∈ rem ops listed := by rw [hr]; simp
          have hm2 := hmem
          simp only [rem, List.mem_filter, List.mem_range, Bool.not_eq_true'] at hm2
          have hpw : (rem ops listed).Pairwise (· < ·) := List.Pairwise.filter _ List.pairwise_lt_range
          rw [hr, List.pairwise_cons] at hpw
          have hlow : ∀ z, z < i0 → listed.getD z false = true := by
            intro z hz
            have hzs : z < listed.size := by omega
            cases hq : listed.getD z true with
            | true => rw [getD_of hzs false true]; exact hq
            | false =>
              have hzm : z ∈ rem ops listed := by
                simp only [rem, List.mem_filter, List.mem_range, Bool.not_eq_true']
                exact ⟨by omega, hq⟩
              rw [hr] at hzm
              rcases List.mem_cons.1 hzm with h' | h'
              · omega
              · have := hpw.1 z h'; omega
          have hrd : i0 ∈ Region.ready .any ops listed := by
            rw [mem_ready]
            refine ⟨hm2.2, ops[i0]'hm2.1, Array.getElem?_eq_getElem hm2.1, fun ed he hb => hlow _ ?_⟩
            have hr0 := hM i0 hm2.1
            simp only [regAt, Array.getElem?_eq_getElem hm2.1, Bool.and_eq_true, List.all_eq_true, decide_eq_true_eq] at hr0
            exact hr0.1.1.2 _ (mem_preds he hb)
          rw [hnil] at hrd
          cases hrd
      rw [hrem] at h
      simp only [List.reverse_nil]
      exact h
    | some i =>
      simp only []
      rw [linearise_go_acc, List.reverse_singleton, List.singleton_append]
      have hrd := List.mem_of_getElem? hi
      rw [mem_ready] at hrd
      obtain ⟨hu, o, ho, hpre⟩ := hrd
      have hlt : i < ops.size := (Array.getElem?_eq_some_iff.1 ho).1
      have hmem : i ∈ rem ops listed := by
        simp only [rem, List.mem_filter, List.mem_range, Bool.not_eq_true']
        exact ⟨hlt, hu⟩
      obtain ⟨s, r, hsr⟩ := List.append_of_mem hmem
      have hpw : (rem ops listed).Pairwise (· < ·) := List.Pairwise.filter _ List.pairwise_lt_range
      rw [hsr, List.pairwise_append] at hpw
      obtain ⟨p1, p2, p3⟩ := hpw
      rw [List.pairwise_cons] at p2
      have hprl : ∀ z ∈ preds o, listed.getD z false = true := by
        intro z hz
        obtain ⟨ed, he, hb, rfl⟩ := of_preds hz
        exact hpre ed he hb
      have hcomm : ∀ y ∈ s, ∃ o', ops[y]? = some o' ∧ commOk Γ ops o' o = true := by
        intro y hy
        have hyi : y < i := p3 y hy i (by simp)
        have hym : y ∈ rem ops listed := by rw [hsr]; simp [hy]
        simp only [rem, List.mem_filter, List.mem_range, Bool.not_eq_true'] at hym
        have hr0 := hM i hlt
        simp only [regAt, ho, Bool.and_eq_true, List.all_eq_true, List.mem_range, Bool.or_eq_true] at hr0
        refine ⟨ops[y]'hym.1, Array.getElem?_eq_getElem hym.1, ?_⟩
        rcases hr0.2 y hyi with hb | hb
        · have hc := closure hM hcl (i + 1) i o (by omega) ho hprl y hb
          rw [getD_of (by omega) false true, hym.2] at hc
          cases hc
        · rw [Array.getElem?_eq_getElem hym.1] at hb
          exact hb
      rw [hsr] at h
      have hb := bubble ho r s hcomm e K h
      have hrem2 : rem ops (listed.setIfInBounds i true) = s ++ r := by
        have : rem ops (listed.setIfInBounds i true) = (rem ops listed).filter (fun j => !(j == i)) := by
          simp only [rem, List.filter_filter]
          apply List.filter_congr
          intro j hj
          by_cases hji : j = i
          · subst hji
            have : j < listed.size := by omega
            simp [this]
          · rw [getD_set_ne true (fun hh => hji hh.symm)]
            simp [hji]
        rw [this, hsr, List.filter_append, List.filter_cons]
        simp only [BEq.rfl, Bool.not_true, Bool.false_eq_true, ↓reduceIte]
        rw [List.filter_eq_self.2 (fun a ha => ?_), List.filter_eq_self.2 (fun a ha => ?_)]
        · have := p2.1 a ha
          simp; omega
        · have := p3 a ha i (by simp)
          simp; omega
      simp only [evI, ho] at hb
      have hcl2 : Cl ops (listed.setIfInBounds i true) := by
        intro j oj hj hjl z hz
        by_cases hji : j = i
        · subst hji
          rw [ho] at hj; obtain rfl := Option.some.inj hj
          exact getD_set_true (hprl z hz)
        · rw [getD_set_ne true (fun hh => hji hh.symm)] at hjl
          exact getD_set_true (hcl j oj hj hjl z hz)
      have hlen : (rem ops (listed.setIfInBounds i true)).length ≤ fuel := by
        rw [hrem2]; rw [hsr] at hl; simp at hl ⊢; omega
      have hsz2 : (listed.setIfInBounds i true).size = ops.size := by simp [hsz]
      simp only [evI, ho]
      have hr0 := hM i hlt
      simp only [regAt, ho, Bool.and_eq_true] at hr0
      refine evG_mono' hr0.1.1.1 (fun e' he' => ?_) hb
      exact ih _ _ e' K hsz2 hcl2 hlen (by rw [hrem2]; exact he')

theorem go_lt : ∀ (fuel t : Nat) (listed : Array Bool), ∀ i ∈ Region.linearise.go .any ops fuel t listed [], i < ops.size := by
  intro fuel
  induction fuel with
  | zero => intro t listed i hi; simp [Region.linearise.go] at hi
  | succ fuel ih =>
    intro t listed i hi
    simp only [Region.linearise.go] at hi
    change i ∈ (match (Region.ready .any ops listed)[t % (Region.ready .any ops listed).length]? with
      | some i => Region.linearise.go .any ops fuel (t / (Region.ready .any ops listed).length) (listed.setIfInBounds i true) [i]
      | none => [].reverse) at hi
    cases hq : (Region.ready .any ops listed)[t % (Region.ready .any ops listed).length]? with
    | none => rw [hq] at hi; simp at hi
    | some j =>
      rw [hq] at hi
      simp only [] at hi
      rw [linearise_go_acc, List.reverse_singleton, List.singleton_append] at hi
      rcases List.mem_cons.1 hi with rfl | hi
      · have := List.mem_of_getElem? hq
        rw [mem_ready] at this
        obtain ⟨_, o, ho, _⟩ := this
        exact (Array.getElem?_eq_some_iff.1 ho).1
      · exact ih _ _ i hi

theorem map_get : ∀ (is : List Nat), (∀ i ∈ is, i < ops.size) → is.map (ops[·]?) = (is.filterMap (ops[·]?)).map some := by
  intro is
  induction is with
  | nil => intro _; rfl
  | cons i is ih =>
    intro h
    have hi : ops[i]? = some (ops[i]'(h i (by simp))) := Array.getElem?_eq_getElem _
    rw [List.filterMap_cons, hi]
    simp only [List.map_cons, hi]
    rw [ih fun j hj => h j (by simp [hj])]

theorem draw_sound (hr : regOk Γ ops = true) {e : Env} {K : Env → Prop} (hk : evOps Γ ops ops.toList e K) (t : Nat) :
    ∃ os, (Region.schedule (Γ.P.follows .mixedOrders) ops t).map (ops[·]?) = os.map some ∧ evOps Γ ops os e K := by
  simp only [regOk, Bool.and_eq_true, List.all_eq_true, List.mem_range] at hr
  obtain ⟨hm, hM⟩ := hr
  simp only [Region.schedule, hm, Bool.true_or, if_true, Region.linearise]
  have hlt := go_lt (ops := ops) ops.size t (Array.replicate ops.size false)
  have hmg := map_get _ hlt
  refine ⟨_, hmg, ?_⟩
  rw [← evI_ops _ _ hmg]
  have hrem : rem ops (Array.replicate ops.size false) = List.range ops.size := by
    simp only [rem]
    refine List.filter_eq_self.2 fun a ha => ?_
    have := List.mem_range.1 ha
    simp [this]
  refine drawn hM ops.size t _ e K (by simp) (fun i o hi hl => ?_) (by rw [hrem]; simp) ?_
  · have := (Array.getElem?_eq_some_iff.1 hi).1
    simp [this] at hl
  · rw [hrem]
    rw [evI_ops (List.range ops.size) ops.toList]
    · exact hk
    · apply List.ext_getElem?
      intro i
      simp only [List.getElem?_map]
      by_cases h : i < ops.size
      · rw [List.getElem?_range h]
        simp [h]
      · rw [List.getElem?_eq_none (by simpa using h), List.getElem?_eq_none (by simpa using h)]; rfl
end
end Go.Proofs.YtebkaacflocfcaaDoor.Ab.Dr

/- Code and functions. -/
namespace Go.Proofs.YtebkaacflocfcaaDoor.Ab
open Go
set_option linter.unusedVariables false
set_option linter.unusedSimpArgs false

/-- the closed facts on a function's code -/
def codeOk (Γ : Ctx) (nt : Nat) : Code → Bool
  | .region _ ops draw => slotsOk nt ops.toList && (!draw || Dr.regOk Γ ops)
  | .seq a b => codeOk Γ nt a && codeOk Γ nt b
  | .cond _ a b => codeOk Γ nt a && codeOk Γ nt b
  | .block _ c => codeOk Γ nt c
  | .loop c => codeOk Γ nt c
  | _ => true

section
variable {Γ : Ctx} {nt : Nat} {w0 : World} {com0 : (Nat → Nat) × (Nat → Nat)} {os0 ps0 : List Nat}

def PostOf (Γ : Ctx) (nt : Nat) (w0 : World) (com0 : (Nat → Nat) × (Nat → Nat)) (os0 ps0 : List Nat) (Q : X → Env → Prop) : Exit → Act → World → Prop
  | .normal, a, w => Nx Γ nt w0 com0 os0 ps0 (Q .n) a w
  | .exit i, a, w => Nx Γ nt w0 com0 os0 ps0 (Q (.x i)) a w
  | .ret, a, w => Nx Γ nt w0 com0 os0 ps0 (Q .r) a w
  | _, _, _ => False

theorem range_get (ops : Array Oper) : (List.range ops.size).map (ops[·]?) = ops.toList.map some := by
  apply List.ext_getElem?
  intro i
  simp only [List.getElem?_map]
  by_cases h : i < ops.size
  · rw [List.getElem?_range h]
    simp [h]
  · rw [List.getElem?_eq_none (by simpa using h), List.getElem?_eq_none (by simpa using h)]; rfl

theorem evW_sound : ∀ (c : Code) {Q : X → Env → Prop} {G : Gh} {e : Env} {a : Act} {w : World}, codeOk Γ nt c = true → Rel Γ nt w0 com0 os0 ps0 G e a w → evW Γ c Q e → c.wp Γ.P (PostOf Γ nt w0 com0 os0 ps0 Q) a w
  | .skip, Q, G, e, a, w, _, h, hk => wp_skip ⟨G, e, h, hk⟩
  | .exit i, Q, G, e, a, w, _, h, hk => wp_exit ⟨G, e, h, hk⟩
  | .ret, Q, G, e, a, w, _, h, hk => wp_ret ⟨G, e, h, hk⟩
  | .region id ops draw, Q, G, e, a, w, hc, h, hk => by
    simp only [codeOk, Bool.and_eq_true] at hc
    cases draw with
    | false => exact wp_region (evOps_sound ops hc.1 (List.range ops.size) (os := ops.toList) (range_get ops) h hk fun _ _ h => h)
    | true =>
      refine wp_region_draw fun t => ?_
      have hr : Dr.regOk Γ ops = true := by simpa using hc.2
      obtain ⟨os, h1, h2⟩ := Dr.draw_sound hr hk t
      exact evOps_sound ops hc.1 _ h1 (h.drew _) h2 fun _ _ h => h
  | .seq x y, Q, G, e, a, w, hc, h, hk => by
    simp only [codeOk, Bool.and_eq_true] at hc
    refine wp_seq (wp_mono (evW_sound x hc.1 h hk) fun en a' w' hp => ?_)
    cases en with
    | normal => obtain ⟨G', e', h', hk'⟩ := hp; exact evW_sound y hc.2 h' hk'
    | exit i => exact hp
    | ret => exact hp
    | goto l => exact hp
    | panic ch => exact hp
    | outgrown => exact hp
  | .cond c x y, Q, G, e, a, w, hc, h, hk => by
    simp only [codeOk, Bool.and_eq_true] at hc
    simp only [evW] at hk
    split at hk
    · rename_i t ht
      have hv := h.ev c
      rw [ht] at hv
      have hb : a.eval c = .bool t := Den_bool (w := w) (com := G.com) hv
      cases t with
      | true => exact wp_cond_true hb (evW_sound x hc.1 h (hk.1 rfl))
      | false => exact wp_cond_false hb (evW_sound y hc.2 h (hk.2 rfl))
    · exact hk.elim
  | .block id c, Q, G, e, a, w, hc, h, hk => by
    simp only [codeOk] at hc
    refine wp_block (wp_mono (evW_sound c hc h hk) fun en a' w' hp => ?_)
    cases en with
    | normal => exact hp
    | exit i =>
      obtain ⟨G', e', h', hk'⟩ := hp
      simp only [X.inBlock] at hk'
      simp only [Exit.inBlock]
      split
      · rename_i hi; rw [if_pos hi] at hk'; exact ⟨G', e', h', hk'⟩
      · rename_i hi; rw [if_neg hi] at hk'; exact ⟨G', e', h', hk'⟩
    | ret => exact hp
    | goto l => exact hp
    | panic ch => exact hp
    | outgrown => exact hp
  | .loop c, Q, G, e, a, w, hc, h, hk => by
    simp only [codeOk] at hc
    obtain ⟨I, n, hI, hround⟩ := hk
    refine wp_loop_ghost (fun n a w => Nx Γ nt w0 com0 os0 ps0 (I n) a w) n ⟨G, e, h, hI⟩ ?_
    rintro n a w ⟨G', e', h', hI'⟩
    refine wp_mono (evW_sound c hc h' (hround n e' hI')) fun en a' w' hp => ?_
    cases en with
    | normal => obtain ⟨G2, e2, h2, n', hlt, hk2⟩ := hp; exact ⟨n', hlt, G2, e2, h2, hk2⟩
    | exit i => exact hp
    | ret => exact hp
    | goto l => exact hp
    | panic ch => exact hp
    | outgrown => exact hp
  | .rangeFunc .., _, _, _, _, _, _, _, hk => hk.elim
  | .scope .., _, _, _, _, _, _, _, hk => hk.elim
  | .label .., _, _, _, _, _, _, _, hk => hk.elim
  | .goto .., _, _, _, _, _, _, _, hk => hk.elim
  | .refuse .., _, _, _, _, _, _, _, hk => hk.elim

theorem Wk.den {w : World} {com : Nat → Nat} : ∀ {d d' : D} {v : Value}, Wk d d' → Den w com d v → Den w com d' v := by
  intro d d' v h
  induction h generalizing v with
  | refl d => exact id
  | nil => exact Den.nil_sl
  | @agg xs ys hl h ih =>
    intro hd
    obtain ⟨vs, rfl, hf, hL⟩ := Den_agg hd
    simp only [Den]
    refine ⟨vs, rfl, ?_, DenL_of (by rw [DenL_length hL, hl]) fun i y v hy hv => ?_⟩
    · rw [List.all_eq_true]
      intro y hy
      obtain ⟨i, hi⟩ := List.mem_iff_getElem?.1 hy
      have hlt : i < xs.length := by
        rw [hl]
        rcases Nat.lt_or_ge i ys.length with h' | h'
        · exact h'
        · rw [List.getElem?_eq_none h'] at hi; cases hi
      have hw := h i _ y (List.getElem?_eq_getElem hlt) hi
      have hxf := List.all_eq_true.1 hf _ (List.getElem_mem hlt)
      generalize xs[i] = x at hw hxf
      cases hw <;> simp_all [D.flat]
    · have hlt : i < xs.length := by
        rw [hl]
        rcases Nat.lt_or_ge i ys.length with h' | h'
        · exact h'
        · rw [List.getElem?_eq_none h'] at hy; cases hy
      obtain ⟨u, q1, q2⟩ := DenL_get hL i _ (List.getElem?_eq_getElem hlt)
      rw [hv] at q1; obtain rfl := Option.some.inj q1
      exact ih i _ y (List.getElem?_eq_getElem hlt) hy q2
  | @tup xs ys hl h ih =>
    intro hd
    simp only [Den] at hd ⊢
    obtain ⟨vs, rfl, hL⟩ := hd
    refine ⟨vs, rfl, DenL_of (by rw [DenL_length hL, hl]) fun i y v hy hv => ?_⟩
    have hlt : i < xs.length := by
      rw [hl]
      rcases Nat.lt_or_ge i ys.length with h' | h'
      · exact h'
      · rw [List.getElem?_eq_none h'] at hy; cases hy
    obtain ⟨u, q1, q2⟩ := DenL_get hL i _ (List.getElem?_eq_getElem hlt)
    rw [hv] at q1; obtain rfl := Option.some.inj q1
    exact ih i _ y (List.getElem?_eq_getElem hlt) hy q2

/-- the results of a frame -/
theorem ress_run {G : Gh} {e : Env} {a : Act} {w : World} (h : Rel Γ nt w0 com0 os0 ps0 G e a w) : ∀ {rs : List ResultVar} {ds : List D}, e.ress Γ rs = some ds →
    ∃ vs : List Value, (rs.mapM (m := Sem) fun | .tmp t => pure (a.tmps.getD t undef) | .cell p t => do loadVar t (← asAddr (a.tmps.getD p undef))).run Γ.P w = .ok vs w ∧ DenL w G.com ds vs := by
  intro rs
  induction rs with
  | nil => intro ds hr; simp [Env.ress] at hr; subst hr; exact ⟨[], by simp, by simp [DenL]⟩
  | cons r rs ih =>
    intro ds hr
    simp only [Env.ress] at hr
    split at hr
    · rename_i d ds' h1 h2
      obtain rfl := Option.some.inj hr
      obtain ⟨vs, k1, k2⟩ := ih h2
      have one : ∃ v, (match r with | .tmp t => (pure (a.tmps.getD t undef) : Sem Value) | .cell p t => do loadVar t (← asAddr (a.tmps.getD p undef))).run Γ.P w = .ok v w ∧ Den w G.com d v := by
        cases r with
        | tmp t => exact ⟨_, rfl, (h.tm t).den h1⟩
        | cell p t =>
          simp only [Env.resOf] at h1
          split at h1
          · rename_i b g o n hb hs
            have hp := h.tm p
            rw [hb] at hp
            obtain ⟨hg, hv⟩ := hp
            cases hrd : e.rdCells b g o n with
            | none => rw [hrd] at h1; cases h1
            | some ds2 =>
              rw [hrd] at h1; obtain rfl := Option.some.inj h1
              obtain ⟨us, q1, q2, q3, q4⟩ := rd_spec h hg hrd
              obtain ⟨s1, s2⟩ := szT_spec hs w
              have hl := run_loadCells_list (P := Γ.P) w ⟨G.β b g, o, none⟩ us (fun j v hj => by rw [add_none]; exact q2 j v hj)
              rw [q1] at hl
              refine ⟨.agg us.toArray, ?_, by simp only [Den]; exact ⟨us, rfl, q4, q3⟩⟩
              simp [hv, asAddr, loadVar, s1, s2, hl]
          · rename_i b g o n hb hs
            have hp := h.tm p
            rw [hb] at hp
            obtain ⟨hg, hv⟩ := hp
            obtain ⟨p1, p2, arr, E, p3, p4⟩ := h.bx b g hg
            obtain ⟨v, q1, q2, q3⟩ := p4 o (fun hn => by rw [hn] at h1; simp [AV.d] at h1)
            obtain ⟨s1, s2⟩ := szT_spec hs w
            have hc : w.cell? ⟨G.β b g, o, none⟩ = some v := by simp [World.cell?, p3, q1]
            exact ⟨v, by simp [hv, asAddr, loadVar, s2, hc], q3.den h1⟩
          · cases h1
      obtain ⟨v, j1, j2⟩ := one
      refine ⟨v :: vs, ?_, by simp only [DenL]; exact ⟨v, vs, rfl, j2, k2⟩⟩
      rw [List.mapM_cons]
      simp only [Sem.run_bind]
      have j1' := j1
      rw [j1']
      simp only [Result.andThen, k1, Sem.run_pure]
    · cases hr
end
end Go.Proofs.YtebkaacflocfcaaDoor.Ab

/- From the evaluator to a contract: acalls_of. -/
namespace Go.Proofs.YtebkaacflocfcaaDoor.Ab
open Go
set_option linter.unusedVariables false
set_option linter.unusedSimpArgs false

/-- the places of the boxes among the arguments -/
def posP : Nat → List A → List Nat
  | _, [] => []
  | n, .p _ _ :: as => n :: posP (n + 1) as
  | n, .v _ :: as => posP (n + 1) as
  | n, .o _ :: as => posP (n + 1) as

theorem posP_shift : ∀ (as : List A) (n : Nat), posP (n + 1) as = (posP n as).map (· + 1) := by
  intro as
  induction as with
  | nil => intro n; rfl
  | cons x as ih => intro n; cases x <;> simp [posP, ih (n + 1)]

theorem posP_mem : ∀ (as : List A) (n p : Nat), p ∈ posP n as → ∃ fc ds, n ≤ p ∧ as[p - n]? = some (.p fc ds) := by
  intro as
  induction as with
  | nil => intro n p h; simp [posP] at h
  | cons x as ih =>
    intro n p h
    have step : p ∈ posP (n + 1) as → ∃ fc ds, n ≤ p ∧ (x :: as)[p - n]? = some (.p fc ds) := by
      intro h
      obtain ⟨fc, ds, h1, h2⟩ := ih (n + 1) p h
      refine ⟨fc, ds, by omega, ?_⟩
      rw [show p - n = (p - (n + 1)) + 1 by omega]
      simpa using h2
    cases x with
    | p fc ds =>
      simp only [posP, List.mem_cons] at h
      rcases h with rfl | h
      · exact ⟨fc, ds, Nat.le_refl _, by simp⟩
      · exact step h
    | v d => exact step h
    | o d => exact step h

section
variable {w : World} {com : Nat → Nat}

/-- the blocks of the arguments, place by place -/
theorem args_blk {as : List A} {vs : List Value} {os ps : List Nat} (h : Args w com as vs os ps) :
    as.length = vs.length ∧ ∃ blk : Nat → Nat, ps = (posP 0 as).map blk ∧
      (∀ (i : Nat) (fc : Option Nat) (ds : List D), as[i]? = some (.p fc ds) → vs[i]? = some (fnV fc (blk i)) ∧ BoxAt w com (blk i) ds ∧ blk i ∈ ps) ∧
      (∀ (i : Nat) (d : D), as[i]? = some (.v d) → ∃ v, vs[i]? = some v ∧ Den w com d v) ∧
      (∀ (i : Nat) (d : D), as[i]? = some (.o d) → ∃ v, vs[i]? = some v ∧ Den w com d v ∧ (isNil v d ∨ ∃ xs, d = .sl xs ∧ Hdr w com (blk i) v xs ∧ blk i ∈ os)) ∧
      (∀ (i j : Nat) (fi fj : Option Nat) (di dj : List D), as[i]? = some (.p fi di) → as[j]? = some (.p fj dj) → blk i = blk j → i = j) ∧
      (∀ (i j : Nat) (di dj : D) (vi vj : Value), as[i]? = some (.o di) → as[j]? = some (.o dj) → vs[i]? = some vi → vs[j]? = some vj → ¬ isNil vi di → ¬ isNil vj dj → blk i = blk j → i = j) ∧
      (∀ k, k ∈ os → k ∉ ps) := by
  induction h with
  | nil => exact ⟨rfl, fun _ => 0, rfl, fun i fc d h => by simp at h, fun i d h => by simp at h, fun i d h => by simp at h, fun i j fi fj di dj h => by simp at h, fun i j di dj vi vj h => by simp at h, fun k h => by simp at h⟩
  | @v d as v vs os ps hd hr ih =>
    obtain ⟨hl, blk, h0, h1, h2, h3, h4, h5, h6⟩ := ih
    refine ⟨by simp [hl], fun i => blk (i - 1), ?_, fun i fc' ds hi => ?_, fun i d' hi => ?_, fun i d' hi => ?_, fun i j fi fj di dj hi hj he => ?_, fun i j di dj vi vj hi hj hvi hvj n1 n2 he => ?_, h6⟩
    · simp only [posP, posP_shift, List.map_map]; rw [h0]; apply List.map_congr_left; intro p _; simp
    · cases i with
      | zero => simp at hi
      | succ i => simpa using h1 i fc' ds (by simpa using hi)
    · cases i with
      | zero => simp at hi; subst hi; exact ⟨v, rfl, hd⟩
      | succ i => simpa using h2 i d' (by simpa using hi)
    · cases i with
      | zero => simp at hi
      | succ i => simpa using h3 i d' (by simpa using hi)
    · cases i with
      | zero => simp at hi
      | succ i => cases j with
        | zero => simp at hj
        | succ j => have := h4 i j fi fj di dj (by simpa using hi) (by simpa using hj) (by simpa using he); omega
    · cases i with
      | zero => simp at hi
      | succ i => cases j with
        | zero => simp at hj
        | succ j => have := h5 i j di dj vi vj (by simpa using hi) (by simpa using hj) (by simpa using hvi) (by simpa using hvj) n1 n2 (by simpa using he); omega
  | @oNil as vs os ps hr ih =>
    obtain ⟨hl, blk, h0, h1, h2, h3, h4, h5, h6⟩ := ih
    refine ⟨by simp [hl], fun i => blk (i - 1), ?_, fun i fc' ds hi => ?_, fun i d' hi => ?_, fun i d' hi => ?_, fun i j fi fj di dj hi hj he => ?_, fun i j di dj vi vj hi hj hvi hvj n1 n2 he => ?_, h6⟩
    · simp only [posP, posP_shift, List.map_map]; rw [h0]; apply List.map_congr_left; intro p _; simp
    · cases i with
      | zero => simp at hi
      | succ i => simpa using h1 i fc' ds (by simpa using hi)
    · cases i with
      | zero => simp at hi
      | succ i => simpa using h2 i d' (by simpa using hi)
    · cases i with
      | zero => simp at hi; subst hi; exact ⟨_, rfl, Den.nil_sl (by simp [Den]), .inl ⟨rfl, rfl⟩⟩
      | succ i => simpa using h3 i d' (by simpa using hi)
    · cases i with
      | zero => simp at hi
      | succ i => cases j with
        | zero => simp at hj
        | succ j => have := h4 i j fi fj di dj (by simpa using hi) (by simpa using hj) (by simpa using he); omega
    · cases i with
      | zero => simp at hi hvi; subst hi hvi; exact absurd ⟨rfl, rfl⟩ n1
      | succ i => cases j with
        | zero => simp at hj hvj; subst hj hvj; exact absurd ⟨rfl, rfl⟩ n2
        | succ j => have := h5 i j di dj vi vj (by simpa using hi) (by simpa using hj) (by simpa using hvi) (by simpa using hvj) n1 n2 (by simpa using he); omega
  | @o ys as v vs os ps k hd hh hk1 hk2 hr ih =>
    obtain ⟨hl, blk, h0, h1, h2, h3, h4, h5, h6⟩ := ih
    have hmem : ∀ (i : Nat) (d : D) (u : Value), as[i]? = some (.o d) → vs[i]? = some u → ¬ isNil u d → blk i ∈ os := by
      intro i d u q1 q2 q3
      obtain ⟨u', r1, _, r3⟩ := h3 i d q1
      rw [q2] at r1; obtain rfl := Option.some.inj r1
      rcases r3 with r3 | ⟨xs, _, _, r3⟩
      · exact absurd r3 q3
      · exact r3
    refine ⟨by simp [hl], fun i => match i with | 0 => k | i + 1 => blk i, ?_, fun i fc' ds hi => ?_, fun i d' hi => ?_, fun i d' hi => ?_, fun i j fi fj di dj hi hj he => ?_, fun i j di dj vi vj hi hj hvi hvj n1 n2 he => ?_, fun k' hk' => ?_⟩
    · simp only [posP, posP_shift, List.map_map]; rw [h0]; apply List.map_congr_left; intro p _; rfl
    · cases i with
      | zero => simp at hi
      | succ i => simpa using h1 i fc' ds (by simpa using hi)
    · cases i with
      | zero => simp at hi
      | succ i => simpa using h2 i d' (by simpa using hi)
    · cases i with
      | zero => simp at hi; subst hi; exact ⟨v, rfl, hd, .inr ⟨ys, rfl, hh, by simp⟩⟩
      | succ i =>
        obtain ⟨u, q1, q2, q3⟩ := h3 i d' (by simpa using hi)
        refine ⟨u, by simpa using q1, q2, ?_⟩
        rcases q3 with q3 | ⟨xs, e1, e2, e3⟩
        · exact .inl q3
        · exact .inr ⟨xs, e1, e2, by simp [e3]⟩
    · cases i with
      | zero => simp at hi
      | succ i => cases j with
        | zero => simp at hj
        | succ j => have := h4 i j fi fj di dj (by simpa using hi) (by simpa using hj) (by simpa using he); omega
    · cases i with
      | zero => cases j with
        | zero => rfl
        | succ j =>
          have hm := hmem j dj vj (by simpa using hj) (by simpa using hvj) n2
          simp only at he
          rw [← he] at hm
          exact absurd hm hk1
      | succ i => cases j with
        | zero =>
          have hm := hmem i di vi (by simpa using hi) (by simpa using hvi) n1
          simp only at he
          rw [he] at hm
          exact absurd hm hk1
        | succ j => have := h5 i j di dj vi vj (by simpa using hi) (by simpa using hj) (by simpa using hvi) (by simpa using hvj) n1 n2 (by simpa using he); omega
    · rcases List.mem_cons.1 hk' with rfl | hk'
      · exact hk2
      · exact h6 k' hk'
  | @p fc ds as vs os ps k hbx hk1 hk2 hr ih =>
    obtain ⟨hl, blk, h0, h1, h2, h3, h4, h5, h6⟩ := ih
    refine ⟨by simp [hl], fun i => match i with | 0 => k | i + 1 => blk i, ?_, fun i fc' ds' hi => ?_, fun i d' hi => ?_, fun i d' hi => ?_, fun i j fi fj di dj hi hj he => ?_, fun i j di dj vi vj hi hj hvi hvj n1 n2 he => ?_, fun k' hk' => ?_⟩
    · simp only [posP, posP_shift, List.map_cons, List.map_map]; rw [h0]; congr 1
    · cases i with
      | zero => simp at hi; obtain ⟨rfl, rfl⟩ := hi; exact ⟨rfl, hbx, by simp⟩
      | succ i => have := h1 i fc' ds' (by simpa using hi); exact ⟨by simpa using this.1, this.2.1, by simp [this.2.2]⟩
    · cases i with
      | zero => simp at hi
      | succ i => simpa using h2 i d' (by simpa using hi)
    · cases i with
      | zero => simp at hi
      | succ i => simpa using h3 i d' (by simpa using hi)
    · cases i with
      | zero => cases j with
        | zero => rfl
        | succ j =>
          have hm := (h1 j fj dj (by simpa using hj)).2.2
          simp only at he
          rw [← he] at hm; exact absurd hm hk2
      | succ i => cases j with
        | zero =>
          have hm := (h1 i fi di (by simpa using hi)).2.2
          simp only at he
          rw [he] at hm; exact absurd hm hk2
        | succ j => have := h4 i j fi fj di dj (by simpa using hi) (by simpa using hj) (by simpa using he); omega
    · cases i with
      | zero => simp at hi
      | succ i => cases j with
        | zero => simp at hj
        | succ j => have := h5 i j di dj vi vj (by simpa using hi) (by simpa using hj) (by simpa using hvi) (by simpa using hvj) n1 n2 (by simpa using he); omega
    · rcases List.mem_cons.1 (show k' ∈ k' :: ps by simp) with _ | _
      all_goals
        intro hm
        rcases List.mem_cons.1 hm with rfl | hm
        · exact hk1 hk'
        · exact h6 k' hk' hm
end

theorem args_lt {w : World} {com : Nat → Nat} {as : List A} {vs : List Value} {os ps : List Nat} (h : Args w com as vs os ps) : ∀ k, k ∈ os ∨ k ∈ ps → k < w.heap.size := by
  have lt_of : ∀ k o, w.heap[k]? = some o → k < w.heap.size := fun k o ho => (Array.getElem?_eq_some_iff.1 ho).1
  induction h with
  | nil => intro k hk; simp at hk
  | v _ _ ih => exact ih
  | oNil _ ih => exact ih
  | o _ hh _ _ _ ih =>
    intro k hk
    rcases hk with hk | hk
    · rcases List.mem_cons.1 hk with rfl | hk
      · obtain ⟨cap, sz, arr, E, _, _, _, _, q5, _⟩ := hh; exact lt_of _ _ q5
      · exact ih k (.inl hk)
    · exact ih k (.inr hk)
  | p hbx _ _ _ ih =>
    intro k hk
    rcases hk with hk | hk
    · exact ih k (.inl hk)
    · rcases List.mem_cons.1 hk with rfl | hk
      · obtain ⟨_, arr, E, q5, _⟩ := hbx; exact lt_of _ _ q5
      · exact ih k (.inr hk)

open Classical in
/-- the ghosts as a call begins -/
noncomputable def gh0 (com : Nat → Nat) (as : List A) (vs : List Value) (blk : Nat → Nat) : Gh where
  com := com
  β b g := blk (b - 100000)
  κ c k g := blk c
  ρ b := if h : ∃ i fc ds, as[i]? = some (.p fc ds) ∧ blk i = b then .box (100000 + Classical.choose h) 0
    else if h : ∃ i d v, as[i]? = some (.o d) ∧ vs[i]? = some v ∧ ¬ isNil v d ∧ blk i = b then .cls (Classical.choose h) 0 0 else .ext

theorem init_rel {Γ : Ctx} {nt : Nat} {w : World} {com : Nat → Nat} {as : List A} {vs : List Value} {os ps : List Nat} (hG : Glob Γ w com) (hcom : ∀ b, w.heap.size ≤ b → com b = 0)
    (h : Args w com as vs os ps) : ∃ G pid, (∀ (j p k : Nat), (posP 0 as)[j]? = some p → ps[j]? = some k → pid k = 100000 + p) ∧
      Rel Γ nt w (com, pid) os ps G (Env.init as) { tmps := vs.toArray ++ Array.replicate (nt - vs.toArray.size) undef, defers := [] } w := by
  obtain ⟨hl, blk, h0, h1, h2, h3, h4, h5, h6⟩ := args_blk h
  have lt_of : ∀ k o, w.heap[k]? = some o → k < w.heap.size := fun k o ho => (Array.getElem?_eq_some_iff.1 ho).1
  have ρp : ∀ (i : Nat) (fc : Option Nat) (ds : List D), as[i]? = some (.p fc ds) → (gh0 com as vs blk).ρ (blk i) = .box (100000 + i) 0 := by
    intro i fc ds hi
    have hex : ∃ j fc ds, as[j]? = some (.p fc ds) ∧ blk j = blk i := ⟨i, fc, ds, hi, rfl⟩
    simp only [gh0]
    rw [dif_pos hex]
    obtain ⟨fc', ds', q1, q2⟩ := Classical.choose_spec hex
    rw [h4 _ i fc' fc ds' ds q1 hi q2]
  have ρo : ∀ (i : Nat) (d : D) (v : Value), as[i]? = some (.o d) → vs[i]? = some v → ¬ isNil v d → (gh0 com as vs blk).ρ (blk i) = .cls i 0 0 := by
    intro i d v hi hv hn
    have hos : blk i ∈ os := by
      obtain ⟨v', q1, q2, q3⟩ := h3 i d hi
      rw [hv] at q1; obtain rfl := Option.some.inj q1
      rcases q3 with q3 | ⟨xs, _, _, q3⟩
      · exact absurd q3 hn
      · exact q3
    have hno : ¬ ∃ j fc ds, as[j]? = some (.p fc ds) ∧ blk j = blk i := by
      rintro ⟨j, fc, ds, q1, q2⟩
      have := (h1 j fc ds q1).2.2
      rw [q2] at this
      exact h6 _ hos this
    have hex : ∃ j d v, as[j]? = some (.o d) ∧ vs[j]? = some v ∧ ¬ isNil v d ∧ blk j = blk i := ⟨i, d, v, hi, hv, hn, rfl⟩
    simp only [gh0]
    rw [dif_neg hno, dif_pos hex]
    obtain ⟨d', v', q1, q2, q3, q4⟩ := Classical.choose_spec hex
    rw [h5 _ i d' d v' v q1 hi q2 hv q3 hn q4]
  have ρext : ∀ b, b ∉ ps → b ∉ os → (gh0 com as vs blk).ρ b = .ext := by
    intro b n1 n2
    simp only [gh0]
    rw [dif_neg, dif_neg]
    · rintro ⟨i, d, v, q1, q2, q3, q4⟩
      obtain ⟨v', r1, _, r3⟩ := h3 i d q1
      rw [q2] at r1; obtain rfl := Option.some.inj r1
      rcases r3 with r3 | ⟨xs, _, _, r3⟩
      · exact q3 r3
      · rw [q4] at r3; exact n2 r3
    · rintro ⟨i, fc, ds, q1, q2⟩
      have := (h1 i fc ds q1).2.2
      rw [q2] at this; exact n1 this
  have psm : ∀ k ∈ ps, ∃ i fc ds, as[i]? = some (.p fc ds) ∧ blk i = k := by
    intro k hk
    rw [h0] at hk
    obtain ⟨p, hp, rfl⟩ := List.mem_map.1 hk
    obtain ⟨fc, ds, _, q⟩ := posP_mem as 0 p hp
    exact ⟨p, fc, ds, by simpa using q, rfl⟩
  refine ⟨gh0 com as vs blk, fun k => match (gh0 com as vs blk).ρ k with | .box b _ => b | _ => 0, fun j p k hj hk => ?_, ?_⟩
  · have : ps[j]? = some (blk p) := by rw [h0, List.getElem?_map, hj]; rfl
    rw [hk] at this; obtain rfl := Option.some.inj this
    obtain ⟨fc, ds, _, q⟩ := posP_mem as 0 p (List.mem_of_getElem? hj)
    simp only [ρp p fc ds (by simpa using q)]
  · refine ⟨by simp; omega, fun t => ?_, rfl, fun b g hg => ?_, fun b hb => ?_, hcom, hG, ?_, fun k b g hk => ?_⟩
    rotate_right
    · simp only [gh0] at hk
      split at hk
      · rename_i hex
        injection hk with e1 e2; subst e1 e2
        obtain ⟨fc, ds, q1, q2⟩ := Classical.choose_spec hex
        generalize Classical.choose hex = i at q1 q2 ⊢
        refine ⟨by simp [Env.init, q1], ?_⟩
        simp only [gh0, Nat.add_sub_cancel_left]; exact q2
      · split at hk <;> cases hk
    · simp only [Env.init]
      cases ha : as[t]? with
      | none => trivial
      | some x =>
        have hlt : t < vs.length := by
          rw [← hl]
          rcases Nat.lt_or_ge t as.length with h' | h'
          · exact h'
          · rw [List.getElem?_eq_none h'] at ha; cases ha
        have hget : ∀ v, vs[t]? = some v → (vs.toArray ++ Array.replicate (nt - vs.toArray.size) undef).getD t undef = v := by
          intro v hv
          rw [Array.getD_eq_getD_getElem?, Array.getElem?_append_left (by simpa using hlt)]
          simp [hv]
        cases x with
        | v d =>
          obtain ⟨v, q1, q2⟩ := h2 t d ha
          show AVRel w _ _ (.val d) _
          rw [hget v q1]; exact q2
        | o d =>
          obtain ⟨v, q1, q2, q3⟩ := h3 t d ha
          show AVRel w _ _ (.own t 0 0 d) _
          rw [hget v q1]
          refine ⟨by simp, q2, fun _ => ?_⟩
          by_cases hn : isNil v d
          · exact .inl hn
          · rcases q3 with q3 | ⟨xs, e1, e2, e3⟩
            · exact absurd q3 hn
            · exact .inr ⟨xs, e1, ρo t d v ha q1 hn, e2⟩
        | p fc ds =>
          cases fc with
          | none =>
            show AVRel w _ _ (.bx (100000 + t) 0 0) _
            rw [hget _ (h1 t none ds ha).1]
            exact ⟨by simp [ha], by simp [gh0, fnV]⟩
          | some f =>
            show AVRel w _ _ (.cl f (100000 + t) 0) _
            rw [hget _ (h1 t (some f) ds ha).1]
            exact ⟨by simp [ha], by simp [gh0, fnV]⟩
    · simp only [Env.init] at hg
      split at hg
      · rename_i hb
        cases ha : as[b - 100000]? with
        | none => simp [ha] at hg
        | some x =>
          cases x with
          | v d => simp [ha] at hg
          | o d => simp [ha] at hg
          | p fc ds =>
            obtain rfl : g = 0 := by simp [ha] at hg; exact hg
            obtain ⟨q1, ⟨q2, arr, E, q3, q4⟩, q5⟩ := h1 _ fc ds ha
            have hρ := ρp _ fc ds ha
            rw [show 100000 + (b - 100000) = b by omega] at hρ
            refine ⟨hρ, q2, arr, E, q3, fun o ho => ?_⟩
            simp only [Env.init, ha, hb, and_self, if_true] at ho ⊢
            cases hd : ds[o]? with
            | none => simp [hd] at ho
            | some d =>
              obtain ⟨v, r1, r2, r3⟩ := q4 o d hd
              exact ⟨v, r1, Den_flat_one r2 r3, r3⟩
      · omega
    · have hlt := args_lt h
      exact ρext b (fun hm => by have := hlt b (.inr hm); omega) (fun hm => by have := hlt b (.inl hm); omega)
    · exact ⟨rfl, rfl, rfl, Nat.le_refl _, fun _ _ _ _ => rfl, fun _ _ _ => rfl, Agree.refl _ _, fun k _ arr E hw => ⟨arr, hw, rfl⟩, fun b _ n1 n2 => ρext b n2 n1,
        fun k hk => by obtain ⟨i, fc, ds, q1, q2⟩ := psm k hk; exact ⟨_, _, by rw [← q2]; exact ρp i fc ds q1, by rw [← q2]; simp only [ρp i fc ds q1], rfl, by omega⟩⟩
theorem outsOk_spec {e : Env} : ∀ {as : List A} {n : Nat} {outs : List (List D)}, e.outsOk n as outs → outs.length = (posP n as).length ∧
    ∀ (j p : Nat) (ds : List D), (posP n as)[j]? = some p → outs[j]? = some ds → ∃ ds', e.rdCells (100000 + p) 0 0 ds.length = some ds' ∧ Env.outsOk.WkL ds' ds := by
  intro as
  induction as with
  | nil => intro n outs h; simp only [Env.outsOk] at h; subst h; exact ⟨rfl, fun j p ds h => by simp [posP] at h⟩
  | cons x as ih =>
    intro n outs h
    cases x with
    | v d => simp only [Env.outsOk] at h; simpa only [posP] using ih h
    | o d => simp only [Env.outsOk] at h; simpa only [posP] using ih h
    | p fc ds =>
      cases outs with
      | nil => simp [Env.outsOk] at h
      | cons o outs =>
        simp only [Env.outsOk] at h
        obtain ⟨k1, k2⟩ := ih h.2
        refine ⟨by simp [posP, k1], fun j p ds' hj ho => ?_⟩
        cases j with
        | zero =>
          simp only [posP, List.getElem?_cons_zero, Option.some.injEq] at hj ho
          subst hj ho
          exact h.1
        | succ j => exact k2 j p ds' (by simpa [posP] using hj) (by simpa using ho)

theorem Wk_flat {d d' : D} (h : Wk d d') (hf : d.flat = true) : d'.flat = true := by
  cases h <;> simp_all [D.flat]

theorem Wk_sl {xs : List D} {d' : D} (h : Wk (.sl xs) d') : d' = .sl xs := by cases h; rfl

/-- FROM THE EVALUATOR TO THE CONTRACT -/
theorem acalls_of {Γ : Ctx} {f : FuncId} {fn : Func} {c : Code} (hf : Γ.P.funcs[f]? = some fn) (hb : fn.body = some c) (hname : (fn.name == "runtime.NumGoroutine") = false)
    {as : List A} {res : ARes} (hc : codeOk Γ fn.ntmps c = true) (h : evW Γ c (postF Γ (Γ.mr f) fn as res) (Env.init as)) : ACalls Γ f as res := by
  have hnm : ¬ fn.name = "runtime.NumGoroutine" := by simpa using hname
  refine ⟨fun args w => by simp [callFunc, hf, hnm, hb], fun w com vs os ps hG hcom hargs => ?_⟩
  obtain ⟨G, pid, g2, r⟩ := init_rel (nt := fn.ntmps) hG hcom hargs
  obtain ⟨hl, blk, hps, _⟩ := args_blk hargs
  refine calls_of_wp hf hb (wp_mono (evW_sound c hc r h) fun en a' w' hp => ?_)
  have fin : Nx Γ fn.ntmps w (com, pid) os ps (retOk Γ (Γ.mr f) fn as res) a' w' → a'.defers = [] ∧ ∃ v, (results fn a'.tmps).run Γ.P w' = .ok v w' ∧
      (∃ v' com', Ending.returned v = .returned v' ∧ Den w' com' res.ret v' ∧ Behind w com os ps res.outs w' com' ∧ (Γ.mr f = true → OwnRes w os ps w' com' v' res.ret)) := by
    rintro ⟨G', e', h', hret, houts⟩
    refine ⟨h'.defers, ?_⟩
    have fr := h'.fr
    -- what is left behind
    have hbeh : Behind w com os ps res.outs w' G'.com := by
      obtain ⟨k1, k2⟩ := outsOk_spec houts
      refine ⟨fr.osame, fr.tape, fr.output, fr.size, fr.old, fr.com_old, fr.agree, h'.com_new, ⟨by rw [k1, hps, List.length_map], fun j k ds hk ho => ?_⟩, fr.psz⟩
      obtain ⟨p, hp⟩ : ∃ p, (posP 0 as)[j]? = some p := by
        have : j < (posP 0 as).length := by
          rw [hps] at hk
          rcases Nat.lt_or_ge j (posP 0 as).length with h' | h'
          · exact h'
          · rw [List.getElem?_eq_none (by simpa using h')] at hk; cases hk
        exact ⟨_, List.getElem?_eq_getElem this⟩
      obtain ⟨ds', q1, q2, q3⟩ := k2 j p ds hp ho
      obtain ⟨b, g, s1, rfl, rfl, _⟩ := fr.pbox k (List.mem_of_getElem? hk)
      obtain ⟨s2, s3⟩ := h'.rb k _ _ s1
      have hpid := g2 j p k hp hk
      simp only [hpid] at s2 s3
      obtain ⟨c1, arr, E, c2, c3⟩ := box_at h' s2 q1
      rw [s3] at c1 c2
      refine ⟨c1, arr, E, c2, fun i d hi => ?_⟩
      have hlt : i < ds'.length := by
        rw [q2]
        rcases Nat.lt_or_ge i ds.length with h' | h'
        · exact h'
        · rw [List.getElem?_eq_none h'] at hi; cases hi
      obtain ⟨v, r1, r2, r3⟩ := c3 i _ (List.getElem?_eq_getElem hlt)
      have hw := q3 i _ d (List.getElem?_eq_getElem hlt) hi
      exact ⟨v, r1, Wk_flat hw r2, hw.den r3⟩
    have hres : ∀ (ds : List D), e'.ress Γ fn.results.toList = some ds → ∃ vs : List Value, DenL w' G'.com ds vs ∧ (results fn a'.tmps).run Γ.P w' = .ok (if h : vs.toArray.size = 1 then vs.toArray[0] else .tuple vs.toArray) w' := by
      intro ds hds
      obtain ⟨vs, q1, q2⟩ := ress_run h' hds
      refine ⟨vs, q2, ?_⟩
      unfold results
      rw [Array.mapM_eq_mapM_toList]
      simp only [Sem.run_bind, Sem.run_map]
      erw [q1]
      rfl
    split at hret
    · rename_i d hd
      obtain ⟨k1, k2⟩ := hret
      obtain ⟨vs, q1, q2⟩ := hres _ hd
      simp only [DenL] at q1
      obtain ⟨v, r, rfl, hv, rfl⟩ := q1
      refine ⟨v, by rw [q2]; simp, v, G'.com, rfl, k1.den hv, hbeh, fun hmr => ?_⟩
      have k2' := k2 hmr
      split at k2'
      · rename_i t ht
        have hd' : (e'.tm t).d = some d := by
          rw [ht] at hd
          simp only [Env.ress, Env.resOf] at hd
          split at hd
          · rename_i d2 ds2 z1 z2
            simp only [Option.some.injEq, List.cons.injEq] at hd z2
            rw [z1, hd.1]
          · cases hd
        have hrun : v = a'.tmps.getD t undef := by
          have : (results fn a'.tmps).run Γ.P w' = .ok (a'.tmps.getD t undef) w' := by
            unfold results
            rw [Array.mapM_eq_mapM_toList, ht]
            simp
          rw [q2] at this
          simp only [List.size_toArray, List.length_cons, List.length_nil, Nat.zero_add, dite_true] at this
          injection this
        have htm := h'.tm t
        rw [← hrun] at htm
        split at k2'
        · rename_i c k g d2 hown
          rw [hown] at htm hd'
          simp only [AV.d, Option.some.injEq] at hd'
          subst hd'
          obtain ⟨p1, p2, p3⟩ := htm
          rcases p3 k2' with ⟨n1, rfl⟩ | ⟨xs, rfl, hρ, hh⟩
          · exact .inl ⟨n1, Wk_sl k1⟩
          · refine .inr ⟨xs, _, Wk_sl k1, hh, fun hm => ?_, ?_⟩
            · obtain ⟨b2, g3, s1, _⟩ := fr.pbox _ hm
              rw [hρ] at s1; cases s1
            · refine Decidable.byContradiction fun hn => ?_
              simp only [not_or, Nat.not_le] at hn
              by_cases hm : G'.κ c k g ∈ ps
              · obtain ⟨b2, g3, s1, _⟩ := fr.pbox _ hm
                rw [hρ] at s1; cases s1
              · rw [fr.ext_old _ hn.1 hn.2 hm] at hρ; cases hρ
        · rename_i hval
          rw [hval] at htm
          exact .inl ⟨by simpa [AVRel, Den] using htm, k2'⟩
        · exact k2'.elim
      · exact k2'.elim
    · rename_i ds hne hds
      obtain ⟨k1, k2⟩ := hret
      obtain ⟨vs, q1, q2⟩ := hres _ hds
      have hl : ¬ vs.toArray.size = 1 := by
        simp only [List.size_toArray]
        rw [DenL_length q1]
        intro h1
        match ds, h1 with
        | [d], _ => exact hne d rfl
      rw [dif_neg hl] at q2
      exact ⟨_, q2, _, G'.com, rfl, k1.den (by simp only [Den]; exact ⟨vs, rfl, q1⟩), hbeh, fun hmr => by rw [hmr] at k2; cases k2⟩
    · exact hret.elim
  cases en with
  | normal => exact fin hp
  | ret => exact fin hp
  | exit i => obtain ⟨_, _, _, hk⟩ := hp; exact hk
  | goto l => exact hp
  | panic ch => exact hp.elim
  | outgrown => exact hp.elim
end Go.Proofs.YtebkaacflocfcaaDoor.Ab

/- Rules by which the evaluator is run. -/
namespace Go.Proofs.YtebkaacflocfcaaDoor.Ab
open Go
set_option linter.unusedVariables false

/-- continuations are held: a rewrite goes into what is asked, not into what follows -/
inductive Hid {α β : Type} (A : α → Prop) (B : β → Prop) : Type where
  | mk
def Bq (t : Bool) (A B : Unit → Prop) (hd : Hid A B := .mk) : Prop := Br t A B
theorem Br_true {A B : Unit → Prop} : Bq true A B = A () := by simp [Bq, Br]
theorem Br_false {A B : Unit → Prop} : Bq false A B = B () := by simp [Bq, Br]
/-- a test's two ways -/
theorem Br_mk {t : Bool} {A B : Unit → Prop} (h1 : t = true → A ()) (h2 : t = false → B ()) : Bq t A B := ⟨h1, h2⟩
theorem Br_dec {p : Prop} [Decidable p] {A B : Unit → Prop} (h1 : p → A ()) (h2 : ¬ p → B ()) : Bq (decide p) A B := ⟨fun h => h1 (of_decide_eq_true h), fun h => h2 (of_decide_eq_false h)⟩
theorem Br_not {t : Bool} {A B : Unit → Prop} : Bq (!t) A B = Bq t B A := by cases t <;> simp [Bq, Br]

def bindO {α : Type} (x : Option α) (K : α → Prop) (hd : Hid K K := .mk) : Prop := match x with | some y => K y | none => False
def onB (x : AV) (K : Bool → Prop) (hd : Hid K K := .mk) : Prop := match x with | .val (.bool b) => K b | _ => False
def onGd (x : AV) (S : Unit → Prop) (K : Bool → Prop) (hd : Hid S K := .mk) : Prop := match x with | .val (.bool b) => K b | .val (.tup []) => S () | _ => False
def evLand (e : Env) (x : AV) (c k : Nat) (K : Env → AV → Prop) (hd : Hid (fun e => K e .no) (K e) := .mk) : Prop := K (e.land x c k).1 (e.land x c k).2
def evLoad (Γ : Ctx) (t : TypeId) (x : AV) (d : Option Nat) (e : Env) (K : Env → Prop) (hd : Hid K K := .mk) : Prop :=
  match x, szT Γ.P t with
  | .bx b g o', some (n, true) => match e.rdCells b g o' n with
    | some ds => g < e.gb b ∧ K (e.setD d (.val (.agg ds)))
    | none => False
  | .bx b g o', some (_, false) => match e.bx b g o' with
    | .no => False
    | y => g < e.gb b ∧ K (e.setD d y)
  | .rp d', some (n, a) => d'.isAgg = a ∧ d'.cnt = n ∧ K (e.setD d (.val d'))
  | _, _ => False
/-- what a cell holds, if it is known -/
def onNo (x : AV) (K : AV → Prop) (hd : Hid K K := .mk) : Prop := match x with | .no => False | y => K y
def evStore (Γ : Ctx) (t : TypeId) (x v : AV) (e : Env) (K : Env → Prop) (hd : Hid K K := .mk) : Prop :=
  match x, szT Γ.P t with
  | .bx b g o', some (n, true) => match v.d with
    | some (.agg ds) => ds.length = n ∧ e.hasCells b g o' n = true ∧ K (e.wrCells b g o' ds)
    | _ => False
  | .bx b g o', some (n, false) => n = 1 ∧ e.hasCells b g o' 1 = true ∧
      match v with
      | .no => False
      | y => (match y.d with | some d => d.flat | none => true) = true ∧ K ((e.land y b (o' + 1)).1.setB b g o' (e.land y b (o' + 1)).2)
  | _, _ => False
/-- an assignment, held -/
def evAsgH (e : Env) (x : AV) (d ty : Nat) (K : Env → AV → Prop) (hd : Hid (fun e => K e .no) (K e) := .mk) : Prop := evAsg e x d ty K
def evMakeH (Γ : Ctx) (dst : Option Nat) (t : TypeId) (l c : AV) (e : Env) (K : Env → Prop) (hd : Hid K K := .mk) : Prop := evMake Γ dst t l c e K
def evCopyH (Γ : Ctx) (dst : Option Nat) (x y : AV) (tx ty : TypeId) (e : Env) (K : Env → Prop) (hd : Hid K K := .mk) : Prop := evCopy Γ dst x y tx ty e K
/-- a function value that is called -/
def onCl (x : AV) (K : Nat → Nat → Nat → Prop) (hd : Hid (K 0 0) (K 0 0) := .mk) : Prop := match x with | .cl f b g => K f b g | _ => False
/-- a struct is laid into cells -/
def evCells (b g : Nat) : Nat → List D → Env → (K : Env → Prop) → (hd : Hid K K := .mk) → Prop
  | _, [], e, K, _ => K e
  | o, d :: ds, e, K, _ => evLand e (.val d) b (o + 1) fun e' y => evCells b g (o + 1) ds (e'.setB b g o y) K
theorem evCells_eq (b g : Nat) : ∀ (ds : List D) (o : Nat) (e : Env) (K : Env → Prop), K (e.wrCells b g o ds) = evCells b g o ds e K := by
  intro ds
  induction ds with
  | nil => intro o e K; rfl
  | cons d ds ih => intro o e K; simp only [Env.wrCells, evCells, evLand]; exact ih _ _ _
/-- a call, its arguments known -/
def evCallA (Γ : Ctx) (dst : Option Nat) (f : FuncId) (xs : List AV) (as : List A) (e : Env) (K : Env → Prop) (hd : Hid K K := .mk) : Prop :=
  (argIds (Γ.md f) xs).Nodup ∧ ∃ res, ACalls Γ f as res ∧
      match dst, Γ.mr f with
      | some t, true => K ((((e.after (Γ.md f) xs res.outs)).birth t 0).setT t (.own t 0 (e.gc t 0) res.ret))
      | dst, _ => K ((e.after (Γ.md f) xs res.outs).setD dst (.val res.ret))
theorem evCallA_mk {Γ : Ctx} {dst : Option Nat} {f : FuncId} {xs : List AV} {as : List A} {e : Env} {K : Env → Prop} (res : ARes) (h : ACalls Γ f as res) (hn : (argIds (Γ.md f) xs).Nodup)
    (hk : match dst, Γ.mr f with
      | some t, true => K ((((e.after (Γ.md f) xs res.outs)).birth t 0).setT t (.own t 0 (e.gc t 0) res.ret))
      | dst, _ => K ((e.after (Γ.md f) xs res.outs).setD dst (.val res.ret))) : evCallA Γ dst f xs as e K := ⟨hn, res, h, hk⟩
def evAppendH (Γ : Ctx) (d : Option Nat) (s x : AV) (ts tx : TypeId) (e : Env) (K : Env → Prop) (hd : Hid K K := .mk) : Prop := evAppend Γ d s x ts tx e K
def evCallH (Γ : Ctx) (d : Option Nat) (f : FuncId) (xs : List AV) (e : Env) (K : Env → Prop) (hd : Hid K K := .mk) : Prop := evCall Γ d f xs e K

/-- the frame's rules -/
theorem E :
    (∀ e t x i, (Env.setT e t x).tm i = if i = t then x else e.tm i) ∧ (∀ e t x, (Env.setT e t x).bx = e.bx) ∧ (∀ e t x, (Env.setT e t x).gb = e.gb) ∧ (∀ e t x, (Env.setT e t x).lv = e.lv) ∧ (∀ e t x, (Env.setT e t x).gc = e.gc) ∧
    (∀ e b g o x, (Env.setB e b g o x).tm = e.tm) ∧ (∀ e b g o x b' g' o', (Env.setB e b g o x).bx b' g' o' = if b' = b ∧ g' = g ∧ o' = o then x else e.bx b' g' o') ∧ (∀ e b g o x, (Env.setB e b g o x).gb = e.gb) ∧
    (∀ e b g o x, (Env.setB e b g o x).lv = e.lv) ∧ (∀ e b g o x, (Env.setB e b g o x).gc = e.gc) ∧
    (∀ e c k g, (Env.kill e c k g).tm = e.tm) ∧ (∀ e c k g, (Env.kill e c k g).bx = e.bx) ∧ (∀ e c k g, (Env.kill e c k g).gb = e.gb) ∧ (∀ e c k g, (Env.kill e c k g).gc = e.gc) ∧
    (∀ e c k g c' k' g', (Env.kill e c k g).lv c' k' g' = if c' = c ∧ k' = k ∧ g' = g then false else e.lv c' k' g') ∧
    (∀ e c k, (Env.birth e c k).tm = e.tm) ∧ (∀ e c k, (Env.birth e c k).bx = e.bx) ∧ (∀ e c k, (Env.birth e c k).gb = e.gb) ∧
    (∀ e c k c' k', (Env.birth e c k).gc c' k' = if c' = c ∧ k' = k then e.gc c k + 1 else e.gc c' k') ∧
    (∀ e c k c' k' g', (Env.birth e c k).lv c' k' g' = if c' = c ∧ k' = k ∧ g' = e.gc c k then true else e.lv c' k' g') ∧
    (∀ e b, (Env.newGen e b).tm = e.tm) ∧ (∀ e b b', (Env.newGen e b).gb b' = if b' = b then e.gb b + 1 else e.gb b') ∧ (∀ e b, (Env.newGen e b).lv = e.lv) ∧ (∀ e b, (Env.newGen e b).gc = e.gc) ∧
    (∀ e b b' g' o', (Env.newGen e b).bx b' g' o' = if b' = b ∧ g' = e.gb b then .no else e.bx b' g' o') ∧
    (∀ e b g, (Env.forget e b g).tm = e.tm) ∧ (∀ e b g, (Env.forget e b g).gb = e.gb) ∧ (∀ e b g, (Env.forget e b g).lv = e.lv) ∧ (∀ e b g, (Env.forget e b g).gc = e.gc) ∧
    (∀ e b g b' g' o', (Env.forget e b g).bx b' g' o' = if b' = b ∧ g' = g then .no else e.bx b' g' o') ∧
    (∀ e t x, Env.setD e (some t) x = e.setT t x) ∧ (∀ e x, Env.setD e none x = e) ∧
    (∀ as i, (Env.init as).tm i = match as[i]? with | some (.v d) => .val d | some (.o d) => .own i 0 0 d | some (.p none _) => .bx (100000 + i) 0 0 | some (.p (some f) _) => .cl f (100000 + i) 0 | none => .no) ∧
    (∀ as c k, (Env.init as).gc c k = 1) := by
  refine ⟨fun e t x i => rfl, fun e t x => rfl, fun e t x => rfl, fun e t x => rfl, fun e t x => rfl, fun e b g o x => rfl, fun e b g o x b' g' o' => rfl, fun e b g o x => rfl, fun e b g o x => rfl, fun e b g o x => rfl,
    fun e c k g => rfl, fun e c k g => rfl, fun e c k g => rfl, fun e c k g => rfl, fun e c k g c' k' g' => rfl, fun e c k => rfl, fun e c k => rfl, fun e c k => rfl, fun e c k c' k' => rfl, fun e c k c' k' g' => rfl,
    fun e b => rfl, fun e b b' => rfl, fun e b => rfl, fun e b => rfl, fun e b b' g' o' => rfl, fun e b g => rfl, fun e b g => rfl, fun e b g => rfl, fun e b g => rfl, fun e b g b' g' o' => rfl, fun e t x => rfl, fun e x => rfl, fun as i => rfl, fun as c k => rfl⟩

/-- code -/
theorem E1 :
    (∀ Γ Q e, evW Γ .skip Q e = Q .n e) ∧ (∀ Γ id l d Q e, evW Γ (.region id (List.toArray l) d) Q e = evOps Γ (List.toArray l) l e (Q .n)) ∧ (∀ Γ a b Q e, evW Γ (.seq a b) Q e = evW Γ a (X.then (evW Γ b Q) Q) e) ∧
    (∀ Γ id c Q e, evW Γ (.block id c) Q e = evW Γ c (X.inBlock id Q) e) ∧ (∀ Γ id Q e, evW Γ (.exit id) Q e = Q (.x id) e) ∧ (∀ Γ Q e, evW Γ .ret Q e = Q .r e) ∧
    (∀ Γ c a b Q e, evW Γ (.cond c a b) Q e = onB (e.ev Γ c) fun t => Bq t (fun _ => evW Γ a Q e) (fun _ => evW Γ b Q e)) ∧
    (∀ f Q e, X.then f Q .n e = f e) ∧ (∀ f Q e, X.then f Q .r e = Q .r e) ∧ (∀ f Q i e, X.then f Q (.x i) e = Q (.x i) e) ∧
    (∀ i Q e, X.inBlock i Q .n e = Q .n e) ∧ (∀ i Q e, X.inBlock i Q .r e = Q .r e) ∧ (∀ i Q j e, X.inBlock i Q (.x j) e = if j = i then Q .n e else Q (.x j) e) ∧
    (∀ Γ all e K, evOps Γ all [] e K = K e) ∧ (∀ Γ all o os e K, evOps Γ all (o :: os) e K = evG Γ all o e fun e' => evOps Γ all os e' K) ∧
    (∀ Γ all d op t p a e K, evG Γ all ⟨d, op, t, p, a, none⟩ e K = evOp Γ ⟨d, op, t, p, a, none⟩ e K) ∧
    (∀ Γ all d op t p a j w e K, evG Γ all ⟨d, op, t, p, a, some (j, w)⟩ e K = bindO ((all[j]?).bind (·.dst)) fun t' => onGd (e.tm t') (fun _ => K (e.setD d (.val (.tup [])))) fun b =>
      Bq (b == w) (fun _ => evOp Γ ⟨d, op, t, p, a, some (j, w)⟩ e K) (fun _ => K (e.setD d (.val (.tup []))))) := by
  refine ⟨fun _ _ _ => rfl, fun _ _ _ _ _ _ => rfl, fun _ _ _ _ _ => rfl, fun _ _ _ _ _ => rfl, fun _ _ _ _ => rfl, fun _ _ _ => rfl, fun _ _ _ _ _ _ => rfl, fun _ _ _ => rfl, fun _ _ _ => rfl, fun _ _ _ _ => rfl,
    fun _ _ _ => rfl, fun _ _ _ => rfl, fun _ _ _ _ => rfl, fun _ _ _ _ => rfl, fun _ _ _ _ _ _ => rfl, fun _ _ _ _ _ _ _ _ _ => rfl, fun Γ all d op t p a j w e K => ?gd⟩
  case gd =>
    simp only [evG, bindO, onGd]
    cases (all[j]?).bind (·.dst) with
    | none => rfl
    | some t' => cases e.tm t' with
      | val z => cases z with
        | tup ds => cases ds <;> rfl
        | _ => rfl
      | _ => rfl

/-- operations -/
theorem E2 :
    (∀ Γ d t p a g x e K, evOp Γ ⟨some d, .assign x, t, p, a, g⟩ e K = evAsgH e (e.ev Γ x) d t (fun e' y => K (e'.setT d y))) ∧
    (∀ Γ d t p a g x e K, evOp Γ ⟨d, .move x, t, p, a, g⟩ e K = K (e.setD d (e.ev Γ x))) ∧
    (∀ Γ d t p a g c x y e K, evOp Γ ⟨d, .pick c x y, t, p, a, g⟩ e K = onB (e.ev Γ c) fun t => Bq t (fun _ => K (e.setD d (e.ev Γ x))) (fun _ => K (e.setD d (e.ev Γ y)))) ∧
    (∀ Γ d t p a g x e K, evOp Γ ⟨d, .nilCheck x, t, p, a, g⟩ e K = bindO (pureOp Γ.P (e.ev Γ) (.nilCheck x)) fun y => K (e.setD d y)) ∧
    (∀ Γ d t p a g op ty x y yt e K, evOp Γ ⟨d, .binOp op ty x y yt, t, p, a, g⟩ e K = bindO (pureOp Γ.P (e.ev Γ) (.binOp op ty x y yt)) fun y => K (e.setD d y)) ∧
    (∀ Γ d t p a g op ty x e K, evOp Γ ⟨d, .unOp op ty x, t, p, a, g⟩ e K = bindO (pureOp Γ.P (e.ev Γ) (.unOp op ty x)) fun y => K (e.setD d y)) ∧
    (∀ Γ d t p a g s ty x e K, evOp Γ ⟨d, .convert s ty x, t, p, a, g⟩ e K = bindO (pureOp Γ.P (e.ev Γ) (.convert s ty x)) fun y => K (e.setD d y)) ∧
    (∀ Γ d t p a g s x i e K, evOp Γ ⟨d, .fieldAddr s x i, t, p, a, g⟩ e K = bindO (pureOp Γ.P (e.ev Γ) (.fieldAddr s x i)) fun y => K (e.setD d y)) ∧
    (∀ Γ d t p a g s x i e K, evOp Γ ⟨d, .field s x i, t, p, a, g⟩ e K = bindO (pureOp Γ.P (e.ev Γ) (.field s x i)) fun y => K (e.setD d y)) ∧
    (∀ Γ d t p a g s x i e K, evOp Γ ⟨d, .indexAddr s x i, t, p, a, g⟩ e K = bindO (pureOp Γ.P (e.ev Γ) (.indexAddr s x i)) fun y => K (e.setD d y)) ∧
    (∀ Γ d t p a g s x i e K, evOp Γ ⟨d, .index s x i, t, p, a, g⟩ e K = bindO (pureOp Γ.P (e.ev Γ) (.index s x i)) fun y => K (e.setD d y)) ∧
    (∀ Γ d t p a g x i e K, evOp Γ ⟨d, .extract x i, t, p, a, g⟩ e K = bindO (pureOp Γ.P (e.ev Γ) (.extract x i)) fun y => K (e.setD d y)) ∧
    (∀ Γ d t p a g ty x l h m e K, evOp Γ ⟨d, .slice ty x l h m, t, p, a, g⟩ e K = bindO (pureOp Γ.P (e.ev Γ) (.slice ty x l h m)) fun y => K (e.setD d y)) ∧
    (∀ Γ d t p a g ty ps e K, evOp Γ ⟨d, .build ty ps, t, p, a, g⟩ e K = bindO (pureOp Γ.P (e.ev Γ) (.build ty ps)) fun y => K (e.setD d y)) ∧
    (∀ Γ d t p a g as ts e K, evOp Γ ⟨d, .call ⟨.builtin .len, as, ts⟩, t, p, a, g⟩ e K = bindO (pureOp Γ.P (e.ev Γ) (.call ⟨.builtin .len, as, ts⟩)) fun y => K (e.setD d y)) ∧
    (∀ Γ d t p a g s x ts tx e K, evOp Γ ⟨d, .call ⟨.builtin .append, #[s, x], #[ts, tx]⟩, t, p, a, g⟩ e K = evAppendH Γ d (e.ev Γ s) (e.ev Γ x) ts tx e K) ∧
    (∀ Γ d t p a g f l ts e K, evOp Γ ⟨d, .call ⟨.value (.func f), List.toArray l, ts⟩, t, p, a, g⟩ e K = evCallH Γ d f (l.map (e.ev Γ)) e K) ∧
    (∀ Γ d ty p a g t x e K, evOp Γ ⟨d, .load t x, ty, p, a, g⟩ e K = evLoad Γ t (e.ev Γ x) d e K) ∧
    (∀ Γ ty p a g t x v e K, evOp Γ ⟨none, .store t x v, ty, p, a, g⟩ e K = evStore Γ t (e.ev Γ x) (e.ev Γ v) e K) ∧
    (∀ Γ s ty p a g t e K, evOp Γ ⟨some s, .alloc t, ty, p, a, g⟩ e K = bindO (zeroT Γ.P t) fun z => evCells s (e.gb s) 0 z.cells (e.newGen s) fun e' => K (e'.setT s (.bx s (e.gb s) 0))) ∧
    (∀ Γ s ty p a g t x e K, evOp Γ ⟨some s, .box t x, ty, p, a, g⟩ e K = bindO (e.ev Γ x).d fun z => z.isTup = false ∧ evCells s (e.gb s) 0 z.cells (e.newGen s) fun e' => K (e'.setT s (.bx s (e.gb s) 0))) ∧
    (∀ Γ s ty p a g t len l e K, evOp Γ ⟨some s, .buildSlice t len (List.toArray l), ty, p, a, g⟩ e K = bindO (elT Γ.P t) fun q => bindO ((l.map fun p => (e.ev Γ p.2).d).mapM (m := Option) id) fun ds =>
      l.map (·.1) = List.range len ∧ ds ≠ [] ∧ rowB q.2.1 ds = true ∧ ds.length * q.2.1 ≤ 1000000 ∧ ds.all (fun x => !x.isTup) = true ∧ K ((e.birth s 0).setT s (.own s 0 (e.gc s 0) (.sl ds)))) := by
  refine ⟨fun _ _ _ _ _ _ _ _ _ => rfl,
    fun _ _ _ _ _ _ _ _ _ => rfl,
    fun Γ d t p a g c x y e K => ?pick,
    fun _ _ _ _ _ _ _ _ _ => ?p1,
    fun _ _ _ _ _ _ _ _ _ _ _ _ _ => ?p2,
    fun _ _ _ _ _ _ _ _ _ _ _ => ?p3,
    fun _ _ _ _ _ _ _ _ _ _ _ => ?p4,
    fun _ _ _ _ _ _ _ _ _ _ _ => ?p5,
    fun _ _ _ _ _ _ _ _ _ _ _ => ?p6,
    fun _ _ _ _ _ _ _ _ _ _ _ => ?p7,
    fun _ _ _ _ _ _ _ _ _ _ _ => ?p8,
    fun _ _ _ _ _ _ _ _ _ _ => ?p9,
    fun _ _ _ _ _ _ _ _ _ _ _ _ _ => ?p10,
    fun _ _ _ _ _ _ _ _ _ _ => ?p11,
    fun _ _ _ _ _ _ _ _ _ _ => ?p12,
    fun _ _ _ _ _ _ _ _ _ _ _ _ => rfl,
    fun _ _ _ _ _ _ _ _ _ _ _ => rfl,
    fun _ _ _ _ _ _ _ _ _ _ => rfl,
    fun Γ ty p a g t x v e K => ?st,
    fun Γ s ty p a g t e K => ?al,
    fun _ _ _ _ _ _ _ x e K => ?bo,
    fun Γ s ty p a g t len l e K => ?bs⟩
  case pick =>
    simp only [evOp, pureOp, onB]
    cases e.ev Γ c with
    | val z => cases z with
      | bool b => cases b <;> simp [Bq, Br]
      | _ => rfl
    | _ => rfl
  case st =>
    simp only [evOp, evStore]
    cases e.ev Γ x with
    | bx b g o => cases szT Γ.P t with
      | none => rfl
      | some q => obtain ⟨n, a⟩ := q; cases a <;> rfl
    | _ => rfl
  case al =>
    simp only [evOp, bindO, ← evCells_eq, Env.newBox]
    cases zeroT Γ.P t <;> rfl
  case bo =>
    simp only [evOp, bindO, ← evCells_eq, Env.newBox]
    cases (Env.ev _ e x).d with
    | none => rfl
    | some z => cases z <;> simp [D.isTup]
  case bs =>
    simp only [evOp, bindO]
    cases elT Γ.P t with
    | none => rfl
    | some q =>
      obtain ⟨a, b, c, f⟩ := q
      dsimp only
      cases (l.map fun p => (e.ev Γ p.2).d).mapM (m := Option) id <;> rfl
  all_goals
    simp only [evOp, bindO]
    cases pureOp _ _ _ <;> rfl

/-- what stands where -/
theorem E4 :
    (∀ e c k K, evLand e .no c k K = K e .no) ∧ (∀ e b g o c k K, evLand e (.bx b g o) c k K = K e (.bx b g o)) ∧ (∀ e d c k K, evLand e (.rp d) c k K = K e (.rp d)) ∧
    (∀ e kd n c k K, evLand e (.val (.int kd n)) c k K = K e (.val (.int kd n))) ∧ (∀ e b c k K, evLand e (.val (.bool b)) c k K = K e (.val (.bool b))) ∧ (∀ e s c k K, evLand e (.val (.str s)) c k K = K e (.val (.str s))) ∧
    (∀ e s c k K, evLand e (.val (.sl s)) c k K = K e (.val (.sl s))) ∧ (∀ e s c k K, evLand e (.val (.agg s)) c k K = K e (.val (.agg s))) ∧ (∀ e s c k K, evLand e (.val (.tup s)) c k K = K e (.val (.tup s))) ∧
    (∀ e c k K, evLand e (.val .nil) c k K = K (e.birth c k) (.own c k (e.gc c k) (.sl []))) ∧
    (∀ e c0 k0 g d c k K, evLand e (.own c0 k0 g d) c k K = Bq (e.lv c0 k0 g) (fun _ => K ((e.kill c0 k0 g).birth c k) (.own c k (e.gc c k) d)) (fun _ => K e (.val d))) ∧
    (∀ Γ e t, Env.ev Γ e (.tmp t) = e.tm t) ∧ (∀ Γ e v, Env.ev Γ e (.const v) = constAV v) ∧ (∀ Γ e g, Env.ev Γ e (.global g) = match Γ.G g with | some d => .rp d | none => .no) ∧
    (∀ k n, constAV (.int k n) = .val (.int k n)) ∧ (∀ b, constAV (.bool b) = .val (.bool b)) ∧ (∀ s, constAV (.string s) = .val (.str s.data.toList)) ∧ (constAV (.slice none 0 0) = .val .nil) ∧
    (∀ (α : Type) (y : α) K, bindO (some y) K = K y) ∧ (∀ b K, onB (.val (.bool b)) K = K b) ∧ (∀ b S K, onGd (.val (.bool b)) S K = K b) ∧ (∀ S K, onGd (.val (.tup [])) S K = S ()) ∧
    (∀ Γ t b g o d e K, evLoad Γ t (.bx b g o) d e K = bindO (szT Γ.P t) fun s => Bq s.2 (fun _ => bindO (e.rdCells b g o s.1) fun ds => g < e.gb b ∧ K (e.setD d (.val (.agg ds)))) (fun _ => onNo (e.bx b g o) fun y => g < e.gb b ∧ K (e.setD d y))) ∧
    (∀ Γ t z d e K, evLoad Γ t (.rp z) d e K = bindO (szT Γ.P t) fun s => z.isAgg = s.2 ∧ z.cnt = s.1 ∧ K (e.setD d (.val z))) ∧
    (∀ z K, onNo (.val z) K = K (.val z)) ∧ (∀ c k g z K, onNo (.own c k g z) K = K (.own c k g z)) ∧ (∀ b g o K, onNo (.bx b g o) K = K (.bx b g o)) ∧
    (∀ Γ t b g o v e K, evStore Γ t (.bx b g o) v e K = bindO (szT Γ.P t) fun s => Bq s.2
      (fun _ => bindO v.d fun z => z.isAgg = true ∧ z.cells.length = s.1 ∧ e.hasCells b g o s.1 = true ∧ evCells b g o z.cells e K)
      (fun _ => s.1 = 1 ∧ e.hasCells b g o 1 = true ∧ onNo v fun y => (match y.d with | some d => d.flat | none => true) = true ∧ evLand e y b (o + 1) fun e' y => K (e'.setB b g o y))) ∧
    (∀ b g o e K, evCells b g o [] e K = K e) ∧ (∀ b g o d ds e K, evCells b g o (d :: ds) e K = evLand e (.val d) b (o + 1) fun e' y => evCells b g (o + 1) ds (e'.setB b g o y) K) ∧
    (∀ Γ d f xs e K, evCallH Γ d f xs e K = bindO (e.argsA (Γ.md f) xs) fun as => evCallA Γ d f xs as e K) := by
  refine ⟨fun _ _ _ _ => rfl, fun _ _ _ _ _ _ _ => rfl, fun _ _ _ _ _ => rfl, fun _ _ _ _ _ _ => rfl, fun _ _ _ _ _ => rfl, fun _ _ _ _ _ => rfl, fun _ _ _ _ _ => rfl, fun _ _ _ _ _ => rfl, fun _ _ _ _ _ => rfl, fun _ _ _ _ => rfl,
    fun e c0 k0 g d c k K => by simp only [evLand, Env.land]; cases e.lv c0 k0 g <;> simp [Bq, Br], fun _ _ _ => rfl, fun _ _ _ => rfl, fun _ _ _ => rfl, fun _ _ => rfl, fun _ => rfl, fun _ => rfl, rfl,
    fun _ _ _ => rfl, fun _ _ => rfl, fun _ _ _ => rfl, fun _ _ => rfl, fun Γ t b g o d e K => ?ld, fun Γ t z d e K => ?lr, fun _ _ => rfl, fun _ _ _ _ _ => rfl, fun _ _ _ _ => rfl, fun Γ t b g o v e K => ?st, fun _ _ _ _ _ => rfl, fun _ _ _ _ _ _ _ => rfl, fun Γ d f xs e K => ?ca⟩
  case ld =>
    simp only [evLoad, bindO, onNo]
    cases szT Γ.P t with
    | none => rfl
    | some s =>
      obtain ⟨n, a⟩ := s
      cases a
      · simp only [Bq, Br, Bool.false_eq_true, false_implies, true_implies, true_and]
      · simp only [Bq, Br, reduceCtorEq, false_implies, true_implies, and_true]
        cases e.rdCells b g o n <;> rfl
  case lr =>
    simp only [evLoad, bindO]
    cases szT Γ.P t with
    | none => rfl
    | some s => rfl
  case st =>
    simp only [evStore, bindO, onNo, ← evCells_eq, evLand]
    cases szT Γ.P t with
    | none => rfl
    | some s =>
      obtain ⟨n, a⟩ := s
      cases a
      · simp only [Bq, Br, Bool.false_eq_true, false_implies, true_implies, true_and]
      · simp only [Bq, Br, reduceCtorEq, false_implies, true_implies, and_true]
        cases v.d with
        | none => rfl
        | some z => cases z <;> simp [D.isAgg, D.cells, evCells_eq]
  case ca =>
    simp only [evCallH, evCall, bindO, evCallA]
    cases e.argsA (Γ.md f) xs <;> rfl
/-- data -/
theorem E3 :
    (∀ d, AV.d (.val d) = some d) ∧ (∀ c k g d, AV.d (.own c k g d) = some d) ∧ (D.list .nil = some []) ∧ (∀ xs, D.list (.sl xs) = some xs) ∧
    (∀ P k a k' b t, binD P .add t (.int k a) (.int k' b) = if k = k' then some (.int k (k.wrap (a + b))) else none) ∧
    (∀ P k a k' b t, binD P .sub t (.int k a) (.int k' b) = if k = k' then some (.int k (k.wrap (a - b))) else none) ∧
    (∀ P k a k' b t, binD P .mul t (.int k a) (.int k' b) = if k = k' then some (.int k (k.wrap (a * b))) else none) ∧
    (∀ P k a k' b t, binD P .eql t (.int k a) (.int k' b) = if k = k' then some (.bool (decide (a = b))) else none) ∧
    (∀ P k a k' b t, binD P .neq t (.int k a) (.int k' b) = if k = k' then some (.bool (!decide (a = b))) else none) ∧
    (∀ P k a k' b t, binD P .lss t (.int k a) (.int k' b) = if k = k' then some (.bool (decide (a < b))) else none) ∧
    (∀ P k a k' b t, binD P .leq t (.int k a) (.int k' b) = if k = k' then some (.bool (decide (a ≤ b))) else none) ∧
    (∀ P k a k' b t, binD P .gtr t (.int k a) (.int k' b) = if k = k' then some (.bool (decide (b < a))) else none) ∧
    (∀ P k a k' b t, binD P .geq t (.int k a) (.int k' b) = if k = k' then some (.bool (decide (b ≤ a))) else none) ∧
    (∀ P k a k' b t, binD P .quo t (.int k a) (.int k' b) = if k = k' then (if b = 0 then none else some (.int k (k.wrap (a.tdiv b)))) else none) ∧
    (∀ P k a k' b t, binD P .rem t (.int k a) (.int k' b) = if k = k' then (if b = 0 then none else some (.int k (a.tmod b))) else none) ∧
    (∀ P k a k' b t, binD P .shl t (.int k a) (.int k' b) = if b < 0 then none else some (.int k (k.wrap (a * 2 ^ min b.toNat k.bits)))) ∧
    (∀ P k a k' b t, binD P .shr t (.int k a) (.int k' b) = if b < 0 then none else some (.int k (a.fdiv (2 ^ min b.toNat k.bits)))) ∧
    (∀ P a b t, binD P .add t (.str a) (.str b) = if a.length + b.length ≤ 4611686018427387904 then some (.str (a ++ b)) else none) ∧
    (∀ P a b t, binD P .eql t (.str a) (.str b) = some (.bool (decide (a = b)))) ∧ (∀ P a b t, binD P .neq t (.str a) (.str b) = some (.bool (!decide (a = b)))) ∧
    (∀ P a b t, binD P .lss t (.str a) (.str b) = some (.bool (Op.bytesLess a b))) ∧ (∀ P a b t, binD P .leq t (.str a) (.str b) = some (.bool (Op.bytesLess a b || decide (a = b)))) ∧
    (∀ P a b t, binD P .gtr t (.str a) (.str b) = some (.bool (!(Op.bytesLess a b || decide (a = b))))) ∧ (∀ P a b t, binD P .geq t (.str a) (.str b) = some (.bool (!Op.bytesLess a b))) ∧
    (∀ k n, unD .neg (.int k n) = some (.int k (k.wrap (0 - n)))) ∧ (∀ b, unD .not (.bool b) = some (.bool (!b))) := by
  refine ⟨fun _ => rfl, fun _ _ _ _ => rfl, rfl, fun _ => rfl, fun _ _ _ _ _ _ => rfl, fun _ _ _ _ _ _ => rfl, fun _ _ _ _ _ _ => rfl, fun _ _ _ _ _ _ => rfl, fun _ _ _ _ _ _ => rfl, fun _ _ _ _ _ _ => rfl, fun _ _ _ _ _ _ => rfl,
    fun _ _ _ _ _ _ => rfl, fun _ _ _ _ _ _ => rfl, fun _ _ _ _ _ _ => rfl, fun _ _ _ _ _ _ => rfl, fun _ _ _ _ _ _ => rfl, fun _ _ _ _ _ _ => rfl, fun _ _ _ _ => rfl, fun _ _ _ _ => rfl, fun _ _ _ _ => rfl, fun _ _ _ _ => rfl,
    fun _ _ _ _ => rfl, fun _ _ _ _ => rfl, fun _ _ _ _ => rfl, fun _ _ => rfl, fun _ => rfl⟩
/-- operations, more -/
theorem E5o :
    (∀ Γ s ty p a g t l c e K, evOp Γ ⟨some s, .makeSlice t l c, ty, p, a, g⟩ e K = evMakeH Γ (some s) t (e.ev Γ l) (e.ev Γ c) e K) ∧
    (∀ Γ d ty p a g fn fs cs e K, evOp Γ ⟨d, .makeFunc fn fs cs, ty, p, a, g⟩ e K = bindO (pureOp Γ.P (e.ev Γ) (.makeFunc fn fs cs)) fun y => K (e.setD d y)) ∧
    (∀ Γ d t p a g x y tx ty e K, evOp Γ ⟨d, .call ⟨.builtin .copy, #[x, y], #[tx, ty]⟩, t, p, a, g⟩ e K = evCopyH Γ d (e.ev Γ x) (e.ev Γ y) tx ty e K) ∧
    (∀ Γ d t p a g i l ts e K, evOp Γ ⟨d, .call ⟨.value (.tmp i), List.toArray l, ts⟩, t, p, a, g⟩ e K = onCl (e.tm i) fun f b g' => evCallH Γ d f (l.map (e.ev Γ) ++ [.bx b g' 0]) e K) := by
  refine ⟨fun _ _ _ _ _ _ _ _ _ _ _ => rfl, fun _ _ _ _ _ _ _ _ _ _ _ => ?_, fun _ _ _ _ _ _ _ _ _ _ _ _ => rfl, fun Γ d t p a g i l ts e K => ?_⟩
  · simp only [evOp, bindO]
    cases pureOp _ _ _ <;> rfl
  · simp only [evOp, onCl]
    cases e.tm i <;> rfl
def isSl (u : TypeDesc) : Bool := match u with | .slice _ => true | _ => false
theorem E5 :
    (∀ e d ty K, evAsgH e .no d ty K = K e .no) ∧ (∀ e b g o d ty K, evAsgH e (.bx b g o) d ty K = K e (.bx b g o)) ∧ (∀ e z d ty K, evAsgH e (.rp z) d ty K = K e (.rp z)) ∧ (∀ e f b g d ty K, evAsgH e (.cl f b g) d ty K = K e (.cl f b g)) ∧
    (∀ e z d ty K, evAsgH e (.val z) d ty K = evLand e (.val z) d 0 K) ∧ (∀ e c k g z d ty K, evAsgH e (.own c k g z) d ty K = evLand e (.own c k g z) d 0 K) ∧
    (∀ e b g n sz d ty K, evAsgH e (.ms b g n sz) d ty K = Bq (decide (d = 4 ∧ ty = 40)) (fun _ => ∃ xs, frzOk e b g n sz xs ∧ K (e.unbox b g xs) (.val (.sl xs))) (fun _ => K e (.ms b g n sz))) ∧
    (∀ Γ s t m m' e K, evMakeH Γ (some s) t (.val (.int .i64 m)) (.val (.int .i64 m')) e K = bindO (elT Γ.P t) fun q => m' = m ∧ 0 ≤ m ∧ m * q.2.2.2 ≤ roomy ∧ bindO (zeroT Γ.P q.1) fun z =>
      z.cnt = q.2.1 ∧ z.isTup = false ∧ z.cells.all D.flat = true ∧ K ((e.newMs s m.toNat z.cells).setT s (.ms s (e.gb s) m.toNat q.2.1))) ∧
    (∀ Γ d b g n ys tx ty e K, evCopyH Γ d (.ms b g n 1) (.val (.sl ys)) tx ty e K = bindO (elT Γ.P tx) fun q => bindO (Γ.P.underlying ty) fun u => (q.2.1 = 1 ∧ q.2.2.1 = false ∧ isSl u = true) ∧ rowB 1 ys = true ∧ ys.all (fun d => d.flat) = true ∧ n ≤ ys.length ∧
      e.gb b = g + 1 ∧ b < 100000 ∧ e.hasCells b g 0 n = true ∧ K ((e.unbox b g (ys.take n)).setD d (.val (.int .i64 n)))) ∧
    (∀ t, isSl (.slice t) = true) ∧ (∀ f b g K, onCl (.cl f b g) K = K f b g) ∧
    (∀ e b m cs, (Env.newMs e b m cs).tm = e.tm) ∧ (∀ e b m cs, (Env.newMs e b m cs).lv = e.lv) ∧ (∀ e b m cs, (Env.newMs e b m cs).gc = e.gc) ∧ (∀ e b m cs b', (Env.newMs e b m cs).gb b' = if b' = b then e.gb b + 1 else e.gb b') ∧
    (∀ e b m cs b' g' o', (Env.newMs e b m cs).bx b' g' o' = if b' = b ∧ g' = e.gb b then (if o' < m * cs.length then (match cs[o' % cs.length]? with | some d => .val d | none => .no) else .no) else e.bx b' g' o') ∧
    (∀ e b g xs i, (Env.unbox e b g xs).tm i = frz b g xs (e.tm i)) ∧ (∀ e b g xs, (Env.unbox e b g xs).lv = e.lv) ∧ (∀ e b g xs, (Env.unbox e b g xs).gc = e.gc) ∧ (∀ e b g xs b', (Env.unbox e b g xs).gb b' = if b' = b then g else e.gb b') ∧
    (∀ e b g xs b' g' o', (Env.unbox e b g xs).bx b' g' o' = if b' = b ∧ g' = g then .no else frz b g xs (e.bx b' g' o')) ∧
    (∀ b g xs, frz b g xs .no = .no) ∧ (∀ b g xs z, frz b g xs (.val z) = .val z) ∧ (∀ b g xs c k g' z, frz b g xs (.own c k g' z) = .own c k g' z) ∧ (∀ b g xs z, frz b g xs (.rp z) = .rp z) ∧
    (∀ b g xs b' g' o, frz b g xs (.bx b' g' o) = if b' = b ∧ g' = g then .no else .bx b' g' o) ∧ (∀ b g xs f b' g', frz b g xs (.cl f b' g') = if b' = b ∧ g' = g then .no else .cl f b' g') ∧
    (∀ b g xs b' g' n sz, frz b g xs (.ms b' g' n sz) = if b' = b ∧ g' = g then (if n = xs.length then .val (.sl xs) else .no) else .ms b' g' n sz) ∧
    (∀ (e : Env) n b g, e.argA (.p n) (.bx b g 0) = (e.rdCells b g 0 n).map (A.p none)) ∧ (∀ (e : Env) n f b g, e.argA (.p n) (.cl f b g) = (e.rdCells b g 0 n).map (A.p (some f))) := by
  refine ⟨fun _ _ _ _ => rfl, fun _ _ _ _ _ _ _ => rfl, fun _ _ _ _ _ => rfl, fun _ _ _ _ _ _ _ => rfl, fun _ _ _ _ _ => rfl, fun _ _ _ _ _ _ _ _ => rfl, fun e b g n sz d ty K => ?ms, fun Γ s t m m' e K => ?mk, fun Γ d b g n ys tx ty e K => ?cp, fun _ => rfl, fun _ _ _ _ => rfl,
    fun _ _ _ _ => rfl, fun _ _ _ _ => rfl, fun _ _ _ _ => rfl, fun _ _ _ _ _ => rfl, fun _ _ _ _ _ _ _ => rfl, fun _ _ _ _ _ => rfl, fun _ _ _ _ => rfl, fun _ _ _ _ => rfl, fun _ _ _ _ _ => rfl, fun _ _ _ _ _ _ _ => rfl,
    fun _ _ _ => rfl, fun _ _ _ _ => rfl, fun _ _ _ _ _ _ _ => rfl, fun _ _ _ _ => rfl, fun _ _ _ _ _ _ => rfl, fun _ _ _ _ _ _ => rfl, fun _ _ _ _ _ _ _ => rfl, fun e n b g => ?a1, fun e n f b g => ?a2⟩
  case ms =>
    simp only [evAsgH, evAsg]
    by_cases h : d = 4 ∧ ty = 40 <;> simp [h, Bq, Br]
  case mk =>
    simp only [evMakeH, evMake, bindO]
    cases elT Γ.P t with
    | none => rfl
    | some q =>
      obtain ⟨el, n, a, by_⟩ := q
      dsimp only
      cases zeroT Γ.P el <;> rfl
  case cp =>
    simp only [evCopyH, evCopy, bindO, AV.d]
    cases elT Γ.P tx with
    | none => rfl
    | some q =>
      obtain ⟨el, n', a, by_⟩ := q
      cases Γ.P.underlying ty with
      | none => cases a <;> rcases n' with _ | _ | n' <;> rfl
      | some u => cases u <;> cases a <;> rcases n' with _ | _ | n' <;> simp [isSl]
  case a1 => simp only [Env.argA]; cases e.rdCells b g 0 n <;> rfl
  case a2 => simp only [Env.argA]; cases e.rdCells b g 0 n <;> rfl
end Go.Proofs.YtebkaacflocfcaaDoor.Ab
