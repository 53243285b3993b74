/- Plain laws: the program and the reference read frames, values, texts alike. -/
import Derived.Test.YtebkaacflocfcaaDoorM9
import Derived.Test.YtebkaacflocfcaaDoorM5
import Derived.Test.YtebkaacflocfcaaDoorM7
import Derived.Test.YtebkaacflocfcaaDoorM6
set_option linter.unusedVariables false
set_option linter.unusedSimpArgs false
set_option linter.defProp false
/- Plain: both readings of a frame are the same. -/
namespace Go.Proofs.YtebkaacflocfcaaDoor.Ab
open Go
set_option linter.unusedSimpArgs false
set_option linter.unusedVariables false

theorem low_eq {k x : Nat} {t : Str} (hx : x < 256 ^ k) (ht : t.length = k) : low x k = t ↔ x = num t := by
  constructor
  · intro h; rw [← h, num_low, Nat.mod_eq_of_lt hx]
  · intro h; rw [h, ← ht]; exact low_num t
theorem zeros_eq {Z : Str} : (∀ c ∈ Z, c = 0) ↔ Z = List.replicate Z.length 0 := by
  constructor
  · intro h; exact List.eq_replicate_iff.2 ⟨rfl, h⟩
  · intro h; exact (List.eq_replicate_iff.1 h).2
theorem num2_lt (l : Str) : num (l.take 2) < 65536 := num_lt2
/-- the head of what the bytes should be -/
theorem hdr_asFrm {b : Str} (h1 : 15 ≤ b.length) (hn : num ((b.drop 1).take 2) ≤ b.length - 15) :
    hdrB (asFrm b) b.length = b.take (11 + num ((b.drop 1).take 2)) ++ List.replicate (b.length - 15 - num ((b.drop 1).take 2)) 0 := by
  obtain ⟨n, hnn⟩ : ∃ n, n = num ((b.drop 1).take 2) := ⟨_, rfl⟩
  have hbl : (asFrm b).body.length = n := by unfold asFrm; simp only [List.length_take, List.length_drop, ← hnn]; omega
  have e1 : low (asFrm b).body.length 2 = (b.drop 1).take 2 := by
    rw [hbl]; exact (low_eq (by have := num2_lt (b.drop 1); omega) (by simp; omega)).2 hnn
  have e2 : low (asFrm b).gen 8 = (b.drop 3).take 8 := by
    have hl : ((b.drop 3).take 8).length = 8 := by simp; omega
    exact (low_eq (by have := num_lt ((b.drop 3).take 8); rw [hl] at this; exact this) hl).2 rfl
  have e3 : (asFrm b).body = (b.drop 11).take n := by unfold asFrm; rw [← hnn]
  unfold hdrB
  rw [e1, e2, hbl, e3, ← hnn]
  have e0 : [(asFrm b).kind] = b.take 1 := by
    unfold asFrm
    cases b with
    | nil => simp at h1
    | cons x y => rfl
  rw [e0]
  congr 1
  have a1 : b.take 1 ++ (b.drop 1).take 2 = b.take 3 := by rw [← List.take_add]
  have a2 : b.take 3 ++ (b.drop 3).take 8 = b.take 11 := by rw [← List.take_add]
  have a3 : b.take 11 ++ (b.drop 11).take n = b.take (11 + n) := by rw [← List.take_add]
  rw [a1, a2, a3]
theorem openP_eq (b : Str) : openP b = openR b := by
  have key : okP b ↔ ((15 ≤ b.length ∧ b.length ≤ 8192) ∧ num ((b.drop 1).take 2) ≤ b.length - 15 ∧ sealB (asFrm b) b.length = b) := by
    unfold okP
    constructor
    · rintro ⟨h1, h2, h3, h4⟩
      refine ⟨h1, h3, ?_⟩
      have hh := hdr_asFrm h1.1 h3
      have hZ := zeros_eq.1 h4
      have hZl : ((b.take (b.length - 4)).drop (11 + num ((b.drop 1).take 2))).length = b.length - 15 - num ((b.drop 1).take 2) := by simp; omega
      rw [hZl] at hZ
      rw [← hZ] at hh
      have e : b.take (11 + num ((b.drop 1).take 2)) = (b.take (b.length - 4)).take (11 + num ((b.drop 1).take 2)) := by rw [List.take_take, Nat.min_eq_left (by omega)]
      rw [e, List.take_append_drop] at hh
      have hl4 : (b.drop (b.length - 4)).length = 4 := by simp; omega
      have ht4 : (b.drop (b.length - 4)).take 4 = b.drop (b.length - 4) := List.take_of_length_le (by omega)
      rw [ht4] at h2
      unfold sealB
      rw [hh, h2]
      have := low_num (b.drop (b.length - 4))
      rw [hl4] at this
      rw [this, List.take_append_drop]
    · rintro ⟨h1, h3, h5⟩
      have hh := hdr_asFrm h1.1 h3
      have hhl : (hdrB (asFrm b) b.length).length = b.length - 4 := by rw [hh]; simp only [List.length_append, List.length_take, List.length_replicate]; omega
      have hx := extN_lt 0 (hdrB (asFrm b) b.length)
      unfold sealB at h5
      obtain ⟨H, hH⟩ : ∃ H, H = hdrB (asFrm b) b.length := ⟨_, rfl⟩
      rw [← hH] at h5 hhl hx hh
      have e1 : b.take (b.length - 4) = H := by
        have := congrArg (List.take (b.length - 4)) h5
        rw [List.take_left' hhl] at this
        exact this.symm
      have e2 : b.drop (b.length - 4) = low (extN 0 H) 4 := by
        have := congrArg (List.drop (b.length - 4)) h5
        rw [List.drop_left' hhl] at this
        exact this.symm
      refine ⟨h1, ?_, h3, ?_⟩
      · rw [e1, e2, List.take_of_length_le (by rw [low_len]; omega), num_low, Nat.mod_eq_of_lt (by omega)]
      · rw [e1, hh]
        have hl : (b.take (11 + num ((b.drop 1).take 2))).length = 11 + num ((b.drop 1).take 2) := by simp only [List.length_take]; omega
        rw [List.drop_left' hl]
        intro c hc
        exact (List.mem_replicate.1 hc).2
  unfold openP openR
  by_cases h : okP b
  · rw [if_pos h, if_pos (key.1 h)]
  · rw [if_neg h, if_neg (fun hh => h (key.2 hh))]
/-- what a sealed frame opens to -/
theorem openR_seal {f : Frm} {n : Nat} (hn : 15 ≤ n ∧ n ≤ 8192) (hb : f.body.length ≤ n - 15) (hg : f.gen < 18446744073709551616) : openR (sealB f n) = (f, 0) := by
  have hl := sealB_len hn.1 hb
  have e : sealB f n = [f.kind] ++ (low f.body.length 2 ++ (low f.gen 8 ++ (f.body ++ (List.replicate (n - 15 - f.body.length) 0 ++ low (extN 0 (hdrB f n)) 4)))) := by
    unfold sealB
    conv => lhs; arg 1; unfold hdrB
    simp only [List.append_assoc]
  have d1 : (sealB f n).drop 1 = low f.body.length 2 ++ (low f.gen 8 ++ (f.body ++ (List.replicate (n - 15 - f.body.length) 0 ++ low (extN 0 (hdrB f n)) 4))) := by rw [e]; rfl
  have t1 : ((sealB f n).drop 1).take 2 = low f.body.length 2 := by rw [d1, List.take_left' (low_len _ _)]
  have d3 : (sealB f n).drop 3 = low f.gen 8 ++ (f.body ++ (List.replicate (n - 15 - f.body.length) 0 ++ low (extN 0 (hdrB f n)) 4)) := by
    have : (sealB f n).drop 3 = ((sealB f n).drop 1).drop 2 := by rw [List.drop_drop]
    rw [this, d1, List.drop_left' (low_len _ _)]
  have t3 : ((sealB f n).drop 3).take 8 = low f.gen 8 := by rw [d3, List.take_left' (low_len _ _)]
  have d11 : (sealB f n).drop 11 = f.body ++ (List.replicate (n - 15 - f.body.length) 0 ++ low (extN 0 (hdrB f n)) 4) := by
    have : (sealB f n).drop 11 = ((sealB f n).drop 3).drop 8 := by rw [List.drop_drop]
    rw [this, d3, List.drop_left' (low_len _ _)]
  have hnum : num (((sealB f n).drop 1).take 2) = f.body.length := by rw [t1, num_low, Nat.mod_eq_of_lt (by omega)]
  have haf : asFrm (sealB f n) = f := by
    unfold asFrm
    rw [hnum, t3, num_low64 _ hg, d11, List.take_left' rfl]
    have : (sealB f n).headD 0 = f.kind := by rw [e]; rfl
    rw [this]
  unfold openR
  rw [haf, hnum, hl, if_pos ⟨hn, hb, rfl⟩]
/-- what opens well was sealed -/
theorem openR_ok {b : Str} (h : (openR b).2 = 0) : (15 ≤ b.length ∧ b.length ≤ 8192) ∧ (openR b).1.body.length ≤ b.length - 15 ∧ b = sealB (openR b).1 b.length ∧ (openR b).1.gen < 18446744073709551616 := by
  unfold openR at h ⊢
  split at h
  · rename_i hh
    rw [if_pos hh]
    refine ⟨hh.1, ?_, hh.2.2.symm, ?_⟩
    · unfold asFrm; simp only [List.length_take, List.length_drop]; omega
    · unfold asFrm; exact num_lt8 (Nat.le_refl _)
  · cases h
end Go.Proofs.YtebkaacflocfcaaDoor.Ab

/- Plain: numbers and values, written and read. -/
namespace Go.Proofs.YtebkaacflocfcaaDoor.Ab
open Go
set_option linter.unusedSimpArgs false
set_option linter.unusedVariables false

theorem ofNat_nat {n : Nat} (h : n < 256) : (UInt8.ofNat n).toNat = n := by simp; omega
theorem pow128_le {i : Nat} (h : i ≤ 9) : (128 : Nat) ^ i ≤ 9223372036854775808 := by
  have := Nat.pow_le_pow_right (n := 128) (by omega) h
  have e : (128 : Nat) ^ 9 = 9223372036854775808 := by decide
  omega
theorem pow128_pos (i : Nat) : 0 < (128 : Nat) ^ i := Nat.pow_pos (by omega)
theorem lt128_of {v i : Nat} (hi : i ≤ 9) (h : v * 128 ^ i < 18446744073709551616) (h9 : i = 9) : v < 2 := by
  subst h9
  have e : (128 : Nat) ^ 9 = 9223372036854775808 := by decide
  rw [e] at h; omega
theorem div_mul_le {v i : Nat} : v / 128 * 128 ^ (i + 1) + v % 128 * 128 ^ i = v * 128 ^ i := by
  rw [Nat.pow_succ, Nat.mul_comm (128 ^ i) 128, ← Nat.mul_assoc, ← Nat.add_mul]
  congr 1; omega
theorem rdP_groups : ∀ (m v i a : Nat) (t : Str), v ≤ m → i ≤ 9 → v * 128 ^ i < 18446744073709551616 → (0 < v ∨ i = 0) → rdP i (groups v ++ t) a = some (a + v * 128 ^ i, t, true) := by
  intro m
  induction m with
  | zero =>
    intro v i a t hm hi hv h0
    have : v = 0 := by omega
    subst this
    rw [groups_lo (by omega)]
    simp only [List.cons_append, List.nil_append, rdP]
    rw [if_neg (by simp), if_pos (by simp)]
    have hi0 : i = 0 := by omega
    simp [hi0]
  | succ m ih =>
    intro v i a t hm hi hv h0
    by_cases hlt : v < 128
    · rw [groups_lo hlt]
      simp only [List.cons_append, List.nil_append, rdP]
      have hc : (UInt8.ofNat v).toNat = v := ofNat_nat (by omega)
      rw [hc, if_neg (by rintro ⟨h9, hh⟩; have := lt128_of hi hv h9; omega), if_pos hlt, Nat.mod_eq_of_lt hlt]
      have : decide (0 < v ∨ i = 0) = true := decide_eq_true h0
      rw [this]
    · rw [groups_hi hlt]
      simp only [List.cons_append, rdP]
      have hc : (UInt8.ofNat (v % 128 + 128)).toNat = v % 128 + 128 := ofNat_nat (by omega)
      have h9 : i ≠ 9 := by intro hh; have := lt128_of hi hv hh; omega
      rw [hc, if_neg (by rintro ⟨hh, _⟩; exact h9 hh), if_neg (by omega)]
      have e := div_mul_le (v := v) (i := i)
      have : (v % 128 + 128) % 128 = v % 128 := by omega
      rw [this, ih (v / 128) (i + 1) _ t (by omega) (by omega) (by generalize v % 128 * 128 ^ i = A at e; omega) (by omega)]
      congr 2
      omega
theorem rdI_groups : ∀ (m v i a : Nat) (t : Str), v ≤ m → i ≤ 9 → a + v * 128 ^ i < 18446744073709551616 → rdI (10 - i) (groups v ++ t) a (128 ^ i) = some (a + v * 128 ^ i, t) := by
  intro m
  induction m with
  | zero =>
    intro v i a t hm hi hv
    have : v = 0 := by omega
    subst this
    rw [groups_lo (by omega), show 10 - i = (9 - i) + 1 by omega]
    simp only [List.cons_append, List.nil_append, rdI]
    rw [if_pos (by simp)]
    simp; omega
  | succ m ih =>
    intro v i a t hm hi hv
    rw [show 10 - i = (9 - i) + 1 by omega]
    by_cases hlt : v < 128
    · rw [groups_lo hlt]
      simp only [List.cons_append, List.nil_append, rdI]
      have hc : (UInt8.ofNat v).toNat = v := ofNat_nat (by omega)
      rw [hc, if_pos hlt, Nat.mod_eq_of_lt hlt, Nat.mul_comm (128 ^ i) v, Nat.mod_eq_of_lt hv]
    · rw [groups_hi hlt]
      simp only [List.cons_append, rdI]
      have hc : (UInt8.ofNat (v % 128 + 128)).toNat = v % 128 + 128 := ofNat_nat (by omega)
      have h9 : i ≠ 9 := by intro hh; have := lt128_of hi (show v * 128 ^ i < 18446744073709551616 by omega) hh; omega
      have e := div_mul_le (v := v) (i := i)
      have hp := pow128_le (i := i + 1) (by omega)
      have hps : (128 : Nat) ^ i * 128 = 128 ^ (i + 1) := (Nat.pow_succ _ _).symm
      rw [hc, if_neg (by omega)]
      have h1 : (v % 128 + 128) % 128 = v % 128 := by omega
      rw [h1, hps, Nat.mod_eq_of_lt (show 128 ^ (i + 1) < 18446744073709551616 by omega), Nat.mul_comm (128 ^ i) (v % 128),
        Nat.mod_eq_of_lt (show a + v % 128 * 128 ^ i < 18446744073709551616 by generalize v % 128 * 128 ^ i = A at e ⊢; omega), show 9 - i = 10 - (i + 1) by omega,
        ih (v / 128) (i + 1) _ t (by omega) (by omega) (by generalize v % 128 * 128 ^ i = A at e ⊢; omega)]
      congr 2
      generalize v % 128 * 128 ^ i = A at e ⊢; omega
theorem rdP_inv : ∀ (l : Str) (i a : Nat) (q : Nat × Str × Bool), i ≤ 9 → rdP i l a = some q → q.2.2 = true → ∃ v, q.1 = a + v * 128 ^ i ∧ l = groups v ++ q.2.1 ∧ (0 < v ∨ i = 0) ∧ (v + 1) * 128 ^ i ≤ 18446744073709551616 := by
  intro l
  induction l with
  | nil => intro i a q hi h; simp [rdP] at h
  | cons c l ih =>
    intro i a q hi h hok
    have hcl := c.toNat_lt
    rw [rdP] at h
    split at h
    · cases h
    · rename_i hbad
      split at h
      · rename_i hlt
        cases h
        have h0 : 0 < c.toNat ∨ i = 0 := by simpa using hok
        refine ⟨c.toNat, by rw [Nat.mod_eq_of_lt hlt], ?_, h0, ?_⟩
        · rw [groups_lo hlt]; simp
        · by_cases h9 : i = 9
          · have : c.toNat + 1 ≤ 2 := by omega
            have := Nat.mul_le_mul_right (128 ^ i) this
            have := pow128_le hi
            omega
          · have : c.toNat + 1 ≤ 128 := by omega
            have h1 := Nat.mul_le_mul_right (128 ^ i) this
            have h2 : (128 : Nat) * 128 ^ i = 128 ^ (i + 1) := by rw [Nat.pow_succ, Nat.mul_comm]
            have := pow128_le (i := i + 1) (by omega)
            omega
      · rename_i hge
        have h9 : i ≠ 9 := by intro hh; exact hbad ⟨hh, by omega⟩
        obtain ⟨v', e1, e2, e3, e4⟩ := ih (i + 1) _ q (by omega) h hok
        have hv' : 0 < v' := by omega
        have hps : (128 : Nat) ^ (i + 1) = 128 ^ i * 128 := Nat.pow_succ _ _
        refine ⟨c.toNat % 128 + 128 * v', ?_, ?_, .inl (by omega), ?_⟩
        · rw [e1, hps, Nat.add_mul, ← Nat.add_assoc]
          congr 1
          rw [Nat.mul_comm 128 v', Nat.mul_assoc, Nat.mul_comm 128 (128 ^ i)]
        · rw [groups_hi (by omega), show (c.toNat % 128 + 128 * v') % 128 + 128 = c.toNat by omega, show (c.toNat % 128 + 128 * v') / 128 = v' by omega, UInt8.ofNat_toNat, e2]
          rfl
        · have : (c.toNat % 128 + 128 * v' + 1) ≤ (v' + 1) * 128 := by omega
          have h1 := Nat.mul_le_mul_right (128 ^ i) this
          rw [Nat.mul_assoc, Nat.mul_comm 128 (128 ^ i), ← hps] at h1
          omega
theorem turned_back (u : Nat) : turned (back u) = u := by
  unfold turned back
  by_cases h : u % 2 = 0
  · rw [if_pos h, if_pos (by omega)]; omega
  · rw [if_neg h, if_neg (by omega)]; omega
theorem back_turned (n : Int) : back (turned n) = n := by
  unfold turned back
  by_cases h : 0 ≤ n
  · rw [if_pos h, if_pos (by omega)]; omega
  · rw [if_neg h, if_neg (by omega)]; omega
theorem cutInt_enc {n : Int} (hn : I64 n) (t : Str) : cutIntR (groups (turned n) ++ t) = (n, t, true) := by
  have h := rdP_groups (turned n) (turned n) 0 0 t (Nat.le_refl _) (by omega) (by have := turned_lt hn; simpa using this) (.inr rfl)
  unfold cutIntR
  rw [h]
  simp [back_turned]
theorem rdI_enc {n : Int} (hn : I64 n) (t : Str) : rdI 10 (groups (turned n) ++ t) 0 1 = some (turned n, t) := by
  have h := rdI_groups (turned n) (turned n) 0 0 t (Nat.le_refl _) (by omega) (by have := turned_lt hn; simpa using this)
  simpa using h
theorem cutInt_inv {l : Str} (h : (cutIntR l).2.2 = true) : I64 (cutIntR l).1 ∧ l = groups (turned (cutIntR l).1) ++ (cutIntR l).2.1 := by
  unfold cutIntR at h ⊢
  cases hq : rdP 0 l 0 with
  | none => rw [hq] at h; cases h
  | some q =>
    obtain ⟨u, t, ok⟩ := q
    rw [hq] at h
    dsimp only at h ⊢
    obtain ⟨v, e1, e2, e3, e4⟩ := rdP_inv l 0 0 _ (by omega) hq h
    simp only [Nat.pow_zero, Nat.mul_one, Nat.zero_add] at e1 e2 e4
    subst e1
    exact ⟨back_I64 (by omega), by rw [turned_back]; exact e2⟩
/-- a value that fits, written and read -/
theorem cutP_enc {f : Fld} {v : Val} (hf : fits f v = true) (hk : v.kind ≠ 0) (hn : I64 v.n) (t : Str) : cutP f.type (encV v ++ t) = (v, t, true) := by
  obtain ⟨k, n, s⟩ := v
  dsimp only at hk hn
  unfold fits at hf
  dsimp only at hf
  rw [if_neg hk] at hf
  by_cases ht : k ≠ f.type
  · rw [if_pos ht] at hf; cases hf
  · rw [if_neg ht] at hf
    have ht' : f.type = k := by simpa using Eq.symm (by simpa using ht)
    rw [ht']
    unfold encV cutP
    dsimp only
    by_cases h1 : k = 1
    · subst h1
      simp only [if_true] at hf ⊢
      have hs : s = [] := by simpa using hf
      rw [cutInt_enc hn, hs]
    · rw [if_neg h1] at hf
      rw [if_neg h1, if_neg h1]
      by_cases h2 : k = 2
      · subst h2
        simp only [if_true] at hf ⊢
        simp only [Bool.and_eq_true, decide_eq_true_eq] at hf
        obtain ⟨hn01, rfl⟩ := hf
        rcases hn01 with rfl | rfl <;> rfl
      · rw [if_neg h2] at hf
        rw [if_neg h2]
        by_cases h3 : k = 3
        · subst h3
          simp only [if_true] at hf ⊢
          simp only [Bool.and_eq_true, decide_eq_true_eq] at hf
          obtain ⟨rfl, hl⟩ := hf
          have hc : (UInt8.ofNat (s.length % 256)).toNat = s.length := by rw [ofNat_nat (by omega)]; omega
          simp only [List.cons_append]
          rw [if_neg (by omega), hc, if_neg (by simp only [List.length_append]; omega), List.take_left' rfl, List.drop_left' rfl]
        · rw [if_neg h3] at hf; cases hf
theorem rdV_enc {f : Fld} {v : Val} (hf : fits f v = true) (hk : v.kind ≠ 0) (hn : I64 v.n) (t : Str) : rdV f (encV v ++ t) = some (v, t) := by
  obtain ⟨k, n, s⟩ := v
  dsimp only at hk hn
  unfold fits at hf
  dsimp only at hf
  rw [if_neg hk] at hf
  by_cases ht : k ≠ f.type
  · rw [if_pos ht] at hf; cases hf
  · rw [if_neg ht] at hf
    have ht' : f.type = k := by simpa using Eq.symm (by simpa using ht)
    unfold encV rdV
    dsimp only
    rw [ht']
    by_cases h1 : k = 1
    · subst h1
      simp only [if_true] at hf ⊢
      have hs : s = [] := by simpa using hf
      rw [rdI_enc hn, hs]
      simp [back_turned]
    · rw [if_neg h1] at hf
      rw [if_neg h1, if_neg h1]
      by_cases h2 : k = 2
      · subst h2
        simp only [if_true] at hf ⊢
        simp only [Bool.and_eq_true, decide_eq_true_eq] at hf
        obtain ⟨hn01, rfl⟩ := hf
        rcases hn01 with rfl | rfl <;> rfl
      · rw [if_neg h2] at hf
        rw [if_neg h2]
        by_cases h3 : k = 3
        · subst h3
          simp only [if_true] at hf ⊢
          simp only [Bool.and_eq_true, decide_eq_true_eq] at hf
          obtain ⟨rfl, hl⟩ := hf
          have hc : (UInt8.ofNat (s.length % 256)).toNat = s.length := by rw [ofNat_nat (by omega)]; omega
          simp only [List.cons_append]
          rw [if_neg (by omega), hc, if_neg (by simp only [List.length_append]; omega), List.take_left' rfl, List.drop_left' rfl]
        · rw [if_neg h3] at hf; cases hf
theorem cutP_inv {f : Fld} {l : Str} (ht : 1 ≤ f.type ∧ f.type ≤ 3) (h : (cutP f.type l).2.2 = true) :
    fits f (cutP f.type l).1 = true ∧ (cutP f.type l).1.kind = f.type ∧ I64 (cutP f.type l).1.n ∧ l = encV (cutP f.type l).1 ++ (cutP f.type l).2.1 := by
  unfold cutP at h ⊢
  by_cases h1 : f.type = 1
  · rw [if_pos h1] at h ⊢
    dsimp only at h ⊢
    obtain ⟨k1, k2⟩ := cutInt_inv h
    refine ⟨?_, rfl, k1, ?_⟩
    · unfold fits; simp [h1]
    · unfold encV; dsimp only; rw [if_pos h1]; exact k2
  · rw [if_neg h1] at h ⊢
    cases l with
    | nil => cases h
    | cons c r =>
      have hcl := c.toNat_lt
      dsimp only at h ⊢
      by_cases h2 : f.type = 2
      · rw [if_pos h2] at h ⊢
        dsimp only at h ⊢
        have hc2 : c.toNat < 2 := by simpa using h
        refine ⟨?_, rfl, by unfold I64; omega, ?_⟩
        · unfold fits; simp [h2]; omega
        · unfold encV; dsimp only; rw [if_neg (by omega), if_pos h2]
          have : (UInt8.ofNat ((c.toNat : Int) % 256).toNat) = c := by
            apply UInt8.toNat_inj.1; rw [ofNat_nat (by omega)]; omega
          rw [this]; rfl
      · rw [if_neg h2] at h ⊢
        by_cases h3 : 20 < c.toNat ∨ r.length < c.toNat
        · rw [if_pos h3] at h; cases h
        · rw [if_neg h3] at h ⊢
          dsimp only
          have hl : (r.take c.toNat).length = c.toNat := by simp; omega
          refine ⟨?_, rfl, by unfold I64; omega, ?_⟩
          · unfold fits; dsimp only
            have e3 : f.type = 3 := by omega
            simp [e3]; omega
          · unfold encV; dsimp only
            rw [if_neg h1, if_neg h2, if_pos (by omega), hl]
            have : (UInt8.ofNat (c.toNat % 256)) = c := by
              apply UInt8.toNat_inj.1; rw [ofNat_nat (by omega)]; omega
            rw [this]; simp
end Go.Proofs.YtebkaacflocfcaaDoor.Ab

/- Plain: both Decodes are the same. -/
namespace Go.Proofs.YtebkaacflocfcaaDoor.Ab
open Go
set_option linter.unusedSimpArgs false
set_option linter.unusedVariables false

theorem fits_kind0 {f : Fld} {v : Val} (h : fits f v = true) (hk : v.kind = 0) : f.opt = true ∧ v = val0 ∧ encV v = [] := by
  obtain ⟨k, n, s⟩ := v
  dsimp only at hk
  subst hk
  unfold fits at h
  simp only [if_true, Bool.and_eq_true, decide_eq_true_eq] at h
  obtain ⟨⟨h1, rfl⟩, rfl⟩ := h
  exact ⟨h1, rfl, rfl⟩
theorem opts_cons (f : Fld) (s : List Fld) : opts (f :: s) = opts s + if f.opt = true then 1 else 0 := by
  unfold opts; rw [List.countP_cons]
theorem markN_cons (f : Fld) (s : List Fld) (v : Val) (r : List Val) : markN ((f :: s).zip (v :: r)) = if f.opt = true then bit (decide (v.kind ≠ 0)) + 2 * markN (s.zip r) else markN (s.zip r) := by
  simp only [List.zip_cons_cons, markN]
theorem fitsAll_cons (f : Fld) (s : List Fld) (v : Val) (r : List Val) : fitsAll (f :: s) (v :: r) = (fits f v && fitsAll s r) := by
  simp only [fitsAll, List.zip_cons_cons, List.all_cons]
theorem bit_0 {v : Val} (h : v.kind = 0) : bit (decide (v.kind ≠ 0)) = 0 := by simp [bit, h]
theorem bit_1 {v : Val} (h : v.kind ≠ 0) : bit (decide (v.kind ≠ 0)) = 1 := by simp [bit, h]
/-- the marks' split at an optional field -/
theorem mark_opt {f : Fld} {s : List Fld} {v : Val} {r : List Val} {h z : Nat} (ho : f.opt = true) (hz : h = markN ((f :: s).zip (v :: r)) + 2 ^ opts (f :: s) * z) :
    h % 2 = bit (decide (v.kind ≠ 0)) ∧ h / 2 = markN (s.zip r) + 2 ^ opts s * z := by
  rw [markN_cons, opts_cons, if_pos ho, if_pos ho, Nat.pow_succ, Nat.mul_assoc, Nat.mul_comm 2 z, ← Nat.mul_assoc] at hz
  generalize 2 ^ opts s * z = w at *
  have hb : bit (decide (v.kind ≠ 0)) < 2 := by unfold bit; split <;> omega
  omega
theorem mark_req {f : Fld} {s : List Fld} {v : Val} {r : List Val} {h z : Nat} (ho : ¬ f.opt = true) (hz : h = markN ((f :: s).zip (v :: r)) + 2 ^ opts (f :: s) * z) :
    h = markN (s.zip r) + 2 ^ opts s * z := by
  rw [markN_cons, opts_cons, if_neg ho, if_neg ho] at hz; exact hz
theorem rdPs_enc : ∀ (s : List Fld) (r : List Val) (h z : Nat) (t : Str), r.length = s.length → fitsAll s r = true → (∀ v ∈ r, I64 v.n) → h = markN (s.zip r) + 2 ^ opts s * z →
    rdPs s h (r.flatMap encV ++ t) = some (r, t) := by
  intro s
  induction s with
  | nil => intro r h z t hl _ _ _; cases r with | nil => rfl | cons => simp at hl
  | cons f s ih =>
    intro r h z t hl hf hn hz
    cases r with
    | nil => simp at hl
    | cons v r =>
      rw [fitsAll_cons, Bool.and_eq_true] at hf
      have hl' : r.length = s.length := by simpa using hl
      have hn' : ∀ w ∈ r, I64 w.n := fun w hw => hn w (by simp [hw])
      simp only [List.flatMap_cons, List.append_assoc, rdPs]
      by_cases ho : f.opt = true
      · obtain ⟨k1, k2⟩ := mark_opt ho hz
        by_cases hk : v.kind = 0
        · obtain ⟨_, e1, e2⟩ := fits_kind0 hf.1 hk
          rw [bit_0 hk] at k1
          rw [if_pos ⟨ho, by omega⟩, e2, List.nil_append, ih r (h / 2) z t hl' hf.2 hn' k2, e1]
          rfl
        · rw [bit_1 hk] at k1
          have hc := cutP_enc hf.1 hk (hn v (by simp)) (r.flatMap encV ++ t)
          rw [if_neg (by omega), hc]
          simp only [if_true]
          rw [if_pos ho, ih r (h / 2) z t hl' hf.2 hn' k2]
          rfl
      · have hk : v.kind ≠ 0 := fun hh => ho (fits_kind0 hf.1 hh).1
        have hc := cutP_enc hf.1 hk (hn v (by simp)) (r.flatMap encV ++ t)
        rw [if_neg (fun hh => ho hh.1), hc]
        simp only [if_true]
        rw [if_neg ho, ih r h z t hl' hf.2 hn' (mark_req ho hz)]
        rfl
theorem rdAll_enc : ∀ (s : List Fld) (r : List Val) (h z : Nat) (t : Str), r.length = s.length → fitsAll s r = true → (∀ v ∈ r, I64 v.n) → h = markN (s.zip r) + 2 ^ opts s * z →
    rdAll s h (r.flatMap encV ++ t) = some r := by
  intro s
  induction s with
  | nil => intro r h z t hl _ _ _; cases r with | nil => rfl | cons => simp at hl
  | cons f s ih =>
    intro r h z t hl hf hn hz
    cases r with
    | nil => simp at hl
    | cons v r =>
      rw [fitsAll_cons, Bool.and_eq_true] at hf
      have hl' : r.length = s.length := by simpa using hl
      have hn' : ∀ w ∈ r, I64 w.n := fun w hw => hn w (by simp [hw])
      simp only [List.flatMap_cons, List.append_assoc, rdAll]
      by_cases ho : f.opt = true
      · obtain ⟨k1, k2⟩ := mark_opt ho hz
        by_cases hk : v.kind = 0
        · obtain ⟨_, e1, e2⟩ := fits_kind0 hf.1 hk
          rw [bit_0 hk] at k1
          rw [if_pos ⟨ho, by omega⟩, e2, List.nil_append, ih r (h / 2) z t hl' hf.2 hn' k2, e1]
          rfl
        · rw [bit_1 hk] at k1
          have hc := rdV_enc hf.1 hk (hn v (by simp)) (r.flatMap encV ++ t)
          rw [if_neg (by omega), hc]
          dsimp only
          rw [if_pos ho, ih r (h / 2) z t hl' hf.2 hn' k2]
          rfl
      · have hk : v.kind ≠ 0 := fun hh => ho (fits_kind0 hf.1 hh).1
        have hc := rdV_enc hf.1 hk (hn v (by simp)) (r.flatMap encV ++ t)
        rw [if_neg (fun hh => ho hh.1), hc]
        dsimp only
        rw [if_neg ho, ih r h z t hl' hf.2 hn' (mark_req ho hz)]
        rfl
theorem rdPs_inv : ∀ (s : List Fld) (h : Nat) (l : Str) (q : List Val × Str), (∀ f ∈ s, 1 ≤ f.type ∧ f.type ≤ 3) → rdPs s h l = some q →
    q.1.length = s.length ∧ fitsAll s q.1 = true ∧ (∀ v ∈ q.1, I64 v.n) ∧ l = q.1.flatMap encV ++ q.2 ∧ ∃ z, h = markN (s.zip q.1) + 2 ^ opts s * z := by
  intro s
  induction s with
  | nil =>
    intro h l q _ hq
    simp only [rdPs, Option.some.injEq] at hq
    subst hq
    exact ⟨rfl, rfl, by simp, by simp, h, by simp [markN, opts]⟩
  | cons f s ih =>
    intro h l q ht hq
    have ht' : ∀ g ∈ s, 1 ≤ g.type ∧ g.type ≤ 3 := fun g hg => ht g (by simp [hg])
    have hmk : ∀ (m z : Nat), 2 ^ opts (f :: s) * z = (if f.opt = true then 2 * (2 ^ opts s * z) else 2 ^ opts s * z) := by
      intro m z
      rw [opts_cons]
      by_cases ho : f.opt = true
      · rw [if_pos ho, if_pos ho, Nat.pow_succ, Nat.mul_comm (2 ^ opts s) 2, Nat.mul_assoc]
      · rw [if_neg ho, if_neg ho]; rfl
    simp only [rdPs] at hq
    split at hq
    · rename_i hsk
      simp only [Option.map_eq_some_iff] at hq
      obtain ⟨q', h1, rfl⟩ := hq
      obtain ⟨a1, a2, a3, a4, z, a5⟩ := ih _ _ _ ht' h1
      have hfv : fits f val0 = true := by unfold fits val0; simp [hsk.1]
      refine ⟨by simp [a1], by rw [fitsAll_cons, hfv, a2]; rfl, fun v hv => ?_, by simp only [List.flatMap_cons]; exact a4, z, ?_⟩
      · rcases List.mem_cons.1 hv with rfl | hv
        · unfold I64 val0; simp
        · exact a3 v hv
      · rw [hmk 0 z, markN_cons, if_pos hsk.1, if_pos hsk.1, bit_0 rfl]
        generalize 2 ^ opts s * z = w at *
        omega
    · rename_i hsk
      split at hq
      · rename_i hok
        simp only [Option.map_eq_some_iff] at hq
        obtain ⟨q', h1, rfl⟩ := hq
        obtain ⟨a1, a2, a3, a4, z, a5⟩ := ih _ _ _ ht' h1
        obtain ⟨b1, b2, b3, b4⟩ := cutP_inv (ht f (by simp)) hok
        have hk : (cutP f.type l).1.kind ≠ 0 := by rw [b2]; have := ht f (by simp); omega
        refine ⟨by simp [a1], by rw [fitsAll_cons, b1, a2]; rfl, fun v hv => ?_, ?_, z, ?_⟩
        · rcases List.mem_cons.1 hv with rfl | hv
          · exact b3
          · exact a3 v hv
        · simp only [List.flatMap_cons, List.append_assoc]; rw [← a4]; exact b4
        · rw [hmk 0 z, markN_cons, bit_1 hk]
          by_cases ho : f.opt = true
          · rw [if_pos ho] at a5
            rw [if_pos ho, if_pos ho]
            have : h % 2 = 1 := by
              rcases Nat.mod_two_eq_zero_or_one h with hh | hh
              · exact absurd ⟨ho, by omega⟩ hsk
              · exact hh
            generalize 2 ^ opts s * z = w at *
            omega
          · rw [if_neg ho] at a5
            rw [if_neg ho, if_neg ho]
            exact a5
      · cases hq
theorem markN_lt : ∀ (s : List Fld) (r : List Val), r.length = s.length → markN (s.zip r) < 2 ^ opts s := by
  intro s
  induction s with
  | nil => intro r _; simp [markN, opts]
  | cons f s ih =>
    intro r hl
    cases r with
    | nil => simp at hl
    | cons v r =>
      have := ih r (by simpa using hl)
      rw [markN_cons, opts_cons]
      by_cases ho : f.opt = true
      · rw [if_pos ho, if_pos ho, Nat.pow_succ]
        have hb : bit (decide (v.kind ≠ 0)) < 2 := by unfold bit; split <;> omega
        omega
      · rw [if_neg ho, if_neg ho]; exact this
theorem types_ok {s : List Fld} (h : errS s = 0) : ∀ f ∈ s, 1 ≤ f.type ∧ f.type ≤ 3 := by
  have hsl : schemaOk s = true := by
    by_cases hh : schemaOk s = true
    · exact hh
    · simp [errS, hh] at h
  simp only [schemaOk, Bool.and_eq_true, decide_eq_true_eq, List.all_eq_true] at hsl
  intro f hf
  have := hsl.1.1.2 f hf
  simp only [fldOk, Bool.and_eq_true, decide_eq_true_eq] at this
  have h2 := this.2
  unfold wideN at h2
  split at h2
  · omega
  · split at h2
    · omega
    · split at h2 <;> omega
theorem width64 {s : List Fld} (h : errS s = 0) : widthN s ≤ 64 := by
  have hsl : schemaOk s = true := by
    by_cases hh : schemaOk s = true
    · exact hh
    · simp [errS, hh] at h
  simp only [schemaOk, Bool.and_eq_true, decide_eq_true_eq] at hsl
  exact hsl.2
theorem encV_wide {f : Fld} {v : Val} (hf : fits f v = true) (hn : I64 v.n) (ht : 1 ≤ f.type ∧ f.type ≤ 3) : ((encV v).length : Int) ≤ wideN f.type := by
  by_cases hk : v.kind = 0
  · rw [(fits_kind0 hf hk).2.2]
    unfold wideN; split
    · simp
    · split
      · simp
      · split <;> simp <;> omega
  · have hkt : v.kind = f.type := by
      unfold fits at hf
      rw [if_neg hk] at hf
      by_cases h : v.kind ≠ f.type
      · rw [if_pos h] at hf; cases hf
      · simpa using h
    unfold encV wideN
    have hg := groups64 (turned_lt hn)
    rw [← hkt]
    by_cases h1 : v.kind = 1
    · rw [if_pos h1, if_pos h1]; omega
    · rw [if_neg h1, if_neg h1]
      by_cases h2 : v.kind = 2
      · rw [if_pos h2, if_pos h2]; simp
      · rw [if_neg h2, if_neg h2]
        have h3 : v.kind = 3 := by omega
        rw [if_pos h3, if_pos h3]
        unfold fits at hf
        rw [if_neg hk, if_neg (by simpa using hkt), if_neg h1, if_neg h2, if_pos h3] at hf
        simp only [Bool.and_eq_true, decide_eq_true_eq] at hf
        simp only [List.length_cons]
        omega
theorem flat_wide : ∀ (s : List Fld) (r : List Val), r.length = s.length → fitsAll s r = true → (∀ v ∈ r, I64 v.n) → (∀ f ∈ s, 1 ≤ f.type ∧ f.type ≤ 3) → ((r.flatMap encV).length : Int) ≤ widesN s := by
  intro s
  induction s with
  | nil => intro r hl _ _ _; cases r with | nil => simp [widesN] | cons => simp at hl
  | cons f s ih =>
    intro r hl hf hn ht
    cases r with
    | nil => simp at hl
    | cons v r =>
      rw [fitsAll_cons, Bool.and_eq_true] at hf
      have h1 := encV_wide hf.1 (hn v (by simp)) (ht f (by simp))
      have h2 := ih r (by simpa using hl) hf.2 (fun w hw => hn w (by simp [hw])) (fun g hg => ht g (by simp [hg]))
      simp only [List.flatMap_cons, List.length_append, widesN, List.map_cons, List.sum_cons] at h2 ⊢
      omega
theorem headN_01 {s : List Fld} (h : errS s = 0) : headN s = if 0 < opts s then 1 else 0 := by
  have h8 := (schema_len8 h).2
  have ho : opts s ≤ s.length := List.countP_le_length
  unfold headN
  split <;> omega
/-- what decodes well -/
theorem decode_good {s : List Fld} {r : List Val} {b : Str} (hs : errS s = 0) (hl : r.length = s.length) (hf : fitsAll s r = true) (hn : ∀ v ∈ r, I64 v.n) (hb : b = encR s r) :
    decP s b = (r, 0) ∧ decR s b = (r, 0) ∧ b.length ≤ 64 := by
  have hh := headN_01 hs
  have hm := markN_lt s r hl
  have h8 := (schema_len8 hs).2
  have ho : opts s ≤ s.length := List.countP_le_length
  have hp : 2 ^ opts s ≤ 2 ^ 8 := Nat.pow_le_pow_right (by omega) (by omega)
  have hp8 : (2 : Nat) ^ 8 = 256 := by decide
  have hw := flat_wide s r hl hf hn (types_ok hs)
  have hwd := width64 hs
  unfold widthN at hwd
  have hdrop : b.drop (headN s) = r.flatMap encV := by
    rw [hb, hh]; unfold encR
    split <;> rfl
  have hlen : b.length = headN s + (r.flatMap encV).length := by
    rw [hb, hh]; unfold encR
    split
    · simp; omega
    · simp
  have hmark : mark0 s b = markN (s.zip r) := by
    unfold mark0
    rw [hh, hb]
    unfold encR
    by_cases h0 : 0 < opts s
    · rw [if_pos h0, if_pos (by omega), if_pos h0]
      simp only [List.cons_append, List.headD_cons]
      rw [ofNat_nat (by omega)]; omega
    · rw [if_neg h0, if_neg (by omega)]
      have : opts s = 0 := by omega
      rw [this] at hm; simp at hm; omega
  have hl64 : b.length ≤ 64 := by omega
  refine ⟨?_, ?_, hl64⟩
  · unfold decP
    rw [if_neg (by simpa using hs), if_neg (by omega), hdrop, hmark]
    have := rdPs_enc s r (markN (s.zip r)) 0 [] hl hf hn (by simp)
    rw [List.append_nil] at this
    rw [this]
    dsimp only
    rw [if_pos]
    refine ⟨rfl, ?_⟩
    by_cases h0 : opts s % 8 = 0
    · exact .inl h0
    · right
      rw [show opts s % 8 = opts s by omega]
      exact Nat.div_eq_of_lt hm
  · unfold decR
    have h0' : (if 0 < headN s then (b.headD 0).toNat else 0) = markN (s.zip r) := hmark
    rw [if_neg (by simpa using hs), if_neg (by omega), hdrop, h0']
    have := rdAll_enc s r (markN (s.zip r)) 0 [] hl hf hn (by simp)
    rw [List.append_nil] at this
    rw [this]
    dsimp only
    rw [if_pos]
    refine ⟨?_, hb.symm⟩
    unfold errR
    rw [if_neg (by simpa using hs), if_neg (by simpa using hl), if_pos hf]
/-- what decodes well is such -/
theorem decR_inv {s : List Fld} {b : Str} (h : (decR s b).2 = 0) : errS s = 0 ∧ (decR s b).1.length = s.length ∧ fitsAll s (decR s b).1 = true ∧ (∀ v ∈ (decR s b).1, I64 v.n) ∧ b = encR s (decR s b).1 := by
  unfold decR at h ⊢
  split at h
  · rename_i h1; exact absurd h h1
  · rename_i h1
    rw [if_neg h1]
    split at h
    · cases h
    · rename_i h2
      rw [if_neg h2]
      cases hq : rdAll s (if 0 < headN s then (b.headD 0).toNat else 0) (b.drop (headN s)) with
      | none => rw [hq] at h; cases h
      | some r =>
        rw [hq] at h
        dsimp only at h ⊢
        split at h
        · rename_i h3
          rw [if_pos h3]
          obtain ⟨e1, e2⟩ := h3
          have := rdAll_spec _ _ _ _ hq
          obtain ⟨k1, k2, k3⟩ := errR_0 e1
          exact ⟨by simpa using h1, k2, k3, fun v hv => (this.2 v hv).1, e2.symm⟩
        · cases h
theorem decP_inv {s : List Fld} {b : Str} (h : (decP s b).2 = 0) : errS s = 0 ∧ (decP s b).1.length = s.length ∧ fitsAll s (decP s b).1 = true ∧ (∀ v ∈ (decP s b).1, I64 v.n) ∧ b = encR s (decP s b).1 := by
  unfold decP at h ⊢
  split at h
  · rename_i h1; exact absurd h h1
  · rename_i h1
    rw [if_neg h1]
    have hs : errS s = 0 := by simpa using h1
    split at h
    · cases h
    · rename_i h2
      rw [if_neg h2]
      cases hq : rdPs s (mark0 s b) (b.drop (headN s)) with
      | none => rw [hq] at h; cases h
      | some q =>
        rw [hq] at h
        dsimp only at h ⊢
        split at h
        · rename_i h3
          rw [if_pos h3]
          obtain ⟨a1, a2, a3, a4, z, a5⟩ := rdPs_inv s _ _ _ (types_ok hs) hq
          refine ⟨hs, a1, a2, a3, ?_⟩
          rw [h3.1, List.append_nil] at a4
          have hh := headN_01 hs
          have hm := markN_lt s q.1 a1
          have h8 := (schema_len8 hs).2
          have ho : opts s ≤ s.length := List.countP_le_length
          have hp : 2 ^ opts s ≤ 2 ^ 8 := Nat.pow_le_pow_right (by omega) (by omega)
          have hp8 : (2 : Nat) ^ 8 = 256 := by decide
          unfold encR
          by_cases h0 : 0 < opts s
          · rw [if_pos h0] at hh ⊢
            rw [hh] at a4
            cases hbb : b with
            | nil => rw [hbb, hh] at h2; simp at h2
            | cons c r =>
              rw [hbb] at a4
              simp only [List.drop_succ_cons, List.drop_zero] at a4
              have hmk : mark0 s b = c.toNat := by unfold mark0; rw [hh, hbb]; rfl
              have hcl := c.toNat_lt
              have hz : mark0 s b = markN (s.zip q.1) := by
                rcases h3.2 with h8' | hdiv
                · have ho8 : opts s = 8 := by omega
                  rw [ho8, hp8] at a5
                  rw [ho8, hp8] at hm
                  have : z = 0 := by omega
                  rw [this] at a5; simpa using a5
                · by_cases ho8 : opts s = 8
                  · rw [ho8, hp8] at a5
                    rw [ho8, hp8] at hm
                    have : z = 0 := by omega
                    rw [this] at a5; simpa using a5
                  · rw [show opts s % 8 = opts s by omega] at hdiv
                    have hpos : 0 < 2 ^ opts s := Nat.pow_pos (by omega)
                    have hlt : mark0 s b < 2 ^ opts s := by
                      rcases Nat.lt_or_ge (mark0 s b) (2 ^ opts s) with h' | h'
                      · exact h'
                      · have := Nat.div_pos h' hpos; omega
                    have : z = 0 := by
                      rcases Nat.eq_zero_or_pos z with hz | hz
                      · exact hz
                      · have := Nat.le_mul_of_pos_right (2 ^ opts s) hz; omega
                    rw [this] at a5; simpa using a5
              rw [← hz, hmk, Nat.mod_eq_of_lt hcl, UInt8.ofNat_toNat, ← a4]
              rfl
          · rw [if_neg h0] at hh ⊢
            rw [hh, List.drop_zero] at a4
            simpa using a4
        · cases h
theorem decP_eq (s : List Fld) (b : Str) : decP s b = decR s b := by
  by_cases h1 : (decP s b).2 = 0
  · obtain ⟨a1, a2, a3, a4, a5⟩ := decP_inv h1
    obtain ⟨e1, e2, _⟩ := decode_good a1 a2 a3 a4 a5
    rw [e2, e1]
  · by_cases h2 : (decR s b).2 = 0
    · obtain ⟨a1, a2, a3, a4, a5⟩ := decR_inv h2
      obtain ⟨e1, e2, _⟩ := decode_good a1 a2 a3 a4 a5
      rw [e2, e1]
    · unfold decP at h1 ⊢
      unfold decR at h2 ⊢
      by_cases hs : errS s ≠ 0
      · rw [if_pos hs, if_pos hs]
      · rw [if_neg hs] at h1 h2 ⊢
        rw [if_neg hs]
        have e1 : (if b.length < headN s then (([] : List Val), (62 : Int)) else match rdPs s (mark0 s b) (b.drop (headN s)) with
            | none => ([], 62)
            | some q => if q.2 = [] ∧ (opts s % 8 = 0 ∨ mark0 s b / 2 ^ (opts s % 8) = 0) then (q.1, 0) else ([], 62)) = ([], 62) := by
          split
          · rfl
          · rename_i hh
            rw [if_neg hh] at h1
            cases hq : rdPs s (mark0 s b) (b.drop (headN s)) with
            | none => rfl
            | some q =>
              rw [hq] at h1
              dsimp only at h1 ⊢
              split
              · rename_i h3; rw [if_pos h3] at h1; exact absurd rfl h1
              · rfl
        refine Eq.trans e1 (Eq.symm ?_)
        split
        · rfl
        · rename_i hh
          rw [if_neg hh] at h2
          cases hq : rdAll s (if 0 < headN s then (b.headD 0).toNat else 0) (b.drop (headN s)) with
          | none => rfl
          | some r =>
            rw [hq] at h2
            dsimp only at h2 ⊢
            split
            · rename_i h3; rw [if_pos h3] at h2; exact absurd rfl h2
            · rfl
end Go.Proofs.YtebkaacflocfcaaDoor.Ab

/- Plain: a schema's text that was read is the text that would be written. -/
namespace Go.Proofs.YtebkaacflocfcaaDoor.Ab
open Go
set_option linter.unusedSimpArgs false
set_option linter.unusedVariables false

theorem upN_split {c : UInt8} : ∀ {l : Str}, upN c l < l.length → l = l.take (upN c l) ++ c :: l.drop (upN c l + 1) := by
  intro l
  induction l with
  | nil => intro h; simp [upN] at h
  | cons x l ih =>
    intro h
    by_cases hx : x = c
    · simp [upN, hx]
    · simp only [upN, if_neg hx, List.length_cons] at h ⊢
      have := ih (by omega)
      simp only [List.take_succ_cons, List.drop_succ_cons, List.cons_append]
      rw [← this]
theorem typeN_word {t : Str} {n : Int} (h : typeN t = some n) : wordS n = t := by
  unfold typeN at h
  split at h
  · cases h; rename_i h; rw [h]; rfl
  · split at h
    · cases h; rename_i h; rw [h]; rfl
    · split at h
      · cases h; rename_i h; rw [h]; rfl
      · cases h
theorem dropLast_last {t : Str} {c : UInt8} (h : t.getLast? = some c) : t.dropLast ++ [c] = t := by
  have hne : t ≠ [] := by intro hh; rw [hh] at h; cases h
  rw [List.getLast?_eq_some_getLast hne] at h
  obtain rfl := Option.some.inj h
  exact List.dropLast_concat_getLast hne
theorem pieceR_fldS {p : Str} {f : Fld} (h : pieceR p = some f) : fldS f = p := by
  unfold pieceR at h
  split at h
  · cases h
  · rename_i h1
    have hlt : upN 58 p < p.length := by have := upN_le 58 p; omega
    have hs := upN_split hlt
    split at h
    · split at h
      · rename_i hl
        simp only [Option.map_eq_some_iff] at h
        obtain ⟨n, hn, rfl⟩ := h
        unfold fldS
        simp only [if_true]
        rw [typeN_word hn, List.append_assoc, dropLast_last hl]
        conv => rhs; rw [hs]
        simp
      · simp only [Option.map_eq_some_iff] at h
        obtain ⟨n, hn, rfl⟩ := h
        unfold fldS
        simp only [Bool.false_eq_true, if_false]
        rw [typeN_word hn]
        conv => rhs; rw [hs]
        simp
    · cases h
theorem parseF_join : ∀ (m : Nat) (l : Str) (s : List Fld), l.length ≤ m → parseF l = some s → s ≠ [] ∧ joinS s = l := by
  intro m
  induction m with
  | zero =>
    intro l s hm h
    have : l = [] := by cases l with | nil => rfl | cons => simp at hm
    subst this
    rw [parseF_eq] at h
    simp [upN, pieceR] at h
  | succ m ih =>
    intro l s hm h
    rw [parseF_eq] at h
    cases hp : pieceR (l.take (upN 44 l)) with
    | none => rw [hp] at h; cases h
    | some f =>
      rw [hp] at h
      have hf := pieceR_fldS hp
      dsimp only at h
      split at h
      · rename_i hlt
        simp only [Option.map_eq_some_iff] at h
        obtain ⟨s', hs', rfl⟩ := h
        obtain ⟨k1, k2⟩ := ih _ _ (by simp; omega) hs'
        refine ⟨by simp, ?_⟩
        cases s' with
        | nil => exact absurd rfl k1
        | cons g r =>
          have hs := upN_split hlt
          conv => rhs; rw [hs]
          rw [← k2, ← hf]
          simp [joinS]
      · rename_i hge
        cases h
        refine ⟨by simp, ?_⟩
        have := upN_le 44 l
        rw [List.take_of_length_le (by omega)] at hf
        simp [joinS, hf]
theorem parse_print {t : Str} {s : List Fld} (h : parseR t = (s, 0)) : errS s = 0 ∧ printD s = t := by
  unfold parseR at h
  cases hp : parseF t with
  | none => rw [hp] at h; simp at h
  | some s' =>
    rw [hp] at h
    dsimp only at h
    split at h
    · rename_i he
      cases h
      exact ⟨he, by unfold printD; rw [if_pos he]; exact (parseF_join _ _ _ (Nat.le_refl _) hp).2⟩
    · rename_i he
      injection h with h1 h2
      exact absurd h2 he
end Go.Proofs.YtebkaacflocfcaaDoor.Ab
