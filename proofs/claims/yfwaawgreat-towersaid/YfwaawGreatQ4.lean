/-
  soft's roundPack follows the rule.
-/
import Derived.Test.YfwaawGreatQ3
namespace Go.Proofs.YfwaawGreat
open Go.Aw
set_option linter.unusedVariables false
set_option linter.unusedSimpArgs false
section
variable {e m mode : BitVec 8} {neg : Bool}

theorem two_shift (S j : Nat) : 2 * S / 2 ^ (j + 1) = S / 2 ^ j ∧ (2 * S % 2 ^ (j + 1) ≠ 0 ↔ S % 2 ^ j ≠ 0) := by
  rw [Nat.pow_succ', Nat.mul_div_mul_left _ _ (by decide), Nat.mul_mod_mul_left]
  refine ⟨rfl, ?_⟩
  omega
/-- The cut at j + 1, read in half units. -/
theorem cut_half {N : Nat} (mode : BitVec 8) (neg : Bool) (s : BitVec 64) (j : Nat) (hj : j < 31000) : ∃ n rest, F257 N s ((j + 1 : Nat) : Int) = some (n, rest) ∧
    F258 mode neg n rest = rz mode neg (s.toNat / 2 ^ j) (decide (s.toNat % 2 ^ j ≠ 0)) ∧ n.toNat = s.toNat / 2 ^ j / 2 ∧
    (rest == 0#64) = !(decide (s.toNat / 2 ^ j % 2 = 1) || decide (s.toNat % 2 ^ j ≠ 0)) := by
  obtain ⟨n, rest, h1, h2, h3⟩ := F257_ok (N := N) s (j + 1) (by omega)
  have ht := two_shift s.toNat j
  have hf := F258_ok (mode := mode) (neg := neg) (pow_pos2 _) h2 h3
  rw [ht.1, decide_eq_decide.2 ht.2] at hf
  refine ⟨n, rest, h1, hf, by rw [h2, Nat.pow_succ, Nat.div_div_eq_div_mul], ?_⟩
  have hz := h3.z
  have hm : s.toNat % 2 ^ (j + 1) = s.toNat % 2 ^ j + 2 ^ j * (s.toNat / 2 ^ j % 2) := by rw [Nat.pow_succ, Nat.mod_mul]
  rw [hm] at hz
  rw [eq_bv, show (0#64).toNat = 0 from rfl]
  have hp := pow_pos2 j
  clear hm hf h2 h3 ht
  generalize s.toNat % 2 ^ j = r at *
  generalize s.toNat / 2 ^ j = q at *
  rcases Nat.mod_two_eq_zero_or_one q with h | h <;> rw [h] at hz ⊢
  · by_cases hr : r = 0
    · have : rest.toNat = 0 := hz.2 (by rw [hr, Nat.mul_zero])
      simp [hr, this]
    · have : rest.toNat ≠ 0 := fun c => hr (by have := hz.1 c; omega)
      simp [hr, this]
  · have : rest.toNat ≠ 0 := fun c => by have := hz.1 c; omega
    simp [this]
theorem raise_rn {n : BitVec 64} {n2 : Nat} {s : Bool} (hn : n.toNat = n2 / 2) (hl : n2 < 2 ^ 64) :
    (bif rz mode neg n2 s then n + 1#64 else n).toNat = rn mode neg n2 s := by
  unfold rn
  rw [p64] at hl
  cases rz mode neg n2 s
  · simp only [cond_false]; rw [hn]; omega
  · simp only [cond_true]; rw [BitVec.toNat_add, hn, show (1#64).toNat = 1 from rfl, p64, Nat.mod_eq_of_lt (by omega)]

theorem F286_eq : F286 = F252 := rfl
theorem F259_eq : F259 = F251 := rfl

/-- The pattern of an exponent and a significand. -/
theorem patt (h : Fm e m) {ex : Int} {nn : BitVec 64} {n : Nat} (he : 1 - (bia e.toNat : Int) ≤ ex ∧ ex ≤ bia e.toNat) (hnn : nn.toNat = n) (hn : n ≤ 2 ^ (m.toNat + 1)) :
    (BitVec.ofInt 64 (ex - (1 - (bia e.toNat : Int))) <<< m.toNat + nn).toNat = (ex - (1 - (bia e.toNat : Int))).toNat * 2 ^ m.toNat + n ∧
    (ex - (1 - (bia e.toNat : Int))).toNat * 2 ^ m.toNat + n ≤ 2 ^ (e.toNat + m.toNat) := by
  have h2 := h.e11
  have h4 := h.m52
  have hb := bia_le h.e11
  obtain ⟨k, hk⟩ : ∃ k : Nat, ex - (1 - (bia e.toNat : Int)) = k := ⟨(ex - (1 - (bia e.toNat : Int))).toNat, by omega⟩
  rw [hk, ofInt_nat, Int.toNat_natCast]
  have hEp := pow_E h.e2
  have hkl : k ≤ 2 ^ e.toNat - 2 := by omega
  have hs1 := Nat.pow_succ 2 m.toNat
  have hkm : k * 2 ^ m.toNat + 2 ^ m.toNat ≤ infP e.toNat m.toNat := by
    unfold infP
    have : (k + 1) * 2 ^ m.toNat ≤ (2 ^ e.toNat - 1) * 2 ^ m.toNat := Nat.mul_le_mul_right _ (by omega)
    rw [Nat.add_mul, Nat.one_mul] at this; exact this
  have hil := infP_lt e.toNat m.toNat
  have hl : 2 ^ (e.toNat + m.toNat) * 2 ≤ 2 ^ 64 := by rw [← Nat.pow_succ]; exact pow_le (by omega)
  rw [p64] at hl
  refine ⟨?_, by omega⟩
  rw [BitVec.toNat_add, BitVec.toNat_shiftLeft, Nat.shiftLeft_eq, BitVec.toNat_ofNat, hnn]
  have e1 : k % 2 ^ 64 = k := Nat.mod_eq_of_lt (by
    have : 2 ^ e.toNat ≤ 2 ^ 11 := pow_le h2
    rw [p64]; omega)
  rw [e1, p64, Nat.mod_eq_of_lt (a := k * 2 ^ m.toNat) (by omega), Nat.mod_eq_of_lt (by omega)]

/-- The end of roundPack. -/
theorem F215_13_ok {N : Nat} (h : Fm e m) {tiny : Bool} {rest x : BitVec 64} {X : Nat} {inex : Bool} (hx : x.toNat = X) (hr : (rest == 0#64) = !inex) :
    F215_13 N e m mode neg tiny rest x = some (pk e m mode neg X inex tiny) := by
  unfold F215_13
  simp only [lt]
  rw [F67_ok h, show sgn e.toNat m.toNat false = 0 from rfl, Nat.add_zero, hx]
  unfold F215_14 F215_15 pk
  simp only [lt]
  rw [F286_eq, F259_eq, hr]
  have hil := infP_lt' e.toNat m.toNat
  by_cases ho : infP e.toNat m.toNat ≤ X
  · rw [bt (by simpa using ho), if_pos ho]
  · rw [bf (by simpa using ho), if_neg ho]
    rw [or_sgn h (by omega) (F251_ok h), hx]
    cases inex <;> cases tiny <;> rfl

theorem F215_ok {N : Nat} (h : Fm e m) {x : Int} {s : BitVec 64} (hs : s.toNat ≠ 0) (hx : -30000 < x ∧ x < 30000) :
    F215 N e m mode neg x s = some (RQ e m mode neg (s.toNat * 2 ^ x.toNat) (2 ^ (-x).toNat)) := by
  have h2 := h.e11
  have h3 := h.m2
  have h4 := h.m52
  have hb := bia_le h.e11
  have hbp := bia_ge h.e2
  have hbl := blen64 s
  have hbs := blen_pos hs
  have hlead : (BitVec.ofNat 8 (64 - blen s.toNat)).toNat = 64 - blen s.toNat := by
    rw [BitVec.toNat_ofNat]; exact Nat.mod_eq_of_lt (by omega)
  have hS : (s <<< (64 - blen s.toNat)).toNat = s.toNat * 2 ^ (64 - blen s.toNat) := shl_nat _ _ (by
    have h5 := Nat.mul_lt_mul_of_pos_right (blen_lt s.toNat) (pow_pos2 (64 - blen s.toNat))
    rw [← Nat.pow_add, show blen s.toNat + (64 - blen s.toNat) = 64 from by omega] at h5
    exact h5)
  have hbS : blen (s.toNat * 2 ^ (64 - blen s.toNat)) = 64 := by
    have a := blen_shl s.toNat (64 - blen s.toNat)
    have b : ¬ blen (s.toNat * 2 ^ (64 - blen s.toNat)) ≤ 63 := fun c => by
      have h5 := Nat.mul_le_mul_right (2 ^ (64 - blen s.toNat)) (blen_le hs)
      rw [← Nat.pow_add, show blen s.toNat - 1 + (64 - blen s.toNat) = 63 from by omega] at h5
      have h6 := blen_le_iff.1 c
      omega
    omega
  have hSne : s.toNat * 2 ^ (64 - blen s.toNat) ≠ 0 := Nat.mul_ne_zero hs (by have := pow_pos2 (64 - blen s.toNat); omega)
  obtain ⟨u, hu⟩ : ∃ u : Int, u = x - (64 - blen s.toNat : Nat) := ⟨_, rfl⟩
  -- the same fraction with its leading bit at 63
  have hcr : RQ e m mode neg (s.toNat * 2 ^ x.toNat) (2 ^ (-x).toNat) = RQ e m mode neg ((s <<< (64 - blen s.toNat)).toNat * 2 ^ u.toNat) (2 ^ (-u).toNat) := by
    have p1 := pow_pos2 x.toNat
    have p2 := pow_pos2 (-x).toNat
    have p3 := pow_pos2 (-u).toNat
    refine RQ_cross (Nat.mul_ne_zero hs (by omega)) (by omega) (by omega) ?_
    rw [hS]
    have : 2 ^ x.toNat * 2 ^ (-u).toNat = 2 ^ (64 - blen s.toNat) * (2 ^ u.toNat * 2 ^ (-x).toNat) := by
      simp only [← Nat.pow_add]; congr 1; omega
    grind
  rw [hcr]
  unfold RQ
  have hSS : (s <<< (64 - blen s.toNat)).toNat ≠ 0 := by rw [hS]; exact hSne
  rw [lg_pow hSS, hS, hbS, ← hS, RS_pk]
  generalize hSv : s <<< (64 - blen s.toNat) = S at *
  have hSl := S.isLt
  obtain ⟨real, hreal⟩ : ∃ real : Int, real = ((64 : Nat) : Int) - 1 + u := ⟨_, rfl⟩
  rw [← hreal]
  -- the walk
  unfold F215 F215_1
  rw [eq_bv, bf (by simpa using hs), F164_ok]
  simp only [Option.bind_some, F215_2, F215_3, F215_4, F215_5, F215_6, lt]
  rw [hlead, hSv, F71_ok h]
  have w1 : w16 (1 - (bia e.toNat : Int)) = 1 - bia e.toNat := w16_id (by omega)
  have w2 : w16 ((64 - blen s.toNat : Nat) : Int) = ((64 - blen s.toNat : Nat) : Int) := w16_id (by omega)
  have w3 : w16 (x - ((64 - blen s.toNat : Nat) : Int)) = u := by rw [hu]; exact w16_id (by omega)
  have w4 : w16 (u + 63) = real := by rw [hreal, w16_id (by omega)]; omega
  rw [w1, w2, w3, w4]
  unfold F215_7
  simp only [lt]
  rw [F286_eq]
  by_cases ho : (bia e.toNat : Int) < max real (1 - bia e.toNat)
  · rw [bt (by simpa using ho), if_pos ho]
  rw [bf (by simpa using ho), if_neg ho]
  obtain ⟨ex, hex⟩ : ∃ ex : Int, ex = max real (1 - (bia e.toNat : Int)) := ⟨_, rfl⟩
  rw [← hex] at ho ⊢
  have w5 : w16 (m.toNat : Int) = m.toNat := w16_id (by omega)
  have w6 : w16 (63 - (m.toNat : Int)) = 63 - m.toNat := w16_id (by omega)
  have w7 : w16 (1 - (bia e.toNat : Int) - 1) = 1 - bia e.toNat - 1 := w16_id (by omega)
  rw [w5, w6]
  -- the last part, tiny given
  have hfin : ∀ tiny : Bool, F215_10 N e m mode neg S (1 - (bia e.toNat : Int)) real ex (63 - m.toNat) tiny =
      some (pk e m mode neg ((ex - (1 - bia e.toNat)).toNat * 2 ^ m.toNat + rn mode neg (fq (S.toNat * 2 ^ u.toNat) (2 ^ (-u).toNat) (ex - m.toNat - 1)) (eq (S.toNat * 2 ^ u.toNat) (2 ^ (-u).toNat) (ex - m.toNat - 1)))
      (decide (fq (S.toNat * 2 ^ u.toNat) (2 ^ (-u).toNat) (ex - m.toNat - 1) % 2 = 1) || eq (S.toNat * 2 ^ u.toNat) (2 ^ (-u).toNat) (ex - m.toNat - 1)) tiny) := by
    intro tiny
    obtain ⟨j, hj⟩ : ∃ j : Nat, ex - m.toNat - 1 = u + j := ⟨(ex - m.toNat - 1 - u).toNat, by omega⟩
    rw [hj, (fq_pow S.toNat u j).1, (fq_pow S.toNat u j).2]
    obtain ⟨n, rest, c1, c2, c3, c4⟩ := cut_half (N := N) mode neg S j (by omega)
    unfold F215_10
    have w8 : w16 (63 - (m.toNat : Int) + ex) = 63 - m.toNat + ex := w16_id (by omega)
    have w9 : w16 (63 - (m.toNat : Int) + ex - real) = ((j + 1 : Nat) : Int) := by rw [w16_id (by omega)]; omega
    have w10 : w16 (ex - (1 - (bia e.toNat : Int))) = ex - (1 - bia e.toNat) := w16_id (by omega)
    rw [w8, w9, c1]
    simp only [Option.bind_some, F215_11, F215_16, F215_12, lt]
    rw [c2, w10]
    have hn2 : S.toNat / 2 ^ j < 2 ^ (m.toNat + 2) := by
      rw [Nat.div_lt_iff_lt_mul (pow_pos2 _), ← Nat.pow_add]
      exact Nat.lt_of_lt_of_le hSl (pow_le (by omega))
    have hr := raise_rn (mode := mode) (neg := neg) (s := decide (S.toNat % 2 ^ j ≠ 0)) c3 (Nat.lt_of_lt_of_le hn2 (pow_le (by omega)))
    have hp := patt h (ex := ex) (by omega) hr (rn_bound hn2)
    cases hz : rz mode neg (S.toNat / 2 ^ j) (decide (S.toNat % 2 ^ j ≠ 0)) <;> rw [hz] at hp <;> simp only [cond_true, cond_false] at hp ⊢
    · exact F215_13_ok h hp.1 c4
    · exact F215_13_ok h hp.1 c4
  unfold F215_8 F215_9 F215_17
  rw [w7]
  by_cases hr1 : real = 1 - (bia e.toNat : Int) - 1
  · rw [bt (by simpa using hr1)]
    obtain ⟨j, hj⟩ : ∃ j : Nat, real - m.toNat - 1 = u + j := ⟨(real - m.toNat - 1 - u).toNat, by omega⟩
    obtain ⟨n, rest, c1, c2, c3, c4⟩ := cut_half (N := N) mode neg S j (by omega)
    rw [show (63 - (m.toNat : Int)) = ((j + 1 : Nat) : Int) from by omega, c1]
    simp only [Option.bind_some, F215_18, lt]
    rw [show ((j + 1 : Nat) : Int) = 63 - (m.toNat : Int) from by omega, hfin, hj, (fq_pow S.toNat u j).1, (fq_pow S.toNat u j).2, c2]
    congr 2
    have em : (m + 1#8).toNat = m.toNat + 1 := by rw [BitVec.toNat_add, show (1#8).toNat = 1 from rfl]; omega
    rw [ne_bv, em, mask64 (by omega), c3]
    have hn2 : S.toNat / 2 ^ j < 2 ^ (m.toNat + 2) := by
      rw [Nat.div_lt_iff_lt_mul (pow_pos2 _), ← Nat.pow_add]
      exact Nat.lt_of_lt_of_le hSl (pow_le (by omega))
    have hp2 : 2 ^ (m.toNat + 2) = 2 ^ (m.toNat + 1) * 2 := Nat.pow_succ _ _
    unfold rn
    cases rz mode neg (S.toNat / 2 ^ j) (decide (S.toNat % 2 ^ j ≠ 0))
    · simp only [cond_false, Bool.not_false, Bool.true_or]
      exact (decide_eq_true ⟨by omega, fun _ => by omega⟩).symm
    · simp only [cond_true, Bool.not_true, Bool.false_or]
      refine decide_eq_decide.2 ?_
      omega
  · rw [bf (by simpa using hr1), hfin]
    congr 2
    refine decide_eq_decide.2 ?_
    omega
end
end Go.Proofs.YfwaawGreat
