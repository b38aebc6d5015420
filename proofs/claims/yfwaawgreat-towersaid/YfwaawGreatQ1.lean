/-
  Package ieee, plain: the formats' constants, a pattern taken apart.
-/
import Derived.Test.YfwaawGreatQ0
namespace Go.Proofs.YfwaawGreat
open Go.Aw
set_option linter.unusedVariables false
set_option linter.unusedSimpArgs false

/-- A format that is served. -/
structure Fm (e m : BitVec 8) : Prop where
  e2 : 2 ≤ e.toNat
  e11 : e.toNat ≤ 11
  m2 : 2 ≤ m.toNat
  m52 : m.toNat ≤ 52

theorem fm_iff {e m : BitVec 8} : F40 e m = true ↔ Fm e m := by
  unfold F40
  simp only [Bool.and_eq_true, decide_eq_true_eq]
  constructor
  · rintro ⟨⟨⟨h1, h2⟩, h3⟩, h4⟩
    exact ⟨h1, h2, h3, h4⟩
  · rintro ⟨h1, h2, h3, h4⟩
    exact ⟨⟨⟨h1, h2⟩, h3⟩, h4⟩
theorem Fm.ok {e m : BitVec 8} (h : Fm e m) : F40 e m = true := fm_iff.2 h
theorem not_fm {e m : BitVec 8} (h : ¬ Fm e m) : F40 e m = false := by
  cases hb : F40 e m with
  | false => rfl
  | true => exact (h (fm_iff.1 hb)).elim

/-- The bias. -/
def bia (E : Nat) : Nat := 2 ^ (E - 1) - 1
theorem bia_le {E : Nat} (h : E ≤ 11) : bia E ≤ 1023 := by
  have : 2 ^ (E - 1) ≤ 2 ^ 10 := pow_le (by omega)
  unfold bia; omega
theorem bia_ge {E : Nat} (h : 2 ≤ E) : 1 ≤ bia E := by
  have : 2 ^ 1 ≤ 2 ^ (E - 1) := pow_le (by omega)
  unfold bia; omega
theorem pow_E {E : Nat} (h : 2 ≤ E) : 2 ^ E = 2 * bia E + 2 := by
  have : 2 ^ E = 2 * 2 ^ (E - 1) := by rw [← Nat.pow_succ', Nat.succ_eq_add_one, show E - 1 + 1 = E from by omega]
  have := pow_pos2 (E - 1)
  unfold bia; omega

/-- The pattern of +Inf. -/
def infP (E M : Nat) : Nat := (2 ^ E - 1) * 2 ^ M
/-- The sign bit, if neg. -/
def sgn (E M : Nat) (neg : Bool) : Nat := bif neg then 2 ^ (E + M) else 0
theorem infP_lt (E M : Nat) : infP E M + 2 ^ M = 2 ^ (E + M) := by
  have := pow_pos2 E
  unfold infP
  rw [Nat.sub_mul, Nat.one_mul, ← Nat.pow_add]
  have : 2 ^ M ≤ 2 ^ (E + M) := pow_le (by omega)
  omega

theorem infP_lt' (E M : Nat) : infP E M < 2 ^ (E + M) := by
  have := infP_lt E M
  have := pow_pos2 M
  omega
section
variable {e m : BitVec 8}
theorem F71_ok (h : Fm e m) : F71 e m = (bia e.toNat : Int) := by
  unfold F71
  simp only [lt]
  rw [h.ok]
  unfold F71_1
  have h1 := h.e2
  have h2 := h.e11
  have e1 : (e - 1#8).toNat = e.toNat - 1 := by
    rw [BitVec.toNat_sub, show (1#8).toNat = 1 from rfl]
    have := bv8 e
    omega
  rw [Bool.not_true, bf rfl, e1, show min (e.toNat - 1) 16 = e.toNat - 1 from by omega]
  have hb := bia_le h2
  have hp := pow_pos2 (e.toNat - 1)
  have e2 : (1 : Int) * 2 ^ (e.toNat - 1) = (bia e.toNat : Int) + 1 := by
    rw [Int.one_mul]
    have : ((2 ^ (e.toNat - 1) : Nat) : Int) = (2 : Int) ^ (e.toNat - 1) := by simp
    rw [← this]; unfold bia; omega
  have e3 : w16 (1 * 2 ^ (e.toNat - 1)) = (bia e.toNat : Int) + 1 := by rw [e2]; exact w16_id (by omega)
  rw [e3, w16_id (by omega)]; omega
theorem F70_ok (h : Fm e m) : (F70 e m).toNat = 2 ^ (e.toNat + m.toNat) := by
  unfold F70
  simp only [lt]
  rw [h.ok]
  unfold F70_1
  have h2 := h.e11
  have h4 := h.m52
  have e1 : (e + m).toNat = e.toNat + m.toNat := by
    rw [BitVec.toNat_add]; exact Nat.mod_eq_of_lt (by omega)
  rw [Bool.not_true, bf rfl, e1, one_shl (by omega)]
theorem F70_eq (h : Fm e m) : F70 e m = 1#64 <<< (e.toNat + m.toNat) := by
  refine BitVec.eq_of_toNat_eq ?_
  have h2 := h.e11
  have h4 := h.m52
  rw [F70_ok h, one_shl (by omega)]
theorem F69_ok (h : Fm e m) : (F69 e m).toNat = 2 ^ (e.toNat + m.toNat + 1) - 1 := by
  unfold F69
  simp only [lt]
  rw [h.ok]
  unfold F69_1
  simp only [lt]
  have h2 := h.e11
  have h4 := h.m52
  have hp := pow_pos2 (e.toNat + m.toNat)
  rw [Bool.not_true, bf rfl, F70_eq h]
  have hl : 2 ^ (e.toNat + m.toNat + 1) ≤ 2 ^ 64 := pow_le (by omega)
  rw [p64] at hl
  have hs := Nat.pow_succ 2 (e.toNat + m.toNat)
  have e1 : ((1#64 <<< (e.toNat + m.toNat)) <<< 1).toNat = (2 ^ (e.toNat + m.toNat + 1)) % 18446744073709551616 := by
    rw [BitVec.toNat_shiftLeft, Nat.shiftLeft_eq, one_shl (by omega), ← Nat.pow_add]
  rw [sub64, e1, show (1#64).toNat = 1 from rfl]
  omega
theorem F128_ok (h : Fm e m) (neg : Bool) (x : BitVec 64) (hx : x.toNat < 2 ^ (e.toNat + m.toNat)) : (F128 e m neg x).toNat = x.toNat + sgn e.toNat m.toNat neg := by
  unfold F128 sgn
  simp only [lt]
  cases neg with
  | false => rfl
  | true =>
    simp only [cond_true]
    rw [or_add x _ (e.toNat + m.toNat) hx (by rw [F70_ok h]; exact Nat.dvd_refl _), F70_ok h]
theorem inf_toNat (h : Fm e m) : ((1#64 <<< e.toNat - 1#64) <<< m.toNat).toNat = infP e.toNat m.toNat := by
  have h2 := h.e11
  have h4 := h.m52
  have hi := infP_lt e.toNat m.toNat
  have hl : 2 ^ (e.toNat + m.toNat) < 2 ^ 64 := pow_lt (by omega)
  have hlt := infP_lt' e.toNat m.toNat
  rw [shl_nat _ _ (by
    rw [mask64 (by omega)]
    exact Nat.lt_trans hlt hl), mask64 (by omega)]
  rfl
theorem F67_ok (h : Fm e m) (neg : Bool) : (F67 e m neg).toNat = infP e.toNat m.toNat + sgn e.toNat m.toNat neg := by
  unfold F67
  simp only [lt]
  rw [h.ok]
  unfold F67_1
  simp only [lt]
  rw [Bool.not_true, bf rfl, F128_ok h neg _ (by rw [inf_toNat h]; exact infP_lt' _ _), inf_toNat h]
theorem infP_pos (h : Fm e m) : 2 ^ m.toNat ≤ infP e.toNat m.toNat := by
  have h1 : 2 ^ 1 ≤ 2 ^ e.toNat := pow_le (by have := h.e2; omega)
  have : 1 * 2 ^ m.toNat ≤ (2 ^ e.toNat - 1) * 2 ^ m.toNat := Nat.mul_le_mul_right _ (by omega)
  unfold infP; omega
theorem F68_ok (h : Fm e m) (neg : Bool) : (F68 e m neg).toNat = infP e.toNat m.toNat - 1 + sgn e.toNat m.toNat neg := by
  unfold F68
  simp only [lt]
  rw [h.ok]
  unfold F68_1
  simp only [lt]
  have hp := infP_pos h
  have hp2 := pow_pos2 m.toNat
  have hl := infP_lt' e.toNat m.toNat
  have e1 : ((1#64 <<< e.toNat - 1#64) <<< m.toNat - 1#64).toNat = infP e.toNat m.toNat - 1 := by
    have h2 := h.e11
    have h4 := h.m52
    have hl2 : 2 ^ (e.toNat + m.toNat) < 2 ^ 64 := pow_lt (by omega)
    rw [p64] at hl2
    rw [sub64, inf_toNat h, show (1#64).toNat = 1 from rfl]; omega
  rw [Bool.not_true, bf rfl, F128_ok h neg _ (by rw [e1]; omega), e1]
/-- THE NaN. -/
def nanP (E M : Nat) : Nat := infP E M + 2 ^ (M - 1)
theorem F66_ok (h : Fm e m) : (F66 e m).toNat = nanP e.toNat m.toNat := by
  unfold F66
  simp only [lt]
  rw [h.ok]
  unfold F66_1
  simp only [lt]
  have h3 := h.m2
  have h4 := h.m52
  have e1 : (m - 1#8).toNat = m.toNat - 1 := by
    rw [BitVec.toNat_sub, show (1#8).toNat = 1 from rfl]
    have := bv8 m
    omega
  have e2 := F67_ok h false
  rw [show sgn e.toNat m.toNat false = 0 from rfl, Nat.add_zero] at e2
  have e3 : (1#64 <<< (m.toNat - 1)).toNat = 2 ^ (m.toNat - 1) := one_shl (by omega)
  rw [Bool.not_true, bf rfl, e1, BitVec.or_comm, or_add _ _ m.toNat (by rw [e3]; exact pow_lt (by omega)) (by rw [e2]; exact ⟨_, Nat.mul_comm _ _⟩), e2, e3]
  unfold nanP; omega

/-! ### Taking apart -/
/-- The parts of a pattern: sign, class, exponent, significand. -/
def upk (E M X : Nat) : Bool × Int × Int × Nat :=
  if X / 2 ^ M % 2 ^ E = 2 ^ E - 1 then
    if X % 2 ^ M = 0 then (decide (X / 2 ^ (E + M) % 2 = 1), 3, 0, 0) else (false, 4, 0, 0)
  else if X / 2 ^ M % 2 ^ E = 0 then
    if X % 2 ^ M = 0 then (decide (X / 2 ^ (E + M) % 2 = 1), 0, 0, 0)
    else (decide (X / 2 ^ (E + M) % 2 = 1), 1, 1 - (bia E : Int) - M - ((M : Int) + 1 - blen (X % 2 ^ M)), X % 2 ^ M * 2 ^ (M + 1 - blen (X % 2 ^ M)))
  else (decide (X / 2 ^ (E + M) % 2 = 1), 2, ((X / 2 ^ M % 2 ^ E : Nat) : Int) - bia E - M, X % 2 ^ M + 2 ^ M)

theorem upk_man (h : Fm e m) (X : Nat) : (upk e.toNat m.toNat X).2.2.2 < 2 ^ (m.toNat + 1) := by
  have hp := pow_pos2 m.toNat
  have hs := Nat.pow_succ 2 m.toNat
  have hl := Nat.mod_lt X hp
  unfold upk
  split
  · split <;> exact pow_pos2 _
  · split
    · split
      · exact pow_pos2 _
      · show X % 2 ^ m.toNat * 2 ^ (m.toNat + 1 - blen (X % 2 ^ m.toNat)) < _
        have hb : blen (X % 2 ^ m.toNat) ≤ m.toNat := blen_le_iff.2 hl
        have := blen_lt (X % 2 ^ m.toNat)
        have h2 := Nat.mul_lt_mul_of_pos_right this (pow_pos2 (m.toNat + 1 - blen (X % 2 ^ m.toNat)))
        rw [← Nat.pow_add, show blen (X % 2 ^ m.toNat) + (m.toNat + 1 - blen (X % 2 ^ m.toNat)) = m.toNat + 1 from by omega] at h2
        exact h2
    · show X % 2 ^ m.toNat + 2 ^ m.toNat < _
      omega

theorem F65_ok (h : Fm e m) (x : BitVec 64) : F65 e m x = ((upk e.toNat m.toNat x.toNat).1, (upk e.toNat m.toNat x.toNat).2.1, (upk e.toNat m.toNat x.toNat).2.2.1, BitVec.ofNat 64 (upk e.toNat m.toNat x.toNat).2.2.2) := by
  have h1 := h.e2
  have h2 := h.e11
  have h3 := h.m2
  have h4 := h.m52
  have hneg : ((x &&& F70 e m) != 0#64) = decide (x.toNat / 2 ^ (e.toNat + m.toNat) % 2 = 1) := by
    rw [ne_bv, F70_eq h, bit_and _ _ (by omega)]
    have hp := pow_pos2 (e.toNat + m.toNat)
    rcases Nat.mod_two_eq_zero_or_one (x.toNat / 2 ^ (e.toNat + m.toNat)) with hh | hh <;> rw [hh]
    · simp
    · simp
  have hexp : ((x >>> m.toNat) &&& (1#64 <<< e.toNat - 1#64)).toNat = x.toNat / 2 ^ m.toNat % 2 ^ e.toNat := by
    rw [and_mask64 _ (by omega), shr_nat]
  have hman : (x &&& (1#64 <<< m.toNat - 1#64)).toNat = x.toNat % 2 ^ m.toNat := and_mask64 _ (by omega)
  have htop : (1#64 <<< e.toNat - 1#64).toNat = 2 ^ e.toNat - 1 := mask64 (by omega)
  unfold F65
  simp only [lt]
  rw [h.ok]
  unfold F65_1
  simp only [lt]
  rw [Bool.not_true, bf rfl]
  unfold F65_2 F65_3 F65_4 F65_5 F65_6 F65_7 F65_8 F65_9
  rw [hneg]
  generalize hn : decide (x.toNat / 2 ^ (e.toNat + m.toNat) % 2 = 1) = neg
  generalize hex : (x >>> m.toNat) &&& (1#64 <<< e.toNat - 1#64) = ex at *
  generalize hma : x &&& (1#64 <<< m.toNat - 1#64) = ma at *
  generalize hto : 1#64 <<< e.toNat - 1#64 = to at *
  simp only [eq_bv, ne_bv, hexp, hman, htop, show (0#64).toNat = 0 from rfl]
  have hl : x.toNat % 2 ^ m.toNat < 2 ^ m.toNat := Nat.mod_lt _ (pow_pos2 _)
  have hl52 : 2 ^ m.toNat ≤ 2 ^ 52 := pow_le h4
  unfold upk
  rw [hn]
  by_cases c1 : x.toNat / 2 ^ m.toNat % 2 ^ e.toNat = 2 ^ e.toNat - 1
  · rw [if_pos c1]
    by_cases c2 : x.toNat % 2 ^ m.toNat = 0
    · rw [if_pos c2, bf (by simp [c2])]
      rw [bt (by simpa using c1)]
    · rw [if_neg c2, bt (by simp [c1, c2])]
  · rw [if_neg c1, bf (by simp [c1])]
    rw [bf (by simpa using c1)]
    by_cases c3 : x.toNat / 2 ^ m.toNat % 2 ^ e.toNat = 0
    · rw [if_pos c3]
      by_cases c2 : x.toNat % 2 ^ m.toNat = 0
      · rw [if_pos c2, bt (by simp [c2, c3])]
      · rw [if_neg c2, bf (by simp [c2, c3])]
        rw [bt (by simp [c3])]
        unfold F127 F127_1
        simp only [lt]
        rw [F244_ok, F71_ok h, hman]
        have hb : blen (x.toNat % 2 ^ m.toNat) ≤ m.toNat := blen_le_iff.2 hl
        have hbp := blen_pos c2
        have hbi := bia_le h2
        generalize hbl : blen (x.toNat % 2 ^ m.toNat) = b at *
        have e1 : ((m + 1#8) - BitVec.ofNat 8 b).toNat = m.toNat + 1 - b := by
          rw [BitVec.toNat_sub, BitVec.toNat_add, BitVec.toNat_ofNat, show (1#8).toNat = 1 from rfl]; omega
        have e2 : w16 (m.toNat : Int) = m.toNat := w16_id (by omega)
        have e3 : w16 ((m.toNat + 1 - b : Nat) : Int) = ((m.toNat + 1 - b : Nat) : Int) := w16_id (by omega)
        have e4 : w16 (1 - (bia e.toNat : Int)) = 1 - (bia e.toNat : Int) := w16_id (by omega)
        have e5 : w16 (1 - (bia e.toNat : Int) - m.toNat) = 1 - (bia e.toNat : Int) - m.toNat := w16_id (by omega)
        have e6 : (1 - (bia e.toNat : Int) - m.toNat) - ((m.toNat + 1 - b : Nat) : Int) = 1 - (bia e.toNat : Int) - m.toNat - ((m.toNat : Int) + 1 - b) := by omega
        rw [e1, e2, e3, e4, e5, e6, w16_id (by omega)]
        refine Prod.ext rfl (Prod.ext rfl (Prod.ext rfl ?_))
        refine BitVec.eq_of_toNat_eq ?_
        show (ma <<< (m.toNat + 1 - b)).toNat = (BitVec.ofNat 64 (x.toNat % 2 ^ m.toNat * 2 ^ (m.toNat + 1 - b))).toNat
        rw [BitVec.toNat_shiftLeft, Nat.shiftLeft_eq, hman, BitVec.toNat_ofNat]
    · rw [if_neg c3, bf (by simp [c3])]
      simp only [lt]
      rw [bf (by simp [c3]), F71_ok h]
      have hbi := bia_le h2
      have hel : x.toNat / 2 ^ m.toNat % 2 ^ e.toNat < 2 ^ e.toNat := Nat.mod_lt _ (pow_pos2 _)
      have hel2 : 2 ^ e.toNat ≤ 2 ^ 11 := pow_le h2
      generalize hX : x.toNat / 2 ^ m.toNat % 2 ^ e.toNat = X at *
      have e2 : w16 (m.toNat : Int) = m.toNat := w16_id (by omega)
      have e3 : w16 (X : Int) = X := w16_id (by omega)
      have e4 : w16 ((X : Int) - bia e.toNat) = (X : Int) - bia e.toNat := w16_id (by omega)
      rw [e2, e3, e4, w16_id (by omega)]
      refine Prod.ext rfl (Prod.ext rfl (Prod.ext rfl ?_))
      refine BitVec.eq_of_toNat_eq ?_
      show (ma ||| 1#64 <<< m.toNat).toNat = _
      rw [or_add _ _ m.toNat (by rw [hman]; exact hl) (by rw [one_shl (by omega)]; exact Nat.dvd_refl _), hman, one_shl (by omega), BitVec.toNat_ofNat]
      exact (Nat.mod_eq_of_lt (by omega)).symm
end
end Go.Proofs.YfwaawGreat
