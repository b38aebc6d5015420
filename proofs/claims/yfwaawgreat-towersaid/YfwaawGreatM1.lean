/-
  Rounding to nearest is monotone.
-/
import Derived.Test.YfwaawGreatL6
namespace Go.Proofs.YfwaawGreat
open Go.Aw
set_option linter.unusedVariables false
set_option linter.unusedSimpArgs false
section
variable {e m mode : BitVec 8} {neg : Bool}

/-- A mode that rounds to nearest, ties to even. -/
structure NE (mode : BitVec 8) : Prop where
  a : (mode == 1#8) = false
  z : (mode == 2#8) = false
  u : (mode == 3#8) = false
  d : (mode == 4#8) = false
theorem ne_zero : NE 0#8 := ⟨rfl, rfl, rfl, rfl⟩
def rne (n2 : Nat) (s : Bool) : Nat := n2 / 2 + (bif decide (n2 % 2 = 1) && (s || decide (n2 / 2 % 2 = 1)) then 1 else 0)
theorem rn_ne (h : NE mode) (n2 : Nat) (s : Bool) : rn mode neg n2 s = rne n2 s := by
  unfold rn rne rz
  rw [h.a, h.z, h.u, h.d]
  rfl
theorem F252_ne (h : NE mode) : F252 e m mode neg = (F67 e m neg, 20#8) := by
  unfold F252 F252_2 F252_3 F252_1
  rw [h.z, h.u, h.d]
  rfl
theorem rne_mono {a b : Nat} {s t : Bool} (h : a ≤ b) (hs : a = b → s = true → t = true) : rne a s ≤ rne b t := by
  unfold rne
  rcases Nat.eq_or_lt_of_le h with c | c
  · subst c
    have hs := hs rfl
    cases s with
    | false =>
      cases t with
      | false => exact Nat.le_refl _
      | true =>
        cases hb : decide (a % 2 = 1) <;> cases hc : decide (a / 2 % 2 = 1) <;> simp
    | true => rw [hs rfl]; exact Nat.le_refl _
  · by_cases d : a / 2 < b / 2
    · have : (bif decide (a % 2 = 1) && (s || decide (a / 2 % 2 = 1)) then 1 else 0) ≤ 1 := by
        cases decide (a % 2 = 1) && (s || decide (a / 2 % 2 = 1)) <;> decide
      omega
    · have ha : a % 2 = 0 := by omega
      rw [decide_eq_false (show ¬ a % 2 = 1 by omega)]
      simp only [Bool.false_and, cond_false]
      omega
theorem rne_le (n2 : Nat) (s : Bool) : rne n2 s ≤ n2 / 2 + 1 := by rw [← rn_ne (mode := 0#8) (neg := false) ne_zero]; exact rn_le _ _ _ _
theorem rne_ge (n2 : Nat) (s : Bool) : n2 / 2 ≤ rne n2 s := by unfold rne; omega

/-- Monotone floors. -/
theorem div_mono {a b c d : Nat} (hb : 0 < b) (hd : 0 < d) (h : a * d ≤ c * b) : a / b ≤ c / d ∧ (a / b = c / d → a % b ≠ 0 → c % d ≠ 0) := by
  have h1 := Nat.div_add_mod a b
  have h2 := Nat.div_add_mod c d
  have l1 := Nat.mod_lt a hb
  have l2 := Nat.mod_lt c hd
  generalize a / b = p at *
  generalize c / d = q at *
  generalize a % b = r at *
  generalize c % d = s at *
  have e1 : a * d = b * p * d + r * d := by rw [← h1]; grind
  have e2 : c * b = b * q * d + s * b := by rw [← h2]; grind
  constructor
  · rcases Nat.lt_or_ge q p with k | k
    · exfalso
      have h3 : b * (q + 1) * d ≤ b * p * d := Nat.mul_le_mul_right _ (Nat.mul_le_mul_left _ k)
      have h4 : b * (q + 1) * d = b * q * d + d * b := by grind
      have h5 := Nat.mul_lt_mul_of_pos_right l2 hb
      omega
    · exact k
  · intro k1 k2 k3
    subst k1
    rw [k3, Nat.zero_mul] at e2
    have := Nat.mul_pos (show 0 < r by omega) hd
    omega
theorem fq_mono {num den num' den' : Nat} (hd : 0 < den) (hd' : 0 < den') (h : num * den' ≤ num' * den) (d : Int) : fq num den d ≤ fq num' den' d ∧ (fq num den d = fq num' den' d → eq num den d = true → eq num' den' d = true) := by
  unfold fq eq
  have hm := div_mono (a := num * 2 ^ (-d).toNat) (b := den * 2 ^ d.toNat) (c := num' * 2 ^ (-d).toNat) (d := den' * 2 ^ d.toNat) (Nat.mul_pos hd (pow_pos2 _)) (Nat.mul_pos hd' (pow_pos2 _)) (by
    have e1 : num * 2 ^ (-d).toNat * (den' * 2 ^ d.toNat) = num * den' * (2 ^ (-d).toNat * 2 ^ d.toNat) := by grind
    have e2 : num' * 2 ^ (-d).toNat * (den * 2 ^ d.toNat) = num' * den * (2 ^ (-d).toNat * 2 ^ d.toNat) := by grind
    rw [e1, e2]
    exact Nat.mul_le_mul_right _ h)
  refine ⟨hm.1, fun k1 k2 => ?_⟩
  exact decide_eq_true (hm.2 k1 (of_decide_eq_true k2))
theorem lg_mono {num den num' den' : Nat} (hn : num ≠ 0) (hd : den ≠ 0) (hn' : num' ≠ 0) (hd' : den' ≠ 0) (h : num * den' ≤ num' * den) : lg num den ≤ lg num' den' := by
  refine lg_ge_of hn' hd' ?_
  have l := (lg_spec hn hd).lo
  generalize lg num den = r at *
  have h1 := Nat.mul_le_mul_right den' l
  have h2 := Nat.mul_le_mul_right (2 ^ (-r).toNat) h
  have e1 : den * 2 ^ r.toNat * den' = den * (den' * 2 ^ r.toNat) := by grind
  have e2 : num * 2 ^ (-r).toNat * den' = num * den' * 2 ^ (-r).toNat := by grind
  have e3 : num' * den * 2 ^ (-r).toNat = den * (num' * 2 ^ (-r).toNat) := by grind
  exact Nat.le_of_mul_le_mul_left (show den * (den' * 2 ^ r.toNat) ≤ den * (num' * 2 ^ (-r).toNat) by omega) (by omega)

/-- The pattern with no end. -/
def UP (e m : BitVec 8) (num den : Nat) : Nat := (max (lg num den) (1 - bia e.toNat) - (1 - bia e.toNat)).toNat * 2 ^ m.toNat + rne (fq num den (max (lg num den) (1 - bia e.toNat) - m.toNat - 1)) (eq num den (max (lg num den) (1 - bia e.toNat) - m.toNat - 1))
theorem UP_hi (h : Fm e m) {num den : Nat} (hn : num ≠ 0) (hd : den ≠ 0) : UP e m num den ≤ (max (lg num den) (1 - bia e.toNat) - (1 - bia e.toNat)).toNat * 2 ^ m.toNat + 2 ^ (m.toNat + 1) := by
  unfold UP
  have h1 := fq_lt (by omega) (lg_spec hn hd) (m.toNat + 2) (max (lg num den) (1 - bia e.toNat) - m.toNat - 1) (by omega)
  have h2 := rne_le (fq num den (max (lg num den) (1 - bia e.toNat) - m.toNat - 1)) (eq num den (max (lg num den) (1 - bia e.toNat) - m.toNat - 1))
  have h3 : 2 ^ (m.toNat + 2) = 2 ^ (m.toNat + 1) * 2 := Nat.pow_succ _ _
  omega
theorem UP_lo (h : Fm e m) {num den : Nat} (hn : num ≠ 0) (hd : den ≠ 0) (hr : 1 - (bia e.toNat : Int) ≤ lg num den) : (lg num den - (1 - bia e.toNat)).toNat * 2 ^ m.toNat + 2 ^ m.toNat ≤ UP e m num den := by
  unfold UP
  rw [show max (lg num den) (1 - (bia e.toNat : Int)) = lg num den from by omega]
  have h1 := fq_ge (by omega) (lg_spec hn hd) (m.toNat + 1) (lg num den - m.toNat - 1) (by omega)
  have h2 := rne_ge (fq num den (lg num den - m.toNat - 1)) (eq num den (lg num den - m.toNat - 1))
  have h3 : 2 ^ (m.toNat + 1) = 2 ^ m.toNat * 2 := Nat.pow_succ _ _
  omega
theorem UP_mono (h : Fm e m) {num den num' den' : Nat} (hn : num ≠ 0) (hd : den ≠ 0) (hn' : num' ≠ 0) (hd' : den' ≠ 0) (hle : num * den' ≤ num' * den) : UP e m num den ≤ UP e m num' den' := by
  have hl := lg_mono hn hd hn' hd' hle
  by_cases c : max (lg num den) (1 - (bia e.toNat : Int)) = max (lg num' den') (1 - bia e.toNat)
  · unfold UP
    rw [c]
    have hf := fq_mono (by omega) (by omega) hle (max (lg num' den') (1 - bia e.toNat) - m.toNat - 1)
    have := rne_mono hf.1 hf.2
    omega
  · have h1 := UP_hi h hn hd
    have h2 := UP_lo h hn' hd' (by omega)
    have h3 : ((max (lg num den) (1 - bia e.toNat) - (1 - bia e.toNat)).toNat + 1) * 2 ^ m.toNat ≤ (lg num' den' - (1 - bia e.toNat)).toNat * 2 ^ m.toNat := Nat.mul_le_mul_right _ (by omega)
    have h4 : 2 ^ (m.toNat + 1) = 2 ^ m.toNat * 2 := Nat.pow_succ _ _
    rw [Nat.add_mul, Nat.one_mul] at h3
    omega

/-- Rounded to nearest: the pattern, held at infinity's. -/
theorem RQ_ne (h : Fm e m) (hm : NE mode) {num den : Nat} (hn : num ≠ 0) (hd : den ≠ 0) : (RQ e m mode neg num den).1.toNat = min (UP e m num den) (infP e.toNat m.toNat) + sgn e.toNat m.toNat neg := by
  have h2 := h.e11
  have h4 := h.m52
  have hi := infP_lt' e.toNat m.toNat
  have hl : 2 ^ (e.toNat + m.toNat) * 2 ≤ 2 ^ 64 := by rw [← Nat.pow_succ]; exact pow_le (by omega)
  have hs : sgn e.toNat m.toNat neg ≤ 2 ^ (e.toNat + m.toNat) := by unfold sgn; cases neg <;> simp
  unfold RQ RS
  rw [F252_ne hm, rn_ne hm]
  by_cases c : (bia e.toNat : Int) < max (lg num den) (1 - bia e.toNat)
  · rw [if_pos c]
    simp only []
    rw [F67_ok h]
    have hb := bia_ge h.e2
    have hlo := UP_lo h hn hd (by omega)
    have hEp := pow_E h.e2
    have h5 : (2 ^ e.toNat - 2) * 2 ^ m.toNat ≤ (lg num den - (1 - bia e.toNat)).toNat * 2 ^ m.toNat := Nat.mul_le_mul_right _ (by omega)
    have h8 : infP e.toNat m.toNat = (2 ^ e.toNat - 2) * 2 ^ m.toNat + 2 ^ m.toNat := by
      unfold infP
      rw [show 2 ^ e.toNat - 1 = 2 ^ e.toNat - 2 + 1 from by omega, Nat.add_mul, Nat.one_mul]
    omega
  · rw [if_neg c]
    have hU : (max (lg num den) (1 - bia e.toNat) - (1 - bia e.toNat)).toNat * 2 ^ m.toNat + rne (fq num den (max (lg num den) (1 - bia e.toNat) - m.toNat - 1)) (eq num den (max (lg num den) (1 - bia e.toNat) - m.toNat - 1)) = UP e m num den := rfl
    rw [hU]
    by_cases c2 : infP e.toNat m.toNat ≤ UP e m num den
    · rw [if_pos c2]
      simp only []
      rw [F67_ok h]
      omega
    · rw [if_neg c2]
      simp only []
      rw [BitVec.toNat_ofNat, Nat.mod_eq_of_lt (by omega)]
      omega
/-- The sign apart, the pattern is the same. -/
theorem RQ_sign (h : Fm e m) (hm : NE mode) {num den : Nat} (hn : num ≠ 0) (hd : den ≠ 0) : (RQ e m mode neg num den).1 = (RQ e m 0#8 false num den).1 ||| F251 e m neg := by
  have h1 := RQ_ne (neg := neg) h hm hn hd
  have h2 := RQ_ne (neg := false) h ne_zero hn hd
  have hi := infP_lt' e.toNat m.toNat
  rw [show sgn e.toNat m.toNat false = 0 from rfl, Nat.add_zero] at h2
  rw [or_sgn h (by omega) (F251_ok (neg := neg) h)]
  refine BitVec.eq_of_toNat_eq ?_
  rw [h1, h2, BitVec.toNat_ofNat]
  have h3 := h.e11
  have h4 := h.m52
  have hl : 2 ^ (e.toNat + m.toNat) * 2 ≤ 2 ^ 64 := by rw [← Nat.pow_succ]; exact pow_le (by omega)
  have hs : sgn e.toNat m.toNat neg ≤ 2 ^ (e.toNat + m.toNat) := by unfold sgn; cases neg <;> simp
  rw [Nat.mod_eq_of_lt (by omega)]
/-- Between two values of one pattern. -/
theorem RQ_between (h : Fm e m) {a b c d num den : Nat} (ha : a ≠ 0) (hb : b ≠ 0) (hc : c ≠ 0) (hd : d ≠ 0) (hn : num ≠ 0) (hdn : den ≠ 0) (h1 : a * den ≤ num * b) (h2 : num * d ≤ c * den)
    (he : (RQ e m 0#8 false a b).1 = (RQ e m 0#8 false c d).1) : (RQ e m 0#8 false num den).1 = (RQ e m 0#8 false a b).1 := by
  have k1 := RQ_ne (neg := false) h ne_zero ha hb
  have k2 := RQ_ne (neg := false) h ne_zero hc hd
  have k3 := RQ_ne (neg := false) h ne_zero hn hdn
  have m1 := UP_mono h ha hb hn hdn h1
  have m2 := UP_mono h hn hdn hc hd h2
  refine BitVec.eq_of_toNat_eq ?_
  rw [← he] at k2
  omega
end
end Go.Proofs.YfwaawGreat
