/-
  The model's floats: a word is what exact takes it for, and nearest is the rounding rule.
-/
import Derived.Test.YfwaawGreatM1
import Derived.Test.YfwaawGreatAwFl
namespace Go.Proofs.YfwaawGreat
open Go.Aw
set_option linter.unusedVariables false
set_option linter.unusedSimpArgs false

/-- A format of ours and the model's. -/
structure Kd (e m : BitVec 8) (f : Ieee.Format) : Prop where
  fm : Fm e m
  ee : f.exponentBits = e.toNat
  mm : f.fractionBits = m.toNat
theorem kd64 : Kd 11#8 52#8 Ieee.double := ⟨⟨by decide, by decide, by decide, by decide⟩, rfl, rfl⟩
theorem kd32 : Kd 8#8 23#8 Ieee.single := ⟨⟨by decide, by decide, by decide, by decide⟩, rfl, rfl⟩
section
variable {e m : BitVec 8} {f : Ieee.Format} {neg : Bool}
theorem Kd.bin (k : Kd e m f) : f.binade = 2 ^ m.toNat := by unfold Ieee.Format.binade; rw [k.mm]
theorem Kd.inf (k : Kd e m f) : f.infRung = infP e.toNat m.toNat := by unfold Ieee.Format.infRung infP; rw [k.bin, k.ee]
theorem Kd.sw (k : Kd e m f) : f.signWeight = 2 ^ (e.toNat + m.toNat) := by unfold Ieee.Format.signWeight; rw [k.ee, k.mm]
theorem Kd.lp (k : Kd e m f) : f.leastPlace = 1 - (bia e.toNat : Int) - m.toNat := by
  unfold Ieee.Format.leastPlace bia
  rw [k.ee, k.mm]
  have h : 1 ≤ 2 ^ (e.toNat - 1) := Nat.one_le_two_pow
  have hc : ((2 : Int) ^ (e.toNat - 1)) = ((2 ^ (e.toNat - 1) : Nat) : Int) := by rw [Int.natCast_pow]; rfl
  rw [hc]
  omega
theorem Kd.word (k : Kd e m f) (neg : Bool) (r : Nat) : f.word neg r = r + sgn e.toNat m.toNat neg := by
  unfold Ieee.Format.word sgn
  rw [k.sw]
  cases neg
  · rfl
  · exact Nat.add_comm _ _
theorem log2_blen {n : Nat} (h : n ≠ 0) : blen n = n.log2 + 1 := by unfold blen; rw [if_neg h]
/-- The cut to the even one is the rounding to the even one. -/
theorem cut_even {n k : Nat} (hn : n ≠ 0) (hk : 1 ≤ k) : Ieee.Toward.even.cut neg n k = rne (n / 2 ^ (k - 1)) (decide (n % 2 ^ (k - 1) ≠ 0)) := by
  unfold Ieee.Toward.cut rne
  simp only [Nat.one_shiftLeft]
  have hl := blen_lt n
  rw [log2_blen hn] at hl
  rcases Nat.lt_or_ge (n.log2 + 2) k with c | c
  · rw [Nat.min_eq_right (by omega)]
    have h1 : 2 ^ (n.log2 + 2) = 2 * 2 ^ (n.log2 + 1) := by rw [Nat.pow_succ 2 (n.log2 + 1)]; omega
    have h2 : 2 ^ (n.log2 + 1) ≤ 2 ^ (k - 1) := pow_le (by omega)
    rw [Nat.div_eq_of_lt (by omega), Nat.mod_eq_of_lt (by omega), Nat.div_eq_of_lt (a := n) (b := 2 ^ (k - 1)) (by omega)]
    rw [decide_eq_false (show ¬ 2 ^ (n.log2 + 2) < 2 * n by omega), show (2 ^ (n.log2 + 2) == 2 * n) = false from by rw [beq_eq_false_iff_ne]; omega]
    rfl
  · rw [Nat.min_eq_left (by omega)]
    obtain ⟨i, rfl⟩ : ∃ i, k = i + 1 := ⟨k - 1, by omega⟩
    rw [Nat.add_sub_cancel, Nat.pow_succ]
    have hp := pow_pos2 i
    generalize 2 ^ i = p at *
    have h1 := Nat.div_add_mod n p
    have h2 := Nat.mod_lt n hp
    have h3 : n / (p * 2) = n / p / 2 := by rw [Nat.div_div_eq_div_mul]
    have h4 : n % (p * 2) = n / p % 2 * p + n % p := by rw [Nat.mod_mul, Nat.mul_comm, Nat.add_comm]
    rw [h3, h4]
    generalize n / p = q at *
    generalize n % p = r at *
    rcases Nat.mod_two_eq_zero_or_one q with g | g
    · rw [g, Nat.zero_mul, Nat.zero_add, decide_eq_false (show ¬ p * 2 < 2 * r by omega), show (p * 2 == 2 * r) = false from by rw [beq_eq_false_iff_ne]; omega]
      rfl
    · rw [g, Nat.one_mul]
      by_cases hr : r = 0
      · subst hr
        rw [decide_eq_false (show ¬ p * 2 < 2 * (p + 0) by omega), show (p * 2 == 2 * (p + 0)) = true from by rw [beq_iff_eq]; omega]
        rcases Nat.mod_two_eq_zero_or_one (q / 2) with z | z <;> rw [z] <;> rfl
      · rw [decide_eq_true (show p * 2 < 2 * (p + r) by omega), decide_eq_true hr]
        rfl
theorem bnd_fq0 (J : Nat) (t : Int) : fq (J * 2 ^ t.toNat) (2 ^ (-t).toNat) t = J ∧ eq (J * 2 ^ t.toNat) (2 ^ (-t).toNat) t = false := by
  have h := fq_pow J t 0
  rw [show t + ((0 : Nat) : Int) = t by omega, Nat.pow_zero, Nat.div_one, Nat.mod_one] at h
  exact ⟨h.1, h.2⟩
/-- nearest is the rounding rule. -/
theorem Kd.near (k : Kd e m f) {mode : BitVec 8} (hm : NE mode) {mag : Nat} (h0 : mag ≠ 0) (place : Int) : f.nearest neg mag place = (RQ e m mode neg (mag * 2 ^ place.toNat) (2 ^ (-place).toNat)).1.toNat := by
  have hne : mag * 2 ^ place.toNat ≠ 0 := Nat.mul_ne_zero h0 (by have := pow_pos2 place.toNat; omega)
  have hde : 2 ^ (-place).toNat ≠ 0 := by have := pow_pos2 (-place).toNat; omega
  rw [RQ_ne k.fm hm hne hde]
  unfold Ieee.Format.nearest
  rw [if_neg h0]
  simp only []
  rw [k.word, k.inf, k.bin, k.lp, k.mm]
  unfold UP
  rw [lg_pow h0, log2_blen h0]
  have e1 : max (place + (mag.log2 : Int) - (m.toNat : Int)) (1 - (bia e.toNat : Int) - (m.toNat : Int)) = max (((mag.log2 + 1 : Nat) : Int) - 1 + place) (1 - (bia e.toNat : Int)) - m.toNat := by omega
  rw [e1]
  generalize max (((mag.log2 + 1 : Nat) : Int) - 1 + place) (1 - (bia e.toNat : Int)) = L
  rw [show L - (m.toNat : Int) - (1 - (bia e.toNat : Int) - m.toNat) = L - (1 - bia e.toNat) by omega]
  have e2 : Ieee.Toward.even.cut neg (mag <<< (place - (L - (m.toNat : Int))).toNat) (L - (m.toNat : Int) - place).toNat = rne (fq (mag * 2 ^ place.toNat) (2 ^ (-place).toNat) (L - m.toNat - 1)) (eq (mag * 2 ^ place.toNat) (2 ^ (-place).toNat) (L - m.toNat - 1)) := by
    rw [Nat.shiftLeft_eq]
    obtain ⟨u, hu⟩ : ∃ u, u = L - (m.toNat : Int) := ⟨_, rfl⟩
    rw [← hu]
    rcases Int.lt_or_le place u with c | c
    · rw [show (place - u).toNat = 0 by omega, Nat.pow_zero, Nat.mul_one, cut_even h0 (by omega)]
      have hq := fq_pow mag place ((u - place).toNat - 1)
      rw [show place + (((u - place).toNat - 1 : Nat) : Int) = u - 1 by omega] at hq
      rw [hq.1, hq.2]
    · rw [show (u - place).toNat = 0 by omega]
      obtain ⟨d, hd⟩ : ∃ d : Nat, place = u + d := ⟨(place - u).toNat, by omega⟩
      rw [show (place - u).toNat = d by omega]
      have hb := bnd_fq0 (mag * 2 ^ (d + 1)) (u - 1)
      have hx : mag * 2 ^ place.toNat * 2 ^ (-(u - 1)).toNat = mag * 2 ^ (d + 1) * 2 ^ (u - 1).toNat * 2 ^ (-place).toNat := by
        rw [Nat.mul_assoc, Nat.mul_assoc, Nat.mul_assoc, ← Nat.pow_add, ← Nat.pow_add, ← Nat.pow_add]
        exact congrArg (fun t => mag * 2 ^ t) (by omega)
      have hc := fq_cross (num := mag * 2 ^ place.toNat) (den := 2 ^ (-place).toNat) (num' := mag * 2 ^ (d + 1) * 2 ^ (u - 1).toNat) (den' := 2 ^ (-(u - 1)).toNat) (pow_pos2 _) (pow_pos2 _) hx (u - 1)
      rw [hc.1, hc.2, hb.1, hb.2]
      unfold Ieee.Toward.cut rne
      simp only [Nat.one_shiftLeft]
      rw [Nat.zero_min, Nat.pow_zero, Nat.div_one, Nat.mod_one, Nat.pow_succ, ← Nat.mul_assoc]
      generalize mag * 2 ^ d = z
      rw [show z * 2 / 2 = z by omega, show z * 2 % 2 = 0 by omega]
      rfl
  rw [e2]
end
end Go.Proofs.YfwaawGreat
