/-
  Which fractions are read back as a given number: those between the midpoints to its neighbours.
-/
import Derived.Test.YfwaawGreatM1
namespace Go.Proofs.YfwaawGreat
open Go.Aw
set_option linter.unusedVariables false
set_option linter.unusedSimpArgs false

section
variable {e m : BitVec 8} {neg : Bool}
theorem rne_odd (n : Nat) (s : Bool) : rne (2 * n + 1) s = n + (bif s || decide (n % 2 = 1) then 1 else 0) := by
  unfold rne
  rw [show (2 * n + 1) / 2 = n by omega, decide_eq_true (show (2 * n + 1) % 2 = 1 by omega), Bool.true_and]
/-- The midpoint above the number with significand sig. -/
theorem bnd_lg (h : Fm e m) {sig ex : Nat} (hs : sig < 2 ^ (m.toNat + 1)) (hn : ex = 0 ∨ 2 ^ m.toNat ≤ sig) {t : Int} (ht : t = ex - (bia e.toNat : Int) - m.toNat) :
    max (lg ((2 * sig + 1) * 2 ^ t.toNat) (2 ^ (-t).toNat)) (1 - (bia e.toNat : Int)) = 1 - bia e.toNat + ex := by
  rw [lg_pow (by omega)]
  have h1 : blen (2 * sig + 1) ≤ m.toNat + 2 := by
    rw [blen_le_iff, Nat.pow_succ]; omega
  rcases hn with c | c
  · omega
  · have h2 : m.toNat + 2 ≤ blen (2 * sig + 1) := by
      have h3 := blen_lt (2 * sig + 1)
      rcases Nat.lt_or_ge (blen (2 * sig + 1)) (m.toNat + 2) with k | k
      · exfalso
        have h4 : 2 ^ blen (2 * sig + 1) ≤ 2 ^ (m.toNat + 1) := pow_le (by omega)
        rw [Nat.pow_succ] at h4
        omega
      · exact k
    omega
theorem bnd_fq (J : Nat) (t : Int) : fq (J * 2 ^ t.toNat) (2 ^ (-t).toNat) t = J ∧ eq (J * 2 ^ t.toNat) (2 ^ (-t).toNat) t = false := by
  have h := fq_pow J t 0
  rw [show t + ((0 : Nat) : Int) = t by omega, Nat.pow_zero, Nat.div_one, Nat.mod_one] at h
  exact ⟨h.1, h.2⟩
theorem pow_ne (k : Nat) : 2 ^ k ≠ 0 := by have := pow_pos2 k; omega
theorem bnd_ne (sig : Nat) (t : Int) : (2 * sig + 1) * 2 ^ t.toNat ≠ 0 := Nat.mul_ne_zero (by omega) (pow_ne _)
theorem UP_bnd (h : Fm e m) {sig ex : Nat} (hs : sig < 2 ^ (m.toNat + 1)) (hn : ex = 0 ∨ 2 ^ m.toNat ≤ sig) {t : Int} (ht : t = ex - (bia e.toNat : Int) - m.toNat) :
    UP e m ((2 * sig + 1) * 2 ^ t.toNat) (2 ^ (-t).toNat) = ex * 2 ^ m.toNat + sig + (bif decide (sig % 2 = 1) then 1 else 0) := by
  unfold UP
  rw [bnd_lg h hs hn ht, show 1 - (bia e.toNat : Int) + ex - m.toNat - 1 = t by omega, (bnd_fq _ t).1, (bnd_fq _ t).2, rne_odd, show (1 - (bia e.toNat : Int) + ex - (1 - bia e.toNat)).toNat = ex by omega, Bool.false_or]
  omega
theorem rb_gt (h : Fm e m) {sig ex : Nat} (hs : sig < 2 ^ (m.toNat + 1)) (hn : ex = 0 ∨ 2 ^ m.toNat ≤ sig) {t : Int} (ht : t = ex - (bia e.toNat : Int) - m.toNat) {num den : Nat} (hnum : num ≠ 0) (hden : den ≠ 0)
    (hgt : (2 * sig + 1) * 2 ^ t.toNat * den < num * 2 ^ (-t).toNat) : ex * 2 ^ m.toNat + sig + 1 ≤ UP e m num den := by
  have hl := lg_mono (bnd_ne sig t) (pow_ne (-t).toNat) hnum hden (Nat.le_of_lt hgt)
  have h0 := bnd_lg h hs hn ht
  rcases Nat.lt_or_ge 0 ((max (lg num den) (1 - (bia e.toNat : Int)) - (1 - bia e.toNat + ex)).toNat) with c | c
  · have h1 := UP_lo h hnum hden (by omega)
    have h2 : (ex + 1) * 2 ^ m.toNat ≤ (lg num den - (1 - bia e.toNat)).toNat * 2 ^ m.toNat := Nat.mul_le_mul_right _ (by omega)
    rw [Nat.add_mul, Nat.one_mul] at h2
    rw [Nat.pow_succ] at hs
    omega
  · have hr : max (lg num den) (1 - (bia e.toNat : Int)) = 1 - bia e.toNat + ex := by omega
    unfold UP
    rw [hr, show 1 - (bia e.toNat : Int) + ex - m.toNat - 1 = t by omega, show (1 - (bia e.toNat : Int) + ex - (1 - bia e.toNat)).toNat = ex by omega]
    have hf := fq_mono (num := (2 * sig + 1) * 2 ^ t.toNat) (den := 2 ^ (-t).toNat) (pow_pos2 _) (show 0 < den by omega) (Nat.le_of_lt hgt) t
    rw [(bnd_fq _ t).1] at hf
    have key : sig + 1 ≤ rne (fq num den t) (eq num den t) := by
      rcases Nat.eq_or_lt_of_le hf.1 with k | k
      · have he : eq num den t = true := by
          unfold eq
          refine decide_eq_true fun hz => ?_
          unfold fq at k
          have hdm := Nat.div_add_mod (num * 2 ^ (-t).toNat) (den * 2 ^ t.toNat)
          rw [← k, hz, Nat.add_zero] at hdm
          have : (2 * sig + 1) * 2 ^ t.toNat * den = den * 2 ^ t.toNat * (2 * sig + 1) := by
            rw [Nat.mul_comm _ den, Nat.mul_comm (2 * sig + 1), ← Nat.mul_assoc]
          omega
        rw [← k, he, rne_odd]
        exact Nat.le_refl _
      · have := rne_ge (fq num den t) (eq num den t)
        omega
    omega
theorem rb_lt (h : Fm e m) {sig ex : Nat} (hs : sig < 2 ^ (m.toNat + 1)) (hn : ex = 0 ∨ 2 ^ m.toNat ≤ sig) {t : Int} (ht : t = ex - (bia e.toNat : Int) - m.toNat) {num den : Nat} (hnum : num ≠ 0) (hden : den ≠ 0)
    (hgt : num * 2 ^ (-t).toNat < (2 * sig + 1) * 2 ^ t.toNat * den) : UP e m num den ≤ ex * 2 ^ m.toNat + sig := by
  have hl := lg_mono hnum hden (bnd_ne sig t) (pow_ne (-t).toNat) (Nat.le_of_lt hgt)
  have h0 := bnd_lg h hs hn ht
  rcases Nat.lt_or_ge 0 ((1 - bia e.toNat + ex - max (lg num den) (1 - (bia e.toNat : Int))).toNat) with c | c
  · have h1 := UP_hi h hnum hden
    have h2 : ((max (lg num den) (1 - (bia e.toNat : Int)) - (1 - bia e.toNat)).toNat + 1) * 2 ^ m.toNat ≤ ex * 2 ^ m.toNat := Nat.mul_le_mul_right _ (by omega)
    rw [Nat.add_mul, Nat.one_mul] at h2
    rw [Nat.pow_succ] at h1
    rcases hn with k | k
    · omega
    · omega
  · have hr : max (lg num den) (1 - (bia e.toNat : Int)) = 1 - bia e.toNat + ex := by omega
    unfold UP
    rw [hr, show 1 - (bia e.toNat : Int) + ex - m.toNat - 1 = t by omega, show (1 - (bia e.toNat : Int) + ex - (1 - bia e.toNat)).toNat = ex by omega]
    have hf : fq num den t < 2 * sig + 1 := by
      unfold fq
      rw [Nat.div_lt_iff_lt_mul (Nat.mul_pos (by omega) (pow_pos2 _))]
      have : (2 * sig + 1) * 2 ^ t.toNat * den = (2 * sig + 1) * (den * 2 ^ t.toNat) := by
        rw [Nat.mul_assoc, Nat.mul_comm den]
      omega
    have key : rne (fq num den t) (eq num den t) ≤ sig := by
      rcases Nat.eq_or_lt_of_le (Nat.le_of_lt_succ hf) with k | k
      · rw [k]
        unfold rne
        rw [show 2 * sig / 2 = sig by omega, decide_eq_false (show ¬ 2 * sig % 2 = 1 by omega), Bool.false_and]
        exact Nat.le_refl _
      · have := rne_le (fq num den t) (eq num den t)
        omega
    omega
theorem rb_eq (h : Fm e m) {sig ex : Nat} (hs : sig < 2 ^ (m.toNat + 1)) (hn : ex = 0 ∨ 2 ^ m.toNat ≤ sig) {t : Int} (ht : t = ex - (bia e.toNat : Int) - m.toNat) {num den : Nat} (hnum : num ≠ 0) (hden : den ≠ 0)
    (hgt : (2 * sig + 1) * 2 ^ t.toNat * den = num * 2 ^ (-t).toNat) : UP e m num den = ex * 2 ^ m.toNat + sig + (bif decide (sig % 2 = 1) then 1 else 0) := by
  rw [← UP_bnd h hs hn ht]
  exact Nat.le_antisymm (UP_mono h hnum hden (bnd_ne sig t) (pow_ne _) (Nat.le_of_eq hgt.symm)) (UP_mono h (bnd_ne sig t) (pow_ne _) hnum hden (Nat.le_of_eq hgt))
/-- All three in one. -/
theorem rb (h : Fm e m) {sig ex : Nat} (hs : sig < 2 ^ (m.toNat + 1)) (hn : ex = 0 ∨ 2 ^ m.toNat ≤ sig) {t : Int} (ht : t = ex - (bia e.toNat : Int) - m.toNat) {num den : Nat} (hnum : num ≠ 0) (hden : den ≠ 0) :
    ex * 2 ^ m.toNat + sig + 1 ≤ UP e m num den ↔ ((2 * sig + 1) * 2 ^ t.toNat * den < num * 2 ^ (-t).toNat ∨ ((2 * sig + 1) * 2 ^ t.toNat * den = num * 2 ^ (-t).toNat ∧ sig % 2 = 1)) := by
  rcases Nat.lt_trichotomy ((2 * sig + 1) * 2 ^ t.toNat * den) (num * 2 ^ (-t).toNat) with c | c | c
  · exact ⟨fun _ => Or.inl c, fun _ => rb_gt h hs hn ht hnum hden c⟩
  · have h1 := rb_eq h hs hn ht hnum hden c
    by_cases k : sig % 2 = 1
    · rw [decide_eq_true k] at h1
      exact ⟨fun _ => Or.inr ⟨c, k⟩, fun _ => by rw [h1]; exact Nat.le_refl _⟩
    · rw [decide_eq_false k] at h1
      refine ⟨fun k2 => ?_, fun k2 => ?_⟩
      · exfalso; rw [h1] at k2; revert k2; simp
      · exfalso; rcases k2 with k2 | k2
        · omega
        · exact k k2.2
  · have h1 := rb_lt h hs hn ht hnum hden c
    exact ⟨fun k => by omega, fun k => by omega⟩
theorem half_up (J : Nat) (t a : Int) (ha : a = t - 1) (x y : Nat) : (J * 2 ^ t.toNat * x < y * 2 ^ (-t).toNat ↔ 2 * J * 2 ^ a.toNat * x < y * 2 ^ (-a).toNat) ∧ (J * 2 ^ t.toNat * x = y * 2 ^ (-t).toNat ↔ 2 * J * 2 ^ a.toNat * x = y * 2 ^ (-a).toNat) := by
  by_cases c : 1 ≤ t
  · have h1 : t.toNat = a.toNat + 1 := by omega
    have h2 : (-t).toNat = 0 := by omega
    have h3 : (-a).toNat = 0 := by omega
    rw [h1, h2, h3, Nat.pow_succ]
    have : J * (2 ^ a.toNat * 2) * x = 2 * J * 2 ^ a.toNat * x := by
      generalize 2 ^ a.toNat = p
      rw [Nat.mul_comm p 2, ← Nat.mul_assoc, Nat.mul_comm J 2]
    rw [this]
    exact ⟨Iff.rfl, Iff.rfl⟩
  · have h1 : t.toNat = 0 := by omega
    have h2 : (-a).toNat = (-t).toNat + 1 := by omega
    have h3 : a.toNat = 0 := by omega
    rw [h1, h2, h3, Nat.pow_succ, Nat.pow_zero, Nat.mul_one, Nat.mul_one, Nat.mul_assoc 2 J x]
    generalize 2 ^ (-t).toNat = p
    rw [show y * (p * 2) = 2 * (y * p) by rw [← Nat.mul_assoc]; omega]
    generalize J * x = A
    generalize y * p = B
    omega
/-- What is below the number: one quarter or two of the unit. -/
def bel (m ex sig : Nat) : Nat := if sig = 2 ^ m ∧ 1 ≤ ex then 1 else 2
theorem reads_lo (h : Fm e m) {sig ex : Nat} (hs : sig < 2 ^ (m.toNat + 1)) (hn : ex = 0 ∨ 2 ^ m.toNat ≤ sig) (hp : 1 ≤ sig) {a : Int} (ha : a = ex - (bia e.toNat : Int) - m.toNat - 1) {num den : Nat} (hnum : num ≠ 0) (hden : den ≠ 0) :
    ex * 2 ^ m.toNat + sig ≤ UP e m num den ↔ ((4 * sig - bel m.toNat ex sig) * 2 ^ a.toNat * den < num * 2 ^ (-a).toNat ∨ ((4 * sig - bel m.toNat ex sig) * 2 ^ a.toNat * den = num * 2 ^ (-a).toNat ∧ sig % 2 = 0)) := by
  have h3 := h.m2
  unfold bel
  by_cases c : sig = 2 ^ m.toNat ∧ 1 ≤ ex
  · rw [if_pos c]
    have h1 := rb h (sig := 2 ^ (m.toNat + 1) - 1) (ex := ex - 1) (by have := pow_pos2 (m.toNat + 1); omega) (Or.inr (by rw [Nat.pow_succ]; have := pow_pos2 m.toNat; omega)) (t := a) (by omega) hnum hden
    have h2 : (ex - 1) * 2 ^ m.toNat + (2 ^ (m.toNat + 1) - 1) + 1 = ex * 2 ^ m.toNat + sig := by
      have e1 : ex * 2 ^ m.toNat = (ex - 1) * 2 ^ m.toNat + 2 ^ m.toNat := by
        obtain ⟨k, hk⟩ : ∃ k, ex = k + 1 := ⟨ex - 1, by omega⟩
        rw [hk, Nat.add_sub_cancel, Nat.add_mul, Nat.one_mul]
      have := pow_pos2 m.toNat
      rw [Nat.pow_succ]
      omega
    have h4 : 2 * (2 ^ (m.toNat + 1) - 1) + 1 = 4 * sig - 1 := by
      have := pow_pos2 m.toNat
      rw [Nat.pow_succ]; omega
    have h5 : (2 ^ (m.toNat + 1) - 1) % 2 = 1 := by have := pow_pos2 m.toNat; rw [Nat.pow_succ]; omega
    have h6 : sig % 2 = 0 := by
      rw [c.1]
      obtain ⟨k, hk⟩ : ∃ k, m.toNat = k + 1 := ⟨m.toNat - 1, by omega⟩
      rw [hk, Nat.pow_succ]; omega
    rw [h2, h4] at h1
    rw [h1]
    constructor
    · rintro (k | k)
      · exact Or.inl k
      · exact Or.inr ⟨k.1, h6⟩
    · rintro (k | k)
      · exact Or.inl k
      · exact Or.inr ⟨k.1, h5⟩
  · rw [if_neg c]
    have h1 := rb h (sig := sig - 1) (ex := ex) (by omega) (by
      rcases hn with k | k
      · exact Or.inl k
      · by_cases k2 : ex = 0
        · exact Or.inl k2
        · exact Or.inr (by
            have : sig ≠ 2 ^ m.toNat := fun k3 => c ⟨k3, by omega⟩
            omega)) (t := a + 1) (by omega) hnum hden
    rw [show ex * 2 ^ m.toNat + (sig - 1) + 1 = ex * 2 ^ m.toNat + sig by omega, (half_up _ (a + 1) a (by omega) den num).1, (half_up _ (a + 1) a (by omega) den num).2, show 2 * (2 * (sig - 1) + 1) = 4 * sig - 2 by omega] at h1
    rw [h1]
    have : (sig - 1) % 2 = 1 ↔ sig % 2 = 0 := by omega
    rw [this]
theorem reads_hi (h : Fm e m) {sig ex : Nat} (hs : sig < 2 ^ (m.toNat + 1)) (hn : ex = 0 ∨ 2 ^ m.toNat ≤ sig) {a : Int} (ha : a = ex - (bia e.toNat : Int) - m.toNat - 1) {num den : Nat} (hnum : num ≠ 0) (hden : den ≠ 0) :
    UP e m num den ≤ ex * 2 ^ m.toNat + sig ↔ (num * 2 ^ (-a).toNat < (4 * sig + 2) * 2 ^ a.toNat * den ∨ ((4 * sig + 2) * 2 ^ a.toNat * den = num * 2 ^ (-a).toNat ∧ sig % 2 = 0)) := by
  have h1 := rb h hs hn (t := a + 1) (by omega) hnum hden
  rw [(half_up _ (a + 1) a (by omega) den num).1, (half_up _ (a + 1) a (by omega) den num).2, show 2 * (2 * sig + 1) = 4 * sig + 2 by omega] at h1
  generalize (4 * sig + 2) * 2 ^ a.toNat * den = A at *
  generalize num * 2 ^ (-a).toNat = B at *
  constructor
  · intro k
    have h2 : ¬ (A < B ∨ A = B ∧ sig % 2 = 1) := fun k2 => by have := h1.2 k2; omega
    omega
  · intro k
    have h2 : ¬ (A < B ∨ A = B ∧ sig % 2 = 1) := by omega
    rcases Nat.lt_or_ge (ex * 2 ^ m.toNat + sig) (UP e m num den) with k3 | k3
    · exact (h2 (h1.1 (by omega))).elim
    · exact k3
/-- The number is read back from the fractions between its ends. -/
theorem reads (h : Fm e m) {sig ex : Nat} (hs : sig < 2 ^ (m.toNat + 1)) (hn : ex = 0 ∨ 2 ^ m.toNat ≤ sig) (hp : 1 ≤ sig) (hi : ex * 2 ^ m.toNat + sig < infP e.toNat m.toNat) {a : Int} (ha : a = ex - (bia e.toNat : Int) - m.toNat - 1)
    {num den : Nat} (hnum : num ≠ 0) (hden : den ≠ 0) :
    (RQ e m 0#8 neg num den).1.toNat = ex * 2 ^ m.toNat + sig + sgn e.toNat m.toNat neg ↔
      ((4 * sig - bel m.toNat ex sig) * 2 ^ a.toNat * den < num * 2 ^ (-a).toNat ∨ ((4 * sig - bel m.toNat ex sig) * 2 ^ a.toNat * den = num * 2 ^ (-a).toNat ∧ sig % 2 = 0)) ∧
      (num * 2 ^ (-a).toNat < (4 * sig + 2) * 2 ^ a.toNat * den ∨ ((4 * sig + 2) * 2 ^ a.toNat * den = num * 2 ^ (-a).toNat ∧ sig % 2 = 0)) := by
  rw [RQ_ne h ne_zero hnum hden, ← reads_lo h hs hn hp ha hnum hden, ← reads_hi h hs hn ha hnum hden]
  omega
end
end Go.Proofs.YfwaawGreat
