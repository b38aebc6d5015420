import Derived.Test.YfwaawGreatJH
/-! Knuth's sum of two doubles, in whole numbers. -/
namespace Go.Proofs.YfwaawGreat
open Go.Aw
set_option linter.unusedVariables false
set_option linter.unusedSimpArgs false
section
/-- r is S rounded to 53 bits, to nearest. -/
structure NRi (S r : Int) (k : Nat) (g : Int) : Prop where
  hi : blen S.natAbs ≤ 53 + k
  lo : k = 0 ∨ blen S.natAbs = 53 + k
  rr : r = g * ((2 ^ k : Nat) : Int)
  a : -((2 ^ k : Nat) : Int) ≤ 2 * (r - S)
  b : 2 * (r - S) ≤ ((2 ^ k : Nat) : Int)
/-- A number with at most 53 bits of its own. -/
def Fit (X : Int) : Prop := ∃ (n : Int) (t : Nat), X = n * ((2 ^ t : Nat) : Int) ∧ n.natAbs < 9007199254740992
variable {S r s v P Z p z g g' : Int} {i j k k' : Nat}
theorem mul_step {h g p : Int} (hp : 0 < p) (h1 : g < h) : g * p + p ≤ h * p := by
  have : (g + 1) * p ≤ h * p := Int.mul_le_mul_of_nonneg_right (by omega) (by omega)
  rw [Int.add_mul, Int.one_mul] at this
  exact this
theorem NRi.near (h : NRi S r k g) (M : Int) : (r - S).natAbs ≤ (M * ((2 ^ k : Nat) : Int) - S).natAbs := by
  have hp : 0 < ((2 ^ k : Nat) : Int) := by have := pow_pos2 k; omega
  have h1 := h.rr
  have h2 := h.a
  have h3 := h.b
  generalize ((2 ^ k : Nat) : Int) = p at *
  rcases Int.lt_trichotomy g M with c | c | c
  · have := mul_step hp c; omega
  · subst c; rw [← h1]; exact Nat.le_refl _
  · have := mul_step hp c; omega
theorem NRi.exact (h : NRi S r k g) {M : Int} (hM : S = M * ((2 ^ k : Nat) : Int)) : r = S := by
  have := h.near M
  rw [← hM] at this
  omega
theorem pow_split {a b : Nat} (h : a ≤ b) : ((2 ^ b : Nat) : Int) = ((2 ^ (b - a) : Nat) : Int) * ((2 ^ a : Nat) : Int) := by
  rw [← Int.natCast_mul, ← Nat.pow_add, show b - a + a = b by omega]
theorem NRi.fit (h : NRi S r k g) (hf : Fit S) : r = S := by
  obtain ⟨n, t, h1, h2⟩ := hf
  rcases Nat.lt_or_ge t k with c | c
  · exfalso
    rcases h.lo with q | q
    · omega
    · have h3 : blen S.natAbs ≤ 53 + t := by
        rw [blen_le_iff, h1, Int.natAbs_mul, Int.natAbs_natCast, Nat.pow_add]
        exact Nat.mul_lt_mul_of_pos_right h2 (pow_pos2 t)
      omega
  · refine h.exact (M := n * ((2 ^ (t - k) : Nat) : Int)) ?_
    rw [h1, pow_split c, Int.mul_assoc]
theorem NRi.small (h : NRi S r k g) : r.natAbs ≤ 2 * S.natAbs := by
  have h2 := h.a
  have h3 := h.b
  rcases h.lo with q | q
  · rw [q, Nat.pow_zero] at h2 h3; omega
  · have h0 : S.natAbs ≠ 0 := by intro g; rw [g] at q; have : blen 0 = 0 := by decide
                                 omega
    have h4 := blen_le h0
    rw [q, show 53 + k - 1 = 52 + k by omega, Nat.pow_add, show (2 : Nat) ^ 52 = 4503599627370496 from rfl] at h4
    have hp := pow_pos2 k
    generalize 2 ^ k = p at *
    omega
theorem fit_of {X n : Int} {t : Nat} (h : X = n * ((2 ^ t : Nat) : Int)) (hb : X.natAbs < 9007199254740992 * 2 ^ t) : Fit X := by
  refine ⟨n, t, h, ?_⟩
  rw [h, Int.natAbs_mul, Int.natAbs_natCast] at hb
  exact Nat.lt_of_mul_lt_mul_right hb
theorem fit_zero : Fit 0 := ⟨0, 0, by omega, by decide⟩
/-- Multiples of a lower power. -/
theorem mult_le {a b : Nat} (h : a ≤ b) {X n : Int} (hX : X = n * ((2 ^ b : Nat) : Int)) : ∃ m : Int, X = m * ((2 ^ a : Nat) : Int) := ⟨n * ((2 ^ (b - a) : Nat) : Int), by rw [hX, pow_split h, Int.mul_assoc]⟩
theorem mag_lt {X n : Int} {t B : Nat} (h : X = n * ((2 ^ t : Nat) : Int)) (hb : n.natAbs < B) : X.natAbs < B * 2 ^ t := by
  rw [h, Int.natAbs_mul, Int.natAbs_natCast]
  exact Nat.mul_lt_mul_of_pos_right hb (pow_pos2 t)
/-- The lost part is no more than the small summand. -/
theorem lost_le (h : NRi S r k g) {B L M : Int} (hS : S = B + L) (hB : B = M * ((2 ^ k : Nat) : Int)) : (S - r).natAbs ≤ L.natAbs := by
  have := h.near M
  rw [← hB] at this
  omega
theorem tiny_b {A B : Nat} (hD : (s - P - Z).natAbs ≤ P.natAbs) (hE : (s - P - v).natAbs ≤ P.natAbs) (hA : P.natAbs < 281474976710656 * A) (hB : P.natAbs < 281474976710656 * B) :
    (s - v).natAbs < 9007199254740992 * A ∧ (P - (s - v)).natAbs < 9007199254740992 * B ∧ (Z - v).natAbs < 9007199254740992 * A ∧ (P + Z - s).natAbs < 9007199254740992 * B := by
  omega
theorem two_sum (hP : P = p * ((2 ^ i : Nat) : Int)) (hp : p.natAbs < 281474976710656) (hZ : Z = z * ((2 ^ j : Nat) : Int)) (hz : z.natAbs < 16777216)
    (hs : NRi (P + Z) s k g) (hv : NRi (s - P) v k' g') : Fit (s - v) ∧ Fit (P - (s - v)) ∧ Fit (Z - v) ∧ Fit (P + Z - s) := by
  have mP := mag_lt hP hp
  have mZ := mag_lt hZ hz
  by_cases c1 : k ≤ i
  · by_cases c2 : k ≤ j
    · obtain ⟨a, ha⟩ := mult_le c1 hP
      obtain ⟨b, hb⟩ := mult_le c2 hZ
      have e1 : s = P + Z := hs.exact (M := a + b) (by rw [Int.add_mul, ← ha, ← hb])
      have e2 : v = s - P := hv.fit ⟨z, j, by rw [e1, ← hZ]; omega, by omega⟩
      refine ⟨⟨p, i, by rw [← hP]; omega, by omega⟩, ?_, ?_, ?_⟩
      · rw [show P - (s - v) = 0 by omega]; exact fit_zero
      · rw [show Z - v = 0 by omega]; exact fit_zero
      · rw [show P + Z - s = 0 by omega]; exact fit_zero
    · -- Z is the small one
      have hk : 1 ≤ k := by omega
      have hb : blen (P + Z).natAbs = 53 + k := by rcases hs.lo with q | q <;> omega
      have h0 : (P + Z).natAbs ≠ 0 := by intro g; rw [g] at hb; have : blen 0 = 0 := by decide
                                         omega
      obtain ⟨a, ha⟩ := mult_le c1 hP
      have hl := lost_le hs rfl ha
      obtain ⟨b, hb2⟩ := mult_le (show j ≤ k by omega) hs.rr
      obtain ⟨b', hb3⟩ := mult_le (show j ≤ k by omega) ha
      have mono : 2 ^ j ≤ 2 ^ (k - 1) := pow_le (by omega)
      have hk2 : 2 ^ k = 2 * 2 ^ (k - 1) := by rw [← Nat.pow_succ']; exact congrArg (fun t => 2 ^ t) (by omega)
      have e2 : v = s - P := hv.fit (fit_of (n := g - a) (t := k) (by rw [Int.sub_mul, ← ha, ← hs.rr]) (by
        have := hs.a
        have := hs.b
        generalize 2 ^ (k - 1) = A at *
        omega))
      refine ⟨⟨p, i, by rw [← hP]; omega, by omega⟩, ?_, ?_, ?_⟩
      · rw [show P - (s - v) = 0 by omega]; exact fit_zero
      · rw [show Z - v = P + Z - s by omega]
        refine fit_of (n := b' + z - b) (t := j) (by rw [Int.sub_mul, Int.add_mul, ← hb2, ← hb3, ← hZ]) (by omega)
      · refine fit_of (n := b' + z - b) (t := j) (by rw [Int.sub_mul, Int.add_mul, ← hb2, ← hb3, ← hZ]) (by omega)
  · have hk : 1 ≤ k := by omega
    have hb : blen (P + Z).natAbs = 53 + k := by rcases hs.lo with q | q <;> omega
    have h0 : (P + Z).natAbs ≠ 0 := by intro g; rw [g] at hb; have : blen 0 = 0 := by decide
                                       omega
    have hlo := blen_le h0
    have hhi := blen_lt (P + Z).natAbs
    rw [hb] at hlo hhi
    obtain ⟨A, hA⟩ : ∃ A, A = 2 ^ (k - 1) := ⟨_, rfl⟩
    have hAp : 0 < A := by rw [hA]; exact pow_pos2 _
    have hk2 : 2 ^ k = 2 * A := by rw [hA, ← Nat.pow_succ']; exact congrArg (fun t => 2 ^ t) (by omega)
    rw [show 53 + k - 1 = 53 + (k - 1) by omega, Nat.pow_add, ← hA, show (2 : Nat) ^ 53 = 9007199254740992 from rfl] at hlo
    rw [show 53 + k = 54 + (k - 1) by omega, Nat.pow_add, ← hA, show (2 : Nat) ^ 54 = 18014398509481984 from rfl] at hhi
    have hiA : 2 ^ i ≤ A := by rw [hA]; exact pow_le (by omega)
    have hPA : P.natAbs < 281474976710656 * A := by omega
    have hZlo : 8725724278030336 * A ≤ Z.natAbs := by omega
    have hj : k + 28 ≤ j := by
      rcases Nat.lt_or_ge j (k + 28) with c | c
      · exfalso
        have h1 : 2 ^ j ≤ 2 ^ (k - 1 + 28) := pow_le (by omega)
        rw [Nat.pow_add, ← hA, show (2 : Nat) ^ 28 = 268435456 from rfl] at h1
        omega
      · exact c
    obtain ⟨a, ha⟩ := mult_le (show k ≤ j by omega) hZ
    have hl := lost_le hs (Int.add_comm _ _) ha
    have sa := hs.a
    have sb := hs.b
    rw [hk2] at sa sb
    have hk'1 : k' ≤ k + 1 := by
      rcases hv.lo with q | q
      · omega
      · have : blen (s - P).natAbs ≤ 54 + k := by
          rw [blen_le_iff, show 54 + k = 55 + (k - 1) by omega, Nat.pow_add, ← hA, show (2 : Nat) ^ 55 = 36028797018963968 from rfl]
          omega
        omega
    have hk'2 : k - 1 ≤ k' := by
      have h1 : 52 + k ≤ blen (s - P).natAbs := by
        rcases Nat.lt_or_ge (blen (s - P).natAbs) (52 + k) with c | c
        · exfalso
          have h2 := blen_lt (s - P).natAbs
          have h3 : 2 ^ blen (s - P).natAbs ≤ 2 ^ (52 + (k - 1)) := pow_le (by omega)
          rw [Nat.pow_add, ← hA, show (2 : Nat) ^ 52 = 4503599627370496 from rfl] at h3
          omega
        · exact c
      have := hv.hi
      omega
    obtain ⟨a', ha'⟩ := mult_le (show k' ≤ j by omega) hZ
    have hl' : (s - P - v).natAbs ≤ (s - P - Z).natAbs := lost_le hv (B := Z) (L := s - P - Z) (by omega) ha'
    -- all are multiples
    obtain ⟨v1, hv1⟩ := mult_le hk'2 hv.rr
    obtain ⟨s1, hs1⟩ := mult_le (show k - 1 ≤ k by omega) hs.rr
    obtain ⟨z1, hz1⟩ := mult_le (show k - 1 ≤ j by omega) hZ
    obtain ⟨v2, hv2⟩ := mult_le (show i ≤ k - 1 by omega) hv1
    obtain ⟨s2, hs2⟩ := mult_le (show i ≤ k - 1 by omega) hs1
    obtain ⟨z2, hz2⟩ := mult_le (show i ≤ j by omega) hZ
    obtain ⟨t1, t2, t3, t4⟩ := tiny_b (s := s) (v := v) (P := P) (Z := Z) (by clear hl' hPA mP; omega) (by omega) hPA mP
    rw [hA] at t1 t3
    refine ⟨?_, ?_, ?_, ?_⟩
    · exact fit_of (n := s1 - v1) (t := k - 1) (by rw [Int.sub_mul, ← hs1, ← hv1]) t1
    · exact fit_of (n := p - (s2 - v2)) (t := i) (by rw [Int.sub_mul, Int.sub_mul, ← hs2, ← hv2, ← hP]) t2
    · exact fit_of (n := z1 - v1) (t := k - 1) (by rw [Int.sub_mul, ← hz1, ← hv1]) t3
    · exact fit_of (n := p + z2 - s2) (t := i) (by rw [Int.sub_mul, Int.add_mul, ← hs2, ← hz2, ← hP]) t4
end
end Go.Proofs.YfwaawGreat
