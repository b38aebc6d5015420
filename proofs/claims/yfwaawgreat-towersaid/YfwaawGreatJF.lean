/-
  native.Sqrt32: a root rounded twice is rounded once.
-/
import Derived.Test.YfwaawGreatJC
namespace Go.Proofs.YfwaawGreat
open Go.Aw
set_option linter.unusedVariables false
set_option linter.unusedSimpArgs false

section
variable {X Y V W N : Nat} {s t : Bool} {i : Int} {e m mode : BitVec 8} {f : Ieee.Format}
/-- The arithmetic: no midpoint of singles lies as near to a root as a double's unit. -/
theorem no_mid {J R X' c sg w : Nat} (hR1 : R * R ≤ X') (hR2 : X' < (R + 1) * (R + 1)) (hJ : J = R ∨ J = R + 1) (hJl : 2 ^ 60 ≤ J) (hJh : J ≤ 2 ^ 61) (hX : X' = 2 ^ 97 * c) (hsg : sg < 16777216) (hsg2 : 8388608 ≤ sg)
    (h1 : (2 * sg + 1) * 2 ^ w ≤ J + 512) (h2 : J ≤ (2 * sg + 1) * 2 ^ w + 512) : False := by
  have p60 : (2 : Nat) ^ 60 = 1152921504606846976 := rfl
  have p61 : (2 : Nat) ^ 61 = 2305843009213693952 := rfl
  rw [p60] at hJl
  rw [p61] at hJh
  obtain ⟨M, hM⟩ : ∃ M, M = (2 * sg + 1) * 2 ^ w := ⟨_, rfl⟩
  rw [← hM] at h1 h2
  -- the place
  have hw1 : 36 ≤ w := by
    rcases Nat.lt_or_ge w 36 with g | g
    · exfalso
      have h3 : 2 ^ w ≤ 2 ^ 35 := pow_le (by omega)
      have h4 : (2 * sg + 1) * 2 ^ w ≤ 33554431 * 2 ^ 35 := Nat.mul_le_mul (by omega) h3
      have p35 : 33554431 * (2 : Nat) ^ 35 = 1152921470247108608 := by decide
      rw [← hM, p35] at h4
      omega
    · exact g
  have hw2 : w ≤ 37 := by
    rcases Nat.lt_or_ge 37 w with g | g
    · exfalso
      have h3 : 2 ^ 38 ≤ 2 ^ w := pow_le (by omega)
      have h4 : 16777217 * 2 ^ 38 ≤ (2 * sg + 1) * 2 ^ w := Nat.mul_le_mul (by omega) h3
      have p38 : 16777217 * (2 : Nat) ^ 38 = 4611686293305294848 := by decide
      rw [← hM, p38] at h4
      omega
    · exact g
  -- both are multiples of 2^72
  obtain ⟨v, hv⟩ : ∃ v, v + 36 = w := ⟨w - 36, by omega⟩
  obtain ⟨o, ho⟩ : ∃ o, o = (2 * sg + 1) * (2 * sg + 1) := ⟨_, rfl⟩
  have hodd : o % 2 = 1 := by rw [ho, Nat.mul_mod, show (2 * sg + 1) % 2 = 1 by omega]
  have hM2 : M * M = 2 ^ 72 * (o * 2 ^ (2 * v)) := by
    rw [hM, ho]
    have e1 : 2 ^ w * 2 ^ w = 2 ^ 72 * 2 ^ (2 * v) := by rw [← Nat.pow_add, ← Nat.pow_add]; exact congrArg (fun z => 2 ^ z) (by omega)
    calc (2 * sg + 1) * 2 ^ w * ((2 * sg + 1) * 2 ^ w) = (2 * sg + 1) * (2 * sg + 1) * (2 ^ w * 2 ^ w) := by
          generalize 2 ^ w = q; grind
      _ = (2 * sg + 1) * (2 * sg + 1) * (2 ^ 72 * 2 ^ (2 * v)) := by rw [e1]
      _ = 2 ^ 72 * ((2 * sg + 1) * (2 * sg + 1) * 2 ^ (2 * v)) := by rw [Nat.mul_left_comm]
  have hX2 : X' = 2 ^ 72 * (2 ^ 25 * c) := by rw [hX, ← Nat.mul_assoc, ← Nat.pow_add]
  -- they are nearer than 2^72
  have hMb : M ≤ 2305843009213694464 := by omega
  have hRl : M ≤ R + 513 := by omega
  have hRh : R ≤ M + 512 := by omega
  have hup : X' < M * M + 4722366482869645213696 := by
    have h3 : (R + 1) * (R + 1) ≤ (M + 513) * (M + 513) := Nat.mul_le_mul (by omega) (by omega)
    have h4 : (M + 513) * (M + 513) = M * M + 1026 * M + 263169 := by grind
    omega
  have hlo : M * M < X' + 4722366482869645213696 := by
    have h3 : M * M ≤ (R + 513) * (R + 513) := Nat.mul_le_mul hRl hRl
    have h4 : (R + 513) * (R + 513) = R * R + 1026 * R + 263169 := by grind
    omega
  have p72 : (2 : Nat) ^ 72 = 4722366482869645213696 := by decide
  rw [hM2, hX2, p72] at hup hlo
  have heq : 2 ^ 25 * c = o * 2 ^ (2 * v) := by
    generalize 2 ^ 25 * c = A at *
    generalize o * 2 ^ (2 * v) = B at *
    omega
  have hv2 : v = 0 ∨ v = 1 := by omega
  rcases hv2 with g | g
  · rw [g] at heq
    have : (2 : Nat) ^ 25 = 33554432 := rfl
    rw [this, Nat.mul_zero, Nat.pow_zero, Nat.mul_one] at heq
    omega
  · rw [g] at heq
    have h25 : (2 : Nat) ^ 25 = 33554432 := rfl
    have h2 : (2 : Nat) ^ (2 * 1) = 4 := rfl
    rw [h25, h2] at heq
    omega
/-- Comparing with exponents, in one unit. -/
theorem zle {A B L : Nat} {p q : Int} (hp : -(L : Int) ≤ p) (hq : -(L : Int) ≤ q) : A * 2 ^ p.toNat * 2 ^ (-q).toNat ≤ B * 2 ^ q.toNat * 2 ^ (-p).toNat ↔ A * 2 ^ (p + L).toNat ≤ B * 2 ^ (q + L).toNat := by
  have e1 : A * 2 ^ p.toNat * 2 ^ (-q).toNat * 2 ^ L = A * 2 ^ (p + L).toNat * 2 ^ ((-p).toNat + (-q).toNat) := by
    simp only [Nat.mul_assoc, ← Nat.pow_add]; exact congrArg (fun z => A * 2 ^ z) (by omega)
  have e2 : B * 2 ^ q.toNat * 2 ^ (-p).toNat * 2 ^ L = B * 2 ^ (q + L).toNat * 2 ^ ((-p).toNat + (-q).toNat) := by
    simp only [Nat.mul_assoc, ← Nat.pow_add]; exact congrArg (fun z => B * 2 ^ z) (by omega)
  have hl := pow_pos2 L
  have hm := pow_pos2 ((-p).toNat + (-q).toNat)
  constructor
  · intro h
    have := Nat.mul_le_mul_right (2 ^ L) h
    rw [e1, e2] at this
    exact Nat.le_of_mul_le_mul_right this hm
  · intro h
    have := Nat.mul_le_mul_right (2 ^ ((-p).toNat + (-q).toNat)) h
    rw [← e1, ← e2] at this
    exact Nat.le_of_mul_le_mul_right this hl
/-- A rung's parts. -/
theorem rung_parts (M P : Nat) : ∃ ex sig, P = ex * 2 ^ M + sig ∧ sig < 2 ^ (M + 1) ∧ (ex = 0 ∨ 2 ^ M ≤ sig) := by
  have hp := pow_pos2 M
  by_cases c : P < 2 ^ M
  · exact ⟨0, P, by rw [Nat.zero_mul, Nat.zero_add], by rw [Nat.pow_succ]; omega, Or.inl rfl⟩
  · have h1 := Nat.div_add_mod P (2 ^ M)
    have h2 := Nat.mod_lt P hp
    have h3 : 1 ≤ P / 2 ^ M := (Nat.le_div_iff_mul_le hp).2 (by omega)
    obtain ⟨q, hq⟩ : ∃ q, P / 2 ^ M = q + 1 := ⟨P / 2 ^ M - 1, by omega⟩
    refine ⟨q, P % 2 ^ M + 2 ^ M, ?_, by rw [Nat.pow_succ]; omega, Or.inr (by omega)⟩
    rw [hq, Nat.mul_add, Nat.mul_one, Nat.mul_comm] at h1
    omega
/-- No midpoint between two fractions: they round alike. -/
theorem UP_gap (h : Fm e m) {n1 d1 n2 d2 : Nat} (hn1 : n1 ≠ 0) (hd1 : d1 ≠ 0) (hn2 : n2 ≠ 0) (hd2 : d2 ≠ 0) (hle : n1 * d2 ≤ n2 * d1)
    (hno : ∀ sig ex : Nat, sig < 2 ^ (m.toNat + 1) → (ex = 0 ∨ 2 ^ m.toNat ≤ sig) → ∀ t : Int, t = ex - (bia e.toNat : Int) - m.toNat → n1 * 2 ^ (-t).toNat ≤ (2 * sig + 1) * 2 ^ t.toNat * d1 → (2 * sig + 1) * 2 ^ t.toNat * d2 ≤ n2 * 2 ^ (-t).toNat → False) : UP e m n1 d1 = UP e m n2 d2 := by
  have hm := UP_mono h hn1 hd1 hn2 hd2 hle
  rcases Nat.eq_or_lt_of_le hm with g | g
  · exact g
  · exfalso
    obtain ⟨ex, sig, p1, p2, p3⟩ := rung_parts m.toNat (UP e m n1 d1)
    obtain ⟨t, ht⟩ : ∃ t : Int, t = ex - (bia e.toNat : Int) - m.toNat := ⟨_, rfl⟩
    have r1 := rb h p2 p3 ht hn1 hd1
    have r2 := rb h p2 p3 ht hn2 hd2
    refine hno sig ex p2 p3 t ht ?_ ?_
    · rcases Nat.lt_or_ge ((2 * sig + 1) * 2 ^ t.toNat * d1) (n1 * 2 ^ (-t).toNat) with q | q
      · have := r1.2 (Or.inl q); omega
      · exact q
    · rcases r2.1 (by omega) with q | q
      · exact Nat.le_of_lt q
      · exact Nat.le_of_eq q.1
end
end Go.Proofs.YfwaawGreat
