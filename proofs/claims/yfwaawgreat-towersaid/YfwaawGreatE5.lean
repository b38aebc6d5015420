/-
  Total = man * 10^q to nearest.
-/
import Derived.Test.YfwaawGreatE4
namespace Go.Proofs.YfwaawGreat
open Go.Aw
set_option linter.unusedVariables false
set_option linter.unusedSimpArgs false
section
variable {e m mode : BitVec 8} {neg : Bool}

/-- No half-way point lies in what the entry lacks. -/
theorem nohalf {hi lo : BitVec 64} {x q : Int} (he : EN hi lo x q) {M l : Nat} {y : Int} (hy : y = x - l) (hM : M ≠ 0) (hw : M * 2 ^ l < 18446744073709551616) (hq1 : -348 ≤ q) (hq2 : q ≤ 347)
    (hq : 56 ≤ q ∨ q ≤ -28 ∨ (q < 0 ∧ -27 ≤ q ∧ M % 5 ^ (-q).toNat ≠ 0)) {h : Nat} (h1 : M * 2 ^ l * v2 hi lo < h * 2 ^ 137) :
    M * 10 ^ q.toNat * 2 ^ (-y).toNat < h * 2 ^ 137 * 2 ^ y.toNat * 10 ^ (-q).toNat := by
  rcases Nat.lt_or_ge (M * 10 ^ q.toNat * 2 ^ (-y).toNat) (h * 2 ^ 137 * 2 ^ y.toNat * 10 ^ (-q).toNat) with c | c
  · exact c
  · exfalso
    have hw0 : 0 < M * 2 ^ l := Nat.mul_pos (by omega) (pow_pos2 l)
    by_cases hpos : 0 ≤ q
    · -- upwards
      obtain ⟨k, hk⟩ : ∃ k : Nat, q = k := ⟨q.toNat, by omega⟩
      have hb128 : 129 ≤ blen (5 ^ k) := by
        have h5 : 5 ^ 56 ≤ 5 ^ k := Nat.pow_le_pow_right (by decide) (by omega)
        have h6 : (2 : Nat) ^ 128 ≤ 5 ^ 56 := by decide
        rcases Nat.lt_or_ge (blen (5 ^ k)) 129 with d | d
        · have := blen_le_iff.1 (show blen (5 ^ k) ≤ 128 by omega); omega
        · exact d
      obtain ⟨hT, hx⟩ := he.pos k hk (by omega)
      obtain ⟨d, hd⟩ : ∃ d, d = blen (5 ^ k) - 128 := ⟨_, rfl⟩
      rw [← hd] at hT hx
      obtain ⟨ce, hce⟩ := certP (q := k) (by omega) (by omega)
      unfold okP at hce
      rw [← hd, show 9 + blen (5 ^ k) = 137 + d from by omega] at hce
      have hck := (ck_ok hce (m := M * 2 ^ l) (k := h) hw0 (by rw [p64]; exact hw)).1
      rw [show (-q).toNat = 0 from by omega, show q.toNat = k from by omega, Nat.pow_zero, Nat.mul_one] at c
      -- h * 2^(137+d) ≤ w * 5^k
      have hid : 2 ^ y.toNat * 2 ^ l = 2 ^ d * (2 ^ k * 2 ^ (-y).toNat) := by
        simp only [← Nat.pow_add]
        exact congrArg (fun t => 2 ^ t) (by omega)
      have hle : h * 2 ^ (137 + d) ≤ M * 2 ^ l * 5 ^ k := by
        refine Nat.le_of_mul_le_mul_right (c := 2 ^ k * 2 ^ (-y).toNat) ?_ (Nat.mul_pos (pow_pos2 _) (pow_pos2 _))
        have c2 := Nat.mul_le_mul_right (2 ^ l) c
        have e1 : h * 2 ^ 137 * 2 ^ y.toNat * 2 ^ l = h * 2 ^ (137 + d) * (2 ^ k * 2 ^ (-y).toNat) := by
          rw [Nat.pow_add, Nat.mul_assoc (h * 2 ^ 137), hid, ← Nat.mul_assoc, Nat.mul_assoc h]
        have e2 : M * 10 ^ k * 2 ^ (-y).toNat * 2 ^ l = M * 2 ^ l * 5 ^ k * (2 ^ k * 2 ^ (-y).toNat) := by
          rw [← ten_eq]
          generalize 2 ^ (-y).toNat = A1
          generalize 2 ^ k = A2
          generalize 2 ^ l = A3
          generalize 5 ^ k = A4
          grind
        rw [e1, e2] at c2
        exact c2
      have h2 := hck hle
      have hdm := Nat.div_add_mod (5 ^ k) (2 ^ d)
      rw [← hT] at hdm
      have h3 := Nat.mul_lt_mul_of_pos_right h1 (pow_pos2 d)
      rw [Nat.mul_assoc h, ← Nat.pow_add] at h3
      have e3 : M * 2 ^ l * 5 ^ k = M * 2 ^ l * v2 hi lo * 2 ^ d + M * 2 ^ l * (5 ^ k % 2 ^ d) := by
        have : M * 2 ^ l * 5 ^ k = M * 2 ^ l * (2 ^ d * v2 hi lo + 5 ^ k % 2 ^ d) := by rw [hdm]
        rw [this, Nat.mul_add, Nat.mul_comm (2 ^ d), ← Nat.mul_assoc]
      rw [e3] at h2
      have h4 : M * 2 ^ l * (5 ^ k % 2 ^ d) ≤ 2 ^ 64 * (5 ^ k % 2 ^ d) := Nat.mul_le_mul_right _ (by rw [p64]; omega)
      omega
    · -- downwards
      obtain ⟨k, hk⟩ : ∃ k : Nat, q = -(k : Int) := ⟨(-q).toNat, by omega⟩
      obtain ⟨hT, hx⟩ := he.neg k (by omega) hk
      obtain ⟨bl, hbl⟩ : ∃ bl, bl = blen (5 ^ k) := ⟨_, rfl⟩
      rw [← hbl] at hT hx
      have hp5 : 0 < 5 ^ k := Nat.pow_pos (by decide)
      rw [show (-q).toNat = k from by omega, show q.toNat = 0 from by omega, show y.toNat = 0 from by omega, Nat.pow_zero, Nat.mul_one, Nat.mul_one] at c
      have hyn : (-y).toNat = k + (l + (127 + bl)) := by omega
      -- h * 2^137 * 5^k ≤ w * 2^K
      have hle : h * 2 ^ 137 * 5 ^ k ≤ M * 2 ^ l * 2 ^ (127 + bl) := by
        refine Nat.le_of_mul_le_mul_right (c := 2 ^ k) ?_ (pow_pos2 _)
        rw [hyn, Nat.pow_add, Nat.pow_add] at c
        have e1 : h * 2 ^ 137 * 5 ^ k * 2 ^ k = h * 2 ^ 137 * 10 ^ k := by rw [← ten_eq, Nat.mul_assoc]
        have e2 : M * (2 ^ k * (2 ^ l * 2 ^ (127 + bl))) = M * 2 ^ l * 2 ^ (127 + bl) * 2 ^ k := by
          generalize 2 ^ (127 + bl) = A1
          generalize 2 ^ k = A2
          generalize 2 ^ l = A3
          grind
        rw [e1, ← e2]
        exact c
      have hdm := Nat.div_add_mod (2 ^ (127 + bl)) (5 ^ k)
      rw [← hT] at hdm
      have hml := Nat.mod_lt (2 ^ (127 + bl)) hp5
      have h3 := Nat.mul_lt_mul_of_pos_right h1 hp5
      have e3 : M * 2 ^ l * 2 ^ (127 + bl) = M * 2 ^ l * v2 hi lo * 5 ^ k + M * 2 ^ l * (2 ^ (127 + bl) % 5 ^ k) := by
        have : M * 2 ^ l * 2 ^ (127 + bl) = M * 2 ^ l * (5 ^ k * v2 hi lo + 2 ^ (127 + bl) % 5 ^ k) := by rw [hdm]
        rw [this, Nat.mul_add, Nat.mul_comm (5 ^ k), ← Nat.mul_assoc]
      have h4 : M * 2 ^ l * (2 ^ (127 + bl) % 5 ^ k) ≤ 2 ^ 64 * (2 ^ (127 + bl) % 5 ^ k) := Nat.mul_le_mul_right _ (by rw [p64]; omega)
      by_cases hk28 : 28 ≤ k
      · obtain ⟨ce, hce⟩ := certN (q := k) hk28 (by omega)
        unfold okN at hce
        rw [← hbl] at hce
        have hb10 : 10 ≤ bl := by
          have h5 : 5 ^ 28 ≤ 5 ^ k := Nat.pow_le_pow_right (by decide) hk28
          have h6 : (2 : Nat) ^ 10 ≤ 5 ^ 28 := by decide
          rcases Nat.lt_or_ge bl 10 with d | d
          · have := blen_le_iff.1 (show blen (5 ^ k) ≤ 10 by omega); omega
          · exact d
        have hK : 2 ^ (127 + bl) = 2 ^ (bl - 10) * 2 ^ 137 := by rw [← Nat.pow_add]; exact congrArg (fun t => 2 ^ t) (by omega)
        have hle2 : h * 5 ^ k ≤ M * 2 ^ l * 2 ^ (bl - 10) := by
          refine Nat.le_of_mul_le_mul_right (c := 2 ^ 137) ?_ (pow_pos2 _)
          rw [Nat.mul_assoc (M * 2 ^ l), ← hK]
          have : h * 5 ^ k * 2 ^ 137 = h * 2 ^ 137 * 5 ^ k := Nat.mul_right_comm _ _ _
          rw [this]; exact hle
        have h2 := (ck_ok hce (m := M * 2 ^ l) (k := h) hw0 (by rw [p64]; exact hw)).1 hle2
        have h5 := Nat.mul_le_mul_right (2 ^ 137) h2
        rw [Nat.mul_assoc (M * 2 ^ l), ← hK, e3, Nat.add_mul] at h5
        have h6 : h * 5 ^ k * 2 ^ 137 = h * 2 ^ 137 * 5 ^ k := Nat.mul_right_comm _ _ _
        rw [h6] at h5
        have h7 := Nat.div_add_mod (2 ^ 64 * (2 ^ (127 + bl) % 5 ^ k)) (2 ^ 137)
        have h8 := Nat.mod_lt (2 ^ 64 * (2 ^ (127 + bl) % 5 ^ k)) (pow_pos2 137)
        rw [Nat.add_mul, Nat.one_mul, Nat.mul_comm (2 ^ 64 * (2 ^ (127 + bl) % 5 ^ k) / 2 ^ 137)] at h5
        omega
      · -- small powers: only where 5^k divides
        have hdiv : M % 5 ^ k ≠ 0 := by
          rcases hq with k1 | k1 | ⟨_, _, k1⟩
          · omega
          · omega
          · rw [show (-q).toNat = k from by omega] at k1; exact k1
        have hb3 : 3 ≤ bl := by
          have h5 : 5 ^ 1 ≤ 5 ^ k := Nat.pow_le_pow_right (by decide) (by omega)
          rcases Nat.lt_or_ge bl 3 with d | d
          · have := blen_le_iff.1 (show blen (5 ^ k) ≤ 2 by omega); omega
          · exact d
        have h527 : 5 ^ k ≤ 5 ^ 27 := Nat.pow_le_pow_right (by decide) (by omega)
        have h527' : (5 : Nat) ^ 27 < 2 ^ 63 := by decide
        -- the difference is a multiple of 2^130 and below 2^127
        obtain ⟨Z, hZ⟩ : ∃ Z, M * 2 ^ l * 2 ^ (127 + bl) = h * 2 ^ 137 * 5 ^ k + Z := ⟨M * 2 ^ l * 2 ^ (127 + bl) - h * 2 ^ 137 * 5 ^ k, by omega⟩
        have hZl : Z < 2 ^ 130 := by
          have a1 : 2 ^ 64 * (2 ^ (127 + bl) % 5 ^ k) ≤ 2 ^ 64 * 2 ^ 63 := Nat.mul_le_mul_left _ (by omega)
          rw [← Nat.pow_add] at a1
          have a2 : 2 ^ (64 + 63) < 2 ^ 130 := pow_lt (by decide)
          omega
        have hd1 : 2 ^ 130 ∣ M * 2 ^ l * 2 ^ (127 + bl) := Nat.dvd_trans (Nat.pow_dvd_pow 2 (by omega)) (Nat.dvd_mul_left _ _)
        have hd2 : 2 ^ 130 ∣ h * 2 ^ 137 * 5 ^ k := Nat.dvd_trans (Nat.pow_dvd_pow 2 (by omega)) (Nat.dvd_trans (Nat.dvd_mul_left (2 ^ 137) h) (Nat.dvd_mul_right _ _))
        have hd3 : 2 ^ 130 ∣ Z := by
          rw [hZ] at hd1
          exact (Nat.dvd_add_right hd2).1 hd1
        have hZ0 : Z = 0 := Nat.eq_zero_of_dvd_of_lt hd3 hZl
        rw [hZ0, Nat.add_zero] at hZ
        have hd5 : 5 ^ k ∣ M * 2 ^ (l + (127 + bl)) := by
          rw [Nat.pow_add, ← Nat.mul_assoc, hZ]
          exact Nat.dvd_mul_left _ _
        have hco : Nat.Coprime (5 ^ k) (2 ^ (l + (127 + bl))) := Nat.Coprime.pow _ _ (by decide)
        exact hdiv (Nat.mod_eq_zero_of_dvd (hco.dvd_of_dvd_mul_right hd5))

/-- A row of floors from one floor. -/
theorem floors {num den P F0 u : Nat} {s0 so ine : Bool} {y : Int} (hd : 0 < den) (hF : fq num den y = F0) (hs : eq num den y = s0) (hP : P ≤ F0) (hu : 127 ≤ u) (hno : ∀ h, P < h * 2 ^ 137 → F0 < h * 2 ^ 137)
    (hin : ine = true → P < F0 ∨ s0 = true) (hex : ine = false → F0 = P ∧ s0 = false) (hso : so = (decide (P % 2 ^ u ≠ 0) || ine)) {j : Nat} (hj : 10 ≤ j) :
    fq num den (y + u + j) = P / 2 ^ u / 2 ^ j ∧ eq num den (y + u + j) = (decide (P / 2 ^ u % 2 ^ j ≠ 0) || so) := by
  have hc := fq_comp (num := num) hd y (u + j)
  rw [hF, hs] at hc
  rw [show y + (u : Int) + j = y + ((u + j : Nat) : Int) from by omega, hc.1, hc.2]
  have hpc := pow_pos2 (u + j)
  have hmul : ∀ t : Nat, t * 2 ^ (u + j) = t * 2 ^ (u + j - 137) * 2 ^ 137 := by
    intro t
    rw [Nat.mul_assoc, ← Nat.pow_add]
    exact congrArg (fun z => t * 2 ^ z) (by omega)
  have e1 : F0 / 2 ^ (u + j) = P / 2 ^ (u + j) := by
    have h1 : P / 2 ^ (u + j) ≤ F0 / 2 ^ (u + j) := Nat.div_le_div_right hP
    rcases Nat.lt_or_ge (P / 2 ^ (u + j)) (F0 / 2 ^ (u + j)) with k | k
    · exfalso
      have h2 : P < F0 / 2 ^ (u + j) * 2 ^ (u + j) := (Nat.div_lt_iff_lt_mul hpc).1 k
      have h3 := Nat.div_mul_le_self F0 (2 ^ (u + j))
      rw [hmul] at h2 h3
      have := hno _ h2
      omega
    · omega
  have e2 : P / 2 ^ (u + j) = P / 2 ^ u / 2 ^ j := by rw [Nat.pow_add, Nat.div_div_eq_div_mul]
  refine ⟨by rw [e1, e2], ?_⟩
  rw [hso]
  have e3 : P % 2 ^ (u + j) = P % 2 ^ u + 2 ^ u * (P / 2 ^ u % 2 ^ j) := by rw [Nat.pow_add, Nat.mod_mul]
  have pu := pow_pos2 u
  cases ine with
  | true =>
    rw [Bool.or_true, Bool.or_true]
    rcases Bool.eq_false_or_eq_true s0 with k | k
    · rw [k]; rfl
    · rw [k, Bool.false_or]
      refine decide_eq_true ?_
      intro hz
      have hlt : P < F0 := by
        rcases hin rfl with q | q
        · exact q
        · rw [k] at q; cases q
      have h3 := Nat.div_add_mod F0 (2 ^ (u + j))
      rw [hz, Nat.add_zero, Nat.mul_comm, hmul] at h3
      have := hno (F0 / 2 ^ (u + j) * 2 ^ (u + j - 137)) (by omega)
      omega
  | false =>
    obtain ⟨k1, k2⟩ := hex rfl
    rw [k1, k2, Bool.false_or, Bool.or_false, ← Bool.decide_or]
    refine decide_eq_decide.2 ?_
    rw [e3]
    constructor
    · intro h1
      by_cases h2 : P / 2 ^ u % 2 ^ j = 0
      · rw [h2, Nat.mul_zero, Nat.add_zero] at h1; exact .inr h1
      · exact .inl h2
    · rintro (h1 | h1) h2
      · have : 2 ^ u * (P / 2 ^ u % 2 ^ j) = 0 := by omega
        rcases Nat.mul_eq_zero.1 this with q | q
        · omega
        · exact h1 q
      · omega
end
end Go.Proofs.YfwaawGreat
