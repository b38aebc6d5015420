/-
  ryu's digits: the numbers behind the loops.
-/
import Derived.Test.YfwaawGreatK8
namespace Go.Proofs.YfwaawGreat
open Go.Aw
set_option linter.unusedVariables false
set_option linter.unusedSimpArgs false

section
variable {l c h A B HH : Nat} {ev : Prop}
/-- What the three ends are to each other. -/
structure Ends (l c h A B HH : Nat) (ev : Prop) : Prop where
  a : 10 * B ≤ A
  b : 0 < B
  l0 : 2 ≤ l
  c4 : 4 ≤ c
  lc : l < c
  cl : c ≤ l + 2
  hc : h = c + 2
  hh : ∀ n, n ≤ HH ↔ (n * B < h * A ∨ (h * A = n * B ∧ ev))
  dig : c < 10000000000000000 * (h - l)
def Pj (l A B HH j : Nat) : Prop := l * A / (B * 10 ^ j) < HH / 10 ^ j
theorem Ends.hj (H : Ends l c h A B HH ev) (j n : Nat) : n ≤ HH / 10 ^ j ↔ (n * (B * 10 ^ j) < h * A ∨ (h * A = n * (B * 10 ^ j) ∧ ev)) := by
  rw [Nat.le_div_iff_mul_le (pt_pos j), H.hh, show n * 10 ^ j * B = n * (B * 10 ^ j) by rw [Nat.mul_assoc, Nat.mul_comm (10 ^ j)]]
theorem Ends.U (H : Ends l c h A B HH ev) (j : Nat) : 0 < B * 10 ^ j := Nat.mul_pos H.b (pt_pos j)
theorem Ends.A0 (H : Ends l c h A B HH ev) : 0 < A := by have := H.a; have := H.b; omega
theorem div_bd {x u : Nat} (hu : 0 < u) : x / u * u ≤ x ∧ x < (x / u + 1) * u := by
  refine ⟨Nat.div_mul_le_self _ _, ?_⟩
  have := Nat.div_add_mod x u
  have := Nat.mod_lt x hu
  rw [Nat.add_mul, Nat.one_mul, Nat.mul_comm (x / u)]; omega
theorem Ends.cA (H : Ends l c h A B HH ev) : l * A < c * A ∧ c * A < h * A ∧ c * A ≤ l * A + 2 * A ∧ h * A = c * A + 2 * A := by
  have hA := H.A0
  have h1 := Nat.mul_lt_mul_of_pos_right H.lc hA
  have h2 := Nat.mul_le_mul_right A H.cl
  rw [Nat.add_mul] at h2
  have h3 : h * A = c * A + 2 * A := by rw [H.hc, Nat.add_mul]
  omega
theorem Ends.down (H : Ends l c h A B HH ev) {j n : Nat} (k : Rd l h A (B * 10 ^ j) ev n) : Pj l A B HH j ∨ (ev ∧ B * 10 ^ j ∣ l * A) := by
  have hU := H.U j
  have hd := div_bd (x := l * A) hU
  have hn := (H.hj j n).2 k.hi
  rcases k.lo with g | g
  · left
    unfold Pj
    have : l * A / (B * 10 ^ j) < n := by
      rw [Nat.div_lt_iff_lt_mul hU]; exact g
    omega
  · right
    exact ⟨g.2, ⟨n, by rw [g.1, Nat.mul_comm]⟩⟩
theorem Ends.up (H : Ends l c h A B HH ev) {j : Nat} (k : Pj l A B HH j ∨ (ev ∧ B * 10 ^ j ∣ l * A)) :
    Rd l h A (B * 10 ^ j) ev (c * A / (B * 10 ^ j)) ∨ Rd l h A (B * 10 ^ j) ev (c * A / (B * 10 ^ j) + 1) := by
  have hU := H.U j
  have hd := div_bd (x := l * A) hU
  have hc := div_bd (x := c * A) hU
  have hcA := H.cA
  rcases k with k | k
  · unfold Pj at k
    have hh := (H.hj j (l * A / (B * 10 ^ j) + 1)).1 k
    rcases Nat.lt_or_ge (c * A / (B * 10 ^ j)) (l * A / (B * 10 ^ j) + 1) with g | g
    · right
      have e : (c * A / (B * 10 ^ j) + 1) * (B * 10 ^ j) ≤ (l * A / (B * 10 ^ j) + 1) * (B * 10 ^ j) := Nat.mul_le_mul_right _ g
      refine ⟨Or.inl (by omega), ?_⟩
      rcases hh with q | q
      · exact Or.inl (by omega)
      · rcases Nat.eq_or_lt_of_le e with e2 | e2
        · exact Or.inr ⟨by omega, q.2⟩
        · exact Or.inl (by omega)
    · left
      have e : (l * A / (B * 10 ^ j) + 1) * (B * 10 ^ j) ≤ c * A / (B * 10 ^ j) * (B * 10 ^ j) := Nat.mul_le_mul_right _ g
      exact ⟨Or.inl (by omega), Or.inl (by omega)⟩
  · left
    obtain ⟨z, hz⟩ := k.2
    have hle : z ≤ c * A / (B * 10 ^ j) := by
      rw [Nat.le_div_iff_mul_le hU, Nat.mul_comm, ← hz]; omega
    have e := Nat.mul_le_mul_right (B * 10 ^ j) hle
    rw [Nat.mul_comm z, ← hz] at e
    refine ⟨?_, Or.inl (by omega)⟩
    rcases Nat.eq_or_lt_of_le e with e2 | e2
    · exact Or.inr ⟨e2, k.1⟩
    · exact Or.inl e2
theorem p10_succ (B j : Nat) : B * 10 ^ (j + 1) = B * 10 ^ j * 10 := by rw [Nat.pow_succ, Nat.mul_assoc]
theorem lev_div (x B j : Nat) : x / (B * 10 ^ (j + 1)) = x / (B * 10 ^ j) / 10 := by rw [p10_succ, Nat.div_div_eq_div_mul]
theorem lev_div' (x j : Nat) : x / 10 ^ (j + 1) = x / 10 ^ j / 10 := by rw [Nat.pow_succ, Nat.div_div_eq_div_mul]
theorem Pj_mono {j i : Nat} (hij : j ≤ i) (k : Pj l A B HH i) : Pj l A B HH j := by
  obtain ⟨d, rfl⟩ := Nat.exists_eq_add_of_le hij
  clear hij
  induction d with
  | zero => exact k
  | succ d ih =>
    refine ih ?_
    unfold Pj at *
    rw [← Nat.add_assoc, lev_div, lev_div'] at k
    omega
theorem dvd_mono {x j i : Nat} (hij : j ≤ i) (k : B * 10 ^ i ∣ x) : B * 10 ^ j ∣ x :=
  Nat.dvd_trans (Nat.mul_dvd_mul_left B (Nat.pow_dvd_pow 10 hij)) k
/-- Wide enough. -/
theorem Ends.wide (H : Ends l c h A B HH ev) {j : Nat} (k : B * 10 ^ j < (h - l) * A) : Pj l A B HH j := by
  have hU := H.U j
  have hd := div_bd (x := l * A) hU
  unfold Pj
  refine (H.hj j (l * A / (B * 10 ^ j) + 1)).2 (Or.inl ?_)
  have h1 := H.hc
  have h2 := H.lc
  have h3 : (h - l) * A = h * A - l * A := Nat.sub_mul _ _ _
  rw [Nat.add_mul, Nat.one_mul]
  omega
theorem Ends.P1 (H : Ends l c h A B HH ev) : Pj l A B HH 1 := by
  refine H.wide ?_
  have h1 := H.hc
  have h2 := H.lc
  have h3 : 3 * A ≤ (h - l) * A := Nat.mul_le_mul_right _ (by omega)
  have := H.a
  have := H.b
  omega
theorem Ends.P16 (H : Ends l c h A B HH ev) {j : Nat} (k : 1 ≤ c * A / (B * 10 ^ (j + 16))) : Pj l A B HH j := by
  refine H.wide ?_
  have h1 := (Nat.le_div_iff_mul_le (H.U _)).1 k
  rw [Nat.one_mul, Nat.pow_add, ← Nat.mul_assoc, show (10 : Nat) ^ 16 = 10000000000000000 from rfl] at h1
  have h2 := Nat.mul_lt_mul_of_pos_right H.dig H.A0
  rw [Nat.mul_assoc] at h2
  generalize (h - l) * A = Z at *
  generalize B * 10 ^ j = U at *
  omega
/-- The floor reads back unless it lies below the low end. -/
theorem Ends.rdlo (H : Ends l c h A B HH ev) (j : Nat) : Rd l h A (B * 10 ^ j) ev (c * A / (B * 10 ^ j)) ↔ ¬ (c * A / (B * 10 ^ j) = l * A / (B * 10 ^ j) ∧ ¬ (ev ∧ B * 10 ^ j ∣ l * A)) := by
  have hU := H.U j
  have hd := div_bd (x := l * A) hU
  have hc := div_bd (x := c * A) hU
  have hcA := H.cA
  have hge : l * A / (B * 10 ^ j) ≤ c * A / (B * 10 ^ j) := Nat.div_le_div_right (by omega)
  constructor
  · rintro k ⟨g1, g2⟩
    rcases k.lo with q | q
    · rw [g1] at q; omega
    · exact g2 ⟨q.2, ⟨_, by rw [q.1, Nat.mul_comm]⟩⟩
  · intro k
    refine ⟨?_, Or.inl (by omega)⟩
    rcases Nat.eq_or_lt_of_le hge with g | g
    · by_cases g2 : ev ∧ B * 10 ^ j ∣ l * A
      · right
        refine ⟨?_, g2.1⟩
        rw [← g, Nat.div_mul_cancel g2.2]
      · exact (k ⟨g.symm, g2⟩).elim
    · left
      have : (l * A / (B * 10 ^ j) + 1) * (B * 10 ^ j) ≤ c * A / (B * 10 ^ j) * (B * 10 ^ j) := Nat.mul_le_mul_right _ g
      omega
/-- Where only the floor reads back it is nearer. -/
theorem Ends.only (H : Ends l c h A B HH ev) {j : Nat} (k1 : Rd l h A (B * 10 ^ j) ev (c * A / (B * 10 ^ j))) (k2 : ¬ Rd l h A (B * 10 ^ j) ev (c * A / (B * 10 ^ j) + 1)) : near (c * A) (B * 10 ^ j) (c * A / (B * 10 ^ j)) = true := by
  have hU := H.U j
  have hc := div_bd (x := c * A) hU
  have hcA := H.cA
  unfold near
  rw [Bool.or_eq_true]
  left
  refine decide_eq_true ?_
  have e1 : (2 * (c * A / (B * 10 ^ j)) + 1) * (B * 10 ^ j) = c * A / (B * 10 ^ j) * (B * 10 ^ j) + (c * A / (B * 10 ^ j) + 1) * (B * 10 ^ j) := by rw [← Nat.add_mul]; exact congrArg (fun t => t * (B * 10 ^ j)) (by omega)
  rw [e1]
  have q : ¬ ((c * A / (B * 10 ^ j) + 1) * (B * 10 ^ j) < h * A ∨ (h * A = (c * A / (B * 10 ^ j) + 1) * (B * 10 ^ j) ∧ ev)) := fun q => k2 ⟨Or.inl (by omega), q⟩
  have k1 := k1.lo
  generalize c * A / (B * 10 ^ j) * (B * 10 ^ j) = u at *
  generalize (c * A / (B * 10 ^ j) + 1) * (B * 10 ^ j) = v at *
  by_cases g : ev
  · have q2 : h * A < v := by
      rcases Nat.lt_trichotomy v (h * A) with z | z | z
      · exact (q (Or.inl z)).elim
      · exact (q (Or.inr ⟨z.symm, g⟩)).elim
      · exact z
    omega
  · have q2 : h * A ≤ v := by
      rcases Nat.lt_or_ge v (h * A) with z | z
      · exact (q (Or.inl z)).elim
      · exact z
    have q3 : l * A < u := by
      rcases k1 with z | z
      · exact z
      · exact (g z.2).elim
    omega
/-- The last digit dropped and what is below it tell the nearer side. -/
theorem near_last {C V lo last : Nat} (hV : 0 < V) (hlo : lo = C / (V * 10)) (hl : last = C / V % 10) : near C (V * 10) lo = !(decide (5 ≤ last) && !(decide (last = 5) && decide (V ∣ C) && decide (lo % 2 = 0))) := by
  have h1 := Nat.div_add_mod C V
  have h2 := Nat.mod_lt C hV
  rw [← Nat.div_div_eq_div_mul] at hlo
  have hd : decide (V ∣ C) = decide (C % V = 0) := decide_eq_decide.2 (Nat.dvd_iff_mod_eq_zero)
  rw [hd]
  generalize C % V = r at *
  generalize C / V = w at *
  have hw : w = 10 * lo + last := by omega
  have hl9 : last ≤ 9 := by omega
  unfold near
  have e1 : 2 * C = 20 * (V * lo) + 2 * (V * last) + 2 * r := by
    rw [← h1, hw, Nat.mul_add V, ← Nat.mul_assoc V 10, Nat.mul_comm V 10, Nat.mul_assoc 10]; omega
  have e2 : (2 * lo + 1) * (V * 10) = 20 * (V * lo) + 10 * V := by
    rw [Nat.add_mul, Nat.one_mul, Nat.mul_comm (2 * lo), Nat.mul_comm V 10, Nat.mul_assoc 10, show V * (2 * lo) = 2 * (V * lo) by rw [← Nat.mul_assoc, Nat.mul_comm V, Nat.mul_assoc]]; omega
  rw [e1, e2]
  generalize V * lo = z
  rcases Nat.lt_trichotomy last 5 with c | c | c
  · have := Nat.mul_le_mul_left V (show last ≤ 4 by omega)
    rw [decide_eq_true (show 20 * z + 2 * (V * last) + 2 * r < 20 * z + 10 * V by omega), decide_eq_false (show ¬ 5 ≤ last by omega)]
    rfl
  · subst c
    rw [decide_eq_false (show ¬ 20 * z + 2 * (V * 5) + 2 * r < 20 * z + 10 * V by omega), decide_eq_true (show 5 ≤ 5 by omega), decide_eq_true (rfl : 5 = 5)]
    by_cases k : r = 0
    · rw [decide_eq_true k, decide_eq_true (show 20 * z + 2 * (V * 5) + 2 * r = 20 * z + 10 * V by omega)]
      cases decide (lo % 2 = 0) <;> rfl
    · rw [decide_eq_false k, decide_eq_false (show ¬ 20 * z + 2 * (V * 5) + 2 * r = 20 * z + 10 * V by omega)]
      rfl
  · have := Nat.mul_le_mul_left V (show 6 ≤ last by omega)
    rw [decide_eq_false (show ¬ 20 * z + 2 * (V * last) + 2 * r < 20 * z + 10 * V by omega), decide_eq_false (show ¬ 20 * z + 2 * (V * last) + 2 * r = 20 * z + 10 * V by omega), decide_eq_true (show 5 ≤ last by omega), decide_eq_false (show ¬ last = 5 by omega)]
    rfl
end
end Go.Proofs.YfwaawGreat
