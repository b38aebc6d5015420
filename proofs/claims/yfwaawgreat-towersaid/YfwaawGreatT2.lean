/-
  The table is built.
-/
import Derived.Test.YfwaawGreatT1
namespace Go.Proofs.YfwaawGreat
open Go.Aw
set_option linter.unusedVariables false
set_option linter.unusedSimpArgs false

theorem build_ends {N : Nat} (hN : 360 ≤ N) : ∃ t, F11 N = some t := by
  unfold F11 F11_1 F11_2
  obtain ⟨r, hr, _⟩ := iter_inv (L := F11_L4 N (5#64).toNat)
    (fun v : Nat × Int × (Nat → BitVec 64 × BitVec 64) × (Nat → Int) => ∃ i : Nat, i ≤ 349 ∧ v.2.1 = i ∧ v.1 = 5 ^ i)
    (fun v => 349 - v.2.1.toNat)
    (fun _ => True)
    (by
      rintro ⟨p, q, a, b⟩ ⟨i, h1, h2, h3⟩
      simp only at h2 h3
      subst h2 h3
      unfold F11_L4 F11_L4b F11_5
      simp only []
      by_cases hi : i ≤ 348
      · rw [bt (decide_eq_true (show (i : Int) ≤ 348 by omega))]
        left
        have w1 : w16 (0 - (i : Int)) = -(i : Int) := by rw [w16_id (by omega)]; omega
        have w2 : w16 (348 - (i : Int)) = 348 - i := w16_id (by omega)
        have hd : ∃ hi lo x, F21 N (5 ^ i) (-(i : Int)) = some (hi, lo, x) := by
          rcases Nat.eq_zero_or_pos i with k | k
          · obtain ⟨hi, lo, x, f1, _⟩ := F21_pos (N := N) (k := 0) (by omega)
            rw [k]; exact ⟨hi, lo, x, f1⟩
          · obtain ⟨hi, lo, x, f1, _⟩ := F21_neg (N := N) (k := i) k hi
            exact ⟨hi, lo, x, f1⟩
        obtain ⟨hh, ll, xx, f1⟩ := hd
        rw [w1, f1]
        simp only [Option.bind_some]
        rw [w2, in696 (by omega) (by omega), bt rfl, bt rfl]
        have hb := blen_5 i
        have h8 : ∀ a' b', ∃ x', F11_8 N (5#64).toNat (5 ^ i) (i : Int) a' b' = some (.inl x') ∧ (∃ j : Nat, j ≤ 349 ∧ x'.2.1 = j ∧ x'.1 = 5 ^ j) ∧ 349 - x'.2.1.toNat < 349 - (i : Int).toNat := by
          intro a' b'
          unfold F11_8 F11_6
          rw [bt (limand (by omega) (by decide)), w16_id (by omega)]
          refine ⟨_, rfl, ⟨i + 1, by omega, by simp only []; omega, ?_⟩, by simp only []; omega⟩
          show 5 ^ i * 5 = 5 ^ (i + 1)
          rw [Nat.pow_succ]
        unfold F11_7 F11_9
        by_cases h7 : i ≤ 347
        · have w3 : w16 (348 + (i : Int)) = 348 + i := w16_id (by omega)
          obtain ⟨hi2, lo2, x2, f2, _⟩ := F21_pos (N := N) (k := i) h7
          rw [bt (decide_eq_true (show (i : Int) ≤ 347 by omega)), f2]
          simp only [Option.bind_some]
          rw [w3, in696 (by omega) (by omega), bt rfl, bt rfl]
          exact h8 _ _
        · rw [bf (decide_eq_false (show ¬ (i : Int) ≤ 347 by omega))]
          exact h8 _ _
      · rw [bf (decide_eq_false (show ¬ (i : Int) ≤ 348 by omega))]
        exact .inr ⟨_, rfl, trivial⟩)
    N ((1#64).toNat, 0, (fun _ => (0#64, 0#64)), (fun _ => 0)) ⟨0, by omega, rfl, rfl⟩ (by show 349 - (0 : Int).toNat < N; omega)
  exact ⟨r, hr⟩
end Go.Proofs.YfwaawGreat
