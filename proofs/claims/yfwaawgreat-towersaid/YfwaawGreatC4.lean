/-
  soft = exact: neighbours, the operations.
-/
import Derived.Test.YfwaawGreatC3
namespace Go.Proofs.YfwaawGreat
open Go.Aw
set_option linter.unusedVariables false
set_option linter.unusedSimpArgs false
section
variable {e m mode : BitVec 8} {neg : Bool}

theorem nextUp_eq (h : Fm e m) (a : BitVec 64) {N : Nat} : F185 N e m a = some (F177 e m a) := by
  unfold F185 F185_1 F177 F177_1
  simp only [lt]
  rw [h.ok, Bool.not_true, bf rfl, bf rfl]
  rcases opr h a with ⟨ga, ha, ha'⟩ | ⟨na, P, ca, ea, ma, va, an, ad, ha, a4, ha', xa, alta⟩
  · rw [ha, ha']; rfl
  · rw [ha, ha']
    simp only [Option.bind_some, F185_2, F185_3, F177_2, lt, a4, cond_false]
    rw [F279_ok h xa alta]
    rfl

/-- The sign turned. -/
theorem F65_flip (h : Fm e m) (a : BitVec 64) : (F65 e m (a ^^^ F70 e m)).2.1 = (F65 e m a).2.1 ∧ ((a ^^^ F70 e m) >>> (m - 1#8).toNat &&& 1#64) = (a >>> (m - 1#8).toNat &&& 1#64) := by
  have h2 := h.e11
  have h3 := h.m2
  have h4 := h.m52
  have hb : ∀ i, i < e.toNat + m.toNat → (a ^^^ F70 e m).getLsbD i = a.getLsbD i := by
    intro i hi
    rw [BitVec.getLsbD_xor, F70_eq h]
    have : (1#64 <<< (e.toNat + m.toNat)).getLsbD i = false := by
      rw [BitVec.getLsbD_shiftLeft]; simp [hi]
    rw [this]; simp
  have hmod : (a ^^^ F70 e m).toNat % 2 ^ (e.toNat + m.toNat) = a.toNat % 2 ^ (e.toNat + m.toNat) := by
    refine Nat.eq_of_testBit_eq fun i => ?_
    rw [Nat.testBit_mod_two_pow, Nat.testBit_mod_two_pow]
    by_cases hi : i < e.toNat + m.toNat
    · have := hb i hi
      unfold BitVec.getLsbD at this
      rw [this]
    · simp [hi]
  constructor
  · rw [F65_ok h, F65_ok h]
    simp only []
    have e1 : (a ^^^ F70 e m).toNat % 2 ^ m.toNat = a.toNat % 2 ^ m.toNat := by
      rw [← Nat.mod_mod_of_dvd (a ^^^ F70 e m).toNat (Nat.pow_dvd_pow 2 (show m.toNat ≤ e.toNat + m.toNat by omega)), hmod, Nat.mod_mod_of_dvd _ (Nat.pow_dvd_pow 2 (by omega))]
    have e2 : (a ^^^ F70 e m).toNat / 2 ^ m.toNat % 2 ^ e.toNat = a.toNat / 2 ^ m.toNat % 2 ^ e.toNat := by
      rw [← Nat.mod_mul_right_div_self, ← Nat.mod_mul_right_div_self, ← Nat.pow_add, Nat.add_comm m.toNat, hmod]
    unfold upk
    rw [e1, e2]
    split
    · split <;> rfl
    · split
      · split <;> rfl
      · rfl
  · have hm1 : (m - 1#8).toNat = m.toNat - 1 := sub8 (by show 1 ≤ m.toNat; omega)
    rw [hm1]
    refine BitVec.eq_of_getLsbD_eq fun i hi => ?_
    rw [BitVec.getLsbD_and, BitVec.getLsbD_and, BitVec.getLsbD_ushiftRight, BitVec.getLsbD_ushiftRight]
    by_cases h0 : i = 0
    · subst h0
      rw [hb _ (by omega)]
    · have : (1#64).getLsbD i = false := by simp [h0]
      rw [this]; simp
theorem F107_flip (h : Fm e m) (a : BitVec 64) : F107 e m (a ^^^ F70 e m) = F107 e m a := by
  obtain ⟨h1, h2⟩ := F65_flip h a
  unfold F107
  simp only [lt]
  rw [h1, h2]

theorem nextDown_eq (h : Fm e m) (a : BitVec 64) {N : Nat} : F186 N e m a = some (F178 e m a) := by
  have hip := infP_pos h
  have hpm := pow_pos2 m.toNat
  have h3 := h.m2
  have hi := infP_lt e.toNat m.toNat
  unfold F186 F186_1 F178 F178_1 F177 F177_1
  simp only [lt]
  rw [h.ok, Bool.not_true, bf rfl, bf rfl]
  rcases opr h (a ^^^ F70 e m) with ⟨ga, ha, ha'⟩ | ⟨na, P, ca, ea, ma, va, an, ad, ha, a4, ha', xa, alta⟩
  · rw [ha, ha']
    simp only [Option.bind_some, F186_2, F186_3, F177_2, F178_3, F178_2, lt, klit, cond_true, cond_false, bne_self_eq_false]
    unfold F214 F216
    simp only [lt]
    rw [F107_flip h]
    rfl
  · rw [ha, ha']
    simp only [Option.bind_some, F186_2, F186_3, F177_2, F178_3, F178_2, lt, a4, klit, cond_false]
    rw [F279_ok h xa alta]
    have hPi : P ≤ infP e.toNat m.toNat := by rcases alta with k | k <;> omega
    have hf := F277_ok h xa hPi
    have hnx := nx_le (neg := na) (P := P) (show 1 ≤ infP e.toNat m.toNat by omega) hPi
    have hp1 : 2 ^ m.toNat = 2 * 2 ^ (m.toNat - 1) := by rw [← Nat.pow_succ', Nat.succ_eq_add_one, show m.toNat - 1 + 1 = m.toNat from by omega]
    have hp2 := pow_pos2 (m.toNat - 1)
    have hne : (F277 e m ((a ^^^ F70 e m) &&& F69 e m) != F66 e m) = true := by
      rw [ne_bv, hf, F66_ok h]
      refine decide_eq_true ?_
      unfold nanP sgn
      cases (nx e.toNat m.toNat na P).1
      · simp only [cond_false]; omega
      · simp only [cond_true]; omega
    rw [hne, bt rfl]
    rfl
end
end Go.Proofs.YfwaawGreat
