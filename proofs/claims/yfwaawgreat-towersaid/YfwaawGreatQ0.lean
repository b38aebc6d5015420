/-
  Plain tools on words: shifts, masks, the width of a word.
-/
import Derived.Test.YfwaawGreatPn7
import Derived.Test.YfwaawGreatG1
import Derived.Test.YfwaawGreatG2
import Derived.Test.YfwaawGreatG3
namespace Go.Proofs.YfwaawGreat
open Go.Aw
set_option linter.unusedVariables false
set_option linter.unusedSimpArgs false

theorem p64 : (2 : Nat) ^ 64 = 18446744073709551616 := rfl
theorem bv8 (x : BitVec 8) : x.toNat < 256 := x.isLt
theorem pow_le {a b : Nat} (h : a ≤ b) : 2 ^ a ≤ 2 ^ b := Nat.pow_le_pow_right (by decide) h
theorem pow_lt {a b : Nat} (h : a < b) : 2 ^ a < 2 ^ b := Nat.pow_lt_pow_right (by decide) h
theorem pow_pos2 (a : Nat) : 0 < 2 ^ a := Nat.two_pow_pos a

/-- 1 shifted up. -/
theorem one_shl {k : Nat} (h : k < 64) : (1#64 <<< k).toNat = 2 ^ k := by
  rw [BitVec.toNat_shiftLeft, Nat.shiftLeft_eq, show (1#64).toNat = 1 from rfl, Nat.one_mul]
  exact Nat.mod_eq_of_lt (pow_lt h)
theorem mask64 {k : Nat} (h : k < 64) : (1#64 <<< k - 1#64).toNat = 2 ^ k - 1 := by
  have h1 := one_shl h
  have hp := pow_pos2 k
  have hl : 2 ^ k < 2 ^ 64 := pow_lt h
  rw [sub64, h1, show (1#64).toNat = 1 from rfl]
  rw [p64] at hl
  omega
theorem and_mask64 (x : BitVec 64) {k : Nat} (h : k < 64) : (x &&& (1#64 <<< k - 1#64)).toNat = x.toNat % 2 ^ k := by
  rw [BitVec.toNat_and, mask64 h, Nat.and_two_pow_sub_one_eq_mod]
theorem shl_nat {w : Nat} (x : BitVec w) (k : Nat) (h : x.toNat * 2 ^ k < 2 ^ w) : (x <<< k).toNat = x.toNat * 2 ^ k := by
  rw [BitVec.toNat_shiftLeft, Nat.shiftLeft_eq]; exact Nat.mod_eq_of_lt h
theorem eq_bv {w : Nat} {x y : BitVec w} : (x == y) = decide (x.toNat = y.toNat) := by
  by_cases h : x = y
  · subst h; simp
  · have : x.toNat ≠ y.toNat := fun e => h (BitVec.eq_of_toNat_eq e)
    simp [h, this]
theorem ne_bv {w : Nat} {x y : BitVec w} : (x != y) = decide (x.toNat ≠ y.toNat) := by
  rw [bne, eq_bv]; simp
/-- One bit of a word. -/
theorem bit_and (x : BitVec 64) (k : Nat) (h : k < 64) : (x &&& (1#64 <<< k)).toNat = x.toNat / 2 ^ k % 2 * 2 ^ k := by
  rw [BitVec.toNat_and, one_shl h]
  refine Nat.eq_of_testBit_eq fun i => ?_
  rw [Nat.testBit_and, Nat.testBit_two_pow]
  have e := Nat.testBit_eq_decide_div_mod_eq (x := x.toNat) (i := k)
  rcases Nat.mod_two_eq_zero_or_one (x.toNat / 2 ^ k) with h | h <;> rw [h] at e ⊢
  · rw [Nat.zero_mul, Nat.zero_testBit]
    by_cases hk : k = i
    · subst hk; rw [e]; rfl
    · simp [hk]
  · rw [Nat.one_mul, Nat.testBit_two_pow]
    by_cases hk : k = i
    · subst hk; rw [e]; simp
    · simp [hk]

/-! ### The width of a word -/
/-- All below b is set from b - m on, nothing above. -/
def Sm (b m : Nat) (x : BitVec 64) : Prop := (∀ i, b ≤ i → x.getLsbD i = false) ∧ ∀ i, i < b → b ≤ i + m → x.getLsbD i = true
theorem Sm.step {b m : Nat} {x : BitVec 64} (h : Sm b m x) : Sm b (m + m) (x ||| x >>> m) := by
  refine ⟨fun i hi => ?_, fun i hi hm => ?_⟩
  · rw [BitVec.getLsbD_or, BitVec.getLsbD_ushiftRight, h.1 i hi, h.1 (m + i) (by omega)]; rfl
  · rw [BitVec.getLsbD_or, BitVec.getLsbD_ushiftRight]
    by_cases h1 : b ≤ i + m
    · rw [h.2 i hi h1]; rfl
    · rw [h.2 (m + i) (by omega) (by omega)]; simp
theorem Sm.start (x : BitVec 64) : Sm (blen x.toNat) 1 x := by
  refine ⟨fun i hi => ?_, fun i hi hm => ?_⟩
  · show x.toNat.testBit i = false
    refine Nat.testBit_lt_two_pow ?_
    exact Nat.lt_of_lt_of_le (blen_lt _) (pow_le hi)
  · have h0 : x.toNat ≠ 0 := fun h => by rw [h, blen_zero] at hi; omega
    have hi' : i = blen x.toNat - 1 := by omega
    subst hi'
    show x.toNat.testBit _ = true
    have a := blen_le h0
    have b := blen_lt x.toNat
    rw [Nat.testBit_eq_decide_div_mod_eq]
    have hp := pow_pos2 (blen x.toNat - 1)
    have e : x.toNat / 2 ^ (blen x.toNat - 1) = 1 := by
      refine Nat.div_eq_of_lt_le ?_ ?_
      · rw [Nat.one_mul]; exact a
      · rw [show (1 + 1) * 2 ^ (blen x.toNat - 1) = 2 ^ (blen x.toNat - 1 + 1) from by rw [Nat.pow_succ]; omega]
        rw [show blen x.toNat - 1 + 1 = blen x.toNat from by omega]; exact b
    rw [e]; rfl
theorem Sm.end64 {b : Nat} {x : BitVec 64} (hb : b ≤ 64) (h : Sm b 64 x) : x = BitVec.ofNat 64 (2 ^ b - 1) := by
  refine BitVec.eq_of_getLsbD_eq fun i hi => ?_
  rw [BitVec.getLsbD_ofNat, Nat.testBit_two_pow_sub_one]
  by_cases h1 : i < b
  · rw [h.2 i h1 (by omega)]; simp [hi, h1]
  · rw [h.1 i (by omega)]; simp [h1]
theorem width_tab : ∀ b : Fin 65, F244_6 (BitVec.ofNat 64 (2 ^ b.val - 1)) = BitVec.ofNat 8 b.val := by decide
theorem blen64 (x : BitVec 64) : blen x.toNat ≤ 64 := blen_le_iff.2 x.isLt
theorem F244_ok (x : BitVec 64) : F244 x = BitVec.ofNat 8 (blen x.toNat) := by
  have hb := blen64 x
  have h := (((((Sm.start x).step).step).step).step).step.step
  have e := Sm.end64 hb h
  have := width_tab ⟨blen x.toNat, by omega⟩
  simp only at this
  rw [← e] at this
  exact this
end Go.Proofs.YfwaawGreat
