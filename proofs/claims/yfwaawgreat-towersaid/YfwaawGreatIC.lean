/-
  native: to whole numbers; sign; conversions between the two formats.
-/
import Derived.Test.YfwaawGreatIB
namespace Go.Proofs.YfwaawGreat
open Go.Aw
set_option linter.unusedVariables false
set_option linter.unusedSimpArgs false

section
variable {e m mode : BitVec 8} {f : Ieee.Format} {neg na nb : Bool} {x : BitVec 64} {N : Nat}
theorem ti_flag (s : Bool) (n : Nat) (b : Bool) : (ti s n b).1 = (ti s n false).1 ∧ (ti s n b).2.1 = (ti s n false).2.1 := by
  unfold ti
  cases s
  · rw [cond_false, cond_false]
    by_cases c : n < 9223372036854775808
    · rw [if_pos c, if_pos c]; exact ⟨rfl, rfl⟩
    · rw [if_neg c, if_neg c]; exact ⟨rfl, rfl⟩
  · rw [cond_true, cond_true]
    by_cases c : n ≤ 9223372036854775808
    · rw [if_pos c, if_pos c]; exact ⟨rfl, rfl⟩
    · rw [if_neg c, if_neg c]; exact ⟨rfl, rfl⟩
/-- exact.ToInt64 toward zero. -/
theorem nToInt (k : Kd e m f) (a : BitVec 64) : ∃ z, F131 N e m 2#8 a = some z ∧
    (((∃ s t, f.read (wd e m a) = .nan s t) ∧ z.1 = 0 ∧ z.2.1 = false) ∨ ((∃ s, f.read (wd e m a) = .infinity s) ∧ z.1 = 0 ∧ z.2.1 = false) ∨
     (∃ s mag place, f.read (wd e m a) = .number s mag place ∧ mag < 9007199254740992 ∧ -1200 < place ∧ place < 1100 ∧ z.1 = (ti s (mag * 2 ^ place.toNat / 2 ^ (-place).toNat) false).1 ∧ z.2.1 = (ti s (mag * 2 ^ place.toNat / 2 ^ (-place).toNat) false).2.1)) := by
  unfold F131 F131_1
  simp only [lt]
  rw [k.fm.ok, Bool.not_true, bf rfl]
  obtain ⟨na, ca, ba, ga, va, an, ad, ha', alta⟩ := k.opd a
  rw [ha']
  simp only [Option.bind_some, F131_2, F131_3]
  rcases alta with ⟨a4, a3, a0, s, t, ra⟩ | ⟨a4, a3, a0, rfl, rfl, ra⟩ | ⟨rfl, rfl, mag, place, ra, A⟩
  · rw [a4, a3]
    exact ⟨_, rfl, Or.inl ⟨⟨s, t, ra⟩, rfl, rfl⟩⟩
  · rw [a4, a3]
    exact ⟨_, rfl, Or.inr (Or.inl ⟨⟨na, ra⟩, rfl, rfl⟩)⟩
  · rw [A.c4, A.c3, Bool.or_self, bf rfl]
    have n1 := A.bn
    have d1 := A.bd
    rw [F245_ok A.d0 (by omega) (by omega), Option.bind_some]
    simp only []
    have hq : rn 2#8 na (2 * an / ad) (decide (2 * an % ad ≠ 0)) = an / ad := by
      rw [rn_zero, Nat.div_div_eq_div_mul, Nat.mul_comm ad 2, Nat.mul_div_mul_left _ _ (by decide)]
    have hb : blen (an / ad) ≤ blen an := blen_mono (Nat.div_le_self _ _)
    rw [hq, F131_tail (by omega)]
    have hv : an / ad = mag * 2 ^ place.toNat / 2 ^ (-place).toNat := (div_cross A.d0 (pow_pos2 _) A.v).1
    refine ⟨_, rfl, Or.inr (Or.inr ⟨na, mag, place, ra, ?_, A.pl, A.ph, ?_, ?_⟩)⟩
    · have := blen_le_iff.1 A.bm
      exact this
    · rw [hv]; exact (ti_flag _ _ _).1
    · rw [hv]; exact (ti_flag _ _ _).2
theorem c64a : Ieee.double.read 14114281232179134464 = .number true 4503599627370496 11 := by decide +kernel
theorem c64b : Ieee.double.read 4890909195324358656 = .number false 4503599627370496 11 := by decide +kernel
theorem c32a : Ieee.single.read 3741319168 = .number true 8388608 40 := by decide +kernel
theorem c32b : Ieee.single.read 1593835520 = .number false 8388608 40 := by decide +kernel
theorem toInt_sp {k : FloatKind} {X c1 c2 : Nat} {C : Nat} {pc : Int} (h1 : k.format.read c1 = .number true C pc) (h2 : k.format.read c2 = .number false C pc) (h : (∃ s t, k.format.read X = .nan s t) ∨ (∃ s, k.format.read X = .infinity s)) :
    (bif (fcmp .geq k (some X) (some c1)) && (fcmp .lss k (some X) (some c2)) then (bif fiOk k .i64 (some X) then some (fiVal k .i64 (some X), true) else none) else some (0, false) : Option (Int × Bool)) = some (0, false) := by
  have e1 : fcmp .geq k (some X) (some c1) = (k.format.order X c1 == some .gt || k.format.order X c1 == some .eq) := rfl
  have e2 : fcmp .lss k (some X) (some c2) = (k.format.order X c2 == some .lt) := rfl
  rw [e1, e2]
  rcases h with h | ⟨s, h⟩
  · rw [ord_nanl h, ord_nanl h]; rfl
  · unfold Ieee.Format.order
    rw [h, h1, h2]
    cases s <;> rfl
theorem hC64 (L : Nat) : 4503599627370496 * 2 ^ ((11 : Int) + L).toNat = 9223372036854775808 * 2 ^ L := by
  rw [show ((11 : Int) + L).toNat = 11 + L by omega, Nat.pow_add, ← Nat.mul_assoc]
theorem hC32 (L : Nat) : 8388608 * 2 ^ ((40 : Int) + L).toNat = 9223372036854775808 * 2 ^ L := by
  rw [show ((40 : Int) + L).toNat = 40 + L by omega, Nat.pow_add, ← Nat.mul_assoc]
/-- native.ToInt64 = exact's. -/
theorem F344_ok (a : BitVec 64) : ∃ z, F131 N 11#8 52#8 2#8 a = some z ∧ F344 N a = some (z.1, z.2.1) := by
  obtain ⟨L, hL⟩ : ∃ L : Nat, L = 1200 := ⟨_, rfl⟩
  obtain ⟨z, h1, h2⟩ := nToInt (N := N) kd64 a
  refine ⟨z, h1, ?_⟩
  unfold F344 F344_1 F344_2 F384
  simp only [lt]
  rw [wd64] at h2
  rcases h2 with ⟨g, g1, g2⟩ | ⟨g, g1, g2⟩ | ⟨s, mag, place, g, g0, g3, g4, g1, g2⟩
  · rw [toInt_sp (k := .f64) c64a c64b (Or.inl g), g1, g2]
  · rw [toInt_sp (k := .f64) c64a c64b (Or.inr g), g1, g2]
  · rw [toInt_num (k := .f64) (L := L) g c64a c64b (by omega) (by omega) (hC64 L) g0, g1, g2]
theorem F343_ok (a : BitVec 64) : ∃ z, F131 N 8#8 23#8 2#8 a = some z ∧ F343 N (BitVec.ofInt 32 (a.toNat : Int)) = some (z.1, z.2.1) := by
  obtain ⟨L, hL⟩ : ∃ L : Nat, L = 1200 := ⟨_, rfl⟩
  obtain ⟨z, h1, h2⟩ := nToInt (N := N) kd32 a
  refine ⟨z, h1, ?_⟩
  unfold F343 F343_1 F343_2 F386
  simp only [lt]
  rw [wd32]
  rcases h2 with ⟨g, g1, g2⟩ | ⟨g, g1, g2⟩ | ⟨s, mag, place, g, g0, g3, g4, g1, g2⟩
  · rw [toInt_sp (k := .f32) c32a c32b (Or.inl g), g1, g2]
  · rw [toInt_sp (k := .f32) c32a c32b (Or.inr g), g1, g2]
  · rw [toInt_num (k := .f32) (L := L) g c32a c32b (by omega) (by omega) (hC32 L) g0, g1, g2]
theorem F345_eq (i : Int) (b : Bool) : F345 N i b = F290 N i b := by
  unfold F345 F345_1 F290 F290_1
  rfl
/-- What na puts out for ToInt is what ex puts out. -/
theorem toInt64n (a : BitVec 64) : F239 N true a = F224 N 11#8 52#8 a := by
  obtain ⟨z, h1, h2⟩ := F344_ok (N := N) a
  obtain ⟨y, h3, h4⟩ := F343_ok (N := N) a
  unfold F239 F239_1 F239_2 F224 F73 F73_1
  rw [h4, h1, Option.bind_some, bt rfl, h2, Option.bind_some, F345_eq]
  rfl
theorem toInt32n (a : BitVec 64) : F239 N false a = F224 N 8#8 23#8 a := by
  obtain ⟨y, h3, h4⟩ := F343_ok (N := N) a
  unfold F239 F239_1 F239_2 F224 F73 F73_1
  rw [h4, h3, Option.bind_some, bf rfl, F345_eq]
  rfl
end
end Go.Proofs.YfwaawGreat
