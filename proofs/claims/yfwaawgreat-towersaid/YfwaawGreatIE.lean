/-
  native: clean patterns, there and back, sign.
-/
import Derived.Test.YfwaawGreatID
namespace Go.Proofs.YfwaawGreat
open Go.Aw
set_option linter.unusedVariables false
set_option linter.unusedSimpArgs false

section
variable {e m e' m' mode : BitVec 8} {f f' : Ieee.Format} {neg na nb : Bool} {x : BitVec 64} {N : Nat}
theorem F234_eq (e m : BitVec 8) (x : BitVec 64) : F234 e m x = F222 e m x := by unfold F234 F234_1 F222 F222_1; rfl
theorem clean_val (e m : BitVec 8) (x : BitVec 64) : F222 e m x = if (F65 e m x).2.1 = 4 then F66 e m else x &&& F69 e m := by
  unfold F222 F222_1
  simp only [lt]
  by_cases c : (F65 e m x).2.1 = 4
  · rw [if_pos c, bt (by rw [beq_iff_eq]; exact c)]
  · rw [if_neg c, bf (by rw [beq_eq_false_iff_ne]; exact c)]
/-- To its own format. -/
theorem conv_self (k : Kd e m f) (a : BitVec 64) : ∃ z, F114 N e m e m mode a = some z ∧ z.1 = F222 e m a := by
  unfold F114 F114_1
  simp only [lt]
  rw [k.fm.ok, Bool.not_true, Bool.or_self, bf rfl, clean_val]
  rcases opn k.fm a with ⟨na, ha, xa, ha'⟩ | ⟨na, ha, xa, ha'⟩ | ⟨na, ha, xa, ha'⟩ | ⟨na, ca, ea, ma, pa, fa⟩
  · rw [ha', ha, if_pos rfl]; exact ⟨_, rfl, rfl⟩
  · rw [ha', ha, if_neg (by simp), xa]; exact ⟨_, rfl, rfl⟩
  · rw [ha', ha, if_neg (by simp), xa]
    simp only [Option.bind_some, F114_2, F114_3, F114_4, lt, klit, cond_true, cond_false]
    rw [F136_zero k.fm (by decide) (by decide)]
    exact ⟨_, rfl, rfl⟩
  · obtain ⟨a4, a3, a0⟩ := fa.cls
    rw [fa.f144, fa.f65, if_neg (by rcases fa.c12 with z | z <;> rw [z] <;> simp)]
    simp only [Option.bind_some, F114_2, F114_3, F114_4, lt, a4, a3, cond_false]
    rw [(round_eq k.fm fa k.fm).2, RQ_self k.fm fa]
    exact ⟨_, rfl, rfl⟩
theorem and_idem (x y : BitVec 64) : (x &&& y) &&& y = x &&& y := by
  rw [BitVec.and_assoc, BitVec.and_self]
theorem F65_mask (h : Fm e m) (x : BitVec 64) : F65 e m (x &&& F69 e m) = F65 e m x := by
  have hxm : (x &&& F69 e m).toNat = x.toNat % 2 ^ (e.toNat + m.toNat + 1) := by
    rw [BitVec.toNat_and, F69_ok h, Nat.and_two_pow_sub_one_eq_mod]
  rw [F65_ok h, F65_ok h, hxm, upk_mod h]
theorem clean_idem (h : Fm e m) (hN : (F65 e m (F66 e m)).2.1 = 4) (x : BitVec 64) : F222 e m (F222 e m x) = F222 e m x := by
  rw [clean_val e m x]
  by_cases c : (F65 e m x).2.1 = 4
  · rw [if_pos c, clean_val, if_pos hN]
  · rw [if_neg c, clean_val, F65_mask h, if_neg c, and_idem]
theorem nan65_64 : (F65 11#8 52#8 (F66 11#8 52#8)).2.1 = 4 := by decide +kernel
theorem nan65_32 : (F65 8#8 23#8 (F66 8#8 23#8)).2.1 = 4 := by decide +kernel
/-- There and back to its own format. -/
theorem back_self (k : Kd e m f) (hN : (F65 e m (F66 e m)).2.1 = 4) (a : BitVec 64) : ((F48 N e m e m mode a).bind fun y => F48 N e m e m mode y) = some (F222 e m a) := by
  obtain ⟨z, h1, h2⟩ := conv_self (N := N) (mode := mode) k a
  obtain ⟨z', h3, h4⟩ := conv_self (N := N) (mode := mode) k z.1
  unfold F48 F48_1
  rw [h1]
  simp only [Option.bind_some]
  rw [h3]
  simp only [Option.bind_some]
  rw [h4, h2, clean_idem k.fm hN]
/-- There and back by exact. -/
theorem back_conv (k : Kd e m f) (k' : Kd e' m' f') (hm : NE mode) (a : BitVec 64) : ((F48 N e m e' m' mode a).bind fun y => F48 N e' m' e m mode y) = some (can e m (cv f' f (wd e' m' (can e' m' (cv f f' (wd e m a)))))) := by
  obtain ⟨z, h1, h2⟩ := nconv (N := N) k k' hm a
  obtain ⟨z', h3, h4⟩ := nconv (N := N) k' k hm z.1
  unfold F48 F48_1
  rw [h1]
  simp only [Option.bind_some]
  rw [h3]
  simp only [Option.bind_some]
  rw [h4, h2]
theorem back_soft (h : Fm e m) (h' : Fm e' m') (a : BitVec 64) : ∃ r, ((F48 N e m e' m' mode a).bind fun y => F48 N e' m' e m mode y) = some r ∧ ((F49 N e m e' m' mode a).bind fun y => F49 N e' m' e m mode y) = some r := by
  obtain ⟨z, h1, h2⟩ := convert_eq (mode := mode) h h' a (N := N)
  obtain ⟨z', h3, h4⟩ := convert_eq (mode := mode) h' h z.1 (N := N)
  unfold F48 F48_1 F49 F49_1
  rw [h1, h2]
  simp only [Option.bind_some]
  rw [h3, h4]
  exact ⟨_, rfl, rfl⟩
theorem F13_val : F13 = (11#8, 52#8) := by rfl
theorem F14_val : F14 = (8#8, 23#8) := by rfl
theorem wd_ofInt (z : BitVec 64) : (BitVec.ofInt 32 (z.toNat : Int)).toNat = wd 8#8 23#8 z := wd32 z
/-- na.through in binary64. -/
theorem through64 (hm : NE mode) (h' : Fm e' m') (old a : BitVec 64) : ∃ r, ((F48 N 11#8 52#8 e' m' mode a).bind fun y => F48 N e' m' 11#8 52#8 mode y) = some r ∧ F240 N 11#8 52#8 e' m' mode old a = some r := by
  unfold F240 F240_1
  simp only [lt]
  rw [h'.ok, Bool.not_true, bf rfl]
  unfold F240_2
  by_cases c1 : e' = 11#8 ∧ m' = 52#8
  · rw [c1.1, c1.2]
    refine ⟨_, back_self kd64 nan65_64 a, ?_⟩
    rw [bt (by rfl)]
    simp only [lt]
    rw [F234_eq]
  · have hc1 : ((e' == 11#8) && (m' == 52#8)) = false := by
      rw [Bool.and_eq_false_iff, beq_eq_false_iff_ne, beq_eq_false_iff_ne]
      by_cases g : e' = 11#8
      · exact Or.inr fun q => c1 ⟨g, q⟩
      · exact Or.inl g
    rw [hc1, bf rfl]
    simp only [lt]
    rw [F14_val]
    unfold F240_3
    by_cases c2 : e' = 8#8 ∧ m' = 23#8
    · rw [c2.1, c2.2]
      refine ⟨_, back_conv kd64 kd32 hm a, ?_⟩
      obtain ⟨y, y1, y2, y3⟩ := F347_ok (N := N) a
      rw [bt (by rfl), y1, Option.bind_some, F346_ok, y3]
      rfl
    · have hc2 : ((e' == 8#8) && (m' == 23#8)) = false := by
        rw [Bool.and_eq_false_iff, beq_eq_false_iff_ne, beq_eq_false_iff_ne]
        by_cases g : e' = 8#8
        · exact Or.inr fun q => c2 ⟨g, q⟩
        · exact Or.inl g
      simp only []
      rw [hc2, bf rfl]
      simp only [lt]
      rw [F13_val]
      simp only []
      rw [hc1]
      unfold F240_4
      rw [bf rfl]
      obtain ⟨r, r1, r2⟩ := back_soft (N := N) (mode := mode) kd64.fm h' a
      refine ⟨r, r1, ?_⟩
      rw [← r2]
      cases F49 N 11#8 52#8 e' m' mode a with
      | none => rfl
      | some y =>
        simp only [Option.bind_some]
        cases F49 N e' m' 11#8 52#8 mode y <;> rfl
theorem through32 (hm : NE mode) (h' : Fm e' m') (old a : BitVec 64) : ∃ r, ((F48 N 8#8 23#8 e' m' mode a).bind fun y => F48 N e' m' 8#8 23#8 mode y) = some r ∧ F240 N 8#8 23#8 e' m' mode old a = some r := by
  unfold F240 F240_1
  simp only [lt]
  rw [h'.ok, Bool.not_true, bf rfl]
  unfold F240_2
  by_cases c2 : e' = 8#8 ∧ m' = 23#8
  · rw [c2.1, c2.2]
    refine ⟨_, back_self kd32 nan65_32 a, ?_⟩
    rw [bt (by rfl)]
    simp only [lt]
    rw [F234_eq]
  · have hc2 : ((e' == 8#8) && (m' == 23#8)) = false := by
      rw [Bool.and_eq_false_iff, beq_eq_false_iff_ne, beq_eq_false_iff_ne]
      by_cases g : e' = 8#8
      · exact Or.inr fun q => c2 ⟨g, q⟩
      · exact Or.inl g
    rw [hc2, bf rfl]
    simp only [lt]
    rw [F14_val]
    unfold F240_3
    simp only []
    rw [hc2, bf rfl]
    simp only [lt]
    rw [F13_val]
    simp only []
    unfold F240_4
    by_cases c1 : e' = 11#8 ∧ m' = 52#8
    · rw [c1.1, c1.2]
      refine ⟨_, back_conv kd32 kd64 hm a, ?_⟩
      rw [bt (by rfl), F346_ok, Option.bind_some, wd_ofInt]
      obtain ⟨y, y1, y2, y3⟩ := F347_ok (N := N) (can 11#8 52#8 (cv Ieee.single Ieee.double (wd 8#8 23#8 a)))
      rw [y1, Option.bind_some, y2]
    · have hc1 : ((e' == 11#8) && (m' == 52#8)) = false := by
        rw [Bool.and_eq_false_iff, beq_eq_false_iff_ne, beq_eq_false_iff_ne]
        by_cases g : e' = 11#8
        · exact Or.inr fun q => c1 ⟨g, q⟩
        · exact Or.inl g
      rw [hc1, bf rfl]
      obtain ⟨r, r1, r2⟩ := back_soft (N := N) (mode := mode) kd32.fm h' a
      refine ⟨r, r1, ?_⟩
      rw [← r2]
      cases F49 N 8#8 23#8 e' m' mode a with
      | none => rfl
      | some y =>
        simp only [Option.bind_some]
        cases F49 N e' m' 8#8 23#8 mode y <;> rfl
end
end Go.Proofs.YfwaawGreat
