/-
  Doubles: Ldexp.
-/
import Derived.Test.YfwaawGreatJ2
namespace Go.Proofs.YfwaawGreat
open Go.Aw
set_option linter.unusedVariables false
set_option linter.unusedSimpArgs false

section
variable {X Y V W N : Nat} {s t : Bool} {e m : BitVec 8} {f : Ieee.Format}
theorem wr_UP (k : Kd e m f) {mag : Nat} (h0 : mag ≠ 0) (p : Int) : f.write (.number s mag p) = min (UP e m (mag * 2 ^ p.toNat) (2 ^ (-p).toNat)) (infP e.toNat m.toNat) + sgn e.toNat m.toNat s := by
  show f.nearest s mag p = _
  rw [k.near ne_zero h0, RQ_ne k.fm ne_zero (Nat.mul_ne_zero h0 (pne _)) (pne _)]
theorem wr_cross (k : Kd e m f) {mag mag' : Nat} {p p' : Int} (h0 : mag ≠ 0) (h0' : mag' ≠ 0) (hc : mag * 2 ^ p.toNat * 2 ^ (-p').toNat = mag' * 2 ^ p'.toNat * 2 ^ (-p).toNat) : f.write (.number s mag p) = f.write (.number s mag' p') := by
  show f.nearest s mag p = f.nearest s mag' p'
  rw [k.near ne_zero h0, k.near ne_zero h0', RQ_cross (Nat.mul_ne_zero h0 (pne _)) (pne _) (pne _) hc]
theorem wr_tiny {p : Int} (h0 : V ≠ 0) (hp : (blen V : Int) + p ≤ -1075) : Ieee.double.write (.number s V p) = s64 s := by
  rw [wr_UP kd64 h0, inf64v, sgn64]
  have hr := rb kd64.fm (sig := 0) (ex := 0) (by decide) (Or.inl rfl) (t := -1075) (by decide) (Nat.mul_ne_zero h0 (pne p.toNat)) (pne (-p).toNat)
  have hu : UP 11#8 52#8 (V * 2 ^ p.toNat) (2 ^ (-p).toNat) = 0 := by
    rcases Nat.eq_zero_or_pos (UP 11#8 52#8 (V * 2 ^ p.toNat) (2 ^ (-p).toNat)) with z | z
    · exact z
    · exfalso
      have h1 := hr.1 (by omega)
      obtain ⟨K, hK⟩ : ∃ K : Nat, K = (-(-1075 : Int)).toNat := ⟨_, rfl⟩
      have hK2 : K = 1075 := hK
      rw [← hK, show ((-1075 : Int)).toNat = 0 from rfl, Nat.pow_zero, show p.toNat = 0 by omega, Nat.pow_zero, Nat.mul_one, Nat.mul_one] at h1
      have h2 : V * 2 ^ K < 2 ^ (-p).toNat := by
        have := Nat.mul_lt_mul_of_pos_right (blen_lt V) (pow_pos2 K)
        rw [← Nat.pow_add] at this
        exact Nat.lt_of_lt_of_le this (pow_le (by omega))
      rcases h1 with g | g
      · rw [show (2 * 0 + 1) * 2 ^ (-p).toNat = 2 ^ (-p).toNat by rw [Nat.mul_zero, Nat.zero_add, Nat.one_mul]] at g
        omega
      · exact absurd g.2 (by decide)
  rw [hu, Nat.zero_min, Nat.zero_add]
theorem wr_huge {p : Int} (h0 : V ≠ 0) (hp : 1025 ≤ (blen V : Int) + p) : Ieee.double.write (.number s V p) = 9218868437227405312 + s64 s := by
  rw [wr_UP kd64 h0, sgn64]
  have hr := rb kd64.fm (sig := 9007199254740991) (ex := 2045) (by decide) (Or.inr (by decide)) (t := 970) (by decide) (Nat.mul_ne_zero h0 (pne p.toNat)) (pne (-p).toNat)
  have hi : 2045 * 2 ^ (52#8).toNat + 9007199254740991 + 1 = 9218868437227405312 := by decide
  rw [hi] at hr
  have hu : 9218868437227405312 ≤ UP 11#8 52#8 (V * 2 ^ p.toNat) (2 ^ (-p).toNat) := by
    refine hr.2 (Or.inl ?_)
    obtain ⟨K, hK⟩ : ∃ K : Nat, K = (970 : Int).toNat := ⟨_, rfl⟩
    have hK2 : K = 970 := hK
    rw [← hK, show (-(970 : Int)).toNat = 0 from rfl, Nat.pow_zero, Nat.mul_one]
    have h1 : (2 * 9007199254740991 + 1) * 2 ^ K * 2 ^ (-p).toNat < 2 ^ 54 * (2 ^ K * 2 ^ (-p).toNat) := by
      rw [Nat.mul_assoc]
      exact Nat.mul_lt_mul_of_pos_right (by decide) (Nat.mul_pos (pow_pos2 _) (pow_pos2 _))
    have h2 : 2 ^ (blen V - 1) * 2 ^ p.toNat ≤ V * 2 ^ p.toNat := Nat.mul_le_mul_right _ (blen_le h0)
    refine Nat.lt_of_lt_of_le h1 (Nat.le_trans ?_ h2)
    rw [← Nat.pow_add, ← Nat.pow_add, ← Nat.pow_add]
    have := blen_pos h0
    exact pow_le (by omega)
  rw [inf64v, Nat.min_eq_right hu]
theorem c1 : Ieee.double.read 4607182418800017408 = .number false 4503599627370496 (-52) := by decide +kernel
theorem c53 : Ieee.double.read 4368491638549381120 = .number false 4503599627370496 (-105) := by decide +kernel
theorem mulC {C : Nat} {pc : Int} {T F : Nat} (hC : Ieee.double.read C = .number false 4503599627370496 pc) (h1 : 1 ≤ T) (h2 : T < 2047) (hF : F < 4503599627370496) : fbits .mul .f64 (some C) (some (T * 4503599627370496 + F + s64 s)) = some (Ieee.double.write (.number s (4503599627370496 * (4503599627370496 + F)) (pc + ((T : Int) - 1075)))) := by
  show Ieee.double.mul C (T * 4503599627370496 + F + s64 s) = _
  unfold Ieee.Format.mul
  have hrd := dread (s := s) h2 hF
  rw [if_neg (by omega), sgn64] at hrd
  rw [hC, hrd]
  show some (Ieee.double.write (.number (false ^^ s) _ _)) = _
  rw [Bool.false_xor]
theorem F443_ok (h : DV X s V) (h0 : V ≠ 0) {n : Int} (hn : -10000 ≤ n ∧ n ≤ 10000) : F443 N (some X) n = some (some (Ieee.double.write (.number s V (n - 1074)))) := by
  obtain ⟨D, hD⟩ : ∃ D : Nat, D = 1074 := ⟨_, rfl⟩
  obtain ⟨X', k, h1, h2, h3, h4⟩ := F445_ok (N := N) h h0
  obtain ⟨T, F, t1, t2, t3, t4, t5, t6⟩ := h2.norm h3
  have hbl := blen_pow V h0 k
  have hs := s64le s
  unfold F443 F443_1 F443_2
  rw [eqz h, decide_eq_false h0, bf rfl, F430_fin h, Option.bind_some, F429_fin h, Bool.or_self, bf rfl, h1, Option.bind_some]
  unfold F443_3 F443_4
  rw [bt (show (some X').isSome = true from rfl)]
  have hb := bv_of h2.ltX
  have hb0 : BitVec.ofNat 64 ((some X').getD 0) = BitVec.ofNat 64 X' := rfl
  have hbX : (BitVec.ofNat 64 X').toNat = X' := hb
  rw [hb0]
  generalize BitVec.ofNat 64 X' = b at *
  rw [hb0] at hb
  rw [t4] at hbX
  have hex := expo (s := s) (show T < 2048 by omega) t3 (by rw [hbX, sgn64])
  have hsh : (b >>> 52).toNat < 4096 := by
    rw [shr_nat, show (2 : Nat) ^ 52 = 4503599627370496 from rfl]
    have := b.isLt; rw [p64] at this; omega
  have hofi : BitVec.ofInt 64 (w64 ((b >>> 52).toNat : Int)) = b >>> 52 := by
    rw [w64_id (by omega), ofInt_nat]
    exact BitVec.eq_of_toNat_eq (by rw [BitVec.toNat_ofNat]; exact Nat.mod_eq_of_lt (b >>> 52).isLt)
  unfold F443_5
  rw [hofi, show BitVec.ofInt 64 2047 = 2047#64 from by decide, hex]
  obtain ⟨E, hE⟩ : ∃ E : Int, E = n + (blen V : Int) - 1075 := ⟨_, rfl⟩
  have hw : w64 (w64 (n + -(k : Int)) + w64 (w64 (T : Int) - 1023)) = E := by
    rw [w64_id (n := n + -(k : Int)) (by omega), w64_id (n := (T : Int)) (by omega), w64_id (n := (T : Int) - 1023) (by omega), w64_id (by omega)]
    omega
  rw [hw]
  unfold F443_6 F443_7
  by_cases c1' : E < -1075
  · rw [decide_eq_true c1', bt rfl, wr_tiny h0 (by omega)]
    unfold F447
    rw [bt (show (some 0).isSome = true from rfl), bt (show (some X').isSome = true from rfl)]
    have hsb := sgnbit (b := b) (P := T * 4503599627370496 + F) (s := s) (by omega) (by rw [hbX, sgn64])
    have hbb : BitVec.ofNat 64 ((some X').getD 0) = b := by
      show BitVec.ofNat 64 X' = b
      refine BitVec.eq_of_toNat_eq ?_
      rw [BitVec.toNat_ofNat, hbX, t4]
      exact Nat.mod_eq_of_lt (by rw [p64, ← t4]; exact h2.ltX)
    rw [hbb]
    have h00 : (BitVec.ofNat 64 ((some 0).getD 0) &&& ~~~9223372036854775808#64) = 0#64 := by decide
    rw [h00, BitVec.zero_or, hsb, sgn64]
    rfl
  · rw [decide_eq_false c1', bf rfl]
    unfold F443_8
    by_cases c2 : E > 1023
    · rw [decide_eq_true c2, bt rfl, wr_huge h0 (by omega), ltz h2, decide_eq_true (by omega), Bool.and_true]
      unfold F443_9 F450 F450_2 F450_1
      cases s <;> rfl
    · rw [decide_eq_false c2, bf rfl]
      unfold F443_13 F443_14 F443_10 F443_11 F443_12
      by_cases c3 : E < -1022
      · rw [decide_eq_true c3, bt rfl]
        obtain ⟨T', hT'⟩ : ∃ T' : Nat, (T' : Int) = E + 1076 := ⟨(E + 1076).toNat, by omega⟩
        have hwe : w64 (w64 (E + 53) + 1023) = (T' : Int) := by
          rw [w64_id (n := E + 53) (by omega), w64_id (by omega)]; omega
        have hy : (BitVec.ofInt 64 (T' : Int) <<< 52).toNat = T' * 4503599627370496 := by
          have : (BitVec.ofInt 64 (T' : Int)).toNat = T' := by rw [ofInt_nat, BitVec.toNat_ofNat, p64]; exact Nat.mod_eq_of_lt (by omega)
          rw [shl_nat _ _ (by rw [this, show (2 : Nat) ^ 52 = 4503599627370496 from rfl, p64]; omega), this]
        rw [hwe, setE (s := s) (e := T') (show T < 2048 by omega) t3 hbX (by omega) hy, mulC c53 (by omega) (by omega) t3]
        refine congrArg (fun z => some (some z)) (wr_cross kd64 (Nat.mul_ne_zero (by decide) (by omega)) h0 ?_)
        have hG : V * 2 ^ k = (4503599627370496 + F) * 2 ^ (T - 1) := t5
        refine Nat.mul_right_cancel (Nat.mul_pos (pow_pos2 k) (pow_pos2 0)) ?_
        generalize 4503599627370496 + F = G at *
        have e1 : 4503599627370496 * G * 2 ^ (-105 + ((T' : Int) - 1075)).toNat * 2 ^ (-(n - 1074)).toNat * (2 ^ k * 2 ^ 0) = G * 2 ^ (52 + (-105 + ((T' : Int) - 1075)).toNat + (-(n - 1074)).toNat + k) := by
          rw [show (4503599627370496 : Nat) = 2 ^ 52 from rfl, Nat.mul_comm (2 ^ 52) G]
          simp only [Nat.mul_assoc, ← Nat.pow_add]
          exact congrArg (fun z => G * 2 ^ z) (by omega)
        have e2 : V * 2 ^ (n - 1074).toNat * 2 ^ (-(-105 + ((T' : Int) - 1075))).toNat * (2 ^ k * 2 ^ 0) = (V * 2 ^ k) * 2 ^ ((n - 1074).toNat + (-(-105 + ((T' : Int) - 1075))).toNat) := by
          simp only [Nat.mul_assoc, ← Nat.pow_add]
          exact congrArg (fun z => V * 2 ^ z) (by omega)
        rw [e1, e2, hG, Nat.mul_assoc, ← Nat.pow_add]
        exact congrArg (fun z => G * 2 ^ z) (by omega)
      · rw [decide_eq_false c3, bf rfl]
        obtain ⟨T', hT'⟩ : ∃ T' : Nat, (T' : Int) = E + 1023 := ⟨(E + 1023).toNat, by omega⟩
        have hwe : w64 (E + 1023) = (T' : Int) := by rw [w64_id (by omega), hT']
        have hy : (BitVec.ofInt 64 (T' : Int) <<< 52).toNat = T' * 4503599627370496 := by
          have : (BitVec.ofInt 64 (T' : Int)).toNat = T' := by rw [ofInt_nat, BitVec.toNat_ofNat, p64]; exact Nat.mod_eq_of_lt (by omega)
          rw [shl_nat _ _ (by rw [this, show (2 : Nat) ^ 52 = 4503599627370496 from rfl, p64]; omega), this]
        rw [hwe, setE (s := s) (e := T') (show T < 2048 by omega) t3 hbX (by omega) hy, mulC c1 (by omega) (by omega) t3]
        refine congrArg (fun z => some (some z)) (wr_cross kd64 (Nat.mul_ne_zero (by decide) (by omega)) h0 ?_)
        have hG : V * 2 ^ k = (4503599627370496 + F) * 2 ^ (T - 1) := t5
        refine Nat.mul_right_cancel (Nat.mul_pos (pow_pos2 k) (pow_pos2 0)) ?_
        generalize 4503599627370496 + F = G at *
        have e1 : 4503599627370496 * G * 2 ^ (-52 + ((T' : Int) - 1075)).toNat * 2 ^ (-(n - 1074)).toNat * (2 ^ k * 2 ^ 0) = G * 2 ^ (52 + (-52 + ((T' : Int) - 1075)).toNat + (-(n - 1074)).toNat + k) := by
          rw [show (4503599627370496 : Nat) = 2 ^ 52 from rfl, Nat.mul_comm (2 ^ 52) G]
          simp only [Nat.mul_assoc, ← Nat.pow_add]
          exact congrArg (fun z => G * 2 ^ z) (by omega)
        have e2 : V * 2 ^ (n - 1074).toNat * 2 ^ (-(-52 + ((T' : Int) - 1075))).toNat * (2 ^ k * 2 ^ 0) = (V * 2 ^ k) * 2 ^ ((n - 1074).toNat + (-(-52 + ((T' : Int) - 1075))).toNat) := by
          simp only [Nat.mul_assoc, ← Nat.pow_add]
          exact congrArg (fun z => V * 2 ^ z) (by omega)
        rw [e1, e2, hG, Nat.mul_assoc, ← Nat.pow_add]
        exact congrArg (fun z => G * 2 ^ z) (by omega)
end
end Go.Proofs.YfwaawGreat
