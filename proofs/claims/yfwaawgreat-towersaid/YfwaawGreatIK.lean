/-
  native: math.Round.
-/
import Derived.Test.YfwaawGreatIJ
namespace Go.Proofs.YfwaawGreat
open Go.Aw
set_option linter.unusedVariables false
set_option linter.unusedSimpArgs false

section
variable {e m e' m' mode : BitVec 8} {f f' : Ieee.Format} {neg na nb : Bool} {x : BitVec 64} {N : Nat}
theorem andnot_mask {y w : BitVec 64} {d : Nat} (hw : w.toNat = 2 ^ d - 1) : (y &&& ~~~w).toNat = y.toNat / 2 ^ d * 2 ^ d := by
  refine Nat.eq_of_testBit_eq fun i => ?_
  rw [BitVec.testBit_toNat, BitVec.getLsbD_and, BitVec.getLsbD_not, ← BitVec.testBit_toNat, ← BitVec.testBit_toNat, hw, Nat.testBit_two_pow_sub_one, Nat.testBit_mul_two_pow]
  by_cases c : d ≤ i
  · rw [decide_eq_true c, decide_eq_false (show ¬ i < d by omega), Bool.true_and, Nat.testBit_div_two_pow, show i - d + d = i by omega, Bool.not_false, Bool.and_true]
    by_cases c2 : i < 64
    · rw [decide_eq_true c2, Bool.and_true]
    · rw [decide_eq_false c2, Bool.and_false]
      have : y.toNat.testBit i = false := Nat.testBit_lt_two_pow (Nat.lt_of_lt_of_le y.isLt (pow_le (by omega)))
      exact this.symm
  · rw [decide_eq_false c, decide_eq_true (show i < d by omega)]
    simp
/-- The parts of a double's rung. -/
theorem dparts (X : Nat) (hX : X < 18446744073709551616) : ∃ T F s, T < 2048 ∧ F < 4503599627370496 ∧ X = T * 4503599627370496 + F + sgn (11#8).toNat (52#8).toNat s := by
  have hs1 : sgn (11#8).toNat (52#8).toNat true = 9223372036854775808 := by decide +kernel
  have hs0 : sgn (11#8).toNat (52#8).toNat false = 0 := rfl
  rcases Nat.lt_or_ge X 9223372036854775808 with c | c
  · exact ⟨X / 4503599627370496, X % 4503599627370496, false, by omega, by omega, by rw [hs0]; omega⟩
  · exact ⟨(X - 9223372036854775808) / 4503599627370496, (X - 9223372036854775808) % 4503599627370496, true, by omega, by omega, by rw [hs1]; omega⟩
theorem sgn64 (s : Bool) : sgn (11#8).toNat (52#8).toNat s = bif s then 9223372036854775808 else 0 := by cases s <;> decide +kernel
theorem expo {b : BitVec 64} {T F : Nat} {s : Bool} (hT : T < 2048) (hF : F < 4503599627370496) (hb : b.toNat = T * 4503599627370496 + F + sgn (11#8).toNat (52#8).toNat s) : ((b >>> 52) &&& 2047#64).toNat = T := by
  rw [BitVec.toNat_and, shr_nat, hb, show (2047#64).toNat = 2 ^ 11 - 1 from rfl, Nat.and_two_pow_sub_one_eq_mod, sgn64]
  rw [show (2 : Nat) ^ 52 = 4503599627370496 from rfl, show (2 : Nat) ^ 11 = 2048 from rfl]
  cases s
  · rw [cond_false]; omega
  · rw [cond_true]; omega
theorem sgnbit {b : BitVec 64} {P : Nat} {s : Bool} (hP : P < 9223372036854775808) (hb : b.toNat = P + sgn (11#8).toNat (52#8).toNat s) : (b &&& 9223372036854775808#64).toNat = sgn (11#8).toNat (52#8).toNat s := by
  have h := bit_and b 63 (by decide)
  rw [show (1#64 <<< 63) = 9223372036854775808#64 from by decide, hb, sgn64, show (2 : Nat) ^ 63 = 9223372036854775808 from rfl] at h
  rw [h, sgn64]
  cases s
  · rw [cond_false]; omega
  · rw [cond_true]; omega
/-- The reading of a double by its parts. -/
theorem dread {T F : Nat} {s : Bool} (hT : T < 2047) (hF : F < 4503599627370496) : Ieee.double.read (T * 4503599627370496 + F + sgn (11#8).toNat (52#8).toNat s) = if T = 0 then .number s F (-1074) else .number s (4503599627370496 + F) ((T : Int) - 1075) := by
  have hlp : Ieee.double.leastPlace = -1074 := by decide +kernel
  have h := kd64.read (neg := s) (P := T * 4503599627370496 + F) (by
    rw [show 2 ^ ((11#8).toNat + (52#8).toNat) = 9223372036854775808 by decide +kernel]; omega)
  have hinf : infP (11#8).toNat (52#8).toNat = 9218868437227405312 := by decide +kernel
  rw [hlp, show 2 ^ (52#8).toNat = 4503599627370496 from by decide, hinf] at h
  rw [h]
  by_cases c : T = 0
  · rw [if_pos (by omega), if_pos c, c, Nat.zero_mul, Nat.zero_add]
  · rw [if_neg (by omega), if_pos (by omega), if_neg c, show (T * 4503599627370496 + F) % 4503599627370496 = F by omega, show (T * 4503599627370496 + F) / 4503599627370496 = T by omega]
    congr 1
    omega
theorem rn_away (s : Bool) (n2 : Nat) (t : Bool) : rn 1#8 s n2 t = n2 / 2 + n2 % 2 := by
  unfold rn
  have : rz 1#8 s n2 t = decide (n2 % 2 = 1) := rfl
  rw [this]
  rcases Nat.mod_two_eq_zero_or_one n2 with g | g <;> rw [g] <;> rfl
/-- The value of a whole number as a double. -/
theorem uv_norm {T G : Nat} (h1 : 4503599627370496 ≤ G) (h2 : G ≤ 9007199254740992) : uv 52 ((T) * 4503599627370496 + G) = G * 2 ^ T := by
  unfold uv
  rw [show (2 : Nat) ^ 52 = 4503599627370496 from rfl]
  rcases Nat.eq_or_lt_of_le h2 with c | c
  · rw [c, show (T * 4503599627370496 + 9007199254740992) / 4503599627370496 = T + 2 by omega, show (T * 4503599627370496 + 9007199254740992) % 4503599627370496 = 0 by omega, if_neg (by omega), show T + 2 - 1 = T + 1 by omega, Nat.pow_succ, Nat.zero_add]
    generalize 2 ^ T = p
    omega
  · rw [show (T * 4503599627370496 + G) / 4503599627370496 = T + 1 by omega, show (T * 4503599627370496 + G) % 4503599627370496 = G - 4503599627370496 by omega, if_neg (by omega), Nat.add_sub_cancel, Nat.sub_add_cancel h1]
theorem round_arith {T F S q h p u B n : Nat} (hp : 0 < p) (hS : S = q * p) (hB : B = u * p) (hT : 1 ≤ T) (hn : n = (B + F + h) / p) : (T * B + F + S + h) / p * p = (T - 1) * B + n * p + S := by
  obtain ⟨t, rfl⟩ : ∃ t, T = t + 1 := ⟨T - 1, by omega⟩
  rw [Nat.add_sub_cancel]
  have e1 : (t + 1) * B + F + S + h = p * (t * u + q) + (B + F + h) := by
    rw [Nat.mul_add, hS, Nat.add_mul, Nat.one_mul, show p * (t * u) = t * B by rw [hB, Nat.mul_left_comm, Nat.mul_comm p], Nat.mul_comm p q]
    omega
  rw [e1, Nat.mul_add_div hp, ← hn, Nat.add_mul, Nat.add_mul, ← hS, Nat.mul_assoc, ← hB]
  omega
/-- Written exactly, as a double. -/
theorem wr64 {Q mag D : Nat} {s : Bool} {p : Int} (hD : D = 1074) (h0 : 0 < Q) (hQ : Q < 9218868437227405312) (hv : mag * 2 ^ p.toNat * 2 ^ D = uv 52 Q * 2 ^ (-p).toNat) : Ieee.double.write (.number s mag p) = Q + sgn (11#8).toNat (52#8).toNat s := by
  have hinf : infP (11#8).toNat (52#8).toNat = 9218868437227405312 := by decide +kernel
  have hb : bia (11#8).toNat + (52#8).toNat - 1 = D := by rw [hD]; decide
  refine wr_uv kd64 h0 (by rw [hinf]; exact hQ) ?_
  rw [hb]
  exact hv
theorem F423_ok (a : BitVec 64) : ∃ o, F423 N (some a.toNat) = some o ∧ (((∃ s t, Ieee.double.read a.toNat = .nan s t) ∧ o = some a.toNat) ∨ ((∃ s, Ieee.double.read a.toNat = .infinity s) ∧ o = some a.toNat) ∨
    (∃ s mag place, Ieee.double.read a.toNat = .number s mag place ∧ o = some (Ieee.double.write (.number s (wh 1#8 s mag place) 0)))) := by
  have hb : BitVec.ofNat 64 ((some a.toNat).getD 0) = a := by
    show BitVec.ofNat 64 a.toNat = a
    exact BitVec.eq_of_toNat_eq (by rw [BitVec.toNat_ofNat]; exact Nat.mod_eq_of_lt a.isLt)
  unfold F423
  rw [hb, bt (show (some a.toNat).isSome = true from rfl)]
  obtain ⟨T, F, s, hT, hF, hX⟩ := dparts a.toNat (by have := a.isLt; rw [p64] at this; exact this)
  have hex := expo hT hF hX
  obtain ⟨D, hD⟩ : ∃ D : Nat, D = 1074 := ⟨_, rfl⟩
  unfold F423_1 F423_2
  generalize ((a >>> 52) &&& 2047#64) = t at *
  unfold F423_4
  have hinf : infP (11#8).toNat (52#8).toNat = 9218868437227405312 := by decide +kernel
  rcases Nat.lt_or_ge T 1023 with c | c
  · rw [bt (decide_eq_true (by rw [hex]; exact c))]
    have hsb := sgnbit (b := a) (P := T * 4503599627370496 + F) (by omega) hX
    unfold F423_5 F423_6 F423_3
    have hrd := dread (s := s) (show T < 2047 by omega) hF
    rw [← hX] at hrd
    by_cases c2 : T = 1022
    · have hte : (t == 1022#64) = true := by rw [eq_bv, hex, c2]; rfl
      rw [hte, bt rfl]
      refine ⟨_, rfl, Or.inr (Or.inr ⟨s, 4503599627370496 + F, (T : Int) - 1075, by rw [hrd, if_neg (by omega)], ?_⟩)⟩
      have hw : wh 1#8 s (4503599627370496 + F) ((T : Int) - 1075) = 1 := by
        rw [wh_neg _ _ (by omega), rn_away, show (-((T : Int) - 1075)).toNat - 1 = 52 by omega, show (2 : Nat) ^ 52 = 4503599627370496 from rfl, show (4503599627370496 + F) / 4503599627370496 = 1 by omega]
      rw [hw, wr64 (Q := 1022 * 4503599627370496 + 4503599627370496) hD (by decide) (by decide) (by
        obtain ⟨j, hj⟩ : ∃ j : Nat, j = 1022 := ⟨_, rfl⟩
        rw [← hj, uv_norm (by decide) (by decide), show (0 : Int).toNat = 0 from rfl, show (-(0 : Int)).toNat = 0 from rfl, Nat.pow_zero, Nat.mul_one, Nat.mul_one, Nat.one_mul, show (4503599627370496 : Nat) = 2 ^ 52 from rfl, ← Nat.pow_add]
        exact congrArg (fun z => 2 ^ z) (by omega))]
      rw [BitVec.toNat_or, hsb, sgn64]
      cases s <;> rfl
    · have hte : (t == 1022#64) = false := by rw [eq_bv, hex]; exact decide_eq_false c2
      rw [hte, bf rfl]
      by_cases cT : T = 0
      · refine ⟨_, rfl, Or.inr (Or.inr ⟨s, F, -1074, by rw [hrd, if_pos cT], ?_⟩)⟩
        have hw : wh 1#8 s F (-1074) = 0 := by
          rw [wh_neg _ _ (by omega), rn_away]
          have : F / 2 ^ ((-(-1074 : Int)).toNat - 1) = 0 := Nat.div_eq_of_lt (Nat.lt_of_lt_of_le hF (by
            rw [show (4503599627370496 : Nat) = 2 ^ 52 from rfl]; exact pow_le (by decide)))
          rw [this]
        rw [hw, wr_zero kd64, hsb]
      · refine ⟨_, rfl, Or.inr (Or.inr ⟨s, 4503599627370496 + F, (T : Int) - 1075, by rw [hrd, if_neg cT], ?_⟩)⟩
        have hw : wh 1#8 s (4503599627370496 + F) ((T : Int) - 1075) = 0 := by
          rw [wh_neg _ _ (by omega), rn_away]
          have : (4503599627370496 + F) / 2 ^ ((-((T : Int) - 1075)).toNat - 1) = 0 := Nat.div_eq_of_lt (Nat.lt_of_lt_of_le (show 4503599627370496 + F < 2 ^ 53 by rw [show (2 : Nat) ^ 53 = 9007199254740992 from rfl]; omega) (pow_le (by omega)))
          rw [this]
        rw [hw, wr_zero kd64, hsb]
  · rw [bf (decide_eq_false (by rw [hex]; show ¬ T < 1023; omega))]
    unfold F423_7
    rcases Nat.lt_or_ge T 1075 with c2 | c2
    · rw [bt (decide_eq_true (by rw [hex]; exact c2))]
      have hrd := dread (s := s) (show T < 2047 by omega) hF
      rw [← hX, if_neg (by omega)] at hrd
      have hj : (t - 1023#64).toNat = T - 1023 := by
        rw [BitVec.toNat_sub_of_le (by rw [BitVec.le_def, hex]; exact c), hex]; rfl
      obtain ⟨d, hd⟩ : ∃ d, d + T = 1075 := ⟨1075 - T, by omega⟩
      have hd1 : 1 ≤ d := by omega
      have hd2 : d ≤ 52 := by omega
      refine ⟨_, rfl, Or.inr (Or.inr ⟨s, 4503599627370496 + F, (T : Int) - 1075, hrd, ?_⟩)⟩
      have hp1 : (2251799813685248#64 >>> (t - 1023#64).toNat).toNat = 2 ^ (d - 1) := by
        rw [shr_nat, hj, show (2251799813685248#64).toNat = 2 ^ (d - 1) * 2 ^ (T - 1023) by
          rw [← Nat.pow_add, show d - 1 + (T - 1023) = 51 by omega]; rfl, Nat.mul_div_cancel _ (pow_pos2 _)]
      have hp2 : (4503599627370495#64 >>> (t - 1023#64).toNat).toNat = 2 ^ d - 1 := by
        rw [shr_nat, hj]
        have h52 : (4503599627370495#64).toNat = 2 ^ d * 2 ^ (T - 1023) - 1 := by
          rw [← Nat.pow_add, show d + (T - 1023) = 52 by omega]; rfl
        rw [h52]
        have hq := pow_pos2 (T - 1023)
        have hq2 := pow_pos2 d
        generalize 2 ^ (T - 1023) = q at *
        generalize 2 ^ d = r at *
        obtain ⟨r', rfl⟩ : ∃ r', r = r' + 1 := ⟨r - 1, by omega⟩
        rw [Nat.add_sub_cancel, Nat.add_mul, Nat.one_mul]
        have hle : r' * q + q - 1 = r' * q + (q - 1) := by omega
        rw [hle, Nat.mul_comm, Nat.mul_add_div hq, Nat.div_eq_of_lt (by omega), Nat.add_zero]
      obtain ⟨n, hn⟩ : ∃ n, n = wh 1#8 s (4503599627370496 + F) ((T : Int) - 1075) := ⟨_, rfl⟩
      have hpd : 2 ^ d = 2 * 2 ^ (d - 1) := by rw [← Nat.pow_succ']; exact congrArg (fun z => 2 ^ z) (by omega)
      have hnv : n = (4503599627370496 + F + 2 ^ (d - 1)) / 2 ^ d := by
        rw [hn, wh_neg _ _ (by omega), rn_away, show (-((T : Int) - 1075)).toNat - 1 = d - 1 by omega, hpd]
        have hq := pow_pos2 (d - 1)
        generalize 2 ^ (d - 1) = q at *
        rw [Nat.mul_comm 2 q, ← Nat.div_div_eq_div_mul, Nat.add_div_right _ hq]
        omega
      rw [← hn]
      have hle : n * 2 ^ d ≤ 4503599627370496 + F + 2 ^ (d - 1) := by rw [hnv]; exact Nat.div_mul_le_self _ _
      have hge : 4503599627370496 ≤ n * 2 ^ d := by
        have h52 : 4503599627370496 = 2 ^ (52 - d) * 2 ^ d := by rw [← Nat.pow_add, show 52 - d + d = 52 by omega]
        have : 2 ^ (52 - d) ≤ n := by
          rw [hnv, Nat.le_div_iff_mul_le (pow_pos2 d), ← h52]; omega
        rw [h52]; exact Nat.mul_le_mul_right _ this
      have hle2 : n * 2 ^ d ≤ 9007199254740992 := by
        have h53 : 9007199254740992 = 2 ^ (53 - d) * 2 ^ d := by rw [← Nat.pow_add, show 53 - d + d = 53 by omega]
        have hq := pow_pos2 (d - 1)
        have h3 : 2 ^ (d - 1) < 2 ^ d := pow_lt (by omega)
        have : n < 2 ^ (53 - d) + 1 := by
          rw [hnv, Nat.div_lt_iff_lt_mul (pow_pos2 d), Nat.add_mul, Nat.one_mul, ← h53]; omega
        rw [h53]; exact Nat.mul_le_mul_right _ (by omega)
      have hd' : d - 1 ≤ 51 := by omega
      have hp51 : 2 ^ (d - 1) ≤ 2 ^ 51 := pow_le hd'
      rw [show (2 : Nat) ^ 51 = 2251799813685248 from rfl] at hp51
      rw [wr64 (Q := (T - 1) * 4503599627370496 + n * 2 ^ d) hD (by omega) (by omega) (by
        rw [uv_norm hge hle2, show (0 : Int).toNat = 0 from rfl, show (-(0 : Int)).toNat = 0 from rfl, Nat.pow_zero, Nat.mul_one, Nat.mul_one, Nat.mul_assoc, ← Nat.pow_add]
        exact congrArg (fun z => n * 2 ^ z) (by omega))]
      refine congrArg some ?_
      show (((a + (2251799813685248#64 >>> (t - 1023#64).toNat)) &&& ~~~(4503599627370495#64 >>> (t - 1023#64).toNat)).toNat) = _
      rw [andnot_mask hp2, BitVec.toNat_add, hp1, hX, p64]
      have hsd : ∃ q, sgn (11#8).toNat (52#8).toNat s = q * 2 ^ d := by
        rw [sgn64]
        cases s
        · exact ⟨0, by rw [Nat.zero_mul]; rfl⟩
        · refine ⟨2 ^ (63 - d), ?_⟩
          rw [← Nat.pow_add, show 63 - d + d = 63 by omega]; rfl
      obtain ⟨q, hq⟩ := hsd
      have hsl : sgn (11#8).toNat (52#8).toNat s ≤ 9223372036854775808 := by rw [sgn64]; cases s <;> decide
      rw [Nat.mod_eq_of_lt (by omega)]
      exact round_arith (u := 2 ^ (52 - d)) (pow_pos2 d) hq (by rw [← Nat.pow_add, show 52 - d + d = 52 by omega]) (by omega) hnv
    · rw [bf (decide_eq_false (by rw [hex]; show ¬ T < 1075; omega))]
      unfold F423_3
      rcases Nat.lt_or_ge T 2047 with c3 | c3
      · have hrd := dread (s := s) c3 hF
        rw [← hX, if_neg (by omega)] at hrd
        refine ⟨_, rfl, Or.inr (Or.inr ⟨s, 4503599627370496 + F, (T : Int) - 1075, hrd, ?_⟩)⟩
        rw [wh_whole _ _ (by omega), wr64 (Q := T * 4503599627370496 + F) hD (by omega) (by omega) (by
          rw [show (0 : Int).toNat = 0 from rfl, show (-(0 : Int)).toNat = 0 from rfl, show T * 4503599627370496 + F = (T - 1) * 4503599627370496 + (4503599627370496 + F) by omega, uv_norm (by omega) (by omega), Nat.pow_zero, Nat.mul_one, Nat.mul_one, Nat.mul_assoc, ← Nat.pow_add]
          exact congrArg (fun z => (4503599627370496 + F) * 2 ^ z) (by omega)), hX]
      · have hTe : T = 2047 := by omega
        refine ⟨_, rfl, ?_⟩
        have hr := kd64.read (neg := s) (P := T * 4503599627370496 + F) (by
          rw [show 2 ^ ((11#8).toNat + (52#8).toNat) = 9223372036854775808 by decide +kernel]; omega)
        rw [← hX, show 2 ^ (52#8).toNat = 4503599627370496 from by decide, hinf, if_neg (by omega), if_neg (by omega)] at hr
        by_cases c4 : T * 4503599627370496 + F = 9218868437227405312
        · rw [if_pos c4] at hr
          exact Or.inr (Or.inl ⟨⟨s, hr⟩, rfl⟩)
        · rw [if_neg c4] at hr
          exact Or.inl ⟨⟨_, _, hr⟩, rfl⟩
end
end Go.Proofs.YfwaawGreat
