/-
  Doubles: fields, absolute value, infinity, normal form, Frexp.
-/
import Derived.Test.YfwaawGreatJ1
namespace Go.Proofs.YfwaawGreat
open Go.Aw
set_option linter.unusedVariables false
set_option linter.unusedSimpArgs false

section
variable {X Y V W N : Nat} {s t : Bool}
theorem and_field (b w k : Nat) : b &&& ((2 ^ w - 1) * 2 ^ k) = b / 2 ^ k % 2 ^ w * 2 ^ k := by
  refine Nat.eq_of_testBit_eq fun i => ?_
  rw [Nat.testBit_and, Nat.testBit_mul_two_pow, Nat.testBit_mul_two_pow]
  by_cases c : k ≤ i
  · rw [decide_eq_true c, Bool.true_and, Bool.true_and, Nat.testBit_two_pow_sub_one, Nat.testBit_mod_two_pow, Nat.testBit_div_two_pow, show i - k + k = i by omega, Bool.and_comm]
  · rw [decide_eq_false c]; simp
theorem andn_sub (x w : BitVec 64) : (x &&& ~~~w).toNat = x.toNat - (x &&& w).toNat := by
  have h1 : (x &&& w) &&& (x &&& ~~~w) = 0#64 := by
    rw [BitVec.and_assoc, ← BitVec.and_assoc w x, BitVec.and_comm w x, BitVec.and_assoc x w, ← BitVec.and_assoc x x]
    have : w &&& ~~~w = 0#64 := by
      refine BitVec.eq_of_getLsbD_eq fun i hi => ?_
      rw [BitVec.getLsbD_and, BitVec.getLsbD_not]
      cases w.getLsbD i <;> simp
    rw [this]
    simp
  have h2 := BitVec.add_eq_or_of_and_eq_zero _ _ h1
  have h3 : (x &&& w) ||| (x &&& ~~~w) = x := by
    refine BitVec.eq_of_getLsbD_eq fun i hi => ?_
    rw [BitVec.getLsbD_or, BitVec.getLsbD_and, BitVec.getLsbD_and, BitVec.getLsbD_not, decide_eq_true hi]
    cases x.getLsbD i <;> cases w.getLsbD i <;> rfl
  rw [h3] at h2
  have h4 := congrArg BitVec.toNat h2
  rw [BitVec.toNat_add, p64] at h4
  have a1 : (x &&& w).toNat ≤ x.toNat := by rw [BitVec.toNat_and]; exact Nat.and_le_left
  have a2 : (x &&& ~~~w).toNat ≤ x.toNat := by rw [BitVec.toNat_and]; exact Nat.and_le_left
  have a3 := x.isLt
  rw [p64] at a3
  omega
theorem fieldT {b : BitVec 64} {T F : Nat} (hT : T < 2048) (hF : F < 4503599627370496) (hb : b.toNat = T * 4503599627370496 + F + s64 s) : (b &&& 9218868437227405312#64).toNat = T * 4503599627370496 := by
  rw [BitVec.toNat_and, show (9218868437227405312#64).toNat = (2 ^ 11 - 1) * 2 ^ 52 from by decide, and_field, hb, show (2 : Nat) ^ 52 = 4503599627370496 from rfl, show (2 : Nat) ^ 11 = 2048 from rfl]
  unfold s64
  cases s
  · rw [cond_false]; omega
  · rw [cond_true]; omega
/-- The exponent's field taken out and put in. -/
theorem setE {b y : BitVec 64} {T F e : Nat} (hT : T < 2048) (hF : F < 4503599627370496) (hb : b.toNat = T * 4503599627370496 + F + s64 s) (he : e < 2048) (hy : y.toNat = e * 4503599627370496) : ((b &&& ~~~9218868437227405312#64) ||| y).toNat = e * 4503599627370496 + F + s64 s := by
  have h1 : (b &&& ~~~9218868437227405312#64).toNat = F + s64 s := by rw [andn_sub, fieldT hT hF hb, hb]; omega
  have hym : y &&& 9218868437227405312#64 = y := by
    refine BitVec.eq_of_toNat_eq ?_
    rw [BitVec.toNat_and, show (9218868437227405312#64).toNat = (2 ^ 11 - 1) * 2 ^ 52 from by decide, and_field, hy, show (2 : Nat) ^ 52 = 4503599627370496 from rfl, show (2 : Nat) ^ 11 = 2048 from rfl]
    omega
  have h2 : (b &&& ~~~9218868437227405312#64) &&& y = 0#64 := by
    rw [← hym]
    refine BitVec.eq_of_getLsbD_eq fun i hi => ?_
    rw [BitVec.getLsbD_and, BitVec.getLsbD_and, BitVec.getLsbD_and, BitVec.getLsbD_not]
    generalize (9218868437227405312#64).getLsbD i = q
    cases b.getLsbD i <;> cases y.getLsbD i <;> cases q <;> simp
  have h3 := BitVec.add_eq_or_of_and_eq_zero _ _ h2
  rw [← h3, BitVec.toNat_add, h1, hy, p64]
  have hs : s64 s ≤ 9223372036854775808 := by unfold s64; cases s <;> decide
  rw [Nat.mod_eq_of_lt (by omega)]
  omega
theorem bv_of {X : Nat} (h : X < 18446744073709551616) : (BitVec.ofNat 64 ((some X).getD 0)).toNat = X := by
  show (BitVec.ofNat 64 X).toNat = X
  rw [BitVec.toNat_ofNat, p64]; exact Nat.mod_eq_of_lt h
theorem DV.ltX (h : DV X s V) : X < 18446744073709551616 := by
  obtain ⟨Q, h1, h2, h3⟩ := h.q
  have hs : s64 s ≤ 9223372036854775808 := by unfold s64; cases s <;> decide
  omega
theorem s64le (s : Bool) : s64 s ≤ 9223372036854775808 := by unfold s64; cases s <;> decide
/-- Abs. -/
theorem F444_ok (h : DV X s V) : ∃ Z, F444 N (some X) = some (some Z) ∧ DV Z false V := by
  obtain ⟨Q, h1, h2, h3⟩ := h.q
  refine ⟨_, rfl, ⟨Q, h1, h2, ?_⟩⟩
  have hb := bv_of h.ltX
  rw [andn_sub, sgnbit (P := Q) (s := s) (by omega) (by rw [hb, h3, sgn64]), hb, h3, sgn64]
  show Q + s64 s - s64 s = Q + 0
  omega
theorem dvmax : DV 9218868437227405311 false (uv 52 9218868437227405311) := ⟨_, by decide, rfl, rfl⟩
theorem uv_mono {P Q : Nat} (h : P ≤ Q) : uv 52 P ≤ uv 52 Q := by
  rcases Nat.eq_or_lt_of_le h with g | g
  · rw [g]; exact Nat.le_refl _
  · exact Nat.le_of_lt (uv_lt g)
theorem F430_fin (h : DV X s V) : F430 N (some X) 0 = some false := by
  obtain ⟨Z, h1, h2⟩ := F444_ok (N := N) h
  unfold F430 F430_2 F430_1
  rw [bt (by rfl), h1, Option.bind_some, h2.gt dvmax]
  obtain ⟨Q, q1, q2, _⟩ := h2.q
  have := uv_mono (show Q ≤ 9218868437227405311 by omega)
  have sf : ∀ n : Nat, sg false n = (n : Int) := fun n => rfl
  rw [sf, sf, decide_eq_false (by omega)]
theorem F429_fin (h : DV X s V) : F429 (some X) = false := by
  unfold F429
  rw [fneq_self]
  exact h.nn
theorem dv0 : DV 0 false 0 := ⟨0, by decide, uv_zero 52, rfl⟩
theorem sg_zero {n : Nat} : sg s n = 0 ↔ n = 0 := by unfold sg; cases s <;> simp
theorem eqz (h : DV X s V) : fcmp .eql .f64 (some X) (some 0) = decide (V = 0) := by
  rw [h.eq dv0]
  have : sg false 0 = 0 := rfl
  rw [this]
  exact decide_eq_decide.2 sg_zero
theorem ltz (h : DV X s V) : fcmp .lss .f64 (some X) (some 0) = (s && decide (V ≠ 0)) := by
  rw [h.lt dv0]
  have : sg false 0 = 0 := rfl
  rw [this, Bool.eq_iff_iff, decide_eq_true_eq, Bool.and_eq_true, decide_eq_true_eq]
  unfold sg
  cases s <;> simp <;> omega
theorem uv_small {Q : Nat} (h : Q < 4503599627370496) : uv 52 Q = Q := by
  unfold uv; rw [if_pos (Nat.div_eq_of_lt h)]
theorem dvmin : DV 4503599627370496 false 4503599627370496 := ⟨4503599627370496, by decide, by
  have := uv_norm (T := 0) (G := 4503599627370496) (by decide) (by decide)
  rw [Nat.zero_mul, Nat.zero_add, Nat.pow_zero, Nat.mul_one] at this
  exact this, rfl⟩
theorem c52 : Ieee.double.read 4841369599423283200 = .number false 4503599627370496 0 := by decide +kernel
/-- A normal number's fields. -/
theorem DV.norm (h : DV X s V) (hV : 4503599627370496 ≤ V) : ∃ T F, 1 ≤ T ∧ T < 2047 ∧ F < 4503599627370496 ∧ X = T * 4503599627370496 + F + s64 s ∧ V = (4503599627370496 + F) * 2 ^ (T - 1) ∧ blen V = T + 52 := by
  obtain ⟨Q, h1, h2, h3⟩ := h.q
  have hQ : 4503599627370496 ≤ Q := by
    rcases Nat.lt_or_ge Q 4503599627370496 with c | c
    · rw [uv_small c] at h2; omega
    · exact c
  have hv : V = (4503599627370496 + Q % 4503599627370496) * 2 ^ (Q / 4503599627370496 - 1) := by
    rw [← h2, show Q = (Q / 4503599627370496 - 1) * 4503599627370496 + (4503599627370496 + Q % 4503599627370496) by omega, uv_norm (by omega) (by omega)]
    rw [show ((Q / 4503599627370496 - 1) * 4503599627370496 + (4503599627370496 + Q % 4503599627370496)) = Q by omega]
  refine ⟨Q / 4503599627370496, Q % 4503599627370496, by omega, by omega, by omega, by rw [h3]; omega, hv, ?_⟩
  rw [hv, blen_pow _ (by omega)]
  have : blen (4503599627370496 + Q % 4503599627370496) = 53 := blen_of (k := 52) (by rw [show (2 : Nat) ^ 52 = 4503599627370496 from rfl]; omega) (by rw [show (2 : Nat) ^ (52 + 1) = 9007199254740992 from rfl]; omega)
  omega
/-- The normal form. -/
theorem F445_ok (h : DV X s V) (h0 : V ≠ 0) : ∃ (X' k : Nat), F445 N (some X) = some (some X', -(k : Int)) ∧ DV X' s (V * 2 ^ k) ∧ 4503599627370496 ≤ V * 2 ^ k ∧ k ≤ 52 := by
  obtain ⟨D, hD⟩ : ∃ D : Nat, D = 1074 := ⟨_, rfl⟩
  obtain ⟨Z, h1, h2⟩ := F444_ok (N := N) h
  unfold F445
  rw [h1, Option.bind_some, h2.lt dvmin]
  have sf : ∀ n : Nat, sg false n = (n : Int) := fun n => rfl
  rw [sf, sf]
  unfold F445_1
  by_cases c : V < 4503599627370496
  · rw [decide_eq_true (by omega), bt rfl]
    obtain ⟨mag, place, g1, g2, g3, g4⟩ := h.read
    have hm : fbits .mul .f64 (some X) (some 4841369599423283200) = some (Ieee.double.write (.number s (mag * 4503599627370496) (place + 0))) := by
      show Ieee.double.mul X 4841369599423283200 = _
      unfold Ieee.Format.mul
      rw [g1, c52]
      show some (Ieee.double.write (.number (s ^^ false) (mag * 4503599627370496) (place + 0))) = _
      rw [Bool.xor_false]
    rw [hm]
    have hdv : DV (Ieee.double.write (.number s (mag * 4503599627370496) (place + 0))) s (V * 2 ^ 52) := by
      refine write_units (D := D) hD (show -(D : Int) ≤ place + 0 by omega) ?_ (rep_of (by omega) fun _ => ?_)
      · rw [Int.add_zero, Nat.mul_right_comm, g4 D hD]
      · have : blen V ≤ 52 := blen_le_iff.2 c
        omega
    refine ⟨_, 52, rfl, hdv, ?_, Nat.le_refl _⟩
    · rw [show (2 : Nat) ^ 52 = 4503599627370496 from rfl]
      have := Nat.mul_le_mul_right 4503599627370496 (show 1 ≤ V by omega)
      omega
  · rw [decide_eq_false (by omega), bf rfl]
    exact ⟨X, 0, rfl, by rw [Nat.pow_zero, Nat.mul_one]; exact h, by rw [Nat.pow_zero, Nat.mul_one]; omega, by decide⟩
/-- Frexp. -/
theorem F455_ok (h : DV X s V) (h0 : V ≠ 0) : ∃ Y G T k, F455 N (some X) = some (some Y, (blen V : Int) - 1074) ∧ 4503599627370496 ≤ G ∧ G < 9007199254740992 ∧ 1 ≤ T ∧ V * 2 ^ k = G * 2 ^ (T - 1) ∧ (∀ K : Nat, K = 1021 → DV Y s (G * 2 ^ K)) := by
  obtain ⟨X', k, h1, h2, h3, h4⟩ := F445_ok (N := N) h h0
  obtain ⟨T, F, t1, t2, t3, t4, t5, t6⟩ := h2.norm h3
  unfold F455 F455_1 F455_2
  rw [eqz h, decide_eq_false h0, bf rfl, F430_fin h, Option.bind_some, F429_fin h, Bool.or_self, bf rfl, h1, Option.bind_some]
  unfold F455_3
  rw [bt (show (some X').isSome = true from rfl)]
  have hb := bv_of h2.ltX
  generalize BitVec.ofNat 64 ((some X').getD 0) = b at *
  rw [t4] at hb
  have hex := expo (s := s) (show T < 2048 by omega) t3 (by rw [hb, sgn64])
  unfold F455_4 F455_5 F455_6 F455_7
  have hset := setE (s := s) (y := 4602678819172646912#64) (e := 1022) (show T < 2048 by omega) t3 hb (by decide) (by decide)
  have hbl := blen_pow V h0 k
  have hexp : w64 (-(k : Int) + w64 (w64 (w64 (((b >>> 52) &&& 2047#64).toNat : Int) - 1023) + 1)) = (blen V : Int) - 1074 := by
    rw [hex, w64_id (n := (T : Int)) (by omega), w64_id (n := (T : Int) - 1023) (by omega), w64_id (n := (T : Int) - 1023 + 1) (by omega), w64_id (by omega)]
    omega
  refine ⟨_, 4503599627370496 + F, T, k, ?_, by omega, by omega, t1, t5, fun K hK => ⟨1022 * 4503599627370496 + F, by omega, ?_, rfl⟩⟩
  · rw [hexp, hset]
  · obtain ⟨j, hj⟩ : ∃ j : Nat, j = 1021 := ⟨_, rfl⟩
    rw [show 1022 * 4503599627370496 + F = j * 4503599627370496 + (4503599627370496 + F) by omega, uv_norm (by omega) (by omega), hj, hK]
end
end Go.Proofs.YfwaawGreat
