/-
  soft = exact: to int64, logarithm; a number rounds to itself; remainder.
-/
import Derived.Test.YfwaawGreatA2
import Derived.Test.YfwaawGreatG23
import Derived.Test.YfwaawGreatG45
namespace Go.Proofs.YfwaawGreat
open Go.Aw
set_option linter.unusedVariables false
set_option linter.unusedSimpArgs false
section
variable {e m mode : BitVec 8} {neg : Bool}
variable {a b c : BitVec 64} {na nb nc : Bool} {ca cb cc ea eb ec : Int} {ma mb mc : BitVec 64} {pa pb pc : Nat}

theorem ncmp_pos (a b : Nat) : decide (ncmp a b > 0) = decide (b < a) := by
  unfold ncmp
  by_cases h : a < b
  · rw [if_pos h, decide_eq_false (by omega), decide_eq_false (by omega)]
  · rw [if_neg h]
    by_cases h' : a = b
    · rw [if_pos h', decide_eq_false (by omega), decide_eq_false (by omega)]
    · rw [if_neg h', decide_eq_true (by omega), decide_eq_true (by omega)]
theorem blen_pow (n : Nat) (h : n ≠ 0) (k : Nat) : blen (n * 2 ^ k) = blen n + k := by
  have a := blen_shl n k
  have c := blen_pos h
  have b : ¬ blen (n * 2 ^ k) ≤ blen n + k - 1 := fun d => by
    have h5 := Nat.mul_le_mul_right (2 ^ k) (blen_le h)
    rw [← Nat.pow_add, show blen n - 1 + k = blen n + k - 1 from by omega] at h5
    have h6 := blen_le_iff.1 d
    omega
  omega
/-- A whole number as an int64, if it is one. -/
def ti (neg : Bool) (n : Nat) (s : Bool) : Int × Bool × BitVec 8 :=
  bif neg then (if n ≤ 9223372036854775808 then (w64 (0 - w64 (n : Int)), true, bif s then 16#8 else 0#8) else (0, false, 1#8))
  else (if n < 9223372036854775808 then (w64 (n : Int), true, bif s then 16#8 else 0#8) else (0, false, 1#8))
theorem F131_tail {N n : Nat} {x2 : BitVec 64} {x4 : Int} {x5 : Bool} {x6 x7 : Nat} {hf : Int} {s : Bool} (hn : blen n ≤ 1000000) : F131_4 N x2 neg x4 x5 x6 x7 n hf s = some (ti neg n s) := by
  have l1 : lim (9223372036854775808#64).toNat = true := lim_blen (by decide)
  have l2 : lim (9223372036854775807#64).toNat = true := lim_blen (by decide)
  unfold F131_4 F131_5 F131_6 F131_7 F131_8 F131_9 F131_10 ti
  rw [lim_blen (n := n) (by omega), l1, l2, Bool.and_self]
  cases neg with
  | true =>
    simp only [cond_true]
    show (bif decide (ncmp n 9223372036854775808 > 0) then _ else _) = _
    by_cases c : n ≤ 9223372036854775808
    · rw [if_pos c, bf (by rw [ncmp_pos]; exact decide_eq_false (by omega))]
      have e1 : (BitVec.ofNat 64 n).toNat = n := by rw [BitVec.toNat_ofNat]; exact Nat.mod_eq_of_lt (by omega)
      rw [e1]
      cases s <;> rfl
    · rw [if_neg c, bt (by rw [ncmp_pos]; exact decide_eq_true (by omega))]
  | false =>
    simp only [cond_true, cond_false]
    show (bif decide (ncmp n 9223372036854775807 > 0) then _ else _) = _
    by_cases c : n < 9223372036854775808
    · rw [if_pos c, bf (by rw [ncmp_pos]; exact decide_eq_false (by omega))]
      have e1 : (BitVec.ofNat 64 n).toNat = n := by rw [BitVec.toNat_ofNat]; exact Nat.mod_eq_of_lt (by omega)
      rw [e1]
      cases s <;> rfl
    · rw [if_neg c, bt (by rw [ncmp_pos]; exact decide_eq_true (by omega))]
theorem F151_tail {N : Nat} {x2 x3 : Int} {x4 n rest : BitVec 64} : F151_5 N neg x2 x3 x4 n rest = some (ti neg n.toNat (rest != 0#64)) := by
  unfold F151_5 F151_9 F151_6 F151_7 F151_8 ti
  simp only [show (9223372036854775808#64).toNat = 9223372036854775808 from rfl]
  cases neg with
  | true =>
    simp only [Bool.true_and, Bool.not_true, Bool.false_and, cond_true, cond_false]
    by_cases c : n.toNat ≤ 9223372036854775808
    · simp only [if_pos c, decide_eq_true c, cond_true]
      cases rest != 0#64 <;> rfl
    · simp only [if_neg c, decide_eq_false c, cond_false]
      cases rest != 0#64 <;> rfl
  | false =>
    simp only [Bool.true_and, Bool.not_false, Bool.false_and, cond_true, cond_false]
    by_cases c : n.toNat < 9223372036854775808
    · simp only [if_pos c, decide_eq_true c, cond_true]
      cases rest != 0#64 <;> rfl
    · simp only [if_neg c, decide_eq_false c, cond_false]
      cases rest != 0#64 <;> rfl

theorem toInt_eq (h : Fm e m) (a : BitVec 64) {N : Nat} : Bo (F151 N e m mode a) (F131 N e m mode a) := by
  unfold F151 F151_1 F131 F131_1
  simp only [lt]
  rw [h.ok, Bool.not_true, bf rfl]
  have z0 := bl0
  have h4 := h.m52
  obtain ⟨na, ca, ea, ma, ba, ga, va, an, ad, ha, ha', alta⟩ := opd h a
  rw [ha, ha']
  simp only [Option.bind_some, F151_2, F151_3, F151_13, F151_14, F151_4, F151_10, F131_2, F131_3, lt, cond_false]
  rcases alta with ⟨a4, a3, a0⟩ | ⟨a4, a3, a0, rfl, rfl⟩ | ⟨a4, a3, a0, rfl, rfl, rfl, rfl, rfl, rfl, rfl⟩ | ⟨a4, a3, a0, rfl, rfl, rfl, rfl, rfl, pa, fa⟩ <;>
  simp only [a4, a3, a0, klit, cond_true, cond_false]
  case inr.inr.inl =>
    rw [F245_one (by omega)]
    simp only [Option.bind_some]
    rw [F131_tail (by omega)]
    exact ⟨_, rfl, by cases na <;> rfl⟩
  case inr.inr.inr =>
    have r1 := fa.range h
    have n1 := fa.bnum h
    have d1 := fa.bden h
    have w1 : w16 (m.toNat : Int) = m.toNat := w16_id (by omega)
    have w2 : w16 (ea + m.toNat) = ea + m.toNat := w16_id (by omega)
    rw [w1, w2]
    by_cases hb : ea + m.toNat > 63
    · rw [bt (by simpa using hb), show (-ea).toNat = 0 from by omega, Nat.pow_zero, F245_one (by omega)]
      simp only [Option.bind_some]
      rw [F131_tail (by omega)]
      have hge : 18446744073709551616 ≤ ma.toNat * 2 ^ ea.toNat := by
        have := Nat.mul_le_mul_right (2 ^ ea.toNat) fa.lo
        rw [← Nat.pow_add] at this
        exact Nat.le_trans (@pow_le 64 (m.toNat + ea.toNat) (by omega)) this
      unfold ti
      rw [if_neg (by omega), if_neg (by omega)]
      exact ⟨_, rfl, by cases na <;> rfl⟩
    · rw [bf (by simpa using hb)]
      by_cases hx : 0 ≤ ea
      · rw [bt (by simpa using hx), bt (by simpa using hx), F151_tail, show (-ea).toNat = 0 from by omega, Nat.pow_zero, F245_one (by omega)]
        simp only [Option.bind_some]
        rw [F131_tail (by omega), shl_nat _ _ (by
          have := Nat.mul_lt_mul_of_pos_right fa.hi (pow_pos2 ea.toNat)
          rw [← Nat.pow_add] at this
          exact Nat.lt_of_lt_of_le this (pow_le (by omega)))]
        exact ⟨_, rfl, rfl⟩
      · rw [bf (by simpa using hx)]
        obtain ⟨n, rest, c1, c2, c3⟩ := cut_whole (N := N) mode na ma (x := ea) (by omega)
        rw [c1, F245_ok (pow_pos2 _) (by omega) (by omega), ← c2]
        simp only [Option.bind_some, F151_11, F151_12, lt]
        have c4 : (ma.toNat * 2 ^ ea.toNat % 2 ^ (-ea).toNat != 0) = (rest != 0#64) := by
          rw [c3]
          by_cases k : ma.toNat * 2 ^ ea.toNat % 2 ^ (-ea).toNat = 0
          · simp [k]
          · simp [k]
        rw [c4]
        cases F258 mode na n rest
        · simp only [cond_false]
          have hbn := blen64 n
          rw [F151_tail, F131_tail (by omega)]
          exact ⟨_, rfl, rfl⟩
        · simp only [cond_true]
          have hbn := blen64 (n + 1#64)
          rw [F151_tail, F131_tail (by omega)]
          exact ⟨_, rfl, rfl⟩
  all_goals exact ⟨_, rfl, rfl⟩

theorem logB_eq (h : Fm e m) (a : BitVec 64) {N : Nat} : F113 N e m a = some (F112 e m a) := by
  unfold F112 F112_1 F113 F113_1
  simp only [lt]
  rw [h.ok, Bool.not_true, bf rfl]
  have h4 := h.m52
  rcases opn h a with ⟨na, ha, xa, ha'⟩ | ⟨na, ha, xa, ha'⟩ | ⟨na, ha, xa, ha'⟩ | ⟨na, ca, ea, ma, pa, fa⟩
  case inr.inr.inr =>
    have r1 := fa.range h
    have n1 := fa.bnum h
    have d1 := fa.bden h
    have pa := blen_pos fa.nne
    have pb := blen_pos (pne (-ea).toNat)
    rw [fa.f65, fa.f144]
    have hc : ((ca != 1) && (ca != 2)) = false := by rcases fa.c12 with rfl | rfl <;> rfl
    have hne := fa.ne
    simp only [Option.bind_some, F112_2, F112_3, F113_2, F113_3, F113_4, lt, cond_false, hc, eq_bv, show (0#64).toNat = 0 from rfl]
    rw [bf (decide_eq_false hne), bt (lim_blen (by omega)), bt (lim_blen (by omega))]
    obtain ⟨x, hx⟩ : ∃ x : Int, x = (blen (ma.toNat * 2 ^ ea.toNat) : Int) - blen (2 ^ (-ea).toNat) := ⟨_, rfl⟩
    rw [← hx]
    have w1 : w64 x = x := w64_id (by omega)
    have w2 : w64 (x - 1) = x - 1 := w64_id (by omega)
    have w3 : w64 (x - 1 + 1) = x := by rw [w64_id (by omega)]; omega
    rw [w1, w2, w3]
    obtain ⟨r, real, q1, q2, q3⟩ := F207_ok (N := N) (num := ma.toNat * 2 ^ ea.toNat) (den := 2 ^ (-ea).toNat) (lo := x - 1) (hi := x) fa.nne (pne _) (by omega) (by omega) (by omega) (by omega) (by omega)
    have hlg := Lg_pow fa.ne ea
    have hre := q2.unique hlg
    have hbm : blen ma.toNat = m.toNat + 1 := by
      have u1 : blen ma.toNat ≤ m.toNat + 1 := blen_le_iff.2 fa.hi
      have u2 : ¬ blen ma.toNat ≤ m.toNat := fun k => by have := blen_le_iff.1 k; have := fa.lo; omega
      omega
    have hest := lg_est (num := ma.toNat * 2 ^ ea.toNat) (den := 2 ^ (-ea).toNat) fa.nne (pne _)
    rw [← hx] at hest
    have hre2 : real = x ∨ real = x - 1 := by
      by_cases k : ma.toNat * 2 ^ ea.toNat * 2 ^ (-x).toNat < 2 ^ (-ea).toNat * 2 ^ x.toNat
      · exact .inr (q2.unique (hest.1 k))
      · exact .inl (q2.unique (hest.2 k))
    rw [q1]
    simp only [Option.bind_some]
    have w4 : w64 ea = ea := w64_id (by omega)
    have w5 : w64 (m.toNat : Int) = m.toNat := w64_id (by omega)
    have w6 : w64 (ea + m.toNat) = ea + m.toNat := w64_id (by omega)
    rw [w4, w5, w6]
    have : r = ea + m.toNat := by omega
    rw [this]
  all_goals rw [ha, ha']; rfl

/-! ### Itself -/
/-- A finite number rounds to itself, whatever the mode. -/
theorem RQ_self (h : Fm e m) (f : FinP e m a na ca ea ma pa) : RQ e m mode na (ma.toNat * 2 ^ ea.toNat) (2 ^ (-ea).toNat) = (a &&& F69 e m, 0#8) := by
  have h4 := h.m52
  have r1 := f.range h
  have hb := bia_le h.e11
  have hbg := bia_ge h.e2
  have hbm : blen ma.toNat = m.toNat + 1 := by
    have u1 : blen ma.toNat ≤ m.toNat + 1 := blen_le_iff.2 f.hi
    have u2 : ¬ blen ma.toNat ≤ m.toNat := fun k => by have := blen_le_iff.1 k; have := f.lo; omega
    omega
  unfold RQ
  rw [lg_pow f.ne, hbm]
  obtain ⟨real, hreal⟩ : ∃ real : Int, real = ((m.toNat + 1 : Nat) : Int) - 1 + ea := ⟨_, rfl⟩
  rw [← hreal]
  have hxl := f.exh
  have hxl' := f.exl
  -- in half units of the least
  have key : ∃ n, fq (ma.toNat * 2 ^ ea.toNat) (2 ^ (-ea).toNat) (max real (1 - bia e.toNat) - m.toNat - 1) = 2 * n ∧ eq (ma.toNat * 2 ^ ea.toNat) (2 ^ (-ea).toNat) (max real (1 - bia e.toNat) - m.toNat - 1) = false ∧
      (max real (1 - bia e.toNat) - (1 - bia e.toNat)).toNat * 2 ^ m.toNat + n = pa := by
    have hval := f.val
    have hpm := pow_pos2 m.toNat
    have hs1 := Nat.pow_succ 2 m.toNat
    have hlo := f.lo
    have hhi := f.hi
    by_cases hn : 1 - (bia e.toNat : Int) ≤ real
    · refine ⟨ma.toNat, ?_⟩
      rw [show max real (1 - (bia e.toNat : Int)) = real from by omega]
      have hd : real - m.toNat - 1 = ea - 1 := by omega
      rw [hd]
      have hc := fq_cross (num := ma.toNat * 2 ^ ea.toNat) (den := 2 ^ (-ea).toNat) (num' := ma.toNat * 2 * 2 ^ (ea - 1).toNat) (den' := 2 ^ (-(ea - 1)).toNat) (pow_pos2 _) (pow_pos2 _) (by
        have : 2 ^ ea.toNat * 2 ^ (-(ea - 1)).toNat = 2 * (2 ^ (ea - 1).toNat * 2 ^ (-ea).toNat) := by
          rw [← Nat.pow_add, ← Nat.pow_add, ← Nat.pow_succ']
          exact congrArg (fun t => 2 ^ t) (by omega)
        grind) (ea - 1)
      have hp := fq_pow (ma.toNat * 2) (ea - 1) 0
      rw [show ea - 1 + ((0 : Nat) : Int) = ea - 1 from by omega, Nat.pow_zero, Nat.div_one, Nat.mod_one] at hp
      rw [hc.1, hc.2, hp.1, hp.2]
      refine ⟨by omega, by simp, ?_⟩
      -- the pattern
      unfold uv at hval
      split at hval
      · -- a subnormal pattern: only the least normal's neighbours are here
        rename_i hz
        have hP : pa < 2 ^ m.toNat := by
          have h5 := Nat.div_add_mod pa (2 ^ m.toNat)
          rw [hz, Nat.mul_zero, Nat.zero_add] at h5
          rw [← h5]; exact Nat.mod_lt _ hpm
        exfalso
        have hk : m.toNat ≤ (ea + bia e.toNat + 2 * m.toNat - 1).toNat := by omega
        have h6 : 2 ^ m.toNat * 2 ^ m.toNat ≤ ma.toNat * 2 ^ (ea + bia e.toNat + 2 * m.toNat - 1).toNat := Nat.mul_le_mul hlo (pow_le hk)
        have h7 : pa * 2 ^ m.toNat < 2 ^ m.toNat * 2 ^ m.toNat := Nat.mul_lt_mul_of_pos_right hP hpm
        omega
      · rename_i hz
        -- T - 1 = real - emin and the significands agree
        obtain ⟨T, hT⟩ : ∃ T, pa / 2 ^ m.toNat = T + 1 := Nat.exists_eq_succ_of_ne_zero hz
        rw [hT, Nat.add_sub_cancel] at hval
        have hF := Nat.mod_lt pa hpm
        have hdm := Nat.div_add_mod pa (2 ^ m.toNat)
        rw [hT] at hdm
        -- blen both sides
        have e1 : blen (ma.toNat * 2 ^ (ea + bia e.toNat + 2 * m.toNat - 1).toNat) = m.toNat + 1 + (ea + bia e.toNat + 2 * m.toNat - 1).toNat := by
          have := blen_pow ma.toNat f.ne (ea + bia e.toNat + 2 * m.toNat - 1).toNat
          omega
        have hF2 : blen (pa % 2 ^ m.toNat + 2 ^ m.toNat) = m.toNat + 1 := by
          have u1 : blen (pa % 2 ^ m.toNat + 2 ^ m.toNat) ≤ m.toNat + 1 := blen_le_iff.2 (by omega)
          have u2 : ¬ blen (pa % 2 ^ m.toNat + 2 ^ m.toNat) ≤ m.toNat := fun k => by have := blen_le_iff.1 k; omega
          omega
        have e2 : blen ((pa % 2 ^ m.toNat + 2 ^ m.toNat) * 2 ^ T * 2 ^ m.toNat) = m.toNat + 1 + (T + m.toNat) := by
          rw [Nat.mul_assoc, ← Nat.pow_add]
          have := blen_pow (pa % 2 ^ m.toNat + 2 ^ m.toNat) (by omega) (T + m.toNat)
          omega
        rw [hval, e2] at e1
        have hTe : (real - (1 - bia e.toNat)).toNat = T := by omega
        have hexp : (ea + bia e.toNat + 2 * m.toNat - 1).toNat = T + m.toNat := by omega
        rw [hexp, Nat.pow_add, ← Nat.mul_assoc] at hval
        have hme : ma.toNat = pa % 2 ^ m.toNat + 2 ^ m.toNat := by
          have := Nat.mul_right_cancel hpm hval
          exact Nat.mul_right_cancel (pow_pos2 T) this
        rw [hTe, hme]
        rw [Nat.mul_add, Nat.mul_one, Nat.mul_comm] at hdm
        omega
    · -- below the least normal
      rw [show max real (1 - (bia e.toNat : Int)) = 1 - bia e.toNat from by omega]
      refine ⟨pa, ?_⟩
      unfold uv at hval
      split at hval
      · rename_i hz
        have hc := fq_cross (num := ma.toNat * 2 ^ ea.toNat) (den := 2 ^ (-ea).toNat) (num' := 2 * pa * 2 ^ (1 - (bia e.toNat : Int) - m.toNat - 1).toNat) (den' := 2 ^ (-(1 - (bia e.toNat : Int) - m.toNat - 1)).toNat) (pow_pos2 _) (pow_pos2 _) (by
          have q1 : (1 - (bia e.toNat : Int) - m.toNat - 1).toNat = 0 := by omega
          have q2 : (-(1 - (bia e.toNat : Int) - m.toNat - 1)).toNat = bia e.toNat + m.toNat := by omega
          rw [q1, q2, Nat.pow_zero, Nat.mul_one]
          have q3 : 2 ^ ea.toNat * 2 ^ (bia e.toNat + m.toNat) * 2 ^ m.toNat = 2 * (2 ^ (ea + bia e.toNat + 2 * m.toNat - 1).toNat * 2 ^ (-ea).toNat) := by
            rw [← Nat.pow_add, ← Nat.pow_add, ← Nat.pow_add, ← Nat.pow_succ']
            exact congrArg (fun t => 2 ^ t) (by omega)
          refine Nat.mul_right_cancel hpm ?_
          have q4 : ma.toNat * 2 ^ ea.toNat * 2 ^ (bia e.toNat + m.toNat) * 2 ^ m.toNat = ma.toNat * (2 ^ ea.toNat * 2 ^ (bia e.toNat + m.toNat) * 2 ^ m.toNat) := by grind
          rw [q4, q3]
          have q5 : ma.toNat * (2 * (2 ^ (ea + bia e.toNat + 2 * m.toNat - 1).toNat * 2 ^ (-ea).toNat)) = 2 * (ma.toNat * 2 ^ (ea + bia e.toNat + 2 * m.toNat - 1).toNat) * 2 ^ (-ea).toNat := by grind
          rw [q5, hval]; grind) (1 - (bia e.toNat : Int) - m.toNat - 1)
        have hp := fq_pow (2 * pa) (1 - (bia e.toNat : Int) - m.toNat - 1) 0
        rw [show 1 - (bia e.toNat : Int) - m.toNat - 1 + ((0 : Nat) : Int) = 1 - (bia e.toNat : Int) - m.toNat - 1 from by omega, Nat.pow_zero, Nat.div_one, Nat.mod_one] at hp
        rw [hc.1, hc.2, hp.1, hp.2]
        refine ⟨rfl, by simp, ?_⟩
        rw [show (1 - (bia e.toNat : Int) - (1 - bia e.toNat)).toNat = 0 from by omega]
        omega
      · rename_i hz
        exfalso
        have hk : (ea + bia e.toNat + 2 * m.toNat - 1).toNat < m.toNat ∨ (ea + bia e.toNat + 2 * m.toNat - 1).toNat + 1 ≤ m.toNat := by omega
        have h6 : ma.toNat * 2 ^ (ea + bia e.toNat + 2 * m.toNat - 1).toNat < 2 ^ (m.toNat + 1) * 2 ^ (m.toNat - 1) := by
          have h8 : 2 ^ (ea + bia e.toNat + 2 * m.toNat - 1).toNat ≤ 2 ^ (m.toNat - 1) := pow_le (by omega)
          exact Nat.mul_lt_mul_of_lt_of_le hhi h8 (pow_pos2 _)
        rw [← Nat.pow_add, show m.toNat + 1 + (m.toNat - 1) = m.toNat + m.toNat from by have := h.m2; omega, Nat.pow_add] at h6
        have h7 : 2 ^ m.toNat * 2 ^ m.toNat ≤ (pa % 2 ^ m.toNat + 2 ^ m.toNat) * 2 ^ (pa / 2 ^ m.toNat - 1) * 2 ^ m.toNat := by
          refine Nat.mul_le_mul_right _ ?_
          have h9 : 1 ≤ 2 ^ (pa / 2 ^ m.toNat - 1) := pow_pos2 _
          have := Nat.mul_le_mul (show 2 ^ m.toNat ≤ pa % 2 ^ m.toNat + 2 ^ m.toNat by omega) h9
          omega
        omega
  obtain ⟨n, k1, k2, k3⟩ := key
  unfold RS
  rw [k1, k2, rn_exact (by omega) rfl, show 2 * n / 2 = n from by omega, k3]
  have hpi := f.pi
  rw [if_neg (by omega), if_neg (by omega), if_pos ⟨by omega, rfl⟩]
  refine Prod.ext ?_ rfl
  refine BitVec.eq_of_toNat_eq ?_
  show (BitVec.ofNat 64 (pa + sgn e.toNat m.toNat na)).toNat = _
  rw [← f.xm, BitVec.ofNat_toNat]
  simp
end
end Go.Proofs.YfwaawGreat
