/-
  The table of powers of ten, plain: its entries.
-/
import Derived.Test.YfwaawGreatD1
import Derived.Test.YfwaawGreatG0
namespace Go.Proofs.YfwaawGreat
open Go.Aw
set_option linter.unusedVariables false
set_option linter.unusedSimpArgs false

/-- An entry: T * 2^x is 10^q to 128 bits, from below. -/
structure EN (hi lo : BitVec 64) (x q : Int) : Prop where
  ge : 170141183460469231731687303715884105728 ≤ v2 hi lo
  lb : v2 hi lo * 2 ^ x.toNat * 10 ^ (-q).toNat ≤ 10 ^ q.toNat * 2 ^ (-x).toNat
  ub : 10 ^ q.toNat * 2 ^ (-x).toNat < (v2 hi lo + 1) * 2 ^ x.toNat * 10 ^ (-q).toNat
  ex : 0 ≤ q → q ≤ 55 → v2 hi lo * 2 ^ x.toNat * 10 ^ (-q).toNat = 10 ^ q.toNat * 2 ^ (-x).toNat
  pos : ∀ k : Nat, q = k → 128 ≤ blen (5 ^ k) → v2 hi lo = 5 ^ k / 2 ^ (blen (5 ^ k) - 128) ∧ x = ((blen (5 ^ k) - 128 : Nat) : Int) + k
  neg : ∀ k : Nat, 1 ≤ k → q = -(k : Int) → v2 hi lo = 2 ^ (127 + blen (5 ^ k)) / 5 ^ k ∧ x = -(k : Int) - ((127 + blen (5 ^ k) : Nat) : Int)

theorem v2_of {n : Nat} (h : n < 340282366920938463463374607431768211456) : v2 (BitVec.ofNat 64 (n / 2 ^ 64)) (BitVec.ofNat 64 n) = n := by
  unfold v2
  rw [BitVec.toNat_ofNat, BitVec.toNat_ofNat, p64]
  omega
theorem five_odd : ∀ k : Nat, 5 ^ k % 2 = 1
  | 0 => rfl
  | k + 1 => by rw [Nat.pow_succ, Nat.mul_mod, five_odd k]
theorem five_bl {k : Nat} (hk : 1 ≤ k) : 2 ^ (blen (5 ^ k) - 1) < 5 ^ k := by
  have hp : 0 < 5 ^ k := Nat.pow_pos (by decide)
  have h5 : 5 ^ 1 ≤ 5 ^ k := Nat.pow_le_pow_right (by decide) hk
  rcases Nat.eq_or_lt_of_le (blen_le (n := 5 ^ k) (by omega)) with c | c
  · exfalso
    have ho := five_odd k
    have hb : 2 ≤ blen (5 ^ k) := by
      rcases Nat.lt_or_ge (blen (5 ^ k)) 2 with d | d
      · have := blen_lt (5 ^ k)
        have h2 : 2 ^ blen (5 ^ k) ≤ 2 ^ 1 := pow_le (by omega)
        omega
      · exact d
    rw [← c] at ho
    have : 2 ^ (blen (5 ^ k) - 1) = 2 * 2 ^ (blen (5 ^ k) - 2) := by rw [← Nat.pow_succ', Nat.succ_eq_add_one, show blen (5 ^ k) - 2 + 1 = blen (5 ^ k) - 1 from by omega]
    omega
  · exact c

theorem F21_neg {N : Nat} {k : Nat} (hk : 1 ≤ k) (hk2 : k ≤ 348) : ∃ hi lo x, F21 N (5 ^ k) (-(k : Int)) = some (hi, lo, x) ∧ EN hi lo x (-(k : Int)) := by
  have hp : 0 < 5 ^ k := Nat.pow_pos (by decide)
  have hb := blen_5 k
  have hbp := blen_pos (show 5 ^ k ≠ 0 by omega)
  have hbl := blen_lt (5 ^ k)
  have hbg := five_bl hk
  obtain ⟨b, hbv⟩ : ∃ b, b = blen (5 ^ k) := ⟨_, rfl⟩
  rw [← hbv] at hb hbp hbl hbg
  have w1 : w64 (127 + (b : Int)) = ((127 + b : Nat) : Int) := by rw [w64_id (by omega)]; omega
  have w2 : w16 ((127 + b : Nat) : Int) = ((127 + b : Nat) : Int) := w16_id (by omega)
  have w3 : w16 (-(k : Int) - ((127 + b : Nat) : Int)) = -(k : Int) - ((127 + b : Nat) : Int) := w16_id (by omega)
  have hlim : lim (5 ^ k) = true := lim_blen (by omega)
  have hl2 : blen (1 * 2 ^ (127 + b)) ≤ 1048575 := by rw [Nat.one_mul, blen_pow2]; omega
  have u1 : (BitVec.ofInt 16 ((127 + b : Nat) : Int)).toNat = 127 + b := by rw [u16_of (by omega), Int.toNat_natCast]
  unfold F21 F21_1
  rw [bt (decide_eq_true (show -(k : Int) < 0 by omega)), bt hlim, ← hbv, w1]
  unfold F21_2
  rw [u1, show (1#64).toNat = 1 from rfl, bt (lim_blen (by decide)), bt (limand hl2 (by omega)), Nat.one_mul]
  unfold F21_3
  rw [w2, w3]
  -- m = 2^k / 5^|q|
  have hm1 : 2 ^ (127 + b) / 5 ^ k < 340282366920938463463374607431768211456 := by
    rw [Nat.div_lt_iff_lt_mul hp, show 340282366920938463463374607431768211456 = 2 ^ 128 from rfl]
    have : 2 ^ (127 + b) = 2 ^ 128 * 2 ^ (b - 1) := by rw [← Nat.pow_add]; exact congrArg (fun t => 2 ^ t) (by omega)
    rw [this]
    exact Nat.mul_lt_mul_of_pos_left hbg (pow_pos2 128)
  have hm2 : 170141183460469231731687303715884105728 ≤ 2 ^ (127 + b) / 5 ^ k := by
    rw [Nat.le_div_iff_mul_le hp, show 170141183460469231731687303715884105728 = 2 ^ 127 from rfl, Nat.pow_add]
    exact Nat.mul_le_mul_left _ (by omega)
  rw [bt (decide_eq_true hm1)]
  have hdm := Nat.div_add_mod (2 ^ (127 + b)) (5 ^ k)
  have hml := Nat.mod_lt (2 ^ (127 + b)) hp
  obtain ⟨mm, hmm⟩ : ∃ mm, mm = 2 ^ (127 + b) / 5 ^ k := ⟨_, rfl⟩
  rw [← hmm] at hm1 hm2 hdm ⊢
  have x1 : (-(k : Int) - ((127 + b : Nat) : Int)).toNat = 0 := by omega
  have x2 : (-(-(k : Int) - ((127 + b : Nat) : Int))).toNat = k + (127 + b) := by omega
  have x3 : (-(-(k : Int))).toNat = k := by omega
  have x4 : (-(k : Int)).toNat = 0 := by omega
  have e10 := ten_eq k
  refine ⟨_, _, _, rfl, ?_, ?_, ?_, ?_, fun j hj _ => by omega, fun j _ hj => ?_⟩
  · rw [v2_of hm1]; exact hm2
  · rw [v2_of hm1, x1, x2, x3, x4]
    simp only [Nat.pow_zero, Nat.mul_one, Nat.one_mul]
    rw [← e10, Nat.pow_add, Nat.mul_comm (2 ^ k), ← Nat.mul_assoc]
    refine Nat.mul_le_mul_right _ ?_
    rw [Nat.mul_comm]; omega
  · rw [v2_of hm1, x1, x2, x3, x4]
    simp only [Nat.pow_zero, Nat.mul_one, Nat.one_mul]
    rw [← e10, Nat.pow_add, Nat.mul_comm (2 ^ k), ← Nat.mul_assoc]
    refine Nat.mul_lt_mul_of_pos_right ?_ (pow_pos2 k)
    rw [Nat.add_mul, Nat.one_mul, Nat.mul_comm]; omega
  · intro h1 h2; omega
  · have hjk : j = k := by omega
    subst hjk
    rw [v2_of hm1, hmm, hbv]
    exact ⟨rfl, rfl⟩

theorem F21_pos {N : Nat} {k : Nat} (hk2 : k ≤ 347) : ∃ hi lo x, F21 N (5 ^ k) (k : Int) = some (hi, lo, x) ∧ EN hi lo x (k : Int) := by
  have hp : 0 < 5 ^ k := Nat.pow_pos (by decide)
  have hb := blen_5 k
  have hp0 : 5 ^ k ≠ 0 := by omega
  have hbp := blen_pos hp0
  have hbl := blen_lt (5 ^ k)
  have hbg := blen_le hp0
  obtain ⟨b, hbv⟩ : ∃ b, b = blen (5 ^ k) := ⟨_, rfl⟩
  rw [← hbv] at hb hbp hbl hbg
  have w1 : w16 (b : Int) = b := w16_id (by omega)
  have w2 : w16 ((b : Int) - 128) = b - 128 := w16_id (by omega)
  have hlim : lim (5 ^ k) = true := lim_blen (by omega)
  unfold F21 F21_1
  rw [bf (decide_eq_false (show ¬ (k : Int) < 0 by omega)), bt hlim, ← hbv, w1, w2]
  unfold F21_4 F21_6
  have x3 : (-(k : Int)).toNat = 0 := by omega
  have e10 := ten_eq k
  by_cases c : b < 128
  · -- exact
    have w3 : w16 (0 - ((b : Int) - 128)) = ((128 - b : Nat) : Int) := by rw [w16_id (by omega)]; omega
    have u1 : (BitVec.ofInt 16 ((128 - b : Nat) : Int)).toNat = 128 - b := by rw [u16_of (by omega), Int.toNat_natCast]
    rw [bt (decide_eq_true (by omega)), bt hlim, w3, u1]
    unfold F21_5
    have hm1 : 5 ^ k * 2 ^ (128 - b) < 340282366920938463463374607431768211456 := by
      rw [show 340282366920938463463374607431768211456 = 2 ^ 128 from rfl]
      have := Nat.mul_lt_mul_of_pos_right hbl (pow_pos2 (128 - b))
      rw [← Nat.pow_add, show b + (128 - b) = 128 from by omega] at this
      exact this
    have hm2 : 170141183460469231731687303715884105728 ≤ 5 ^ k * 2 ^ (128 - b) := by
      rw [show 170141183460469231731687303715884105728 = 2 ^ 127 from rfl]
      have := Nat.mul_le_mul_right (2 ^ (128 - b)) hbg
      rw [← Nat.pow_add, show b - 1 + (128 - b) = 127 from by omega] at this
      exact this
    have w4 : w16 ((b : Int) - 128 + k) = b - 128 + k := w16_id (by omega)
    rw [bt (decide_eq_true hm1), w4]
    have heq : 5 ^ k * 2 ^ (128 - b) * 2 ^ ((b : Int) - 128 + k).toNat = 10 ^ k * 2 ^ (-((b : Int) - 128 + k)).toNat := by
      rw [← e10, Nat.mul_assoc, Nat.mul_assoc, ← Nat.pow_add, ← Nat.pow_add]
      exact congrArg (fun t => 5 ^ k * 2 ^ t) (by omega)
    refine ⟨_, _, _, rfl, ?_, ?_, ?_, ?_, fun j hj hb => ?_, fun j h1 hj => by omega⟩
    · rw [v2_of hm1]; exact hm2
    · rw [v2_of hm1, x3, Nat.pow_zero, Nat.mul_one, Int.toNat_natCast, heq]; exact Nat.le_refl _
    · rw [v2_of hm1, x3, Nat.pow_zero, Nat.mul_one, Int.toNat_natCast, Nat.add_mul, heq, Nat.one_mul]
      have := pow_pos2 ((b : Int) - 128 + k).toNat
      omega
    · intro _ _
      rw [v2_of hm1, x3, Nat.pow_zero, Nat.mul_one, Int.toNat_natCast, heq]
    · have hjk : j = k := by omega
      subst hjk
      omega
  · obtain ⟨d, hd⟩ : ∃ d, b = 128 + d := ⟨b - 128, by omega⟩
    have u1 : (BitVec.ofInt 16 ((b : Int) - 128)).toNat = d := by rw [u16_of (by omega)]; omega
    rw [bf (decide_eq_false (by omega)), bt hlim, u1]
    unfold F21_5
    have hm1 : 5 ^ k / 2 ^ d < 340282366920938463463374607431768211456 := by
      rw [Nat.div_lt_iff_lt_mul (pow_pos2 d), show 340282366920938463463374607431768211456 = 2 ^ 128 from rfl, ← Nat.pow_add, ← hd]
      exact hbl
    have hm2 : 170141183460469231731687303715884105728 ≤ 5 ^ k / 2 ^ d := by
      rw [Nat.le_div_iff_mul_le (pow_pos2 d), show 170141183460469231731687303715884105728 = 2 ^ 127 from rfl, ← Nat.pow_add]
      exact Nat.le_trans (pow_le (by omega)) hbg
    have w4 : w16 ((b : Int) - 128 + k) = ((d + k : Nat) : Int) := by rw [w16_id (by omega)]; omega
    rw [bt (decide_eq_true hm1), w4]
    have hdm := Nat.div_add_mod (5 ^ k) (2 ^ d)
    have hml := Nat.mod_lt (5 ^ k) (pow_pos2 d)
    obtain ⟨mm, hmm⟩ : ∃ mm, mm = 5 ^ k / 2 ^ d := ⟨_, rfl⟩
    rw [← hmm] at hm1 hm2 hdm ⊢
    have x1 : (-((d + k : Nat) : Int)).toNat = 0 := by omega
    refine ⟨_, _, _, rfl, ?_, ?_, ?_, ?_, fun j hj hb => ?_, fun j h1 hj => by omega⟩
    · rw [v2_of hm1]; exact hm2
    · rw [v2_of hm1, x1, x3, Int.toNat_natCast, Int.toNat_natCast]
      simp only [Nat.pow_zero, Nat.mul_one]
      rw [← e10, Nat.pow_add, ← Nat.mul_assoc]
      refine Nat.mul_le_mul_right _ ?_
      rw [Nat.mul_comm]; omega
    · rw [v2_of hm1, x1, x3, Int.toNat_natCast, Int.toNat_natCast]
      simp only [Nat.pow_zero, Nat.mul_one]
      rw [← e10, Nat.pow_add, ← Nat.mul_assoc]
      refine Nat.mul_lt_mul_of_pos_right ?_ (pow_pos2 k)
      rw [Nat.add_mul, Nat.one_mul, Nat.mul_comm]; omega
    · intro _ h55
      -- 5^55 has 128 bits
      rw [v2_of hm1, x1, x3, Int.toNat_natCast, Int.toNat_natCast]
      simp only [Nat.pow_zero, Nat.mul_one]
      rw [← e10, Nat.pow_add, ← Nat.mul_assoc]
      have hd0 : d = 0 := by
        have h6 : 5 ^ k ≤ 5 ^ 55 := Nat.pow_le_pow_right (by decide) (by omega)
        have h7 : (5 : Nat) ^ 55 < 2 ^ 128 := by decide
        have h8 : blen (5 ^ k) ≤ 128 := blen_le_iff.2 (Nat.lt_of_le_of_lt h6 h7)
        omega
      rw [hd0, Nat.pow_zero, Nat.mul_one]
      rw [hd0, Nat.pow_zero] at hdm hml
      have : mm = 5 ^ k := by omega
      rw [this]
    · have hjk : j = k := by omega
      subst hjk
      rw [v2_of hm1, hmm, ← hbv, hd, Nat.add_sub_cancel_left]
      exact ⟨rfl, by omega⟩

theorem F28_ok {N : Nat} {q : Int} (h1 : -348 ≤ q) (h2 : q ≤ 347) : ∃ hi lo x, F28 N q = some (hi, lo, x, true) ∧ EN hi lo x q := by
  unfold F28 F28_1
  rw [decide_eq_false (show ¬ q < -348 by omega), decide_eq_false (show ¬ q > 347 by omega), Bool.or_self, bf rfl]
  have w1 : w16 (0 - q) = -q := by rw [w16_id (by omega)]; omega
  rw [w1]
  by_cases c : q < 0
  · obtain ⟨k, hk⟩ : ∃ k : Nat, q = -(k : Int) := ⟨(-q).toNat, by omega⟩
    have u1 : (BitVec.ofInt 16 (max q (-q))).toNat = k := by rw [u16_of (by omega)]; omega
    obtain ⟨hi, lo, x, f1, f2⟩ := F21_neg (N := N) (k := k) (by omega) (by omega)
    rw [u1, hk, f1]
    exact ⟨hi, lo, x, rfl, f2⟩
  · obtain ⟨k, hk⟩ : ∃ k : Nat, q = (k : Int) := ⟨q.toNat, by omega⟩
    have u1 : (BitVec.ofInt 16 (max q (-q))).toNat = k := by rw [u16_of (by omega)]; omega
    obtain ⟨hi, lo, x, f1, f2⟩ := F21_pos (N := N) (k := k) (by omega)
    rw [u1, hk, f1]
    exact ⟨hi, lo, x, rfl, f2⟩

/-- A table that holds. -/
def TabOk (t : Tab) : Prop := ∀ q : Int, -348 ≤ q → q ≤ 347 → F27 (t.man (q + 348).toNat).1 (t.man (q + 348).toNat).2 (t.ex (q + 348).toNat) = true ∧ EN (t.man (q + 348).toNat).1 (t.man (q + 348).toNat).2 (t.ex (q + 348).toNat) q

theorem in696 {i : Int} (h0 : 0 ≤ i) (h1 : i < 696) : (decide (0 ≤ i) && decide (i < (696 : Int))) = true := by rw [decide_eq_true h0, decide_eq_true h1]; rfl
theorem F18_ok {N : Nat} (hN : 700 ≤ N) (t : Tab) : ∃ b, F18 N t = some b ∧ (b = true → TabOk t) := by
  unfold F18
  obtain ⟨r, hr, hp⟩ := iter_inv (L := F18_L1 N t)
    (fun v : Int => 0 ≤ v ∧ v ≤ 696 ∧ ∀ i : Nat, (i : Int) < v → F27 (t.man i).1 (t.man i).2 (t.ex i) = true)
    (fun v => (696 - v).toNat)
    (fun b : Bool => b = true → TabOk t)
    (by
      rintro v ⟨h1, h2, h3⟩
      unfold F18_L1 F18_L1b F18_2
      by_cases hv : v < 696
      · rw [bt (decide_eq_true hv), bt (in696 h1 hv), bt (in696 h1 hv)]
        simp only [lt]
        unfold F18_3
        cases hb : F27 (t.man v.toNat).1 (t.man v.toNat).2 (t.ex v.toNat) with
        | false => exact .inr ⟨false, rfl, fun k => by cases k⟩
        | true =>
          rw [Bool.not_true, bf rfl, w64_id (by omega)]
          refine .inl ⟨_, rfl, ⟨by omega, by omega, ?_⟩, by omega⟩
          intro i hi
          by_cases e : (i : Int) = v
          · have : i = v.toNat := by omega
            rw [this]; exact hb
          · exact h3 i (by omega)
      · rw [bf (decide_eq_false hv)]
        right
        have hall : ∀ i : Nat, i < 696 → F27 (t.man i).1 (t.man i).2 (t.ex i) = true := fun i hi => h3 i (by omega)
        obtain ⟨r, hr, hp⟩ := iter_inv (L := F18_L4 N t)
          (fun v : Int => 0 ≤ v ∧ v ≤ 696 ∧ ∀ i : Nat, (i : Int) < v → EN (t.man i).1 (t.man i).2 (t.ex i) ((i : Int) - 348))
          (fun v => (696 - v).toNat)
          (fun b : Bool => b = true → TabOk t)
          (by
            rintro v ⟨h1, h2, h3⟩
            unfold F18_L4 F18_L4b F18_5
            by_cases hv : v < 696
            · rw [bt (decide_eq_true hv)]
              have w1 : w16 v = v := w16_id (by omega)
              have w2 : w16 (v - 348) = v - 348 := w16_id (by omega)
              obtain ⟨hi, lo, x, f1, f2⟩ := F28_ok (N := N) (q := v - 348) (by omega) (by omega)
              rw [w1, w2, f1]
              simp only [Option.bind_some, F18_6]
              unfold F18_7
              rw [in696 h1 hv]
              by_cases c : (t.man v.toNat).1 = hi ∧ (t.man v.toNat).2 = lo
              · have hbb : (!(((t.man v.toNat).1 == hi) && ((t.man v.toNat).2 == lo))) = false := by simp [c.1, c.2]
                rw [hbb, bf rfl, bt rfl, bt rfl]
                by_cases c2 : t.ex v.toNat = x
                · have hb2 : (t.ex v.toNat != x) = false := by simp [c2]
                  rw [hb2, bf rfl, w64_id (by omega)]
                  refine .inl ⟨_, rfl, ⟨by omega, by omega, ?_⟩, by omega⟩
                  intro i hi'
                  by_cases e : (i : Int) = v
                  · have : i = v.toNat := by omega
                    rw [this, c.1, c.2, c2, show ((v.toNat : Nat) : Int) - 348 = v - 348 from by omega]
                    exact f2
                  · exact h3 i (by omega)
                · have hb2 : (t.ex v.toNat != x) = true := by simp [c2]
                  rw [hb2]
                  exact .inr ⟨false, rfl, fun k => by cases k⟩
              · have hbb : (!(((t.man v.toNat).1 == hi) && ((t.man v.toNat).2 == lo))) = true := by
                  by_cases k1 : (t.man v.toNat).1 = hi
                  · have k2 : ¬ (t.man v.toNat).2 = lo := fun k => c ⟨k1, k⟩
                    simp [k2]
                  · simp [k1]
                rw [hbb, bt rfl, bt rfl]
                exact .inr ⟨false, rfl, fun k => by cases k⟩
            · rw [bf (decide_eq_false hv)]
              refine .inr ⟨true, rfl, fun _ => ?_⟩
              intro q hq1 hq2
              refine ⟨hall _ (by omega), ?_⟩
              have := h3 (q + 348).toNat (by omega)
              rw [show (((q + 348).toNat : Nat) : Int) - 348 = q from by omega] at this
              exact this)
          N 0 ⟨by omega, by omega, fun i hi => by omega⟩ (by omega)
        rw [hr]
        exact ⟨_, rfl, hp⟩)
    N 0 ⟨by omega, by omega, fun i hi => by omega⟩ (by omega)
  exact ⟨r, hr, hp⟩

theorem F116_ok {N : Nat} {t : Tab} {q : Int} (h1 : -348 ≤ q) (h2 : q ≤ 347) : F116 N t q = some ((t.man (q + 348).toNat).1, (t.man (q + 348).toNat).2, t.ex (q + 348).toNat, true) := by
  unfold F116 F116_1 F116_2
  have w1 : w64 q = q := w64_id (by omega)
  have w2 : w64 (q + 348) = q + 348 := w64_id (by omega)
  rw [decide_eq_false (show ¬ q < -348 by omega), decide_eq_false (show ¬ q > 347 by omega), Bool.or_self, bf rfl, w1, w2, in696 (by omega) (by omega), bt rfl, bt rfl]
theorem F27_parts {hi lo : BitVec 64} {x : Int} (h : F27 hi lo x = true) : v2 hi lo + 1 < 340282366920938463463374607431768211456 ∧ -1300 ≤ x ∧ x ≤ 1100 := by
  unfold F27 at h
  simp only [Bool.and_eq_true, decide_eq_true_eq, Bool.not_eq_true'] at h
  obtain ⟨⟨⟨h1, h2⟩, h3⟩, h4⟩ := h
  refine ⟨?_, h3, h4⟩
  have a := hi.isLt
  have b := lo.isLt
  unfold v2
  by_cases c : hi.toNat = 18446744073709551615
  · by_cases d : lo.toNat = 18446744073709551615
    · exfalso
      have e1 : hi = 18446744073709551615#64 := BitVec.eq_of_toNat_eq c
      have e2 : lo = 18446744073709551615#64 := BitVec.eq_of_toNat_eq d
      rw [e1, e2] at h2
      simp at h2
    · omega
  · omega
end Go.Proofs.YfwaawGreat
