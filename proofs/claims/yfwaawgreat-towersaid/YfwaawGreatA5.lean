/-
  soft = exact: the square root, the operation.
-/
import Derived.Test.YfwaawGreatA4
namespace Go.Proofs.YfwaawGreat
open Go.Aw
set_option linter.unusedVariables false
set_option linter.unusedSimpArgs false
section
variable {e m mode : BitVec 8} {neg : Bool}
variable {a b c : BitVec 64} {na nb nc : Bool} {ca cb cc ea eb ec : Int} {ma mb mc : BitVec 64} {pa pb pc : Nat}

/-! ### soft -/
theorem blen_ge {n k : Nat} (h : 2 ^ k ≤ n) : k + 1 ≤ blen n := by
  rcases Nat.lt_or_ge (blen n) (k + 1) with c | c
  · have := blen_le_iff.1 (show blen n ≤ k by omega); omega
  · exact c
/-- Sizes of a root. -/
theorem isq_size {W : Nat} (h1 : 85070591730234615865843651857942052864 ≤ W) (h2 : W < 340282366920938463463374607431768211456) : blen (isq W) = 64 := by
  have hle := isq_le W
  have hlt := isq_lt W
  generalize isq W = r at *
  have u1 : blen r ≤ 64 := by
    refine blen_le_iff.2 ?_
    rw [p64]
    rcases Nat.lt_or_ge r 18446744073709551616 with c | c
    · exact c
    · have := Nat.mul_le_mul c c
      omega
  have u2 : 63 + 1 ≤ blen r := by
    refine blen_ge ?_
    rw [show (2 : Nat) ^ 63 = 9223372036854775808 from rfl]
    rcases Nat.lt_or_ge r 9223372036854775808 with c | c
    · have c' : r + 1 ≤ 9223372036854775808 := c
      have := Nat.mul_le_mul c' c'
      omega
    · exact c
  omega
theorem blen_W {W : Nat} (h1 : 85070591730234615865843651857942052864 ≤ W) (h2 : W < 340282366920938463463374607431768211456) : blen W = 127 ∨ blen W = 128 := by
  have u1 : blen W ≤ 128 := blen_le_iff.2 (by rw [p128]; exact h2)
  have u2 : 126 + 1 ≤ blen W := blen_ge (by rw [show (2 : Nat) ^ 126 = 85070591730234615865843651857942052864 from rfl]; exact h1)
  omega
theorem sqrt_mid {N : Nat} (hN : 17 ≤ N) (h : Fm e m) {hi lo : BitVec 64} {E k : Int} {num den W : Nat} (hh : 2 ^ 62 ≤ hi.toNat) (hE : E = 2 * (k + 32)) (hk : -5000 < k ∧ k < 5000) (hn : num ≠ 0) (hd : den ≠ 0) (hWv : v2 hi lo = W)
    (hW : num * 2 ^ (-(2 * k)).toNat = W * (den * 2 ^ (2 * k).toNat)) :
    F152_7 N e m mode E hi lo = some (RS e m mode false (lg num den / 2) (sq num den) (se num den)) := by
  have h4 := h.m52
  obtain ⟨s, f1, f2⟩ := F261_ok hN (l := lo) hh
  have hWl := v2_lt hi lo
  have hh' : 4611686018427387904 ≤ hi.toNat := hh
  have hWg : 85070591730234615865843651857942052864 ≤ v2 hi lo := by unfold v2; omega
  rw [hWv] at f1 f2 hWl hWg
  have hDp : 0 < den * 2 ^ (2 * k).toNat := Nat.mul_pos (by omega) (pow_pos2 _)
  have hfq : fq num den (2 * k) = W := by unfold fq; rw [hW, Nat.mul_div_cancel _ hDp]
  have heq : eq num den (2 * k) = false := by
    unfold eq; rw [hW]; exact decide_eq_false (by rw [Nat.mul_mod_left]; simp)
  have hb := blen_W hWg hWl
  have hbs := isq_size hWg hWl
  have hlg : lg num den = blen W - 1 + 2 * k := by
    have hWne : W ≠ 0 := by omega
    have l := (Lg_pow hWne (2 * k)).cross (num' := num) (den' := den) (pow_pos2 _) (by omega) (by rw [hW]; grind)
    exact l.eq hd
  have hreal : lg num den / 2 = 63 + k := by rw [hlg]; omega
  have hsq : sq num den k = isq W := by unfold sq; rw [hfq]
  have hse : se num den k = decide (isq W * isq W ≠ W) := by unfold se; rw [heq, hsq, hfq, Bool.false_or]
  have hr0 : isq W ≠ 0 := fun c => by rw [c, blen_zero] at hbs; omega
  rw [RS_sticky (k := k) (by rw [hsq]; exact hr0) (by omega) (by rw [hsq, hbs, hreal]; omega) (fun j => sq_comp (by omega) k j), hsq, hse]
  generalize isq W = r at *
  unfold F152_7
  rw [f1]
  simp only [Option.bind_some, F152_8, F152_10, F152_9]
  have w1 : w16 (E.tdiv 2) = k + 32 := by
    rw [hE, show (2 * (k + 32)).tdiv 2 = k + 32 from by rw [Int.mul_comm]; exact Int.mul_tdiv_cancel _ (by decide)]
    exact w16_id (by omega)
  have w2 : w16 (k + 32 - 32) = k := by rw [w16_id (by omega)]; omega
  rw [w1, w2]
  by_cases c : r * r = W
  · rw [decide_eq_true c, decide_eq_false (by simpa using c), Bool.not_true, bf rfl, F215_ok h (by rw [f2]; exact hr0) (by omega), f2]
    rfl
  · have ho : (s ||| 1#64).toNat = jm r true := by rw [or_one64, f2]; rfl
    rw [decide_eq_false c, decide_eq_true (by simpa using c), Bool.not_false, bt rfl, F215_ok h (by rw [ho]; exact jm_ne hr0) (by omega), ho]
    rfl

theorem odd_test {x : Int} (hx : -30000 < x ∧ x < 30000) : ((w16 ((BitVec.ofInt 16 x &&& BitVec.ofInt 16 1).toNat : Int)) != 0) = decide (x % 2 = 1) := by
  have e1 : (BitVec.ofInt 16 x &&& BitVec.ofInt 16 1).toNat = (x % 65536).toNat % 2 := by
    rw [BitVec.toNat_and, show (BitVec.ofInt 16 1).toNat = 1 from rfl, Nat.and_one_is_mod, BitVec.toNat_ofInt]; rfl
  have e2 : ((x % 65536).toNat % 2 : Nat) = (x % 2).toNat := by omega
  rw [e1, e2, w16_id (by omega)]
  by_cases c : x % 2 = 1
  · rw [c]; rfl
  · rw [show x % 2 = 0 from by omega]; rfl

theorem sqrt_soft {N : Nat} (hN : 17 ≤ N) (h : Fm e m) (f : FinP e m a na ca ea ma pa) :
    F152_6 N e m mode (F260 e m na ca ea ma).1 (F260 e m na ca ea ma).2 = some (RS e m mode false (lg (ma.toNat * 2 ^ ea.toNat) (2 ^ (-ea).toNat) / 2) (sq (ma.toNat * 2 ^ ea.toNat) (2 ^ (-ea).toNat)) (se (ma.toNat * 2 ^ ea.toNat) (2 ^ (-ea).toNat))) := by
  have h4 := h.m52
  obtain ⟨s1, s2⟩ := F260_ok h f
  have l1 := top_lo h f
  have r1 := f.range h
  rw [s2]
  rw [← s1] at l1
  generalize (F260 e m na ca ea ma).1 = x at *
  have hxl := x.isLt
  have l1' : 9223372036854775808 ≤ x.toNat := l1
  obtain ⟨y, hy⟩ : ∃ y : Int, y = ea - ((63 - m.toNat : Nat) : Int) := ⟨_, rfl⟩
  rw [← hy]
  unfold F152_6 F152_11
  rw [odd_test (by omega)]
  by_cases c : y % 2 = 1
  · rw [bt (decide_eq_true c)]
    unfold F152_12
    simp only [lt]
    have hsh := F217_ok x 0#64 1#8
    have hv : v2 x 0#64 = x.toNat * 18446744073709551616 := by unfold v2; simp
    rw [show (1#8).toNat = 1 from rfl, Nat.pow_one, hv] at hsh
    have hhi : 4611686018427387904 ≤ (F217 x 0#64 1#8).1.toNat := by
      have hl := (F217 x 0#64 1#8).2.isLt
      unfold v2 at hsh
      omega
    have w1 : w16 (y + 1) = y + 1 := w16_id (by omega)
    rw [w1]
    refine sqrt_mid hN h (k := (y + 1) / 2 - 32) hhi (by omega) (by omega) f.nne (pne _) hsh ?_
    rw [s1, show ma.toNat * 2 ^ (63 - m.toNat) * 18446744073709551616 / 2 = ma.toNat * 2 ^ (63 - m.toNat) * 9223372036854775808 from by omega]
    have : 2 ^ ea.toNat * 2 ^ (-(2 * ((y + 1) / 2 - 32))).toNat = 2 ^ (63 - m.toNat) * 2 ^ 63 * (2 ^ (-ea).toNat * 2 ^ (2 * ((y + 1) / 2 - 32)).toNat) := by
      simp only [← Nat.pow_add]
      exact congrArg (fun t => 2 ^ t) (by omega)
    rw [Nat.mul_assoc, this]
    show ma.toNat * (2 ^ (63 - m.toNat) * 9223372036854775808 * _) = _
    grind
  · rw [bf (decide_eq_false c)]
    have hv : v2 x 0#64 = x.toNat * 18446744073709551616 := by unfold v2; simp
    refine sqrt_mid hN h (k := y / 2 - 32) (Nat.le_trans (by decide) l1') (by omega) (by omega) f.nne (pne _) hv ?_
    rw [s1]
    have : 2 ^ ea.toNat * 2 ^ (-(2 * (y / 2 - 32))).toNat = 2 ^ (63 - m.toNat) * 2 ^ 64 * (2 ^ (-ea).toNat * 2 ^ (2 * (y / 2 - 32)).toNat) := by
      simp only [← Nat.pow_add]
      exact congrArg (fun t => 2 ^ t) (by omega)
    rw [Nat.mul_assoc, this]
    show ma.toNat * (2 ^ (63 - m.toNat) * 18446744073709551616 * _) = _
    grind

/-! ### exact -/
/-- exact's rule, from what its parts mean. -/
theorem F358_of {n2 : Nat} {odd some' s : Bool} {half : Int} (h1 : odd = decide (n2 / 2 % 2 = 1)) (h2 : 0 ≤ half ↔ n2 % 2 = 1) (h3 : 0 < half ↔ n2 % 2 = 1 ∧ s = true) (h4 : some' = (decide (n2 % 2 = 1) || s)) :
    F358 mode neg odd half some' = rz mode neg n2 s := by
  unfold F358 F358_1 F358_2 F358_3 F358_4 rz
  rw [h4, h1]
  have c1 : decide (half ≥ 0) = decide (n2 % 2 = 1) := decide_eq_decide.2 h2
  have c3 : (decide (half > 0) || (half == 0) && decide (n2 / 2 % 2 = 1)) = (decide (n2 % 2 = 1) && (s || decide (n2 / 2 % 2 = 1))) := by
    by_cases k1 : n2 % 2 = 1
    · rw [decide_eq_true k1]
      cases s with
      | true =>
        have : half > 0 := h3.2 ⟨k1, rfl⟩
        rw [decide_eq_true this]; simp
      | false =>
        have k2 : 0 ≤ half := h2.2 k1
        have k3 : ¬ 0 < half := fun k => by have := (h3.1 k).2; cases this
        have k4 : half = 0 := by omega
        subst k4; rfl
    · rw [decide_eq_false k1]
      have k2 : ¬ 0 ≤ half := fun k => k1 (h2.1 k)
      rw [decide_eq_false (show ¬ half > 0 by omega)]
      have : (half == 0) = false := by simp; omega
      rw [this]; rfl
  rw [c1, c3]

theorem F248_ok {N : Nat} (h : Fm e m) {v0 : Bool} {num den : Nat} {x : Int} (hn : num ≠ 0) (hd : den ≠ 0) (bn : blen num ≤ 2000) (bd : blen den ≤ 2000) (hx : -5000 < x ∧ x < 5000) :
    ∃ half, F248 N e m mode v0 num den x = some (rn mode false (sq num den (x - m.toNat - 1)) (se num den (x - m.toNat - 1)), half, decide (sq num den (x - m.toNat - 1) % 2 = 1) || se num den (x - m.toNat - 1)) := by
  have h4 := h.m52
  unfold F248
  have w1 : w64 (m.toNat : Int) = m.toNat := w64_id (by omega)
  have w2 : w64 ((m.toNat : Int) - x) = m.toNat - x := w64_id (by omega)
  have w3 : w64 (2 * ((m.toNat : Int) - x)) = 2 * (m.toNat - x) := w64_id (by omega)
  rw [w1, w2, w3, F208_ok (by omega) (by omega) (by omega)]
  simp only [Option.bind_some]
  obtain ⟨z, hz⟩ : ∃ z : Int, z = 2 * ((m.toNat : Int) - x) := ⟨_, rfl⟩
  rw [← hz]
  have s1 := blen_shl num z.toNat
  have s2 := blen_shl den (-z).toNat
  have hB : 0 < den * 2 ^ (-z).toNat := Nat.mul_pos (by omega) (pow_pos2 _)
  -- the fraction's floor four units finer
  have hfq : fq num den (2 * (x - m.toNat - 1)) = 4 * (num * 2 ^ z.toNat) / (den * 2 ^ (-z).toNat) ∧ eq num den (2 * (x - m.toNat - 1)) = decide (4 * (num * 2 ^ z.toNat) % (den * 2 ^ (-z).toNat) ≠ 0) := by
    unfold fq eq
    have hc := div_cross (a := num * 2 ^ (-(2 * (x - m.toNat - 1))).toNat) (b := den * 2 ^ (2 * (x - m.toNat - 1)).toNat) (c := 4 * (num * 2 ^ z.toNat)) (d := den * 2 ^ (-z).toNat) (Nat.mul_pos (by omega) (pow_pos2 _)) hB (by
      have : 2 ^ (-(2 * (x - m.toNat - 1))).toNat * 2 ^ (-z).toNat = 2 ^ 2 * (2 ^ z.toNat * 2 ^ (2 * (x - m.toNat - 1)).toNat) := by
        simp only [← Nat.pow_add]
        exact congrArg (fun t => 2 ^ t) (by omega)
      have e4 : (2 : Nat) ^ 2 = 4 := rfl
      rw [e4] at this
      grind)
    exact ⟨hc.1, decide_eq_decide.2 (not_congr hc.2)⟩
  generalize num * 2 ^ z.toNat = A at *
  generalize den * 2 ^ (-z).toNat = B at *
  unfold F248_1
  have l1 : blen (A / B) ≤ blen A := blen_mono (Nat.div_le_self _ _)
  rw [bt (limand (by omega) (by omega))]
  unfold F248_2
  rw [bt (lim_blen (by omega))]
  -- the roots
  obtain ⟨Y, hY⟩ : ∃ Y, Y = 4 * A / B := ⟨_, rfl⟩
  have hy4 : A / B = Y / 2 ^ (2 * 1) := by
    rw [hY, Nat.div_div_eq_div_mul, show (2 : Nat) ^ (2 * 1) = 4 from rfl, Nat.mul_comm B 4, Nat.mul_div_mul_left _ _ (by decide)]
  have hsq : sq num den (x - m.toNat - 1) = isq Y := by unfold sq; rw [hfq.1, hY]
  have hse : se num den (x - m.toNat - 1) = decide (isq Y * isq Y * B ≠ 4 * A) := by
    unfold se
    rw [hsq, hfq.1, hfq.2, ← hY, ← Bool.decide_or]
    refine decide_eq_decide.2 ?_
    have hdm := Nat.div_add_mod (4 * A) B
    rw [← hY] at hdm
    have hml := Nat.mod_lt (4 * A) hB
    constructor
    · intro k1 k2
      have hle := isq_le Y
      have h6 := Nat.mul_le_mul_right B hle
      rw [Nat.mul_comm Y B] at h6
      rcases k1 with k | k
      · omega
      · have h7 := Nat.mul_lt_mul_of_pos_right (Nat.lt_of_le_of_ne hle k) hB
        rw [Nat.mul_comm Y B] at h7
        omega
    · intro k1
      by_cases k2 : 4 * A % B = 0
      · refine .inr fun k3 => k1 ?_
        rw [k3, Nat.mul_comm]; omega
      · exact .inl k2
  rw [hsq, hse, hy4, isq_shift, Nat.pow_one]
  have hYle := isq_le Y
  have hYlt := isq_lt Y
  have hYB : Y * B ≤ 4 * A := by rw [hY]; exact Nat.div_mul_le_self _ _
  have hYB2 : 4 * A < (Y + 1) * B := by
    have hdm := Nat.div_add_mod (4 * A) B
    have hml := Nat.mod_lt (4 * A) hB
    rw [← hY] at hdm
    rw [Nat.add_mul, Nat.one_mul, Nat.mul_comm Y B]; omega
  generalize hr : isq Y = r at *
  obtain ⟨n, hn'⟩ : ∃ n, n = r / 2 := ⟨_, rfl⟩
  rw [← hn']
  -- sizes
  have hbY : blen Y ≤ blen (4 * A) := blen_mono (by rw [hY]; exact Nat.div_le_self _ _)
  have hb4 := blen_mul 4 A
  have hbl4 : blen 4 = 3 := rfl
  have hr_le : r ≤ Y := by
    rcases Nat.eq_zero_or_pos r with k | k
    · omega
    · have := Nat.le_mul_of_pos_left r k; omega
  have hbr := blen_mono hr_le
  have hbn : blen n ≤ blen r := blen_mono (by omega)
  have hb2 := blen_shl n 1
  have hbt := blen_add (n * 2) 1
  have hb1 := bl1
  have q1 := blen_mul (n * 2 + 1) (n * 2 + 1)
  have q2 := blen_mul ((n * 2 + 1) * (n * 2 + 1)) B
  have q3 := blen_mul n n
  have q4 := blen_mul (n * n) B
  have q5 := blen_shl A 2
  rw [Nat.pow_one] at hb2
  unfold F248_3 F248_4 F248_5
  rw [show (1#16).toNat = 1 from rfl, show (2#16).toNat = 2 from rfl, Nat.pow_one, bt (lim_blen (by omega)), bt (lim_blen (by omega)), bt (lim_blen (by omega)), bt (limand (by omega) (by omega)), bt (limand (by omega) (by omega)), bt (limand (by omega) (by omega)),
    bt (limand (by omega) (by omega)), bt (limand (by omega) (by omega)), bt (limand (by omega) (by omega)), bt (by rw [lim_blen (by omega)]; rfl)]
  have e4 : A * 2 ^ 2 = 4 * A := by rw [Nat.mul_comm]
  have hn2 : n * 2 = r ∨ n * 2 + 1 = r := by omega
  -- comparing squares
  have hodd : (n * 2 + 1) * (n * 2 + 1) * B ≤ 4 * A ↔ r % 2 = 1 := by
    constructor
    · intro k
      have h6 : (n * 2 + 1) * (n * 2 + 1) ≤ Y := by
        rcases Nat.lt_or_ge Y ((n * 2 + 1) * (n * 2 + 1)) with c | c
        · have := Nat.mul_le_mul_right B (show Y + 1 ≤ (n * 2 + 1) * (n * 2 + 1) from c)
          omega
        · exact c
      have := le_isq h6
      rw [hr] at this
      omega
    · intro k
      have : n * 2 + 1 = r := by omega
      rw [this]
      exact Nat.le_trans (Nat.mul_le_mul_right B hYle) hYB
  have hsome : (n * n * B = A) ↔ (r % 2 = 0 ∧ r * r * B = 4 * A) := by
    have e1 : (n * 2) * (n * 2) * B = 4 * (n * n * B) := by grind
    constructor
    · intro k
      have h6 : (n * 2) * (n * 2) * B = 4 * A := by rw [e1, k]
      have h7 : ¬ r % 2 = 1 := fun c => by
        have := hodd.2 c
        have h8 : (n * 2 + 1) * (n * 2 + 1) * B = (n * 2) * (n * 2) * B + (n * 2 * 2 + 1) * B := by grind
        have h9 : 0 < (n * 2 * 2 + 1) * B := Nat.mul_pos (by omega) hB
        omega
      have h8 : n * 2 = r := by omega
      rw [h8] at h6
      exact ⟨by omega, h6⟩
    · rintro ⟨k1, k2⟩
      have h8 : n * 2 = r := by omega
      rw [← h8, e1] at k2
      omega
  have hF : F358 mode false (nbit n 0) (ncmp (A * 2 ^ 2) ((n * 2 + 1) * (n * 2 + 1) * B)) (ncmp (n * n * B) A != 0) = rz mode false r (decide (r * r * B ≠ 4 * A)) ∧ (ncmp (n * n * B) A != 0) = (decide (r % 2 = 1) || decide (r * r * B ≠ 4 * A)) := by
    have hso : (ncmp (n * n * B) A != 0) = (decide (r % 2 = 1) || decide (r * r * B ≠ 4 * A)) := by
      have e1 : (ncmp (n * n * B) A != 0) = decide (n * n * B ≠ A) := by
        unfold ncmp
        by_cases k : n * n * B < A
        · rw [if_pos k, decide_eq_true (by omega)]; rfl
        · rw [if_neg k]
          by_cases k' : n * n * B = A
          · rw [if_pos k', decide_eq_false (by simpa using k')]; rfl
          · rw [if_neg k', decide_eq_true k']; rfl
      rw [e1, ← Bool.decide_or]
      refine decide_eq_decide.2 ?_
      generalize r * r * B = RR at *
      generalize n * n * B = NN' at *
      omega
    refine ⟨F358_of ?_ ?_ ?_ hso, hso⟩
    · unfold nbit
      rw [show (0 : Int).toNat = 0 from rfl, Nat.testBit_eq_decide_div_mod_eq, hn']; simp
    · rw [e4, ← hodd]
      unfold ncmp
      split
      · constructor <;> intro k <;> omega
      · split
        · constructor <;> intro k <;> omega
        · constructor <;> intro k <;> omega
    · rw [e4]
      have hh : 0 < ncmp (4 * A) ((n * 2 + 1) * (n * 2 + 1) * B) ↔ (n * 2 + 1) * (n * 2 + 1) * B < 4 * A := by
        have := ncmp_pos (4 * A) ((n * 2 + 1) * (n * 2 + 1) * B)
        exact decide_eq_decide.1 this
      rw [hh, decide_eq_true_eq]
      constructor
      · intro k
        have k1 := hodd.1 (by omega)
        have : n * 2 + 1 = r := by omega
        rw [this] at k
        exact ⟨k1, by omega⟩
      · rintro ⟨k1, k2⟩
        have := hodd.2 k1
        have h6 : n * 2 + 1 = r := by omega
        rw [h6] at this ⊢
        omega
  simp only [lt]
  rw [hF.1, hF.2]
  unfold F248_7 F248_6 rn
  rw [← hn']
  cases rz mode false r (decide (r * r * B ≠ 4 * A)) with
  | true => rw [bt rfl, bt (lim_blen (by omega))]; exact ⟨_, rfl⟩
  | false => rw [bf rfl]; exact ⟨_, rfl⟩
end
end Go.Proofs.YfwaawGreat
