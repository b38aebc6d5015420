/-
  Package lemire, plain.
-/
import Derived.Test.YfwaawGreatM1
import Derived.Test.YfwaawGreatT1
namespace Go.Proofs.YfwaawGreat
open Go.Aw
set_option linter.unusedVariables false
set_option linter.unusedSimpArgs false
section
variable {e m mode : BitVec 8} {neg : Bool}

theorem F264_ok {N : Nat} (h : Fm e m) {x : Int} {s : BitVec 64} (hs : 2 ^ 63 ≤ s.toNat) (hx : -5000 < x ∧ x < 5000) :
    F264 N e m s x = some (RQ e m 0#8 false (s.toNat * 2 ^ x.toNat) (2 ^ (-x).toNat)).1 := by
  have h2 := h.e11
  have h3 := h.m2
  have h4 := h.m52
  have hb := bia_le h.e11
  have hbp := bia_ge h.e2
  have hsl := s.isLt
  have hs' : 9223372036854775808 ≤ s.toNat := hs
  have hs0 : s.toNat ≠ 0 := by omega
  have hbs : blen s.toNat = 64 := by
    have u1 := blen64 s
    have u2 : 63 + 1 ≤ blen s.toNat := by
      rcases Nat.lt_or_ge (blen s.toNat) 64 with c | c
      · have := blen_le_iff.1 (show blen s.toNat ≤ 63 by omega); omega
      · exact c
    omega
  have hlg : lg (s.toNat * 2 ^ x.toNat) (2 ^ (-x).toNat) = x + 63 := by rw [lg_pow hs0, hbs]; omega
  have hn0 : s.toNat * 2 ^ x.toNat ≠ 0 := Nat.mul_ne_zero hs0 (pne _)
  have hR := RQ_ne (neg := false) h ne_zero hn0 (pne (-x).toNat)
  rw [show sgn e.toNat m.toNat false = 0 from rfl, Nat.add_zero] at hR
  -- the answer by its number
  have fin : ∀ y : BitVec 64, y.toNat = min (UP e m (s.toNat * 2 ^ x.toNat) (2 ^ (-x).toNat)) (infP e.toNat m.toNat) → some y = some (RQ e m 0#8 false (s.toNat * 2 ^ x.toNat) (2 ^ (-x).toNat)).1 := by
    intro y hy
    rw [BitVec.eq_of_toNat_eq (hy.trans hR.symm)]
  obtain ⟨ex, hex⟩ : ∃ ex : Int, ex = max (x + 63) (1 - (bia e.toNat : Int)) := ⟨_, rfl⟩
  obtain ⟨j, hj⟩ : ∃ j : Nat, ex - m.toNat - 1 = x + j := ⟨(ex - m.toNat - 1 - x).toNat, by omega⟩
  have hU : UP e m (s.toNat * 2 ^ x.toNat) (2 ^ (-x).toNat) = (ex - (1 - bia e.toNat)).toNat * 2 ^ m.toNat + rne (s.toNat / 2 ^ j) (decide (s.toNat % 2 ^ j ≠ 0)) := by
    unfold UP
    rw [hlg, ← hex, hj, (fq_pow s.toNat x j).1, (fq_pow s.toNat x j).2]
  -- the walk
  unfold F264
  simp only [lt]
  rw [F71_ok h]
  have w1 : w16 (1 - (bia e.toNat : Int)) = 1 - bia e.toNat := w16_id (by omega)
  have w2 : w16 (x + 63) = x + 63 := w16_id (by omega)
  have w3 : w16 (m.toNat : Int) = m.toNat := w16_id (by omega)
  have w4 : w16 (63 - (m.toNat : Int)) = 63 - m.toNat := w16_id (by omega)
  rw [w1]
  unfold F264_1 F264_2 F264_3
  rw [w2, w3, w4]
  have hgo : F264_11 N e m s (1 - (bia e.toNat : Int)) (x + 63) (63 - (m.toNat : Int)) (decide (x + 63 < 1 - (bia e.toNat : Int))) = F264_4 N e m s (1 - (bia e.toNat : Int)) ((j + 1 : Nat) : Int) ex := by
    unfold F264_11 F264_12
    by_cases c : x + 63 < 1 - (bia e.toNat : Int)
    · have w5 : w16 (1 - (bia e.toNat : Int) - (x + 63)) = 1 - bia e.toNat - (x + 63) := w16_id (by omega)
      have w6 : w16 (63 - (m.toNat : Int) + (1 - (bia e.toNat : Int) - (x + 63))) = ((j + 1 : Nat) : Int) := by rw [w16_id (by omega)]; omega
      rw [bt (decide_eq_true c), w5, w6, show ex = 1 - (bia e.toNat : Int) from by omega]
    · rw [bf (decide_eq_false c), show ex = x + 63 from by omega, show 63 - (m.toNat : Int) = ((j + 1 : Nat) : Int) from by omega]
  rw [hgo]
  unfold F264_4
  simp only [lt]
  rw [F71_ok h]
  unfold F264_9
  simp only [lt]
  by_cases ho : (bia e.toNat : Int) < ex
  · rw [bt (decide_eq_true (by omega))]
    refine fin _ ?_
    rw [F67_ok h, show sgn e.toNat m.toNat false = 0 from rfl, Nat.add_zero]
    have hEp := pow_E h.e2
    have hlo := UP_lo h hn0 (pne (-x).toNat) (by rw [hlg]; omega)
    rw [hlg] at hlo
    have h5 : (2 ^ e.toNat - 2) * 2 ^ m.toNat ≤ (x + 63 - (1 - bia e.toNat)).toNat * 2 ^ m.toNat := Nat.mul_le_mul_right _ (by omega)
    have h8 : infP e.toNat m.toNat = (2 ^ e.toNat - 2) * 2 ^ m.toNat + 2 ^ m.toNat := by
      unfold infP
      rw [show 2 ^ e.toNat - 1 = 2 ^ e.toNat - 2 + 1 from by omega, Nat.add_mul, Nat.one_mul]
    omega
  · rw [bf (decide_eq_false (by omega))]
    obtain ⟨n, rest, r1, r2, r3⟩ := rest_ok s (j + 1) (by omega) hs0
    have hcut : F264_10 N e m s (1 - (bia e.toNat : Int)) ((j + 1 : Nat) : Int) ex (decide (((j + 1 : Nat) : Int) > 64)) = F264_6 N e m (1 - (bia e.toNat : Int)) ex n rest := by
      unfold F264_10 F264_5
      by_cases c : j + 1 ≤ 64
      · rw [bt (decide_eq_true c)] at r1
        obtain ⟨k1, k2⟩ := Prod.mk.inj r1
        have w7 : w16 (64 - ((j + 1 : Nat) : Int)) = ((64 - (j + 1) : Nat) : Int) := by rw [w16_id (by omega)]; omega
        rw [bf (decide_eq_false (by omega)), bt (decide_eq_true (by omega)), w7, bt (decide_eq_true (by omega)), Int.toNat_natCast, Int.toNat_natCast, k1, k2]
      · rw [bf (decide_eq_false c)] at r1
        obtain ⟨k1, k2⟩ := Prod.mk.inj r1
        rw [bt (decide_eq_true (by omega)), ← k1, ← k2]
        rfl
    rw [hcut]
    have ht := two_shift s.toNat j
    have hf := F258_ok (mode := 0#8) (neg := false) (pow_pos2 _) r2 r3
    rw [ht.1, decide_eq_decide.2 ht.2] at hf
    have hrule : ((decide ((9223372036854775808#64).toNat < rest.toNat)) || ((rest == (9223372036854775808#64)) && ((n &&& (1#64)) == (1#64)))) = F258 0#8 false n rest := rfl
    have hn2 : n.toNat = s.toNat / 2 ^ j / 2 := by rw [r2, Nat.pow_succ, Nat.div_div_eq_div_mul]
    have hraise := raise_rn (mode := 0#8) (neg := false) (s := decide (s.toNat % 2 ^ j ≠ 0)) hn2 (Nat.lt_of_le_of_lt (Nat.div_le_self _ _) hsl)
    rw [rn_ne ne_zero] at hraise
    have hn2l : s.toNat / 2 ^ j < 2 ^ (m.toNat + 2) := by
      rw [Nat.div_lt_iff_lt_mul (pow_pos2 _), ← Nat.pow_add]
      exact Nat.lt_of_lt_of_le hsl (pow_le (by omega))
    have hrb := rn_bound (mode := 0#8) (neg := false) (s := decide (s.toNat % 2 ^ j ≠ 0)) hn2l
    rw [rn_ne ne_zero] at hrb
    have hp := patt h (ex := ex) (by omega) hraise hrb
    have hcap : UP e m (s.toNat * 2 ^ x.toNat) (2 ^ (-x).toNat) ≤ infP e.toNat m.toNat := by
      have hEp := pow_E h.e2
      have hs1 := Nat.pow_succ 2 m.toNat
      have h5 : (ex - (1 - bia e.toNat)).toNat * 2 ^ m.toNat ≤ (2 * bia e.toNat - 1) * 2 ^ m.toNat := Nat.mul_le_mul_right _ (by omega)
      have h8 : infP e.toNat m.toNat = (2 * bia e.toNat - 1) * 2 ^ m.toNat + 2 * 2 ^ m.toNat := by
        unfold infP
        rw [show 2 ^ e.toNat - 1 = 2 * bia e.toNat - 1 + 2 from by omega, Nat.add_mul]
      rw [hU]; omega
    have w8 : w16 (ex - (1 - (bia e.toNat : Int))) = ex - (1 - bia e.toNat) := w16_id (by omega)
    unfold F264_6 F264_8 F264_7
    rw [hrule, hf, w8]
    rw [← hU] at hp
    cases hz : rz 0#8 false (s.toNat / 2 ^ j) (decide (s.toNat % 2 ^ j ≠ 0)) <;> rw [hz] at hp <;> simp only [cond_true, cond_false] at hp ⊢
    · exact fin _ (by rw [hp.1]; omega)
    · exact fin _ (by rw [hp.1]; omega)

theorem F167_ok {N : Nat} (h : Fm e m) {x : Int} {a b c : BitVec 64} (ha : 2 ^ 62 ≤ a.toNat) (hx : -4000 < x ∧ x < 4000) :
    F167 N e m a b c x = some (RQ e m 0#8 false ((v2 a b * 18446744073709551616 + c.toNat) * 2 ^ x.toNat) (2 ^ (-x).toNat)).1 := by
  have h4 := h.m52
  have hal := a.isLt
  have hbl := b.isLt
  have hcl := c.isLt
  have ha' : 4611686018427387904 ≤ a.toNat := ha
  obtain ⟨Z, hZ⟩ : ∃ Z, Z = v2 a b * 18446744073709551616 + c.toNat := ⟨_, rfl⟩
  rw [← hZ]
  have hZ0 : Z ≠ 0 := by rw [hZ]; unfold v2; omega
  -- the end
  have key : ∀ (j : Nat) (hi lo : BitVec 64), 9223372036854775808 ≤ hi.toNat → hi.toNat = Z / 2 ^ j → ((lo.toNat = 0 ∧ c.toNat = 0) ↔ Z % 2 ^ j = 0) → j = 128 ∨ j = 127 →
      F167_2 N e m c (x + j) hi lo = some (RQ e m 0#8 false (Z * 2 ^ x.toNat) (2 ^ (-x).toNat)).1 := by
    intro j hi lo h1 h2 h3 hj
    have hq := fq_pow Z x j
    have hnz : Z * 2 ^ x.toNat ≠ 0 := Nat.mul_ne_zero hZ0 (pne _)
    have hlg := lg_ge hnz (pne (-x).toNat) (k := x + j) (j := 63) (by rw [hq.1, ← h2]; exact h1)
    rw [RQ_sticky (k := x + j) hnz (pne _) (by omega), hq.1, hq.2, ← h2]
    unfold F167_2 F167_4 F167_3
    have hor : ((lo ||| c) != 0#64) = decide (Z % 2 ^ j ≠ 0) := by
      rw [ne_bv, BitVec.toNat_or, show (0#64).toNat = 0 from rfl]
      refine decide_eq_decide.2 ?_
      have a1 : lo.toNat ≤ lo.toNat ||| c.toNat := Nat.left_le_or
      have a2 : c.toNat ≤ lo.toNat ||| c.toNat := Nat.right_le_or
      constructor
      · intro k1 k2
        have := h3.2 k2
        rw [this.1, this.2] at k1
        exact k1 rfl
      · intro k1 k2
        rw [k2] at a1 a2
        exact k1 (h3.1 ⟨by omega, by omega⟩)
    rw [hor]
    by_cases hz : Z % 2 ^ j = 0
    · rw [decide_eq_false (by simpa using hz), bf rfl, F264_ok h h1 (by omega)]
      rfl
    · have ho : (hi ||| 1#64).toNat = jm hi.toNat true := by rw [or_one64]; rfl
      rw [decide_eq_true hz, bt rfl, F264_ok h (by rw [or_one64]; show 9223372036854775808 ≤ _; omega) (by omega), ho]
      rfl
  unfold F167 F167_1 F167_5
  have w1 : w16 (x + 128) = x + (128 : Nat) := by rw [w16_id (by omega)]; omega
  rw [w1]
  have p128' : (2 : Nat) ^ 128 = 340282366920938463463374607431768211456 := rfl
  have p127 : (2 : Nat) ^ 127 = 170141183460469231731687303715884105728 := rfl
  have hsh : ((a >>> 63) == 0#64) = decide (a.toNat < 9223372036854775808) := by
    rw [eq_bv, shr_nat, show (0#64).toNat = 0 from rfl, show (2 : Nat) ^ 63 = 9223372036854775808 from rfl]
    exact decide_eq_decide.2 (by omega)
  rw [hsh]
  by_cases hc : a.toNat < 9223372036854775808
  · rw [bt (decide_eq_true hc)]
    unfold F167_6 F167_7
    have w2 : w16 (x + (128 : Nat) - 1) = x + (127 : Nat) := by rw [w16_id (by omega)]; omega
    rw [w2]
    have e1 : (a <<< 1).toNat = a.toNat * 2 := shl_nat a 1 (by rw [p64]; omega)
    have e2 : (b >>> 63).toNat = b.toNat / 9223372036854775808 := shr_nat _ _
    have e3 : ((a <<< 1) ||| (b >>> 63)).toNat = a.toNat * 2 + b.toNat / 9223372036854775808 := by
      rw [BitVec.or_comm, or_add _ _ 1 (by rw [e2]; show _ < 2; omega) (by rw [e1]; exact Nat.dvd_mul_left _ _), e1, e2]; omega
    have e4 : (b <<< 1).toNat = b.toNat * 2 % 18446744073709551616 := by
      rw [BitVec.toNat_shiftLeft, Nat.shiftLeft_eq, p64, Nat.pow_one]
    refine key 127 _ _ (by omega) ?_ ?_ (.inr rfl)
    · rw [e3, p127, hZ]; unfold v2; omega
    · rw [e4, p127, hZ]; unfold v2; omega
  · rw [bf (decide_eq_false hc)]
    refine key 128 _ _ (by omega) ?_ ?_ (.inl rfl)
    · rw [p128', hZ]; unfold v2; omega
    · rw [p128', hZ]; unfold v2; omega

/-- A table's entry times a number. -/
theorem EN.scale {hi lo : BitVec 64} {x q : Int} (h : EN hi lo x q) {M l : Nat} {y : Int} (hy : y = x - l) :
    M * 2 ^ l * v2 hi lo * 2 ^ y.toNat * 10 ^ (-q).toNat ≤ M * 10 ^ q.toNat * 2 ^ (-y).toNat ∧ M * 10 ^ q.toNat * 2 ^ (-y).toNat ≤ M * 2 ^ l * (v2 hi lo + 1) * 2 ^ y.toNat * 10 ^ (-q).toNat ∧
    (0 ≤ q → q ≤ 55 → M * 10 ^ q.toNat * 2 ^ (-y).toNat = M * 2 ^ l * v2 hi lo * 2 ^ y.toNat * 10 ^ (-q).toNat) := by
  have hid : 2 ^ l * 2 ^ y.toNat * 2 ^ (-x).toNat = 2 ^ x.toNat * 2 ^ (-y).toNat := by
    simp only [← Nat.pow_add]
    exact congrArg (fun t => 2 ^ t) (by omega)
  have px := pow_pos2 (-x).toNat
  have hl := h.lb
  have hu := h.ub
  have hx := h.ex
  generalize v2 hi lo = T at *
  generalize 2 ^ l = A at *
  generalize 2 ^ y.toNat = B at *
  generalize 2 ^ (-x).toNat = C at *
  generalize 2 ^ x.toNat = D at *
  generalize 2 ^ (-y).toNat = E at *
  generalize 10 ^ (-q).toNat = F at *
  generalize 10 ^ q.toNat = G at *
  have e1 : ∀ S, M * A * S * B * F * C = M * E * (S * D * F) := by
    intro S
    have : M * A * S * B * F * C = M * S * F * (A * B * C) := by grind
    rw [this, hid]; grind
  have e2 : M * G * E * C = M * E * (G * C) := by grind
  refine ⟨?_, ?_, ?_⟩
  · refine Nat.le_of_mul_le_mul_right (c := C) ?_ px
    rw [e1, e2]
    exact Nat.mul_le_mul_left _ hl
  · refine Nat.le_of_mul_le_mul_right (c := C) ?_ px
    rw [e1, e2]
    exact Nat.mul_le_mul_left _ (Nat.le_of_lt hu)
  · intro h1 h2
    refine Nat.mul_right_cancel px ?_
    rw [e1, e2, hx h1 h2]

/-- Between the ends. -/
theorem lem_between (h : Fm e m) {hi lo : BitVec 64} {x q : Int} (he : EN hi lo x q) {M l : Nat} {y : Int} (hy : y = x - l) (hM : M ≠ 0) {A B : Nat} (hA0 : A ≠ 0) (hA : A ≤ M * 2 ^ l * v2 hi lo)
    (hB : M * 2 ^ l * (v2 hi lo + 1) ≤ B ∨ (0 ≤ q ∧ q ≤ 55 ∧ M * 2 ^ l * v2 hi lo ≤ B)) (hab : (RQ e m 0#8 false (A * 2 ^ y.toNat) (2 ^ (-y).toNat)).1 = (RQ e m 0#8 false (B * 2 ^ y.toNat) (2 ^ (-y).toNat)).1) :
    (RQ e m 0#8 false (M * 10 ^ q.toNat) (10 ^ (-q).toNat)).1 = (RQ e m 0#8 false (A * 2 ^ y.toNat) (2 ^ (-y).toNat)).1 := by
  obtain ⟨s1, s2, s3⟩ := he.scale (M := M) (l := l) hy
  have p10 : ∀ k : Nat, 10 ^ k ≠ 0 := fun k => by have := Nat.pow_pos (n := k) (show 0 < 10 by decide); omega
  have hBge : A ≤ B := by
    rcases hB with k | ⟨_, _, k⟩
    · have := Nat.mul_le_mul_left (M * 2 ^ l) (show v2 hi lo ≤ v2 hi lo + 1 by omega); omega
    · omega
  refine RQ_between h (Nat.mul_ne_zero hA0 (pne _)) (pne _) (Nat.mul_ne_zero (show B ≠ 0 by omega) (pne _)) (pne _) (Nat.mul_ne_zero hM (p10 _)) (p10 _) ?_ ?_ hab
  · refine Nat.le_trans ?_ s1
    exact Nat.mul_le_mul_right _ (Nat.mul_le_mul_right _ hA)
  · rcases hB with k | ⟨k1, k2, k⟩
    · refine Nat.le_trans s2 ?_
      exact Nat.mul_le_mul_right _ (Nat.mul_le_mul_right _ k)
    · rw [s3 k1 k2]
      exact Nat.mul_le_mul_right _ (Nat.mul_le_mul_right _ k)
end
end Go.Proofs.YfwaawGreat
