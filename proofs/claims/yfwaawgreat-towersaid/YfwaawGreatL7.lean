/-
  SlowFlags = RoundDecFlags.
-/
import Derived.Test.YfwaawGreatL6
namespace Go.Proofs.YfwaawGreat
open Go.Aw
set_option linter.unusedVariables false
set_option linter.unusedSimpArgs false
section
variable {e m mode : BitVec 8} {neg : Bool} {dig : List UInt8} {exp : Int}

theorem p10 (k : Nat) : 0 < 10 ^ k := Nat.pow_pos (by decide)
theorem p10n (k : Nat) : 10 ^ k ≠ 0 := by have := p10 k; omega
theorem dval_ge (h : CN dig exp) (hne : dig ≠ []) : 10 ^ (dig.length - 1) ≤ dval dig := by
  cases dig with
  | nil => exact (hne rfl).elim
  | cons c s =>
    have h1 := dval_append [c] s
    rw [List.singleton_append, dval_one] at h1
    have h2 := h.first hne
    have h3 := (h.d c List.mem_cons_self).1
    have h4 : 1 ≤ dg c := by
      have : (c :: s).getD 0 0 = c := rfl
      rw [this] at h2
      unfold dg; omega
    have h5 := Nat.mul_le_mul_right (10 ^ s.length) h4
    rw [List.length_cons, Nat.add_sub_cancel, h1]
    omega
/-- 10^j is at least 2^i, by nines. -/
theorem ten_ge {j i : Nat} (h : i ≤ 93 * (j / 28) + 3 * (j % 28)) : 2 ^ i ≤ 10 ^ j := by
  have h1 : j = 28 * (j / 28) + j % 28 := (Nat.div_add_mod j 28).symm
  have h2 : (2 ^ 93) ^ (j / 28) ≤ (10 ^ 28) ^ (j / 28) := Nat.pow_le_pow_left (by decide) _
  have h3 : (2 ^ 3) ^ (j % 28) ≤ 10 ^ (j % 28) := Nat.pow_le_pow_left (by decide) _
  rw [← Nat.pow_mul 2 93, ← Nat.pow_mul 10 28] at h2
  rw [← Nat.pow_mul 2 3] at h3
  have h4 := Nat.mul_le_mul h2 h3
  rw [← Nat.pow_add, ← Nat.pow_add, ← h1] at h4
  exact Nat.le_trans (pow_le h) h4
theorem ten_le {j i : Nat} (h : 4 * j ≤ i) : 10 ^ j ≤ 2 ^ i := by
  have h2 : 10 ^ j ≤ (2 ^ 4) ^ j := Nat.pow_le_pow_left (by decide) _
  rw [← Nat.pow_mul 2 4] at h2
  exact Nat.le_trans h2 (pow_le h)

/-- The size of a decimal by its leading digit's place. -/
theorem dec_ge (h : CN dig exp) (hne : dig ≠ []) {i : Nat} (hl : (i : Int) + 1 ≤ dig.length + exp) : 10 ^ i * 10 ^ (-exp).toNat ≤ dval dig * 10 ^ exp.toNat := by
  have h1 := dval_ge h hne
  have hlen : 0 < dig.length := List.length_pos_iff.2 hne
  rw [← Nat.pow_add]
  refine Nat.le_trans ?_ (Nat.mul_le_mul_right _ h1)
  rw [← Nat.pow_add]
  exact pow_le10 (by omega)
theorem dec_lt (h : CN dig exp) {i : Nat} (hl : dig.length + exp ≤ i) : dval dig * 10 ^ exp.toNat < 10 ^ i * 10 ^ (-exp).toNat := by
  have h1 := dval_lt h.d
  refine Nat.lt_of_lt_of_le (Nat.mul_lt_mul_of_pos_right h1 (p10 _)) ?_
  rw [← Nat.pow_add, ← Nat.pow_add]
  exact pow_le10 (by omega)
theorem dec_small (h : CN dig exp) {i : Nat} (hl : dig.length + exp ≤ -(i : Int)) : dval dig * 10 ^ exp.toNat * 10 ^ i < 10 ^ (-exp).toNat := by
  have h1 := dval_lt h.d
  rw [show exp.toNat = 0 from by omega, Nat.pow_zero, Nat.mul_one]
  refine Nat.lt_of_lt_of_le (Nat.mul_lt_mul_of_pos_right h1 (p10 _)) ?_
  rw [← Nat.pow_add]
  exact pow_le10 (by omega)

theorem F265_zero {N : Nat} {x : Int} (h : Fm e m) : F265 N e m mode neg 0#64 x = some (F251 e m neg, 0#8) := by
  unfold F265 F265_1 F265_2 F251
  cases neg <;> rfl

theorem slow_core {N : Nat} (hN : 900 ≤ N) (hf : Fm e m) (h : CN dig exp) (hne : dig ≠ []) (h1 : (dig.length : Int) + exp ≤ 310) (h2 : -400 ≤ (dig.length : Int) + exp) :
    F168_6 N e m mode neg dig exp (fun _ => 0#64) (fun _ => 0#64) = some (RQ e m mode neg (dval dig * 10 ^ exp.toNat) (10 ^ (-exp).toNat)) := by
  have h4 := hf.m52
  have hlen := h.len
  have hlp : 0 < dig.length := List.length_pos_iff.2 hne
  have hd0 := dval_pos h hne
  obtain ⟨n, w, f1, f2⟩ := F266_ok (N := N) (by omega) h.d hlen
  unfold F168_6
  rw [f1]
  simp only [Option.bind_some]
  obtain ⟨n', w', f3, f4⟩ := F267_ok (N := N) (by omega) bg_zero (m := 0#64) (c := 1#64) (.inr rfl) (lt_LB (by decide))
  have f4 : Bg n' w' 1 := f4
  unfold F168_7
  rw [f3]
  simp only [Option.bind_some, F168_8]
  -- the two numbers
  obtain ⟨X, hX⟩ : ∃ X, X = dval dig * 5 ^ exp.toNat := ⟨_, rfl⟩
  obtain ⟨Y, hY⟩ : ∃ Y, Y = 5 ^ (-exp).toNat := ⟨_, rfl⟩
  have p5 : ∀ k : Nat, 0 < 5 ^ k := fun k => Nat.pow_pos (by decide)
  have hX0 : X ≠ 0 := by rw [hX]; exact Nat.mul_ne_zero hd0 (by have := p5 exp.toNat; omega)
  have hY0 : Y ≠ 0 := by rw [hY]; have := p5 (-exp).toNat; omega
  have hbX : blen X ≤ 2900 := by
    by_cases c : exp < 0
    · rw [hX, show exp.toNat = 0 from by omega, Nat.pow_zero, Nat.mul_one]
      have := blen_dval' (j := 267) h.d (by omega)
      omega
    · have h5 : X ≤ dval dig * 10 ^ exp.toNat := by rw [hX]; exact Nat.mul_le_mul_left _ (Nat.pow_le_pow_left (by decide) _)
      obtain ⟨i, hi⟩ : ∃ i : Nat, i = 310 := ⟨_, rfl⟩
      have h6 := dec_lt h (i := i) (by omega)
      rw [show (-exp).toNat = 0 from by omega, Nat.pow_zero, Nat.mul_one] at h6
      have h7 := blen_mono (Nat.le_of_lt (Nat.lt_of_le_of_lt h5 h6))
      have h8 := blen_10 i
      omega
  have hbY : blen Y ≤ 2900 := by
    obtain ⟨i, hi⟩ : ∃ i : Nat, i = 400 := ⟨_, rfl⟩
    have h5 : Y ≤ 5 ^ (3 * i) := by rw [hY]; exact Nat.pow_le_pow_right (by decide) (by omega)
    have h6 := blen_mono h5
    have h7 := blen_5' i
    omega
  have hgo : ∃ n1 w1 n2 w2, F168_11 N e m mode neg dig exp n w n' w' (decide (exp < 0)) = F168_9 N e m mode neg dig exp n1 w1 n2 w2 ∧ Bg n1 w1 X ∧ Bg n2 w2 Y := by
    have wa : w64 exp = exp := w64_id (by omega)
    unfold F168_11
    rw [wa]
    by_cases c : exp < 0
    · rw [bt (decide_eq_true c)]
      have wb : w64 (0 - exp) = (((-exp).toNat : Nat) : Int) := by rw [w64_id (by omega)]; omega
      have e1 : 1 * 5 ^ (-exp).toNat = Y := by rw [Nat.one_mul, hY]
      obtain ⟨n2, w2, g1, g2⟩ := F268_ok (N := N) (by omega) f4 (k := (-exp).toNat) (by omega) (by rw [e1]; exact lt_LB (by omega))
      rw [e1] at g2
      rw [wb, g1]
      refine ⟨n, w, n2, w2, rfl, ?_, g2⟩
      rw [hX, show exp.toNat = 0 from by omega, Nat.pow_zero, Nat.mul_one]; exact f2
    · rw [bf (decide_eq_false c)]
      have wb : exp = ((exp.toNat : Nat) : Int) := by omega
      obtain ⟨n2, w2, g1, g2⟩ := F268_ok (N := N) (by omega) f2 (k := exp.toNat) (by omega) (by rw [← hX]; exact lt_LB (by omega))
      rw [← hX] at g2
      rw [← wb] at g1
      rw [g1]
      refine ⟨n2, w2, n', w', rfl, g2, ?_⟩
      rw [hY, show (-exp).toNat = 0 from by omega, Nat.pow_zero]; exact f4
  obtain ⟨n1, w1, n2, w2, e1, g1, g2⟩ := hgo
  rw [e1]
  obtain ⟨s, E, r, q1, q2, q3, q4, q5⟩ := F269_ok (N := N) (by omega) g1 g2 hX0 hY0 hbX hbY
  unfold F168_9
  rw [q1]
  simp only [Option.bind_some, F168_10]
  have wa : w64 exp = exp := w64_id (by omega)
  have wb : w64 (E + exp) = E + exp := w64_id (by omega)
  rw [wa, wb]
  -- the same floor in units of 2^(E+exp)
  have hn0 : dval dig * 10 ^ exp.toNat ≠ 0 := Nat.mul_ne_zero hd0 (p10n _)
  have hcr := div_cross (a := dval dig * 10 ^ exp.toNat * 2 ^ (-(E + exp)).toNat) (b := 10 ^ (-exp).toNat * 2 ^ (E + exp).toNat) (c := X * 2 ^ (-E).toNat) (d := Y * 2 ^ E.toNat) (Nat.mul_pos (p10 _) (pow_pos2 _)) (Nat.mul_pos (by omega) (pow_pos2 _)) (by
    rw [hX, hY, ← ten_eq, ← ten_eq]
    have : 2 ^ exp.toNat * 2 ^ (-(E + exp)).toNat * 2 ^ E.toNat = 2 ^ (-E).toNat * 2 ^ (-exp).toNat * 2 ^ (E + exp).toNat := by
      simp only [← Nat.pow_add]
      exact congrArg (fun t => 2 ^ t) (by omega)
    generalize 2 ^ exp.toNat = A1 at *
    generalize 2 ^ (-(E + exp)).toNat = A2 at *
    generalize 2 ^ E.toNat = A3 at *
    generalize 2 ^ (-E).toNat = A4 at *
    generalize 2 ^ (-exp).toNat = A5 at *
    generalize 2 ^ (E + exp).toNat = A6 at *
    generalize 5 ^ exp.toNat = B1
    generalize 5 ^ (-exp).toNat = B2
    have e1 : dval dig * (B1 * A1) * A2 * (B2 * A3) = dval dig * B1 * B2 * (A1 * A2 * A3) := by grind
    rw [e1, this]; grind)
  have hfq : fq (dval dig * 10 ^ exp.toNat) (10 ^ (-exp).toNat) (E + exp) = fq X Y E := hcr.1
  have heq : eq (dval dig * 10 ^ exp.toNat) (10 ^ (-exp).toNat) (E + exp) = eq X Y E := decide_eq_decide.2 (not_congr hcr.2)
  have hlg := lg_ge hn0 (p10n _) (k := E + exp) (j := 63) (by rw [hfq]; exact q3)
  obtain ⟨i, hi⟩ : ∃ i : Nat, i = 310 := ⟨_, rfl⟩
  obtain ⟨u, hu⟩ : ∃ u : Nat, u = 1240 := ⟨_, rfl⟩
  have hup : lg (dval dig * 10 ^ exp.toNat) (10 ^ (-exp).toNat) < (u : Int) := by
    refine lg_le_of hn0 (p10n _) ?_
    rw [show (-(u : Int)).toNat = 0 from by omega, Int.toNat_natCast, Nat.pow_zero, Nat.mul_one, Nat.mul_comm (10 ^ (-exp).toNat)]
    exact Nat.lt_of_lt_of_le (dec_lt h (i := i) (by omega)) (Nat.mul_le_mul_right _ (ten_le (by omega)))
  have hs63 : 2 ^ 63 ≤ s.toNat := by
    rw [q2]
    unfold jm
    cases eq X Y E with
    | false => exact q3
    | true =>
      simp only [cond_true]
      have q3 : 9223372036854775808 ≤ fq X Y E := q3
      show 9223372036854775808 ≤ _
      omega
  rw [F265_ok hf hs63 (by omega), RQ_sticky (k := E + exp) hn0 (p10n _) (by omega), hfq, heq, ← q2]
  rfl

theorem F265_far {N : Nat} (hf : Fm e m) {x : Int} (hx : x = 2000) : F265 N e m mode neg 9223372036854775808#64 x = some (F252 e m mode neg) := by
  have hbi := bia_le hf.e11
  have h64 : blen (9223372036854775808#64).toNat = 64 := blen_pow2 63
  rw [F265_ok hf (by decide) (by omega), RQ_big hf (by rw [lg_pow (by decide), h64]; omega)]
theorem F265_near {N : Nat} (hf : Fm e m) {x : Int} (hx : x = -2000) : F265 N e m mode neg 9223372036854775808#64 x = some (BitVec.ofNat 64 (rn mode neg 0 true + sgn e.toNat m.toNat neg), 24#8) := by
  have hbi := bia_le hf.e11
  have hm := hf.m52
  have h64 : blen (9223372036854775808#64).toNat = 64 := blen_pow2 63
  rw [F265_ok hf (by decide) (by omega), RQ_small hf (Nat.mul_ne_zero (by decide) (pne _)) (pne _) (by rw [lg_pow (by decide), h64]; omega)]

theorem slow_ok {N : Nat} (hN : 900 ≤ N) (hf : Fm e m) (h : CN dig exp) : F168 N e m mode neg dig exp = some (RD e m mode neg dig exp) := by
  obtain ⟨b, h1, h2⟩ := F137_ok (N := N) (by omega) neg dig exp
  have hb := h2.2 h
  have hlo := h.lo
  have hhi := h.hi
  have hlen := h.len
  have hbi := bia_le hf.e11
  have hm := hf.m52
  unfold F168
  simp only [lt]
  rw [hf.ok, Bool.not_true, bf rfl, h1, hb]
  simp only [Option.bind_some, F168_1]
  have w1 : w64 exp = exp := w64_id (by omega)
  have w2 : w64 ((dig.length : Int) + exp) = dig.length + exp := w64_id (by omega)
  rw [Bool.not_true, bf rfl, w1, w2]
  unfold F168_2 F168_3
  by_cases hne : dig = []
  · subst hne
    rw [bt (by rfl), F265_zero hf]
    unfold RD
    rw [dval_nil, if_pos rfl]
    rfl
  · have hd0 := dval_pos h hne
    have hn0 : dval dig * 10 ^ exp.toNat ≠ 0 := Nat.mul_ne_zero hd0 (p10n _)
    rw [bf (by simpa using hne)]
    unfold RD
    rw [if_neg hd0]
    unfold F168_4
    by_cases c1 : (dig.length : Int) + exp > 310
    · rw [bt (decide_eq_true c1), F265_far hf rfl]
      obtain ⟨i, hi⟩ : ∃ i : Nat, i = 310 := ⟨_, rfl⟩
      obtain ⟨u, hu⟩ : ∃ u : Nat, u = 1024 := ⟨_, rfl⟩
      have e2 : (u : Int) ≤ lg (dval dig * 10 ^ exp.toNat) (10 ^ (-exp).toNat) := by
        refine lg_ge_of hn0 (p10n _) ?_
        rw [show (-(u : Int)).toNat = 0 from by omega, Int.toNat_natCast, Nat.pow_zero, Nat.mul_one, Nat.mul_comm (10 ^ (-exp).toNat)]
        exact Nat.le_trans (Nat.mul_le_mul_right _ (ten_ge (j := i) (by omega))) (dec_ge h hne (i := i) (by omega))
      rw [RQ_big hf (by omega)]
      rfl
    · rw [bf (decide_eq_false c1)]
      unfold F168_5
      by_cases c2 : (dig.length : Int) + exp < -400
      · rw [bt (decide_eq_true c2), F265_near hf rfl]
        obtain ⟨i, hi⟩ : ∃ i : Nat, i = 400 := ⟨_, rfl⟩
        obtain ⟨u, hu⟩ : ∃ u : Nat, u = 1100 := ⟨_, rfl⟩
        have e2 : lg (dval dig * 10 ^ exp.toNat) (10 ^ (-exp).toNat) < -(u : Int) := by
          refine lg_le_of hn0 (p10n _) ?_
          rw [show (-(u : Int)).toNat = 0 from by omega, show (-(-(u : Int))).toNat = u from by omega, Nat.pow_zero, Nat.mul_one]
          exact Nat.lt_of_le_of_lt (Nat.mul_le_mul_left _ (ten_ge (j := i) (by omega))) (dec_small h (i := i) (by omega))
        rw [RQ_small hf hn0 (p10n _) (by omega)]
        rfl
      · rw [bf (decide_eq_false c2)]
        exact slow_core hN hf h hne (by omega) (by omega)
theorem slow_no {N : Nat} (hN : 900 ≤ N) (hf : Fm e m) (h : ¬ CN dig exp) : F168 N e m mode neg dig exp = some (0#64, 0#8) := by
  obtain ⟨b, h1, h2⟩ := F137_ok (N := N) (by omega) neg dig exp
  have hb : b = false := by cases b with | false => rfl | true => exact (h (h2.1 rfl)).elim
  unfold F168
  simp only [lt]
  rw [hf.ok, Bool.not_true, bf rfl, h1, hb]
  rfl
end
end Go.Proofs.YfwaawGreat
