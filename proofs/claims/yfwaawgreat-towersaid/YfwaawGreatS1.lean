/-
  The sum: soft's with its jammed tail, exact's by cross multiplication.
-/
import Derived.Test.YfwaawGreatA1
import Derived.Test.YfwaawGreatG27
namespace Go.Proofs.YfwaawGreat
open Go.Aw
set_option linter.unusedVariables false
set_option linter.unusedSimpArgs false
section
variable {e m mode : BitVec 8} {neg : Bool}

/-- Units of 2^x, of a whole number of units 2^-L. -/
theorem fq_L (V L : Nat) {x : Int} (hx : -(L : Int) ≤ x) : fq V (2 ^ L) x = V / 2 ^ (x + L).toNat ∧ eq V (2 ^ L) x = decide (V % 2 ^ (x + L).toNat ≠ 0) := by
  unfold fq eq
  have hc := div_cross (a := V * 2 ^ (-x).toNat) (b := 2 ^ L * 2 ^ x.toNat) (c := V) (d := 2 ^ (x + L).toNat) (Nat.mul_pos (pow_pos2 _) (pow_pos2 _)) (pow_pos2 _) (by
    have : 2 ^ (-x).toNat * 2 ^ (x + L).toNat = 2 ^ L * 2 ^ x.toNat := by
      simp only [← Nat.pow_add]; congr 1; omega
    grind)
  exact ⟨hc.1, decide_eq_decide.2 (not_congr hc.2)⟩
theorem lg_ge {num den : Nat} (hn : num ≠ 0) (hd : den ≠ 0) {k : Int} {j : Nat} (h : 2 ^ j ≤ fq num den k) : k + j ≤ lg num den := by
  rcases Int.lt_or_le (lg num den) (k + j) with c | c
  · have := fq_lt (by omega) (lg_spec hn hd) j k (by omega)
    omega
  · exact c
/-- The whole R in units of 2^x, over 2^L. -/
theorem RQ_L {R : Nat} {L : Nat} {x : Int} (hR : R ≠ 0) (hx : -(L : Int) ≤ x) : RQ e m mode neg (R * 2 ^ x.toNat) (2 ^ (-x).toNat) = RQ e m mode neg (R * 2 ^ (x + L).toNat) (2 ^ L) := by
  refine RQ_cross (Nat.mul_ne_zero hR (pne _)) (pne _) (pne _) ?_
  have : 2 ^ x.toNat * 2 ^ L = 2 ^ (x + L).toNat * 2 ^ (-x).toNat := by
    simp only [← Nat.pow_add]; congr 1; omega
  grind

/-- The sum of two numbers in units of 2^-L, rounded; an exact zero of opposite terms by the mode. -/
def SM (e m mode : BitVec 8) (na : Bool) (VA : Nat) (nb : Bool) (VB L : Nat) : BitVec 64 × BitVec 8 :=
  if na = nb then RQ e m mode na (VA + VB) (2 ^ L)
  else if VA = VB then (F251 e m (mode == 4#8), 0#8)
  else if VB < VA then RQ e m mode na (VA - VB) (2 ^ L) else RQ e m mode nb (VB - VA) (2 ^ L)
theorem SM_comm {na nb : Bool} {VA VB L : Nat} : SM e m mode na VA nb VB L = SM e m mode nb VB na VA L := by
  unfold SM
  by_cases h : na = nb
  · subst h; rw [if_pos rfl, if_pos rfl, Nat.add_comm]
  · have h' : ¬ nb = na := fun c => h c.symm
    rw [if_neg h, if_neg h']
    by_cases h2 : VA = VB
    · subst h2; rw [if_pos rfl, if_pos rfl]
    · have h2' : ¬ VB = VA := fun c => h2 c.symm
      rw [if_neg h2, if_neg h2']
      by_cases h3 : VB < VA
      · rw [if_pos h3, if_neg (by omega)]
      · rw [if_neg h3, if_pos (by omega)]

theorem F273_4_ok {N : Nat} (h : Fm e m) {x : Int} (hx : -20000 < x ∧ x < 20000) (hi lo : BitVec 64) :
    F273_4 N e m mode x neg hi lo = some (if v2 hi lo = 0 then (F251 e m (mode == 4#8), 0#8) else RQ e m mode neg (v2 hi lo * 2 ^ x.toNat) (2 ^ (-x).toNat)) := by
  unfold F273_4 F273_5
  have hz : (hi ||| lo == 0#64) = decide (v2 hi lo = 0) := by
    rw [eq_bv, BitVec.toNat_or, show (0#64).toNat = 0 from rfl]
    refine decide_eq_decide.2 ?_
    have h1 : hi.toNat ≤ hi.toNat ||| lo.toNat := Nat.left_le_or
    have h2 : lo.toNat ≤ hi.toNat ||| lo.toNat := Nat.right_le_or
    unfold v2
    constructor
    · intro h; rw [h] at h1 h2; omega
    · intro h
      rw [show hi.toNat = 0 from by omega, show lo.toNat = 0 from by omega]; rfl
  rw [hz, F259_eq]
  by_cases c : v2 hi lo = 0
  · rw [bt (by simpa using c), if_pos c]; rfl
  · rw [bf (by simpa using c), if_neg c]
    unfold F273_6
    exact jam_round h hx c

/-- A number's significand as sum takes it. -/
structure Nm (A : Nat) : Prop where
  lo : 2 ^ 125 ≤ A
  hi : A < 2 ^ 127
  z : A % 2 ^ 21 = 0

theorem jm_add {A f : Nat} (hA : A % 2 = 0) : jm (A + f) true = A + jm f true := by
  unfold jm; simp only [cond_true]; omega
theorem jm_sub {A f : Nat} (hA : A % 2 = 0) (hf : f < A) : jm (A - f - 1) true = A - jm f true ∧ jm f true ≤ A := by
  unfold jm; simp only [cond_true]; omega
theorem div_add_part {A f r U B g W : Nat} (hg : 0 < g) (hW : 0 < W) (hU : U = g * W) (hB : B = g * f + r) (hr : r < g) :
    (A * U + B * W) / U = A + f ∧ ((A * U + B * W) % U ≠ 0 ↔ r ≠ 0) := by
  have hUp : 0 < U := by rw [hU]; exact Nat.mul_pos hg hW
  have e1 : A * U + B * W = r * W + U * (A + f) := by rw [hB, hU]; grind
  have e2 : r * W < U := by rw [hU]; exact Nat.mul_lt_mul_of_pos_right hr hW
  rw [e1, Nat.add_mul_div_left _ _ hUp, Nat.add_mul_mod_self_left, Nat.div_eq_of_lt e2, Nat.mod_eq_of_lt e2, Nat.zero_add]
  refine ⟨rfl, ?_⟩
  rw [Ne, Nat.mul_eq_zero]
  omega
theorem div_sub_part {A f r U B g W : Nat} (hg : 0 < g) (hW : 0 < W) (hU : U = g * W) (hB : B = g * f + r) (hr : r < g) (hr0 : r ≠ 0) (hf : f < A) :
    (A * U - B * W) / U = A - f - 1 ∧ (A * U - B * W) % U ≠ 0 := by
  have hUp : 0 < U := by rw [hU]; exact Nat.mul_pos hg hW
  obtain ⟨q, hq⟩ : ∃ q, A = f + 1 + q := ⟨A - f - 1, by omega⟩
  have hle := Nat.mul_le_mul_right W (Nat.le_of_lt hr)
  have e1 : A * U - B * W = (g * W - r * W) + U * q := by
    have h1 : A * U = g * W * f + g * W + g * W * q := by rw [hq, hU]; grind
    have h2 : B * W = g * W * f + r * W := by rw [hB]; grind
    rw [h1, h2, hU]
    omega
  have e0 : 0 < r * W := Nat.mul_pos (by omega) hW
  have e2 : g * W - r * W < U := by rw [hU]; omega
  rw [e1, Nat.add_mul_div_left _ _ hUp, Nat.add_mul_mod_self_left, Nat.div_eq_of_lt e2, Nat.mod_eq_of_lt e2, Nat.zero_add]
  refine ⟨by omega, ?_⟩
  have e3 : r * W < g * W := Nat.mul_lt_mul_of_pos_right hr hW
  omega

/-- sum, the greater exponent first. -/
theorem sum_core {N : Nat} (h : Fm e m) {na nb : Bool} {xa xb : Int} {a1 a0 b1 b0 : BitVec 64} {L : Nat} (hA : Nm (v2 a1 a0)) (hB : Nm (v2 b1 b0))
    (hab : xb ≤ xa) (hl : -10000 < xb) (hh : xa < 10000) (hL : 10000 ≤ L) :
    F273_1 N e m mode na xa a1 a0 nb xb b1 b0 = some (SM e m mode na (v2 a1 a0 * 2 ^ (xa + L).toNat) nb (v2 b1 b0 * 2 ^ (xb + L).toNat) L) := by
  unfold F273_1 F273_2
  have w1 : w16 (xa - xb) = xa - xb := w16_id (by omega)
  rw [w1]
  obtain ⟨gap, hgap⟩ : ∃ gap : Nat, xa - xb = gap := ⟨(xa - xb).toNat, by omega⟩
  obtain ⟨g, hg⟩ : ∃ g : Nat, min (xa - xb) 255 = (g : Int) := ⟨(min (xa - xb) 255).toNat, by omega⟩
  have hgn : (BitVec.ofInt 8 (g : Int)).toNat = g := by
    rw [ofInt_nat, BitVec.toNat_ofNat]; exact Nat.mod_eq_of_lt (by omega)
  rw [hg]
  simp only [lt]
  have hj := F370_ok b1 b0 (BitVec.ofInt 8 (g : Int))
  rw [hgn] at hj
  generalize F370 b1 b0 (BitVec.ofInt 8 (g : Int)) = bb at *
  unfold F273_3 F273_7 F273_8 F273_9
  simp only [lt]
  rw [F362_ok]
  obtain ⟨A, hAv⟩ : ∃ A, A = v2 a1 a0 := ⟨_, rfl⟩
  obtain ⟨B, hBv⟩ : ∃ B, B = v2 b1 b0 := ⟨_, rfl⟩
  rw [← hAv] at hA ⊢
  rw [← hBv] at hB hj ⊢
  obtain ⟨hA1, hA2, hA3⟩ := hA
  obtain ⟨hB1, hB2, hB3⟩ := hB
  have p125 : (2 : Nat) ^ 125 = 42535295865117307932921825928971026432 := rfl
  have p127 : (2 : Nat) ^ 127 = 170141183460469231731687303715884105728 := rfl
  have p21 : (2 : Nat) ^ 21 = 2097152 := rfl
  rw [p125] at hA1 hB1
  rw [p127] at hA2 hB2
  rw [p21] at hA3 hB3
  -- the parts
  have hadd := F166_ok a1 a0 bb.1 bb.2
  have hsub1 := @F371_ok a1 a0 bb.1 bb.2
  have hsub2 := @F371_ok bb.1 bb.2 a1 a0
  rw [← hAv] at hadd hsub1 hsub2
  obtain ⟨B', hB'⟩ : ∃ B', B' = v2 bb.1 bb.2 := ⟨_, rfl⟩
  rw [← hB'] at hadd hsub1 hsub2 hj ⊢
  have hU : 2 ^ (xa + L).toNat = 2 ^ gap * 2 ^ (xb + L).toNat := by rw [← Nat.pow_add]; congr 1; omega
  have pg := pow_pos2 gap
  have pW := pow_pos2 (xb + L).toNat
  have pU := pow_pos2 (xa + L).toNat
  by_cases hs : B % 2 ^ g = 0
  · -- nothing is cut
    have hg255 : (g : Int) = xa - xb := by
      rcases Nat.lt_or_ge g 255 with c | c
      · omega
      · have h1 : g = 255 := by omega
        have h2 : 2 ^ 127 ≤ 2 ^ g := pow_le (by omega)
        rw [Nat.mod_eq_of_lt (by omega)] at hs
        omega
    have hgg : g = gap := by omega
    subst hgg
    have hB'v : B' = B / 2 ^ g := by rw [hj, decide_eq_false (by simpa using hs)]; rfl
    have hBm : B = B' * 2 ^ g := by
      have := Nat.div_add_mod B (2 ^ g)
      rw [hB'v, Nat.mul_comm]; omega
    have hVB : B * 2 ^ (xb + L).toNat = B' * 2 ^ (xa + L).toNat := by rw [hU, hBm]; grind
    have hB'l : B' ≤ B := by rw [hB'v]; exact Nat.div_le_self _ _
    have hB'p : B' ≠ 0 := fun c => by rw [c, Nat.zero_mul] at hBm; omega
    rw [hVB]
    unfold SM
    by_cases hn : na = nb
    · rw [bt (by simpa using hn), if_pos hn, F273_4_ok h (by omega), hadd.1, Nat.mod_eq_of_lt (by omega), if_neg (by omega), RQ_L (L := L) (by omega) (by omega), Nat.add_mul]
    · rw [bf (by simpa using hn), if_neg hn]
      unfold ncmp
      by_cases c : A < B'
      · rw [if_pos c, bt (by decide), F273_4_ok h (by omega), hsub2 (by omega), if_neg (by omega), RQ_L (L := L) (by omega) (by omega)]
        have c2 := Nat.mul_lt_mul_of_pos_right c pU
        rw [if_neg (by omega), if_neg (by omega), Nat.sub_mul]
      · rw [if_neg c]
        by_cases c0 : A = B'
        · rw [if_pos c0, bf (by decide), F273_4_ok h (by omega), hsub1 (by omega), if_pos (by omega), if_pos (by rw [c0])]
        · rw [if_neg c0, bf (by decide), F273_4_ok h (by omega), hsub1 (by omega), if_neg (by omega), RQ_L (L := L) (by omega) (by omega)]
          have c2 := Nat.mul_lt_mul_of_pos_right (show B' < A by omega) pU
          rw [if_neg (by omega), if_pos c2, Nat.sub_mul]
  · -- a tail is cut, far below
    have hg22 : 22 ≤ g := by
      rcases Nat.lt_or_ge g 22 with c | c
      · exfalso
        refine hs (Nat.mod_eq_zero_of_dvd (Nat.dvd_trans (Nat.pow_dvd_pow 2 (show g ≤ 21 by omega)) (Nat.dvd_of_mod_eq_zero (by rw [p21]; exact hB3))))
      · exact c
    have hq : B / 2 ^ g = B / 2 ^ gap ∧ B % 2 ^ gap ≠ 0 := by
      by_cases c : g = gap
      · rw [← c]; exact ⟨rfl, hs⟩
      · have h1 : g = 255 := by omega
        have h2 : 2 ^ 127 ≤ 2 ^ g := pow_le (by omega)
        have h3 : 2 ^ 127 ≤ 2 ^ gap := pow_le (by omega)
        rw [Nat.div_eq_of_lt (by omega), Nat.div_eq_of_lt (by omega), Nat.mod_eq_of_lt (by omega)]
        exact ⟨rfl, by omega⟩
    have hf : B / 2 ^ gap ≤ 2 ^ 105 := by
      rw [← hq.1]
      have h1 : B / 2 ^ g ≤ B / 2 ^ 22 := Nat.div_le_div_left (pow_le hg22) (pow_pos2 _)
      have h2 : B / 2 ^ 22 < 2 ^ 105 := by rw [Nat.div_lt_iff_lt_mul (pow_pos2 _), ← Nat.pow_add]; omega
      omega
    have p105 : (2 : Nat) ^ 105 = 40564819207303340847894502572032 := rfl
    rw [p105] at hf
    rw [hq.1, decide_eq_true (by simpa using hs)] at hj
    have hdm := (Nat.div_add_mod B (2 ^ gap)).symm
    have hml := Nat.mod_lt B pg
    generalize B / 2 ^ gap = f at *
    generalize B % 2 ^ gap = r at *
    have hB'l : B' ≤ f + 1 := by rw [hj]; unfold jm; simp only [cond_true]; omega
    have p124 : (2 : Nat) ^ 124 = 21267647932558653966460912964485513216 := rfl
    unfold SM
    by_cases hn : na = nb
    · rw [bt (by simpa using hn), if_pos hn, F273_4_ok h (by omega), hadd.1, Nat.mod_eq_of_lt (by omega), if_neg (by omega)]
      obtain ⟨d1, d2⟩ := div_add_part (A := A) pg pW hU hdm hml
      obtain ⟨q1, q2⟩ := fq_L (A * 2 ^ (xa + L).toNat + B * 2 ^ (xb + L).toNat) L (x := xa) (by omega)
      rw [d1] at q1
      rw [decide_eq_true (d2.2 hq.2)] at q2
      have hVne : A * 2 ^ (xa + L).toNat + B * 2 ^ (xb + L).toNat ≠ 0 := by
        have : 0 < A * 2 ^ (xa + L).toNat := Nat.mul_pos (by omega) pU
        omega
      have hlg := lg_ge hVne (pne L) (k := xa) (j := 124) (by rw [q1, p124]; omega)
      have h4 := h.m52
      rw [RQ_sticky (k := xa) hVne (pne L) (by omega), q1, q2, jm_add (by omega), ← hj]
    · rw [bf (by simpa using hn), if_neg hn]
      unfold ncmp
      rw [if_neg (by omega), if_neg (by omega), bf (by decide), F273_4_ok h (by omega), hsub1 (by omega), if_neg (by omega)]
      obtain ⟨d1, d2⟩ := div_sub_part (A := A) pg pW hU hdm hml hq.2 (by omega)
      obtain ⟨q1, q2⟩ := fq_L (A * 2 ^ (xa + L).toNat - B * 2 ^ (xb + L).toNat) L (x := xa) (by omega)
      rw [d1] at q1
      rw [decide_eq_true d2] at q2
      have hlt : B * 2 ^ (xb + L).toNat < A * 2 ^ (xa + L).toNat := by
        rcases Nat.lt_or_ge (B * 2 ^ (xb + L).toNat) (A * 2 ^ (xa + L).toNat) with c | c
        · exact c
        · rw [Nat.sub_eq_zero_of_le c, Nat.zero_mod] at d2
          exact (d2 rfl).elim
      have hVne : A * 2 ^ (xa + L).toNat - B * 2 ^ (xb + L).toNat ≠ 0 := by omega
      have hlg := lg_ge hVne (pne L) (k := xa) (j := 124) (by rw [q1, p124]; omega)
      have h4 := h.m52
      have hjs := jm_sub (A := A) (f := f) (by omega) (by omega)
      rw [if_neg (by omega), if_pos hlt, RQ_sticky (k := xa) hVne (pne L) (by omega), q1, q2, hjs.1, ← hj]

theorem sum_ok {N : Nat} (h : Fm e m) {na nb : Bool} {xa xb : Int} {a1 a0 b1 b0 : BitVec 64} {L : Nat} (hA : Nm (v2 a1 a0)) (hB : Nm (v2 b1 b0))
    (ha : -10000 < xa ∧ xa < 10000) (hb : -10000 < xb ∧ xb < 10000) (hL : 10000 ≤ L) :
    F273 N e m mode na xa a1 a0 nb xb b1 b0 = some (SM e m mode na (v2 a1 a0 * 2 ^ (xa + L).toNat) nb (v2 b1 b0 * 2 ^ (xb + L).toNat) L) := by
  unfold F273 F273_10
  generalize hc : ((decide (xa < xb)) || ((xa == xb) && (decide ((F362 a1 a0 b1 b0) < 0)))) = c
  cases c with
  | true =>
    have hle : xa ≤ xb := by
      rcases Int.lt_or_le xb xa with k | k
      · rw [decide_eq_false (by omega), Bool.false_or, show (xa == xb) = false from by simp; omega] at hc
        simp at hc
      · exact k
    simp only [cond_true]
    rw [sum_core h hB hA hle ha.1 hb.2 hL, SM_comm]
  | false =>
    have hle : xb ≤ xa := by
      rcases Int.lt_or_le xa xb with k | k
      · rw [decide_eq_true k] at hc; simp at hc
      · exact k
    simp only [cond_false]
    rw [sum_core h hA hB hle hb.1 ha.2 hL]
end
end Go.Proofs.YfwaawGreat
