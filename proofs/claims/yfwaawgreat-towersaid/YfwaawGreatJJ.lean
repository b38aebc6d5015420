import Derived.Test.YfwaawGreatJI
/-! Doubles added to nearest, in whole units. -/
namespace Go.Proofs.YfwaawGreat
open Go.Aw
set_option linter.unusedVariables false
set_option linter.unusedSimpArgs false
section
variable {X Y V W N : Nat} {s t sn : Bool}
/-- What is written for the whole number S of units. -/
structure Wq (S : Nat) (Q k g : Nat) : Prop where
  lt : Q < 9218868437227405312
  uv : uv 52 Q = g * 2 ^ k
  hi : blen S ≤ 53 + k
  lo : k = 0 ∨ blen S = 53 + k
  a : S * 2 ≤ 2 * (g * 2 ^ k) + 2 ^ k
  b : 2 * (g * 2 ^ k) ≤ S * 2 + 2 ^ k
  q : 0 < k → Q = k * 4503599627370496 + g ∧ 4503599627370496 ≤ g ∧ g ≤ 9007199254740992
theorem rne_near {S q n r : Nat} (hS : S = q * n + r) (hr : r < q) : S ≤ 2 * (rne n (decide (r ≠ 0)) * q) + q ∧ 2 * (rne n (decide (r ≠ 0)) * q) ≤ S + q := by
  unfold rne
  have hn : n = 2 * (n / 2) + n % 2 := by omega
  have hm : n % 2 < 2 := Nat.mod_lt _ (by decide)
  have hS2 : S = 2 * (n / 2 * q) + n % 2 * q + r := by
    rw [hS]
    conv => lhs; rw [hn]
    rw [Nat.mul_add, Nat.mul_comm q, Nat.mul_comm q, Nat.mul_assoc]
  rcases (show n % 2 = 0 ∨ n % 2 = 1 by omega) with c | c
  · rw [c] at hS2 ⊢
    rw [decide_eq_false (by decide), Bool.false_and, cond_false, Nat.add_zero]
    generalize n / 2 * q = y at *
    omega
  · rw [c] at hS2 ⊢
    rw [decide_eq_true rfl, Bool.true_and]
    by_cases c2 : r = 0
    · cases (decide (r ≠ 0) || decide (n / 2 % 2 = 1))
      · rw [cond_false, Nat.add_zero]
        generalize n / 2 * q = y at *
        omega
      · rw [cond_true, Nat.add_mul, Nat.one_mul]
        generalize n / 2 * q = y at *
        omega
    · rw [decide_eq_true c2, Bool.true_or, cond_true, Nat.add_mul, Nat.one_mul]
      generalize n / 2 * q = y at *
      omega
theorem write_near {tot S D : Nat} {base : Int} (hD : D = 1074) (hb : -(D : Int) ≤ base) (hS : tot * 2 ^ (base + D).toNat = S) (hlt : blen S ≤ 2090) : ∃ Q k g, Ieee.double.write (.number sn tot base) = Q + s64 sn ∧ Wq S Q k g := by
  rcases Nat.lt_or_ge 53 (blen S) with c | c
  · obtain ⟨k, hk⟩ : ∃ k, blen S = 53 + k := ⟨blen S - 53, by omega⟩
    have hS0 : S ≠ 0 := by intro g; rw [g] at c; exact absurd c (by decide)
    have ht : tot ≠ 0 := by intro g; rw [g, Nat.zero_mul] at hS; exact hS0 hS.symm
    have hw : Ieee.double.write (.number sn tot base) = Ieee.double.write (.number sn S (-(D : Int))) := by
      refine wr_cross kd64 ht hS0 ?_
      rw [← hS, Nat.mul_assoc, Nat.mul_assoc, Nat.mul_assoc, ← Nat.pow_add, ← Nat.pow_add, ← Nat.pow_add]
      exact congrArg (fun z => tot * 2 ^ z) (by omega)
    rw [hw, wr_UP kd64 hS0, sgn64, inf64v]
    obtain ⟨u, hu⟩ : ∃ u : Int, u = -(D : Int) := ⟨_, rfl⟩
    rw [← hu]
    obtain ⟨g, hg⟩ : ∃ g, g = rne (S / 2 ^ (k - 1)) (decide (S % 2 ^ (k - 1) ≠ 0)) := ⟨_, rfl⟩
    have hUP : UP 11#8 52#8 (S * 2 ^ u.toNat) (2 ^ (-u).toNat) = k * 4503599627370496 + g := by
      unfold UP
      rw [lg_pow hS0, hk, show bia (11#8).toNat = 1023 by decide, show ((52#8).toNat : Int) = 52 from rfl, show 2 ^ (52#8).toNat = 4503599627370496 by decide]
      have hf := fq_pow S u (k - 1)
      have hmx : max (((53 + k : Nat) : Int) - 1 + u) (1 - ((1023 : Nat) : Int)) = u + 52 + k := by omega
      rw [hmx, show u + 52 + (k : Int) - 52 - 1 = u + ((k - 1 : Nat) : Int) by omega, hf.1, hf.2, ← hg, show (u + 52 + (k : Int) - (1 - ((1023 : Nat) : Int))).toNat = k by omega]
    rw [hUP]
    obtain ⟨q, hq⟩ : ∃ q, q = 2 ^ (k - 1) := ⟨_, rfl⟩
    have hqp : 0 < q := by rw [hq]; exact pow_pos2 _
    have hk2 : 2 ^ k = 2 * q := by rw [hq, ← Nat.pow_succ']; exact congrArg (fun t => 2 ^ t) (by omega)
    rw [← hq] at hg
    have hdm := Nat.div_add_mod S q
    have hml := Nat.mod_lt S hqp
    obtain ⟨n1, n2⟩ := rne_near hdm.symm hml
    rw [← hg] at n1 n2
    have hlo := blen_le hS0
    have hhi := blen_lt S
    rw [hk, show 53 + k - 1 = 53 + (k - 1) by omega, Nat.pow_add, ← hq, show (2 : Nat) ^ 53 = 9007199254740992 from rfl] at hlo
    rw [hk, show 53 + k = 54 + (k - 1) by omega, Nat.pow_add, ← hq, show (2 : Nat) ^ 54 = 18014398509481984 from rfl] at hhi
    have d1 : 9007199254740992 ≤ S / q := (Nat.le_div_iff_mul_le hqp).2 hlo
    have d2 : S / q < 18014398509481984 := Nat.div_lt_of_lt_mul (by rw [Nat.mul_comm]; exact hhi)
    have g1 := rne_ge (S / q) (decide (S % q ≠ 0))
    have g2 := rne_le (S / q) (decide (S % q ≠ 0))
    rw [← hg] at g1 g2
    have g3 : 4503599627370496 ≤ g := by omega
    have g4 : g ≤ 9007199254740992 := by omega
    have hkb := Nat.mul_le_mul_right 4503599627370496 (show k ≤ 2037 by omega)
    have hQ : k * 4503599627370496 + g < 9218868437227405312 := by omega
    have hmul : g * 2 ^ k = 2 * (g * q) := by rw [hk2, Nat.mul_left_comm]
    refine ⟨k * 4503599627370496 + g, k, g, congrArg (fun z => z + s64 sn) (Nat.min_eq_left (Nat.le_of_lt hQ)), hQ, uv_norm g3 g4, by omega, Or.inr hk, ?_, ?_, fun _ => ⟨rfl, g3, g4⟩⟩
    · rw [hmul, hk2]; omega
    · rw [hmul, hk2]; omega
  · have hSl : S < 9007199254740992 := blen_le_iff.1 c
    have hr : Rep (S * 2 ^ 0) := rep_of hSl (fun _ => by omega)
    rw [Nat.pow_zero, Nat.mul_one] at hr
    obtain ⟨Q, h1, h2, h3⟩ := (write_units (g := sn) hD hb hS hr).q
    exact ⟨Q, 0, S, h3, h1, by rw [h2, Nat.pow_zero, Nat.mul_one], c, Or.inl rfl, by rw [Nat.pow_zero]; omega, by rw [Nat.pow_zero]; omega, fun h => absurd h (by decide)⟩
/-- Signed. -/
theorem Wq.nri {S : Int} {Q k g : Nat} (h : Wq S.natAbs Q k g) (hs : S ≠ 0 → sn = decide (S < 0)) : NRi S (sg sn (g * 2 ^ k)) k (sg sn g) := by
  have h1 := h.a
  have h2 := h.b
  have hc : ((g * 2 ^ k : Nat) : Int) = (g : Int) * ((2 ^ k : Nat) : Int) := Int.natCast_mul _ _
  refine ⟨h.hi, h.lo, ?_, ?_, ?_⟩
  · unfold sg
    cases sn
    · exact hc
    · show -((g * 2 ^ k : Nat) : Int) = -(g : Int) * _
      rw [hc, Int.neg_mul]
  · by_cases c : S = 0
    · rcases h.lo with q | q
      · rw [c, q, Nat.pow_zero, Nat.mul_one] at h2
        have : g = 0 := by omega
        rw [c, q, this, Nat.zero_mul]
        cases sn <;> decide
      · rw [c] at q
        have : blen (0 : Int).natAbs = 0 := by decide
        omega
    · rw [hs c]
      unfold sg
      generalize g * 2 ^ k = y at *
      generalize 2 ^ k = p at *
      by_cases d : S < 0
      · rw [decide_eq_true d, if_pos rfl]; omega
      · rw [decide_eq_false d, if_neg (by decide)]; omega
  · by_cases c : S = 0
    · rcases h.lo with q | q
      · rw [c, q, Nat.pow_zero, Nat.mul_one] at h2
        have : g = 0 := by omega
        rw [c, q, this, Nat.zero_mul]
        cases sn <;> decide
      · rw [c] at q
        have : blen (0 : Int).natAbs = 0 := by decide
        omega
    · rw [hs c]
      unfold sg
      generalize g * 2 ^ k = y at *
      generalize 2 ^ k = p at *
      by_cases d : S < 0
      · rw [decide_eq_true d, if_pos rfl]; omega
      · rw [decide_eq_false d, if_neg (by decide)]; omega
theorem dadd_near (h : DV X s V) (g : DV Y t W) (hb : blen (sg s V + sg t W).natAbs ≤ 2090) : ∃ (Q k n : Nat), Ieee.double.add X Y = some (Q + s64 (if sg s V + sg t W = 0 then s && t else decide (sg s V + sg t W < 0))) ∧ Wq (sg s V + sg t W).natAbs Q k n := by
  obtain ⟨D, hD⟩ : ∃ D : Nat, D = 1074 := ⟨_, rfl⟩
  obtain ⟨ma, pa, h1, h2, h3, h4⟩ := h.read
  obtain ⟨mb, pb, g1, g2, g3, g4⟩ := g.read
  obtain ⟨tot, base, k1, k2, k3, k4⟩ := sum_units (s := s) (t := t) (D := D) (by omega) (by omega) (h4 D hD) (g4 D hD)
  obtain ⟨Q, k, n, w1, w2⟩ := write_near (sn := if sg s V + sg t W = 0 then s && t else decide (sg s V + sg t W < 0)) hD k2 k4 hb
  refine ⟨Q, k, n, ?_, w2⟩
  unfold Ieee.Format.add
  rw [h1, g1, k1, ← w1]
  rfl
theorem dsub_near (h : DV X s V) (g : DV Y t W) (hb : blen (sg s V + sg (!t) W).natAbs ≤ 2090) : ∃ (Q k n : Nat), Ieee.double.sub X Y = some (Q + s64 (if sg s V + sg (!t) W = 0 then s && !t else decide (sg s V + sg (!t) W < 0))) ∧ Wq (sg s V + sg (!t) W).natAbs Q k n := by
  obtain ⟨D, hD⟩ : ∃ D : Nat, D = 1074 := ⟨_, rfl⟩
  obtain ⟨ma, pa, h1, h2, h3, h4⟩ := h.read
  obtain ⟨mb, pb, g1, g2, g3, g4⟩ := g.read
  obtain ⟨tot, base, k1, k2, k3, k4⟩ := sum_units (s := s) (t := !t) (D := D) (by omega) (by omega) (h4 D hD) (g4 D hD)
  obtain ⟨Q, k, n, w1, w2⟩ := write_near (sn := if sg s V + sg (!t) W = 0 then s && !t else decide (sg s V + sg (!t) W < 0)) hD k2 k4 hb
  refine ⟨Q, k, n, ?_, w2⟩
  unfold Ieee.Format.sub
  rw [h1, g1]
  have : (Ieee.Datum.number t mb pb).opposite = .number (!t) mb pb := rfl
  rw [this, k1, ← w1]
  rfl
/-- A word that stands for a whole number of units. -/
def DWd (x : BitVec 64) (a : Int) : Prop := ∃ s, DV x.toNat s a.natAbs ∧ sg s a.natAbs = a
theorem sg_not (s : Bool) (n : Nat) : sg (!s) n = -sg s n := by
  unfold sg; cases s
  · rfl
  · show (n : Int) = - -(n : Int); omega
theorem put_wdv {Z : Nat} (h : DV Z s V) : put 11#8 52#8 Ieee.double (some Z) = BitVec.ofNat 64 Z ∧ (BitVec.ofNat 64 Z).toNat = Z := by
  refine ⟨?_, by rw [BitVec.toNat_ofNat, p64]; exact Nat.mod_eq_of_lt h.ltX⟩
  show (bif (Ieee.double.read Z).isNaN then _ else _) = _
  rw [h.nn]; rfl
theorem sg_abs (a : Int) (s : Bool) (hs : a ≠ 0 → s = decide (a < 0)) : sg s a.natAbs = a := by
  by_cases c : a = 0
  · rw [c]; cases s <;> decide
  · rw [hs c]
    unfold sg
    by_cases d : a < 0
    · rw [decide_eq_true d, if_pos rfl]; omega
    · rw [decide_eq_false d, if_neg (by decide)]; omega
theorem fit_rep {a : Int} (h : Fit a) (hb : blen a.natAbs ≤ 2090) : Rep a.natAbs := by
  obtain ⟨n, t, h1, h2⟩ := h
  rw [h1, Int.natAbs_mul, Int.natAbs_natCast]
  refine rep_of h2 fun h0 => ?_
  rw [h1, Int.natAbs_mul, Int.natAbs_natCast, blen_pow _ h0] at hb
  omega
theorem op_add {x y : BitVec 64} {a b : Int} (hx : DWd x a) (hy : DWd y b) (hf : Fit (a + b)) (hb : blen (a + b).natAbs ≤ 2090) : ∃ z, F330 N 0#8 x y = some z ∧ DWd z (a + b) := by
  obtain ⟨s, h1, h2⟩ := hx
  obtain ⟨t, g1, g2⟩ := hy
  obtain ⟨Z, z1, z2⟩ := h1.add g1 (by rw [h2, g2]; exact fit_rep hf hb)
  rw [h2, g2] at z2
  have hp := put_wdv z2
  rw [F330_ok, if_pos rfl, z1, hp.1]
  refine ⟨_, rfl, _, by rw [hp.2]; exact z2, sg_abs _ _ fun h => by rw [if_neg h]⟩
theorem op_sub {x y : BitVec 64} {a b : Int} (hx : DWd x a) (hy : DWd y b) (hf : Fit (a - b)) (hb : blen (a - b).natAbs ≤ 2090) : ∃ z, F330 N 1#8 x y = some z ∧ DWd z (a - b) := by
  obtain ⟨s, h1, h2⟩ := hx
  obtain ⟨t, g1, g2⟩ := hy
  have he : sg s a.natAbs + sg (!t) b.natAbs = a - b := by rw [sg_not, h2, g2]; omega
  obtain ⟨Z, z1, z2⟩ := h1.sub g1 (by rw [he]; exact fit_rep hf hb)
  rw [he] at z2
  have hp := put_wdv z2
  rw [F330_ok, if_neg (by decide), if_pos rfl, z1, hp.1]
  refine ⟨_, rfl, _, by rw [hp.2]; exact z2, sg_abs _ _ fun h => by rw [if_neg h]⟩
theorem natAbs_sg (s : Bool) (n : Nat) : (sg s n).natAbs = n := by unfold sg; cases s <;> simp
theorem Wq.dv {S Q k g : Nat} (h : Wq S Q k g) (sn : Bool) : DV (Q + s64 sn) sn (g * 2 ^ k) := ⟨Q, h.lt, h.uv, rfl⟩
theorem op_subn {x y : BitVec 64} {a b : Int} (hx : DWd x a) (hy : DWd y b) (hb : blen (a - b).natAbs ≤ 2090) : ∃ (z : BitVec 64) (v : Int) (k : Nat) (g : Int), F330 N 1#8 x y = some z ∧ DWd z v ∧ NRi (a - b) v k g := by
  obtain ⟨s, h1, h2⟩ := hx
  obtain ⟨t, g1, g2⟩ := hy
  have he : sg s a.natAbs + sg (!t) b.natAbs = a - b := by rw [sg_not, h2, g2]; omega
  obtain ⟨Q, k, n, z1, z2⟩ := dsub_near h1 g1 (by rw [he]; exact hb)
  rw [he] at z1 z2
  obtain ⟨sn, hsn⟩ : ∃ sn, sn = (if a - b = 0 then s && !t else decide (a - b < 0)) := ⟨_, rfl⟩
  rw [← hsn] at z1
  have hd := z2.dv sn
  have hp := put_wdv hd
  have hn := z2.nri (sn := sn) (fun h => by rw [hsn, if_neg h])
  rw [F330_ok, if_neg (by decide), if_pos rfl, z1, hp.1]
  refine ⟨_, _, k, _, rfl, ⟨sn, ?_, ?_⟩, hn⟩
  · rw [hp.2, natAbs_sg]; exact hd
  · rw [natAbs_sg]
end
end Go.Proofs.YfwaawGreat
