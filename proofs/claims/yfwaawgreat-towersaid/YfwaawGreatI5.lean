/-
  The model's quotient, root and fused sum are exact's.
-/
import Derived.Test.YfwaawGreatI4
import Derived.Test.YfwaawGreatA6
namespace Go.Proofs.YfwaawGreat
open Go.Aw
set_option linter.unusedVariables false
set_option linter.unusedSimpArgs false

section
variable {e m mode : BitVec 8} {f : Ieee.Format} {neg : Bool} {x : BitVec 64} {N : Nat}
theorem jm_half {n1 n2 : Nat} {s1 s2 : Bool} (h1 : n2 = n1 / 2 ^ 1) (h2 : s2 = (s1 || decide (n1 % 2 ^ 1 ≠ 0))) : jm n1 s1 = 2 * n2 + s2.toNat := by
  rw [Nat.pow_one] at h1 h2
  subst h1 h2
  unfold jm
  cases s1
  · rw [cond_false, Bool.false_or]
    by_cases c : n1 % 2 = 0
    · rw [decide_eq_false (by omega)]
      show n1 = 2 * (n1 / 2) + 0
      omega
    · rw [decide_eq_true c]
      show n1 = 2 * (n1 / 2) + 1
      omega
  · rfl
theorem RQ_jam2 {num den : Nat} (hn : num ≠ 0) (hd : den ≠ 0) {k : Int} (hk : k + m.toNat + 2 ≤ lg num den) :
    RQ e m mode neg num den = RQ e m mode neg ((2 * fq num den (k + 1) + (eq num den (k + 1)).toNat) * 2 ^ k.toNat) (2 ^ (-k).toNat) := by
  rw [RQ_sticky hn hd hk]
  have hc := fq_comp (num := num) (den := den) (by omega) k 1
  rw [jm_half hc.1 hc.2]
  rfl
theorem lg_ge_log {num den : Nat} (hn : num ≠ 0) (hd : den ≠ 0) : (num.log2 : Int) - den.log2 - 1 ≤ lg num den := by
  unfold lg
  rw [log2_blen hn, log2_blen hd]
  split <;> omega
/-- The quotient. -/
theorem ndiv (k : Kd e m f) (hm : NE mode) (a b : BitVec 64) : ∃ z, F195 N e m mode a b = some z ∧ z.1 = can e m (f.div (wd e m a) (wd e m b)) := by
  have h4 := k.fm.m52
  unfold F195 F195_1
  simp only [lt]
  rw [k.fm.ok, Bool.not_true, bf rfl]
  unfold Ieee.Format.div
  rw [k.mm]
  obtain ⟨na, ca, ba, ga, va, an, ad, ha', alta⟩ := k.opd a
  obtain ⟨nb, cb, bb, gb, vb, bn, bd, hb', altb⟩ := k.opd b
  rw [ha', hb']
  simp only [Option.bind_some, F195_2, F195_3, F195_4, F195_5, F195_6, F195_7, F195_8, F195_9, lt]
  rcases alta with ⟨a4, a3, a0, s, t, ra⟩ | ⟨a4, a3, a0, rfl, rfl, ra⟩ | ⟨rfl, rfl, ma, pa, ra, A⟩ <;>
  rcases altb with ⟨b4, b3, b0, s', t', rb⟩ | ⟨b4, b3, b0, rfl, rfl, rb⟩ | ⟨rfl, rfl, mb, pb, rb, B⟩ <;> rw [ra, rb]
  · rw [a4, b4]; exact ⟨_, rfl, rfl⟩
  · rw [a4, b4]; exact ⟨_, rfl, rfl⟩
  · rw [a4, B.c4]; exact ⟨_, rfl, rfl⟩
  · rw [a4, b4]; exact ⟨_, rfl, rfl⟩
  · rw [a4, b4, a3, b3]
    exact ⟨_, rfl, rfl⟩
  · rw [a4, B.c4, a3, B.c3, a0, B.c0]
    refine ⟨_, rfl, ?_⟩
    show F67 e m (na != nb) = can e m (some (f.write (.infinity (na ^^ nb))))
    rw [can_inf k, bne_xor]
  · rw [A.c4, b4]; exact ⟨_, rfl, rfl⟩
  · rw [A.c4, b4, A.c3, b3, A.c0, b0]
    have : (decide (ma = 0) && false) = false := Bool.and_false _
    simp only [this, Bool.or_self, Bool.and_self, Bool.false_and, Bool.and_true, cond_false, cond_true, Bool.false_or]
    refine ⟨_, rfl, ?_⟩
    show F251 e m (na != nb) = can e m (some (f.write (.number (na ^^ nb) 0 0)))
    rw [can_zero k, bne_xor]
  · rw [A.c4, B.c4, A.c3, B.c3, A.c0, B.c0]
    have n1 := A.bn
    have n2 := B.bn
    have d1 := A.bd
    have d2 := B.bd
    have b1 := blen_mul an bd
    have b2 := blen_mul ad bn
    simp only [Bool.or_self, Bool.and_self, Bool.false_and, Bool.and_true, cond_false, Bool.false_or]
    by_cases zb : mb = 0
    · subst zb
      by_cases za : ma = 0
      · subst za
        exact ⟨_, rfl, rfl⟩
      · rw [decide_eq_false za]
        refine ⟨_, rfl, ?_⟩
        show F67 e m (na != nb) = can e m (Option.map f.write (if ma = 0 then none else some (.infinity (na ^^ nb))))
        rw [if_neg za, Option.map_some, can_inf k, bne_xor]
    · rw [decide_eq_false zb, Bool.and_false, cond_false, cond_false, bt (limand (by omega) (by omega)), bt (limand (by omega) (by omega))]
      have zbn : bn ≠ 0 := fun g => zb (B.n0.1 g)
      have hd : ad * bn ≠ 0 := Nat.mul_ne_zero (by have := A.d0; omega) zbn
      have hbd0 : bd ≠ 0 := by have := B.d0; omega
      obtain ⟨more, hmore⟩ : ∃ more, more = m.toNat + 2 + mb.log2 - ma.log2 := ⟨_, rfl⟩
      obtain ⟨K, hK⟩ : ∃ K : Int, K = pa - pb - more - 1 := ⟨_, rfl⟩
      have hR : (Ieee.Datum.quotient (m.toNat + 2) (.number na ma pa) (.number nb mb pb)).map f.write = some (f.write (.number (na ^^ nb) (2 * (ma * 2 ^ more / mb) + (decide (ma * 2 ^ more % mb ≠ 0)).toNat) K)) := by
        have : Ieee.Datum.quotient (m.toNat + 2) (.number na ma pa) (.number nb mb pb) = if mb = 0 then (if ma = 0 then none else some (.infinity (na ^^ nb))) else some (.number (na ^^ nb) (2 * ((ma <<< (m.toNat + 2 + mb.log2 - ma.log2)) / mb) + ((ma <<< (m.toNat + 2 + mb.log2 - ma.log2)) % mb != 0).toNat) (pa - pb - ((m.toNat + 2 + mb.log2 - ma.log2 : Nat) : Int) - 1)) := rfl
        rw [this, if_neg zb, ← hmore, ← hK, Nat.shiftLeft_eq, Option.map_some]
        have hb : (ma * 2 ^ more % mb != 0) = decide (ma * 2 ^ more % mb ≠ 0) := by
          rw [Bool.eq_iff_iff, bne_iff_ne, decide_eq_true_eq]
        rw [hb]
      rw [hR]
      by_cases za : ma = 0
      · have z2 : an * bd = 0 := by rw [A.n0.2 za, Nat.zero_mul]
        rw [z2, F136_zero k.fm hd (by omega)]
        refine ⟨_, rfl, ?_⟩
        subst za
        rw [Nat.zero_mul, Nat.zero_div, Nat.zero_mod]
        show F251 e m (na != nb) = can e m (some (f.write (.number (na ^^ nb) 0 K)))
        rw [can_zero k, bne_xor]
      · have z2 : an * bd ≠ 0 := Nat.mul_ne_zero (fun g => za (A.n0.1 g)) hbd0
        rw [F136_RQ k.fm z2 hd (by omega) (by omega)]
        refine ⟨_, rfl, ?_⟩
        show (RQ e m mode (na != nb) (an * bd) (ad * bn)).1 = _
        -- the same fraction, from the model's dividend
        have hmbp : 0 < mb := by omega
        have hcr : an * bd * (mb * 2 ^ (-(K + 1)).toNat) = ma * 2 ^ more * 2 ^ (K + 1).toNat * (ad * bn) := by
          have hA := A.v
          have hB := B.v
          refine Nat.mul_right_cancel (Nat.mul_pos (pow_pos2 (-pa).toNat) (pow_pos2 (pb).toNat)) ?_
          have e1 : 2 ^ pa.toNat * 2 ^ (-(K + 1)).toNat * 2 ^ (-pb).toNat = 2 ^ more * 2 ^ (K + 1).toNat * 2 ^ (-pa).toNat * 2 ^ pb.toNat := by
            rw [← Nat.pow_add, ← Nat.pow_add, ← Nat.pow_add, ← Nat.pow_add, ← Nat.pow_add]
            exact congrArg (fun t => 2 ^ t) (by omega)
          generalize 2 ^ pa.toNat = p1 at *
          generalize 2 ^ pb.toNat = p2 at *
          generalize 2 ^ (-pa).toNat = p3 at *
          generalize 2 ^ (-pb).toNat = p4 at *
          generalize 2 ^ (K + 1).toNat = p5 at *
          generalize 2 ^ (-(K + 1)).toNat = p6 at *
          generalize 2 ^ more = p7 at *
          calc an * bd * (mb * p6) * (p3 * p2) = (an * p3) * (mb * p2 * bd) * p6 := by grind
            _ = (ma * p1 * ad) * (bn * p4) * p6 := by rw [hA, ← hB]
            _ = ma * ad * bn * (p1 * p6 * p4) := by grind
            _ = ma * ad * bn * (p7 * p5 * p3 * p2) := by rw [e1]
            _ = ma * p7 * p5 * (ad * bn) * (p3 * p2) := by grind
        have hden : 0 < mb * 2 ^ (-(K + 1)).toNat := Nat.mul_pos hmbp (pow_pos2 _)
        have hDne : ma * 2 ^ more ≠ 0 := Nat.mul_ne_zero za (pne _)
        rw [RQ_cross z2 hd (by omega) hcr]
        have hnum : ma * 2 ^ more * 2 ^ (K + 1).toNat ≠ 0 := Nat.mul_ne_zero hDne (pne _)
        -- the size
        have hlg : K + (m.toNat : Int) + 2 ≤ lg (ma * 2 ^ more * 2 ^ (K + 1).toNat) (mb * 2 ^ (-(K + 1)).toNat) := by
          refine lg_ge_of hnum (by omega) ?_
          have h1 : 2 ^ (m.toNat + 1) * mb ≤ ma * 2 ^ more := by
            have l1 := Nat.log2_self_le za
            have l2 := Nat.lt_log2_self (n := mb)
            have l3 : 2 ^ (m.toNat + 1) * mb ≤ 2 ^ (m.toNat + 1) * 2 ^ (mb.log2 + 1) := Nat.mul_le_mul_left _ (Nat.le_of_lt l2)
            have l4 : 2 ^ ma.log2 * 2 ^ more ≤ ma * 2 ^ more := Nat.mul_le_mul_right _ l1
            refine Nat.le_trans l3 (Nat.le_trans ?_ l4)
            rw [← Nat.pow_add, ← Nat.pow_add]; exact pow_le (by omega)
          have e1 : 2 ^ (-(K + 1)).toNat * 2 ^ (K + m.toNat + 2).toNat = 2 ^ (m.toNat + 1) * 2 ^ (K + 1).toNat * 2 ^ (-(K + (m.toNat : Int) + 2)).toNat := by
            rw [← Nat.pow_add, ← Nat.pow_add, ← Nat.pow_add]; exact congrArg (fun t => 2 ^ t) (by omega)
          have h2 := Nat.mul_le_mul_right (2 ^ (K + 1).toNat * 2 ^ (-(K + (m.toNat : Int) + 2)).toNat) h1
          generalize 2 ^ (-(K + 1)).toNat = p1 at *
          generalize 2 ^ (K + (m.toNat : Int) + 2).toNat = p2 at *
          generalize 2 ^ (K + 1).toNat = p3 at *
          generalize 2 ^ (-(K + (m.toNat : Int) + 2)).toNat = p4 at *
          generalize 2 ^ (m.toNat + 1) = p5 at *
          generalize 2 ^ more = p6 at *
          calc mb * p1 * p2 = mb * (p1 * p2) := by grind
            _ = p5 * mb * (p3 * p4) := by rw [e1]; grind
            _ ≤ ma * p6 * (p3 * p4) := h2
            _ = ma * p6 * p3 * p4 := by grind
        rw [RQ_jam2 hnum (by omega) hlg]
        have hfq : fq (ma * 2 ^ more * 2 ^ (K + 1).toNat) (mb * 2 ^ (-(K + 1)).toNat) (K + 1) = ma * 2 ^ more / mb ∧ eq (ma * 2 ^ more * 2 ^ (K + 1).toNat) (mb * 2 ^ (-(K + 1)).toNat) (K + 1) = decide (ma * 2 ^ more % mb ≠ 0) := by
          unfold fq eq
          rw [Nat.mul_assoc (ma * 2 ^ more), Nat.mul_assoc mb, Nat.mul_comm (2 ^ (K + 1).toNat)]
          have hq : 0 < 2 ^ (-(K + 1)).toNat * 2 ^ (K + 1).toNat := Nat.mul_pos (pow_pos2 _) (pow_pos2 _)
          generalize 2 ^ (-(K + 1)).toNat * 2 ^ (K + 1).toNat = q at *
          have hc := div_cross (a := ma * 2 ^ more * q) (b := mb * q) (c := ma * 2 ^ more) (d := mb) (Nat.mul_pos hmbp hq) hmbp (by rw [Nat.mul_right_comm, Nat.mul_assoc (ma * 2 ^ more) mb q])
          exact ⟨hc.1, decide_eq_decide.2 (not_congr hc.2)⟩
        rw [hfq.1, hfq.2]
        have hz : 2 * (ma * 2 ^ more / mb) + (decide (ma * 2 ^ more % mb ≠ 0)).toNat ≠ 0 := by
          by_cases c : ma * 2 ^ more % mb = 0
          · have : ma * 2 ^ more / mb ≠ 0 := by
              intro g
              have := Nat.div_add_mod (ma * 2 ^ more) mb
              rw [g, c, Nat.mul_zero] at this
              omega
            omega
          · rw [decide_eq_true c]
            show _ + 1 ≠ 0
            omega
        rw [can_num k hm hz, bne_xor]
end
end Go.Proofs.YfwaawGreat
