/-
  Package slow, plain: SlowFlags = RoundDecFlags.
-/
import Derived.Test.YfwaawGreatL5
import Derived.Test.YfwaawGreatG38
import Derived.Test.YfwaawGreatG55
namespace Go.Proofs.YfwaawGreat
open Go.Aw
set_option linter.unusedVariables false
set_option linter.unusedSimpArgs false

theorem F269_ok {N : Nat} (hN : 60 ≤ N) {n n' : Int} {w w' : Nat → BitVec 64} {X Y : Nat} (hx : Bg n w X) (hy : Bg n' w' Y) (hX : X ≠ 0) (hY : Y ≠ 0) (bX : blen X ≤ 2900) (bY : blen Y ≤ 2900) :
    ∃ (s : BitVec 64) (E : Int) (r : Int × (Nat → BitVec 64) × Int × (Nat → BitVec 64)), F269 N n w n' w' = some (s, E, r) ∧ s.toNat = jm (fq X Y E) (eq X Y E) ∧ 2 ^ 63 ≤ fq X Y E ∧ -3000 < E ∧ E < 2900 := by
  have pX := blen_pos hX
  have pY := blen_pos hY
  unfold F269
  rw [F364_ok hx, F364_ok hy]
  simp only [Option.bind_some]
  obtain ⟨d, hd⟩ : ∃ d : Int, d = (blen X : Int) - blen Y := ⟨_, rfl⟩
  rw [← hd, w64_id (by omega)]
  -- equal lengths
  have h1 : ∃ n1 w1 n2 w2, F269_1 N d n w n' w' = F269_2 N d n1 w1 n2 w2 ∧ Bg n1 w1 (X * 2 ^ (-d).toNat) ∧ Bg n2 w2 (Y * 2 ^ d.toNat) := by
    unfold F269_1 F269_21
    by_cases c : d < 0
    · rw [bt (decide_eq_true c)]
      have w1 : w64 (0 - d) = (((-d).toNat : Nat) : Int) := by rw [w64_id (by omega)]; omega
      have hb := blen_shl X (-d).toNat
      obtain ⟨n1, w2, f1, f2⟩ := F365_ok (N := N) hN hx hX (k := (-d).toNat) (by omega) (lt_LB (by omega))
      rw [w1, f1]
      refine ⟨n1, w2, n', w', rfl, f2, ?_⟩
      rw [show d.toNat = 0 from by omega, Nat.pow_zero, Nat.mul_one]; exact hy
    · rw [bf (decide_eq_false c)]
      have w1 : d = ((d.toNat : Nat) : Int) := by omega
      have hb := blen_shl Y d.toNat
      obtain ⟨n1, w2, f1, f2⟩ := F365_ok (N := N) hN hy hY (k := d.toNat) (by omega) (lt_LB (by omega))
      rw [← w1] at f1
      rw [f1]
      refine ⟨n, w, n1, w2, rfl, ?_, f2⟩
      rw [show (-d).toNat = 0 from by omega, Nat.pow_zero, Nat.mul_one]; exact hx
  obtain ⟨n1, w1, n2, w2, e1, g1, g2⟩ := h1
  rw [e1]
  have bX1 := blen_pow X hX (-d).toNat
  have bY1 := blen_pow Y hY d.toNat
  have hX1 : X * 2 ^ (-d).toNat ≠ 0 := Nat.mul_ne_zero hX (pne _)
  have hY1 : Y * 2 ^ d.toNat ≠ 0 := Nat.mul_ne_zero hY (pne _)
  obtain ⟨X1, hX1v⟩ : ∃ X1, X1 = X * 2 ^ (-d).toNat := ⟨_, rfl⟩
  obtain ⟨Y1, hY1v⟩ : ∃ Y1, Y1 = Y * 2 ^ d.toNat := ⟨_, rfl⟩
  rw [← hX1v] at g1 bX1 hX1
  rw [← hY1v] at g2 bY1 hY1
  -- x < y ≤ 2x
  have h2 : ∃ (δ : Nat) (n3 : Int) (w3 : Nat → BitVec 64), F269_2 N d n1 w1 n2 w2 = F269_3 N (d + δ) n1 w1 n3 w3 ∧ Bg n3 w3 (Y1 * 2 ^ δ) ∧ δ ≤ 1 ∧ X1 < Y1 * 2 ^ δ ∧ Y1 * 2 ^ δ ≤ 2 * X1 := by
    have a1 := blen_lt X1
    have a2 := blen_le hX1
    have a3 := blen_lt Y1
    have a4 := blen_le hY1
    have hbb : blen X1 = blen Y1 := by omega
    have hpp : 2 ^ blen X1 = 2 * 2 ^ (blen X1 - 1) := by rw [← Nat.pow_succ', Nat.succ_eq_add_one, show blen X1 - 1 + 1 = blen X1 from by omega]
    rw [← hbb] at a3 a4
    unfold F269_2
    rw [F366_ok hN g1 g2]
    simp only [Option.bind_some, F269_19]
    by_cases c : X1 < Y1
    · rw [decide_eq_true c, Bool.not_true, bf rfl]
      exact ⟨0, n2, w2, by rw [show d + ((0 : Nat) : Int) = d from by omega], by simpa using g2, by omega, by simpa using c, by simp; omega⟩
    · rw [decide_eq_false c, Bool.not_false, bt rfl]
      have hb := blen_shl Y1 1
      obtain ⟨n3, w3, f1, f2⟩ := F365_ok (N := N) hN g2 hY1 (k := 1) (by omega) (lt_LB (by omega))
      have f1 : F365 N n2 w2 1 = some (n3, w3) := f1
      rw [f1]
      simp only [Option.bind_some, F269_20]
      rw [w64_id (by omega)]
      exact ⟨1, n3, w3, rfl, f2, by omega, by omega, by omega⟩
  obtain ⟨δ, n3, w3, e2, g3, hδ, hlt, hle⟩ := h2
  rw [e2]
  have hY2 : Y1 * 2 ^ δ ≠ 0 := Nat.mul_ne_zero hY1 (pne _)
  have bY2 := blen_pow Y1 hY1 δ
  obtain ⟨Y2, hY2v⟩ : ∃ Y2, Y2 = Y1 * 2 ^ δ := ⟨_, rfl⟩
  rw [← hY2v] at g3 hlt hle hY2 bY2
  -- lifted
  unfold F269_3
  rw [F364_ok g3]
  simp only [Option.bind_some]
  rw [lift_ok (by omega)]
  obtain ⟨l, hl⟩ : ∃ l, l = (64 - blen Y2 % 64) % 64 := ⟨_, rfl⟩
  rw [← hl]
  have bX3 := blen_pow X1 hX1 l
  have bY3 := blen_pow Y2 hY2 l
  obtain ⟨n4, w4, f1, f2⟩ := F365_ok (N := N) hN g1 hX1 (k := l) (by omega) (lt_LB (by omega))
  obtain ⟨n5, w5, f3, f4⟩ := F365_ok (N := N) hN g3 hY2 (k := l) (by omega) (lt_LB (by omega))
  unfold F269_4
  rw [f1]
  simp only [Option.bind_some]
  unfold F269_5
  rw [f3]
  simp only [Option.bind_some]
  have hlt3 : X1 * 2 ^ l < Y2 * 2 ^ l := Nat.mul_lt_mul_of_pos_right hlt (pow_pos2 l)
  obtain ⟨s, n6, w6, u1, u2⟩ := F269_6_ok (N := N) hN (E := d + δ) (k := blen (Y2 * 2 ^ l) / 64) f2 f4 (Nat.mul_ne_zero hX1 (pne _)) hlt3 (by omega) (by omega) (by omega)
  rw [u1]
  -- back to X / Y
  have hYp : 0 < Y := by omega
  have hcr := div_cross (a := X * 2 ^ (-(d + δ - 64)).toNat) (b := Y * 2 ^ (d + δ - 64).toNat) (c := X1 * 2 ^ l * 18446744073709551616) (d := Y2 * 2 ^ l) (Nat.mul_pos hYp (pow_pos2 _)) (Nat.mul_pos (by omega) (pow_pos2 _)) (by
    rw [hX1v, hY2v, hY1v, ← p64]
    have : 2 ^ (-(d + δ - 64)).toNat * (2 ^ d.toNat * 2 ^ δ * 2 ^ l) = 2 ^ (-d).toNat * 2 ^ l * 2 ^ 64 * 2 ^ (d + δ - 64).toNat := by
      simp only [← Nat.pow_add]
      exact congrArg (fun t => 2 ^ t) (by omega)
    generalize 2 ^ (-(d + δ - 64)).toNat = A1 at *
    generalize 2 ^ (d + δ - 64).toNat = A2 at *
    generalize 2 ^ d.toNat = A3 at *
    generalize 2 ^ (-d).toNat = A4 at *
    generalize 2 ^ δ = A5 at *
    generalize 2 ^ l = A6 at *
    generalize 2 ^ 64 = A7 at *
    have e1 : X * A1 * (Y * A3 * A5 * A6) = X * Y * (A1 * (A3 * A5 * A6)) := by grind
    rw [e1, this]; grind)
  have hfq : fq X Y (d + δ - 64) = X1 * 2 ^ l * 18446744073709551616 / (Y2 * 2 ^ l) := hcr.1
  have heq : eq X Y (d + δ - 64) = decide (X1 * 2 ^ l * 18446744073709551616 % (Y2 * 2 ^ l) ≠ 0) := decide_eq_decide.2 (not_congr hcr.2)
  refine ⟨s, d + δ - 64, _, rfl, by rw [hfq, heq]; exact u2, ?_, by omega, by omega⟩
  rw [hfq, show (2 : Nat) ^ 63 = 9223372036854775808 from rfl, Nat.le_div_iff_mul_le (Nat.mul_pos (by omega) (pow_pos2 _))]
  have := Nat.mul_le_mul_right (2 ^ l) hle
  rw [Nat.mul_assoc] at this
  generalize X1 * 2 ^ l = A at *
  generalize Y2 * 2 ^ l = B at *
  omega

section
variable {e m mode : BitVec 8} {neg : Bool} {dig : List UInt8} {exp : Int}
/-- Values beyond all patterns round alike. -/
theorem RQ_big (h : Fm e m) {num den : Nat} (h0 : (bia e.toNat : Int) < lg num den) : RQ e m mode neg num den = F252 e m mode neg := by
  unfold RQ RS
  rw [if_pos (by omega)]
/-- Values below half of the least round alike. -/
theorem RQ_small (h : Fm e m) {num den : Nat} (hn : num ≠ 0) (hd : den ≠ 0) (h0 : lg num den < 1 - (bia e.toNat : Int) - m.toNat - 1) :
    RQ e m mode neg num den = (BitVec.ofNat 64 (rn mode neg 0 true + sgn e.toNat m.toNat neg), 24#8) := by
  have hb := bia_ge h.e2
  have hip := infP_pos h
  have h3 := h.m2
  have l := lg_spec hn hd
  have hd0 : ∀ d : Int, lg num den < d → fq num den d = 0 ∧ eq num den d = true := by
    intro d hdd
    have h1 := fq_lt (by omega) l 0 d (by omega)
    have h2 : fq num den d = 0 := by omega
    refine ⟨h2, ?_⟩
    unfold fq at h2
    unfold eq
    have hB : 0 < den * 2 ^ d.toNat := Nat.mul_pos (by omega) (pow_pos2 _)
    have h3 := Nat.div_add_mod (num * 2 ^ (-d).toNat) (den * 2 ^ d.toNat)
    rw [h2, Nat.mul_zero, Nat.zero_add] at h3
    rw [h3]
    exact decide_eq_true (Nat.mul_ne_zero hn (pne _))
  obtain ⟨k1, k2⟩ := hd0 (1 - (bia e.toNat : Int) - m.toNat - 1) h0
  unfold RQ RS
  rw [show max (lg num den) (1 - (bia e.toNat : Int)) = 1 - bia e.toNat from by omega, k1, k2]
  have hrn : rn mode neg 0 true ≤ 1 := by have := rn_le mode neg 0 true; omega
  have hp2 : 2 ^ 2 ≤ 2 ^ m.toNat := pow_le h3
  rw [if_neg (by omega), show (1 - (bia e.toNat : Int) - (1 - bia e.toNat)).toNat = 0 from by omega, Nat.zero_mul, Nat.zero_add, if_neg (by omega), if_neg (fun c => by cases c.2), if_pos ⟨by omega, fun c => by omega⟩]

theorem lg_pow2 (k : Int) : lg (1 * 2 ^ k.toNat) (2 ^ (-k).toNat) = k := by
  have := lg_pow (J := 1) (by decide) k
  rw [this, bl1]; omega
theorem lg_le_of {num den : Nat} {r : Int} (hn : num ≠ 0) (hd : den ≠ 0) (h : num * 2 ^ (-r).toNat < den * 2 ^ r.toNat) : lg num den < r := by
  rcases Int.lt_or_le (lg num den) r with c | c
  · exact c
  · have := lo_mono c (lg_spec hn hd).lo; omega
theorem lg_ge_of {num den : Nat} {r : Int} (hn : num ≠ 0) (hd : den ≠ 0) (h : den * 2 ^ r.toNat ≤ num * 2 ^ (-r).toNat) : r ≤ lg num den := by
  rcases Int.lt_or_le (lg num den) r with c | c
  · have := lo_mono (num := num) (den := den) (show lg num den + 1 ≤ r by omega) h
    have := (lg_spec hn hd).hi
    omega
  · exact c
end
end Go.Proofs.YfwaawGreat
