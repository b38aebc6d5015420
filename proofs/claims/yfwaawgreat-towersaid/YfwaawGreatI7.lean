/-
  The model's root is exact's.
-/
import Derived.Test.YfwaawGreatI6
namespace Go.Proofs.YfwaawGreat
open Go.Aw
set_option linter.unusedVariables false
set_option linter.unusedSimpArgs false

section
variable {e m mode : BitVec 8} {f : Ieee.Format} {neg : Bool} {x : BitVec 64} {N : Nat}
/-- The root of a positive number, as the model jams it. -/
theorem RS_root {num den mag : Nat} {i K : Int} {more : Nat} (h0 : mag ≠ 0) (hd : den ≠ 0) (hv : num * 2 ^ (-i).toNat = mag * 2 ^ i.toNat * den) (hK : 2 * (K + 1) = i - more) (hmore : 2 * m.toNat + 4 ≤ mag.log2 + more) :
    RS e m mode false (lg num den / 2) (sq num den) (se num den) = RQ e m mode false ((2 * isq (mag * 2 ^ more) + (decide (isq (mag * 2 ^ more) * isq (mag * 2 ^ more) ≠ mag * 2 ^ more)).toNat) * 2 ^ K.toNat) (2 ^ (-K).toNat) := by
  have hn : num ≠ 0 := by
    intro g
    rw [g, Nat.zero_mul] at hv
    exact Nat.mul_ne_zero (Nat.mul_ne_zero h0 (pne _)) hd hv.symm
  have hlg : lg num den = (blen mag : Int) - 1 + i := by
    refine ((Lg_pow h0 i).cross (pow_pos2 _) (by omega) ?_).eq hd
    rw [hv]
  rw [log2_blen h0] at hlg
  have hfq : fq num den (2 * (K + 1)) = mag * 2 ^ more ∧ eq num den (2 * (K + 1)) = false := by
    have hb := bnd_fq0 (mag * 2 ^ more) (2 * (K + 1))
    have hc := fq_cross (num := num) (den := den) (num' := mag * 2 ^ more * 2 ^ (2 * (K + 1)).toNat) (den' := 2 ^ (-(2 * (K + 1))).toNat) (by omega) (pow_pos2 _) (by
      refine Nat.mul_right_cancel (pow_pos2 (-i).toNat) ?_
      have e1 : 2 ^ i.toNat * 2 ^ (-(2 * (K + 1))).toNat = 2 ^ more * 2 ^ (2 * (K + 1)).toNat * 2 ^ (-i).toNat := by
        rw [← Nat.pow_add, ← Nat.pow_add, ← Nat.pow_add]; exact congrArg (fun t => 2 ^ t) (by omega)
      generalize 2 ^ i.toNat = p1 at *
      generalize 2 ^ (-i).toNat = p2 at *
      generalize 2 ^ (-(2 * (K + 1))).toNat = p3 at *
      generalize 2 ^ (2 * (K + 1)).toNat = p4 at *
      generalize 2 ^ more = p5 at *
      calc num * p3 * p2 = (num * p2) * p3 := by grind
        _ = mag * p1 * den * p3 := by rw [hv]
        _ = mag * den * (p1 * p3) := by grind
        _ = mag * den * (p5 * p4 * p2) := by rw [e1]
        _ = mag * p5 * p4 * den * p2 := by grind) (2 * (K + 1))
    rw [hc.1, hc.2]
    exact hb
  have hsq : sq num den (K + 1) = isq (mag * 2 ^ more) := by unfold sq; rw [hfq.1]
  have hse : se num den (K + 1) = decide (isq (mag * 2 ^ more) * isq (mag * 2 ^ more) ≠ mag * 2 ^ more) := by unfold se; rw [hfq.2, hsq, hfq.1, Bool.false_or]
  obtain ⟨j, hj⟩ : ∃ j : Nat, (j : Int) = lg num den / 2 - K := ⟨(lg num den / 2 - K).toNat, by omega⟩
  have g1 := sq_ge hn hd j K (by omega)
  have g2 := sq_lt hn hd (j + 1) K (by omega)
  have hs0 : sq num den K ≠ 0 := by have := pow_pos2 j; omega
  have hbl : blen (sq num den K) = j + 1 := by
    have a := blen_le_iff.2 g2
    have b := blen_ge g1
    omega
  rw [RS_sticky (k := K) hs0 (by omega) (by rw [hbl]; omega) (fun j => sq_comp (by omega) K j)]
  have hc := sq_comp (num := num) (den := den) (by omega) K 1
  rw [jm_half hc.1 hc.2]
  have e1 : K + ((1 : Nat) : Int) = K + 1 := rfl
  rw [e1, hsq, hse]
theorem nsqrt (k : Kd e m f) (hm : NE mode) (a : BitVec 64) : ∃ z, F132 N e m mode a = some z ∧ z.1 = can e m (f.sqrt (wd e m a)) := by
  unfold F132 F132_1
  simp only [lt]
  rw [k.fm.ok, Bool.not_true, bf rfl]
  unfold Ieee.Format.sqrt
  rw [k.mm]
  rcases k.opn a with ⟨ng, s, t, h1, h2, h3⟩ | ⟨neg, h1, h2, h3, h4⟩ | ⟨neg, h1, h2, h3, h4⟩ | ⟨neg, c, ex, man, P, mag, place, h1, h2, h3⟩
  · rw [h3, h1]; exact ⟨_, rfl, rfl⟩
  · rw [h4, h1]
    cases neg
    · exact ⟨_, rfl, (can_inf k).symm⟩
    · exact ⟨_, rfl, rfl⟩
  · rw [h4, h1]
    refine ⟨_, rfl, ?_⟩
    exact (can_zero k _).symm
  · rw [h2.f144, h1]
    obtain ⟨c4, c3, c0⟩ := h2.cls
    simp only [Option.bind_some, F132_2, F132_3, F132_4, lt, c4, c3, c0, cond_false]
    cases neg with
    | true =>
      refine ⟨_, rfl, ?_⟩
      have : (Ieee.Datum.root (m.toNat + 2) (.number true mag place)) = if mag = 0 then some (.number true mag place) else none := rfl
      rw [this, if_neg h3.m0]
      rfl
    | false =>
      simp only [cond_false]
      rw [sqrt_exact k.fm h2]
      refine ⟨_, rfl, ?_⟩
      obtain ⟨m0, hm0⟩ : ∃ m0, m0 = 2 * (m.toNat + 2) - mag.log2 := ⟨_, rfl⟩
      obtain ⟨more, hmore⟩ : ∃ more, more = m0 + ((place - (m0 : Int)) % 2).toNat := ⟨_, rfl⟩
      have hR : Ieee.Datum.root (m.toNat + 2) (.number false mag place) = some (.number false (2 * isq (mag * 2 ^ more) + (decide (isq (mag * 2 ^ more) * isq (mag * 2 ^ more) ≠ mag * 2 ^ more)).toNat) ((place - (more : Int)) / 2 - 1)) := by
        have : Ieee.Datum.root (m.toNat + 2) (.number false mag place) = if mag = 0 then some (.number false mag place) else some (.number false (2 * Ieee.Datum.rootFrom (mag <<< (2 * (m.toNat + 2) - mag.log2 + ((place - ((2 * (m.toNat + 2) - mag.log2 : Nat) : Int)) % 2).toNat)) ((mag <<< (2 * (m.toNat + 2) - mag.log2 + ((place - ((2 * (m.toNat + 2) - mag.log2 : Nat) : Int)) % 2).toNat)).log2 / 2 + 1) 0 + (Ieee.Datum.rootFrom (mag <<< (2 * (m.toNat + 2) - mag.log2 + ((place - ((2 * (m.toNat + 2) - mag.log2 : Nat) : Int)) % 2).toNat)) ((mag <<< (2 * (m.toNat + 2) - mag.log2 + ((place - ((2 * (m.toNat + 2) - mag.log2 : Nat) : Int)) % 2).toNat)).log2 / 2 + 1) 0 * Ieee.Datum.rootFrom (mag <<< (2 * (m.toNat + 2) - mag.log2 + ((place - ((2 * (m.toNat + 2) - mag.log2 : Nat) : Int)) % 2).toNat)) ((mag <<< (2 * (m.toNat + 2) - mag.log2 + ((place - ((2 * (m.toNat + 2) - mag.log2 : Nat) : Int)) % 2).toNat)).log2 / 2 + 1) 0 != mag <<< (2 * (m.toNat + 2) - mag.log2 + ((place - ((2 * (m.toNat + 2) - mag.log2 : Nat) : Int)) % 2).toNat)).toNat) ((place - ((2 * (m.toNat + 2) - mag.log2 + ((place - ((2 * (m.toNat + 2) - mag.log2 : Nat) : Int)) % 2).toNat : Nat) : Int)) / 2 - 1)) := rfl
        rw [this, if_neg h3.m0, ← hm0, ← hmore, Nat.shiftLeft_eq, root_isq (Nat.mul_ne_zero h3.m0 (pne _))]
        have hb : (isq (mag * 2 ^ more) * isq (mag * 2 ^ more) != mag * 2 ^ more) = decide (isq (mag * 2 ^ more) * isq (mag * 2 ^ more) ≠ mag * 2 ^ more) := by
          rw [Bool.eq_iff_iff, bne_iff_ne, decide_eq_true_eq]
        rw [hb]
      rw [hR, Option.map_some]
      have hz : 2 * isq (mag * 2 ^ more) + (decide (isq (mag * 2 ^ more) * isq (mag * 2 ^ more) ≠ mag * 2 ^ more)).toNat ≠ 0 := by
        have h5 := isq_lt (mag * 2 ^ more)
        have h6 : mag * 2 ^ more ≠ 0 := Nat.mul_ne_zero h3.m0 (pne _)
        intro g
        have g1 : isq (mag * 2 ^ more) = 0 := by omega
        rw [g1] at h5
        omega
      rw [can_num k hm hz]
      refine congrArg Prod.fst (RS_root (more := more) h3.m0 (pne _) (h3.cross k h2) ?_ ?_)
      · omega
      · omega
end
end Go.Proofs.YfwaawGreat
