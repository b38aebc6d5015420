/-
  Doubles: Remainder.
-/
import Derived.Test.YfwaawGreatJ4
namespace Go.Proofs.YfwaawGreat
open Go.Aw
set_option linter.unusedVariables false
set_option linter.unusedSimpArgs false

section
variable {X Y V W N : Nat} {s t : Bool} {i : Int}
theorem sgf (n : Nat) : sg false n = (n : Int) := rfl
theorem sgt (n : Nat) : sg true n = -(n : Int) := rfl
/-- The remainder, signed, from what Mod leaves. -/
def rmv (v W : Nat) : Int := if 2 * v ≤ W then (v : Int) else if 2 * ((v : Int) - W) < W then (v : Int) - W else (v : Int) - 2 * W
/-- A float with the signed value i. -/
def DI (X : Nat) (i : Int) : Prop := DV X (decide (i < 0)) i.natAbs
theorem dbl_small (h : Rep V) (hV : V < 18014398509481984) : Rep (2 * V) := by
  refine h.double fun h0 => ?_
  have : blen V ≤ 54 := blen_le_iff.2 hV
  omega
/-- x - y, where x is at least a half of y and at most two of them. -/
theorem sub_near (hX : DV X false V) (hY : DV Y false W) (h1 : W ≤ 2 * V) (h2 : V ≤ 2 * W) : ∃ Z, fbits .sub .f64 (some X) (some Y) = some Z ∧ DI Z ((V : Int) - W) := by
  have hsum : sg false V + sg (!false) W = (V : Int) - W := by
    show sg false V + sg true W = _
    rw [sgf, sgt]; omega
  have hr : Rep (sg false V + sg (!false) W).natAbs := by
    rw [hsum]
    rcases Nat.le_total W V with c | c
    · rw [show ((V : Int) - W).natAbs = V - W by omega]; exact hX.rep.sub hY.rep c h2
    · rw [show ((V : Int) - W).natAbs = W - V by omega]; exact hY.rep.sub hX.rep c h1
  obtain ⟨Z, g1, g2⟩ := hX.sub hY hr
  refine ⟨Z, g1, ?_⟩
  rw [hsum] at g2
  unfold DI
  by_cases c : (V : Int) - W = 0
  · rw [if_pos c] at g2
    rw [decide_eq_false (by omega)]
    exact g2
  · rw [if_neg c] at g2; exact g2
theorem add_self (hX : DI X i) (hi : i.natAbs < 18014398509481984) : ∃ Z, fbits .add .f64 (some X) (some X) = some Z ∧ DI Z (2 * i) := by
  unfold DI at *
  have hsum : sg (decide (i < 0)) i.natAbs + sg (decide (i < 0)) i.natAbs = 2 * i := by
    by_cases c : i < 0
    · rw [decide_eq_true c, sgt]; omega
    · rw [decide_eq_false c, sgf]; omega
  have hr : Rep (sg (decide (i < 0)) i.natAbs + sg (decide (i < 0)) i.natAbs).natAbs := by
    rw [hsum, show (2 * i).natAbs = 2 * i.natAbs by omega]
    exact dbl_small hX.rep hi
  obtain ⟨Z, g1, g2⟩ := hX.add hX hr
  refine ⟨Z, g1, ?_⟩
  rw [hsum] at g2
  by_cases c : 2 * i = 0
  · rw [if_pos c, Bool.and_self, decide_eq_false (by omega)] at g2
    rw [decide_eq_false (by omega)]; exact g2
  · rw [if_neg c] at g2; exact g2
theorem DI.sg (h : DI X i) : DV X (decide (i < 0)) i.natAbs ∧ Go.Proofs.YfwaawGreat.sg (decide (i < 0)) i.natAbs = i := by
  refine ⟨h, ?_⟩
  by_cases c : i < 0
  · rw [decide_eq_true c, sgt]; omega
  · rw [decide_eq_false c, sgf]; omega
theorem c05 : Ieee.double.read 4602678819172646912 = .number false 4503599627370496 (-53) := by decide +kernel
theorem half_ok (hY : DV Y false W) (hW : 9007199254740992 ≤ W) : ∃ H h, fbits .mul .f64 (some 4602678819172646912) (some Y) = some H ∧ DV H false h ∧ 2 * h = W := by
  obtain ⟨D, hD⟩ : ∃ D : Nat, D = 1074 := ⟨_, rfl⟩
  obtain ⟨n, k, h1, h2, h3, h4⟩ := hY.rep.parts
  have hk : k ≠ 0 := by
    intro z
    rw [z, Nat.pow_zero, Nat.mul_one] at h1
    omega
  obtain ⟨j, rfl⟩ : ∃ j, k = j + 1 := ⟨k - 1, by omega⟩
  obtain ⟨h, hh⟩ : ∃ h, h = n * 2 ^ j := ⟨_, rfl⟩
  have h2h : 2 * h = W := by
    rw [h1, hh, Nat.pow_succ]
    generalize 2 ^ j = q
    rw [← Nat.mul_assoc n q 2, Nat.mul_comm 2]
  have hrep : Rep h := by
    rw [hh]
    refine rep_of h2 fun h0 => ?_
    have := h3 (by omega)
    rw [h1, blen_pow n h0] at this
    omega
  obtain ⟨mag, place, g1, g2, g3, g4⟩ := hY.read
  have hm : fbits .mul .f64 (some 4602678819172646912) (some Y) = some (Ieee.double.write (.number false (4503599627370496 * mag) (-53 + place))) := by
    show Ieee.double.mul 4602678819172646912 Y = _
    unfold Ieee.Format.mul
    rw [c05, g1]
    rfl
  obtain ⟨Q, q1, q2⟩ := hrep
  refine ⟨_, h, hm, ⟨Q, q1, q2, ?_⟩, h2h⟩
  have hQ : 0 < Q := by
    rcases Nat.eq_zero_or_pos Q with z | z
    · rw [z, uv_zero] at q2; omega
    · exact z
  rw [wr64 (Q := Q) hD hQ q1, sgn64]
  rw [q2]
  have hv := g4 D hD
  refine Nat.mul_left_cancel (show 0 < 2 * 2 ^ (place + D).toNat from Nat.mul_pos (by decide) (pow_pos2 _)) ?_
  have e1 : 2 * 2 ^ (place + D).toNat * (h * 2 ^ (-(-53 + place)).toNat) = (2 * h) * 2 ^ ((place + D).toNat + (-(-53 + place)).toNat) := by
    rw [Nat.pow_add]
    generalize 2 ^ (place + D).toNat = a
    generalize 2 ^ (-(-53 + place)).toNat = b
    grind
  rw [e1, h2h, ← hv]
  rw [show (4503599627370496 : Nat) = 2 ^ 52 from rfl]
  have e2 : 2 * 2 ^ (place + D).toNat * (2 ^ 52 * mag * 2 ^ (-53 + place).toNat * 2 ^ D) = mag * (2 ^ 1 * 2 ^ (place + D).toNat * 2 ^ 52 * 2 ^ (-53 + place).toNat * 2 ^ D) := by
    rw [show (2 : Nat) ^ 1 = 2 from rfl]
    generalize 2 ^ (place + D).toNat = a
    generalize 2 ^ 52 = b
    generalize 2 ^ (-53 + place).toNat = c
    generalize 2 ^ D = d
    grind
  rw [e2]
  simp only [Nat.mul_assoc, ← Nat.pow_add]
  exact congrArg (fun z => mag * 2 ^ z) (by omega)
theorem dvtiny : DV 9007199254740992 false 9007199254740992 := ⟨9007199254740992, by decide, by
  have := uv_norm (T := 0) (G := 9007199254740992) (by decide) (by decide)
  rw [Nat.zero_mul, Nat.zero_add, Nat.pow_zero, Nat.mul_one] at this
  exact this, rfl⟩
/-- The tail of Remainder: from what Mod leaves. -/
theorem rem_tail {x4 : Bool} (hX : DV X s V) (hs : s = false ∨ V = 0) (hY : DV Y false W) (hW : W ≠ 0) (hlt : V < 2 * W) :
    ∃ Z, F435_6 N x4 (some Y) (some X) = F435_7 N x4 (some Z) ∧ (V = 0 → Z = X) ∧ (V ≠ 0 → DI Z (rmv V W)) := by
  have hsv : sg s V = (V : Int) := by
    rcases hs with g | g
    · rw [g]; rfl
    · rw [g]; unfold sg; cases s <;> rfl
  unfold F435_6 F435_9
  rw [hY.lt dvtiny, sgf, sgf]
  by_cases hz : V = 0
  · subst hz
    refine ⟨X, ?_, fun _ => rfl, fun h => absurd rfl h⟩
    by_cases c : W < 9007199254740992
    · rw [decide_eq_true (by omega), bt rfl]
      unfold F435_10
      -- a zero doubled is a zero
      have hr : Rep (sg s 0 + sg s 0).natAbs := by
        rw [show sg s 0 + sg s 0 = 0 by unfold sg; cases s <;> rfl]; exact rep_zero
      obtain ⟨Z, g1, g2⟩ := hX.add hX hr
      have h1 : fbits .add .f64 (some X) (some X) = some Z := g1
      rw [h1, g2.gt hY]
      have : sg (if sg s 0 + sg s 0 = 0 then s && s else decide (sg s 0 + sg s 0 < 0)) (sg s 0 + sg s 0).natAbs = 0 := by
        rw [show sg s 0 + sg s 0 = 0 by unfold sg; cases s <;> rfl]
        generalize (if (0 : Int) = 0 then s && s else decide ((0 : Int) < 0)) = b
        cases b <;> rfl
      rw [this, sgf, decide_eq_false (by omega), bf rfl]
    · rw [decide_eq_false (by omega), bf rfl]
      unfold F435_13 F435_14
      obtain ⟨H, h, h1, h2, h3⟩ := half_ok hY (by omega)
      rw [h1, hX.gt h2, hsv, sgf, decide_eq_false (by omega), bf rfl]
  · suffices hsuf : ∃ Z, (bif decide ((W : Int) < ((9007199254740992 : Nat) : Int)) then F435_10 N x4 (some Y) (some X) (fcmp .gtr .f64 (fbits .add .f64 (some X) (some X)) (some Y)) else F435_13 N x4 (some Y) (some X) (fbits .mul .f64 (some 4602678819172646912) (some Y))) = F435_7 N x4 (some Z) ∧ DI Z (rmv V W) by
      obtain ⟨Z, z1, z2⟩ := hsuf
      exact ⟨Z, z1, fun h => absurd h hz, fun _ => z2⟩
    have hsf : s = false := by
      rcases hs with g | g
      · exact g
      · exact (hz g).elim
    subst hsf
    have hX0 : DI X (V : Int) := by
      unfold DI
      rw [decide_eq_false (by omega), show ((V : Int)).natAbs = V by omega]; exact hX
    unfold rmv
    by_cases c : W < 9007199254740992
    · rw [decide_eq_true (by omega), bt rfl]
      unfold F435_10
      obtain ⟨Z2, a1, a2⟩ := add_self hX0 (by omega)
      rw [a1, a2.sg.1.gt hY, a2.sg.2, sgf]
      by_cases c1 : 2 * V ≤ W
      · rw [decide_eq_false (by omega), bf rfl, if_pos c1]
        exact ⟨X, rfl, hX0⟩
      · rw [decide_eq_true (by omega), bt rfl, if_neg c1]
        unfold F435_11 F435_12
        obtain ⟨Z1, b1, b2⟩ := sub_near hX hY (by omega) (by omega)
        obtain ⟨Z3, d1, d2⟩ := add_self b2 (by omega)
        rw [b1, d1, d2.sg.1.ge hY, d2.sg.2, sgf]
        by_cases c2 : 2 * ((V : Int) - W) < W
        · rw [decide_eq_false (by omega), bf rfl, if_pos c2]
          exact ⟨Z1, rfl, b2⟩
        · rw [decide_eq_true (by omega), bt rfl, if_neg c2]
          have hb : DV Z1 false (V - W) := by
            have := b2
            unfold DI at this
            rw [decide_eq_false (by omega), show ((V : Int) - W).natAbs = V - W by omega] at this
            exact this
          obtain ⟨Z4, e1, e2⟩ := sub_near hb hY (by omega) (by omega)
          rw [e1]
          refine ⟨Z4, rfl, ?_⟩
          rw [show (V : Int) - 2 * W = ((V - W : Nat) : Int) - W by omega]
          exact e2
    · rw [decide_eq_false (by omega), bf rfl]
      unfold F435_13 F435_14
      obtain ⟨H, h, h1, h2, h3⟩ := half_ok hY (by omega)
      rw [h1, hX.gt h2, sgf, sgf]
      by_cases c1 : 2 * V ≤ W
      · rw [decide_eq_false (by omega), bf rfl, if_pos c1]
        exact ⟨X, rfl, hX0⟩
      · rw [decide_eq_true (by omega), bt rfl, if_neg c1]
        unfold F435_15 F435_16
        obtain ⟨Z1, b1, b2⟩ := sub_near hX hY (by omega) (by omega)
        rw [b1, b2.sg.1.ge h2, b2.sg.2, sgf]
        by_cases c2 : 2 * ((V : Int) - W) < W
        · rw [decide_eq_false (by omega), bf rfl, if_pos c2]
          exact ⟨Z1, rfl, b2⟩
        · rw [decide_eq_true (by omega), bt rfl, if_neg c2]
          have hb : DV Z1 false (V - W) := by
            have := b2
            unfold DI at this
            rw [decide_eq_false (by omega), show ((V : Int) - W).natAbs = V - W by omega] at this
            exact this
          obtain ⟨Z4, e1, e2⟩ := sub_near hb hY (by omega) (by omega)
          rw [e1]
          refine ⟨Z4, rfl, ?_⟩
          rw [show (V : Int) - 2 * W = ((V - W : Nat) : Int) - W by omega]
          exact e2
end
end Go.Proofs.YfwaawGreat
