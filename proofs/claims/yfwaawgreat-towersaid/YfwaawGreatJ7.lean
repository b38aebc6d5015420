/-
  Doubles: Remainder.
-/
import Derived.Test.YfwaawGreatJ6
namespace Go.Proofs.YfwaawGreat
open Go.Aw
set_option linter.unusedVariables false
set_option linter.unusedSimpArgs false

section
variable {X Y V W N : Nat} {s t : Bool} {i : Int}
theorem rmv_eq (hW : 0 < W) : rmv (V % (2 * W)) W = if rup V W then -((W - V % W : Nat) : Int) else ((V % W : Nat) : Int) := by
  have hm := Nat.mod_lt V hW
  have h1 := Nat.div_add_mod V W
  have h2 : V % (2 * W) = V / W % 2 * W + V % W := by
    rw [Nat.mul_comm 2 W, Nat.mod_mul, Nat.mul_comm, Nat.add_comm]
  rw [h2]
  unfold rmv rup
  rcases Nat.mod_two_eq_zero_or_one (V / W) with g | g
  · rw [g, Nat.zero_mul, Nat.zero_add, decide_eq_false (show ¬ (0 : Nat) = 1 by decide), Bool.and_false, Bool.or_false]
    by_cases c : 2 * (V % W) ≤ W
    · rw [if_pos c, decide_eq_false (by omega), if_neg (by decide)]
    · rw [if_neg c, decide_eq_true (by omega), if_pos rfl, if_pos (by omega)]; omega
  · rw [g, Nat.one_mul, decide_eq_true (show (1 : Nat) = 1 from rfl), Bool.and_true]
    rw [if_neg (by omega)]
    by_cases c : 2 * (V % W) < W
    · rw [if_pos (by omega), decide_eq_false (by omega), decide_eq_false (by omega), if_neg (by decide)]; omega
    · rw [if_neg (by omega)]
      have : (decide (W < 2 * (V % W)) || decide (2 * (V % W) = W)) = true := by
        by_cases d : 2 * (V % W) = W
        · rw [decide_eq_true d, Bool.or_true]
        · rw [decide_eq_true (show W < 2 * (V % W) by omega), Bool.true_or]
      rw [this, if_pos rfl]; omega
theorem dvhalf : ∃ H, DV 9214364837600034815 false H ∧ (∀ V, Rep V → V ≤ 2 * H) ∧ blen H ≤ 2097 := by
  obtain ⟨j, hj⟩ : ∃ j : Nat, j = 2044 := ⟨_, rfl⟩
  have h1 : uv 52 9214364837600034815 = 9007199254740991 * 2 ^ j := by
    rw [show 9214364837600034815 = j * 4503599627370496 + 9007199254740991 by omega, uv_norm (by decide) (by decide)]
  have h2 : uv 52 9218868437227405311 = 9007199254740991 * 2 ^ (j + 1) := by
    rw [show 9218868437227405311 = (j + 1) * 4503599627370496 + 9007199254740991 by omega, uv_norm (by decide) (by decide)]
  refine ⟨9007199254740991 * 2 ^ j, ⟨_, by decide, h1, rfl⟩, fun V hV => ?_, ?_⟩
  · obtain ⟨Q, q1, q2⟩ := hV
    have := uv_mono (show Q ≤ 9218868437227405311 by omega)
    rw [q2, h2, Nat.pow_succ] at this
    generalize 2 ^ j = p at *
    omega
  · rw [blen_pow _ (by decide)]
    have : blen 9007199254740991 = 53 := by decide
    omega
theorem fneg_dv (h : DV X s V) : ∃ Z, fneg .f64 (some X) = some Z ∧ DV Z (!s) V := by
  refine ⟨X ^^^ 9223372036854775808, ?_, h.opp⟩
  show some (X ^^^ 2 ^ (FloatKind.f64.format.exponentBits + FloatKind.f64.format.fractionBits)) = _
  rw [show 2 ^ (FloatKind.f64.format.exponentBits + FloatKind.f64.format.fractionBits) = 9223372036854775808 by decide]
/-- From the absolute values on. -/
theorem rem_abs (hN : 3000 ≤ N) {x4 : Bool} (hX : DV X s V) (hs : s = false ∨ V = 0) (hx4 : V ≠ 0 → s = false) (hY : DV Y false W) (hW : W ≠ 0) (hz : V = 0 → x4 = false) :
    ∃ Z, F435_4 N (some X) x4 (some Y) = some (some Z) ∧ DV Z (if rsz V W = 0 then x4 ^^ s else rup V W ^^ x4) (rsz V W) := by
  have hsv : sg s V = (V : Int) := by
    rcases hs with g | g
    · rw [g]; rfl
    · rw [g]; unfold sg; cases s <;> rfl
  have hWp : 0 < W := by omega
  unfold F435_4 F435_5
  rw [hX.eq hY, hsv, sgf]
  by_cases c : V = W
  · rw [decide_eq_true (by omega), bt rfl]
    have hr : rup V W = false := by
      unfold rup
      rw [c, Nat.mod_self, decide_eq_false (by omega), decide_eq_false (by omega)]; rfl
    have hrs : rsz V W = 0 := by unfold rsz; rw [hr, c, Nat.mod_self]; rfl
    rw [hrs, if_pos rfl, hx4 (by omega), Bool.xor_false]
    cases x4
    · exact ⟨0, rfl, dv0⟩
    · obtain ⟨Z, z1, z2⟩ := fneg_dv dv0
      refine ⟨Z, ?_, z2⟩
      rw [bt rfl, z1]
  · rw [decide_eq_false (by omega), bf rfl]
    unfold F435_17
    obtain ⟨H, g1, g2, g3⟩ := dvhalf
    rw [hY.le g1, sgf, sgf]
    -- what Mod leaves
    have hmod : ∃ X7, (bif decide ((W : Int) ≤ (H : Int)) then (F448 N (some X) (fbits .add .f64 (some Y) (some Y))).bind fun y18 => F435_6 N x4 (some Y) y18 else F435_6 N x4 (some Y) (some X)) = F435_6 N x4 (some Y) (some X7) ∧ DV X7 s (V % (2 * W)) ∧ (V = 0 → X7 = X ∨ True) := by
      by_cases d : W ≤ H
      · rw [decide_eq_true (by omega), bt rfl]
        have hsum : sg false W + sg false W = ((2 * W : Nat) : Int) := by rw [sgf]; omega
        have hrep : Rep (sg false W + sg false W).natAbs := by
          rw [hsum, show (((2 * W : Nat) : Int)).natAbs = 2 * W by omega]
          refine hY.rep.double fun _ => ?_
          have := blen_mono d
          omega
        obtain ⟨Y2, y1, y2⟩ := hY.add hY hrep
        rw [hsum] at y2
        have hsg : (if (((2 * W : Nat) : Int)) = 0 then false && false else decide (((2 * W : Nat) : Int) < 0)) = false := by
          rw [if_neg (by omega)]; exact decide_eq_false (by omega)
        rw [hsg, show (((2 * W : Nat) : Int)).natAbs = 2 * W by omega] at y2
        obtain ⟨X7, x1, x2⟩ := F452_ok (N := N) hN hX y2 (by omega) hs
        have hf : fbits .add .f64 (some Y) (some Y) = some Y2 := y1
        refine ⟨X7, ?_, x2, fun _ => Or.inr trivial⟩
        rw [hf]
        unfold F448
        rw [x1, Option.bind_some, Option.bind_some]
      · rw [decide_eq_false (by omega), bf rfl]
        have := g2 V hX.rep
        exact ⟨X, rfl, by rw [Nat.mod_eq_of_lt (by omega)]; exact hX, fun _ => Or.inr trivial⟩
    obtain ⟨X7, m1, m2, _⟩ := hmod
    rw [m1]
    have hs7 : s = false ∨ V % (2 * W) = 0 := by
      rcases hs with g | g
      · exact Or.inl g
      · right; rw [g, Nat.zero_mod]
    obtain ⟨Z, z1, z2, z3⟩ := rem_tail (N := N) (x4 := x4) m2 hs7 hY hW (Nat.mod_lt _ (by omega))
    rw [z1]
    have hfin : ∀ (g : Bool) (R : Nat), DV Z g R → ∃ Z', F435_7 N x4 (some Z) = some (some Z') ∧ DV Z' (x4 ^^ g) R := by
      intro g R hg
      unfold F435_7 F435_8
      cases x4
      · exact ⟨Z, rfl, by rw [Bool.false_xor]; exact hg⟩
      · obtain ⟨Z', q1, q2⟩ := fneg_dv hg
        exact ⟨Z', by rw [bt rfl, q1], by rw [Bool.true_xor]; exact q2⟩
    by_cases hv : V % (2 * W) = 0
    · have h0 : V % W = 0 := by
        have : V % (2 * W) % W = V % W := Nat.mod_mod_of_dvd _ ⟨2, by rw [Nat.mul_comm]⟩
        rw [← this, hv, Nat.zero_mod]
      have hr : rup V W = false := by
        unfold rup
        rw [h0, decide_eq_false (by omega), decide_eq_false (by omega)]; rfl
      have hrs : rsz V W = 0 := by unfold rsz; rw [hr, h0]; rfl
      rw [z2 hv] at hfin
      rw [hrs, if_pos rfl, z2 hv]
      rw [hv] at m2
      exact hfin s 0 m2
    · have hV0 : V ≠ 0 := fun g => hv (by rw [g, Nat.zero_mod])
      have hsf := hx4 hV0
      have hd := z3 hv
      rw [rmv_eq hWp] at hd
      unfold DI at hd
      have hm := Nat.mod_lt V hWp
      cases hr : rup V W with
      | true =>
        rw [hr, if_pos rfl, decide_eq_true (by omega), show (-((W - V % W : Nat) : Int)).natAbs = W - V % W by omega] at hd
        have hrs : rsz V W = W - V % W := by unfold rsz; rw [hr]; rfl
        rw [hrs, if_neg (by omega)]
        obtain ⟨Z', q1, q2⟩ := hfin true _ hd
        refine ⟨Z', q1, ?_⟩
        rw [Bool.xor_comm]; exact q2
      | false =>
        rw [hr, if_neg (by decide), decide_eq_false (by omega), show (((V % W : Nat) : Int)).natAbs = V % W by omega] at hd
        have hrs : rsz V W = V % W := by unfold rsz; rw [hr]; rfl
        obtain ⟨Z', q1, q2⟩ := hfin false _ hd
        refine ⟨Z', q1, ?_⟩
        rw [Bool.xor_false] at q2
        rw [hrs, hsf, Bool.false_xor, Bool.xor_false, ite_self]
        exact q2
theorem F435_fin (hN : 3000 ≤ N) (hX : DV X s V) (hY : DV Y t W) (hW : W ≠ 0) : ∃ Z, F435 N (some X) (some Y) = some (some Z) ∧ DV Z (if rsz V W = 0 then s else rup V W ^^ s) (rsz V W) := by
  unfold F435
  simp only [lt]
  rw [F429_fin hX, F429_fin hY, Bool.or_self, bf rfl, F430_fin hX, Option.bind_some, eqz hY, decide_eq_false hW, Bool.or_self]
  unfold F435_1
  rw [bf rfl, F430_fin hY, Option.bind_some]
  unfold F435_2
  rw [bf rfl]
  have hY3 : ∃ Y3, (∀ x3 x4, F435_3 N (some Y) x3 x4 = F435_4 N x3 x4 (some Y3)) ∧ DV Y3 false W := by
    unfold F435_3 F435_18
    rw [ltz hY, decide_eq_true hW, Bool.and_true]
    cases t
    · exact ⟨Y, fun _ _ => rfl, hY⟩
    · obtain ⟨Y3, y1, y2⟩ := fneg_dv hY
      exact ⟨Y3, fun x3 x4 => by rw [bt rfl, y1], y2⟩
  obtain ⟨Y3, y1, y2⟩ := hY3
  unfold F435_19
  rw [ltz hX]
  have hr0 : V = 0 → rsz V W = 0 := by
    intro g
    have hr : rup V W = false := by
      unfold rup
      rw [g, Nat.zero_mod, decide_eq_false (by omega), decide_eq_false (by omega)]; rfl
    unfold rsz; rw [hr, g, Nat.zero_mod]; rfl
  by_cases c : V = 0
  · rw [decide_eq_false (by simpa using c), Bool.and_false, bf rfl, y1]
    obtain ⟨Z, z1, z2⟩ := rem_abs (N := N) hN (x4 := false) hX (Or.inr c) (fun h => absurd c h) y2 hW (fun _ => rfl)
    refine ⟨Z, z1, ?_⟩
    rw [hr0 c, if_pos rfl, Bool.false_xor] at z2
    rw [hr0 c, if_pos rfl]; exact z2
  · rw [decide_eq_true c, Bool.and_true]
    cases s
    · rw [bf rfl, y1]
      obtain ⟨Z, z1, z2⟩ := rem_abs (N := N) hN (x4 := false) hX (Or.inl rfl) (fun _ => rfl) y2 hW (fun h => absurd h c)
      refine ⟨Z, z1, ?_⟩
      rw [Bool.xor_false] at z2
      exact z2
    · rw [bt rfl]
      unfold F435_20
      obtain ⟨X3, x1, x2⟩ := fneg_dv hX
      rw [x1, y1]
      obtain ⟨Z, z1, z2⟩ := rem_abs (N := N) hN (x4 := true) x2 (Or.inl rfl) (fun _ => rfl) y2 hW (fun h => absurd h c)
      refine ⟨Z, z1, ?_⟩
      exact z2
end
end Go.Proofs.YfwaawGreat
