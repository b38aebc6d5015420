/-
  Doubles: Mod.
-/
import Derived.Test.YfwaawGreatJ3
namespace Go.Proofs.YfwaawGreat
open Go.Aw
set_option linter.unusedVariables false
set_option linter.unusedSimpArgs false

section
variable {X Y V W N : Nat} {s t : Bool}
theorem iterL_out {α β : Type} {L : α → Option (α ⊕ β)} {M : Nat} {v : α} {o : Option β} (h : L v = o.map Sum.inr) : iterL L (M + 1) v = o := by
  rw [iterL, h]
  cases o <;> rfl
/-- The digits of Frexp's fraction. -/
theorem frac_eq {r G T k : Nat} (h0 : r ≠ 0) (h1 : 4503599627370496 ≤ G) (h2 : G < 9007199254740992) (hT : 1 ≤ T) (hv : r * 2 ^ k = G * 2 ^ (T - 1)) : r * 2 ^ 53 = G * 2 ^ blen r := by
  have hbl := blen_pow r h0 k
  have hG : blen G = 53 := blen_of (k := 52) (by rw [show (2 : Nat) ^ 52 = 4503599627370496 from rfl]; omega) (by rw [show (2 : Nat) ^ (52 + 1) = 9007199254740992 from rfl]; omega)
  have hb2 := blen_pow G (by omega) (T - 1)
  rw [hv] at hbl
  refine Nat.mul_right_cancel (pow_pos2 k) ?_
  rw [Nat.mul_right_comm, hv, Nat.mul_assoc, Nat.mul_assoc, ← Nat.pow_add, ← Nat.pow_add]
  exact congrArg (fun z => G * 2 ^ z) (by omega)
theorem Rep.shl {V r d : Nat} (h : Rep V) (hr : Rep r) (hle : V * 2 ^ d ≤ r) : Rep (V * 2 ^ d) := by
  obtain ⟨n, t, h1, h2, h3, _⟩ := h.parts
  rw [h1, Nat.mul_assoc, ← Nat.pow_add]
  refine rep_of h2 fun h0 => ?_
  obtain ⟨_, _, _, _, h4, _⟩ := hr.parts
  have h5 : V * 2 ^ d ≠ 0 := by rw [h1]; exact Nat.mul_ne_zero (Nat.mul_ne_zero h0 (pne _)) (pne _)
  have h6 := blen_mono hle
  have h7 := h4 (by omega)
  have h8 : V * 2 ^ d = n * 2 ^ (t + d) := by rw [h1, Nat.mul_assoc, ← Nat.pow_add]
  rw [h8, blen_pow n h0] at h6
  omega
/-- The place of the greatest multiple by a power of two. -/
theorem mod_place {r W Gr Gy : Nat} (hr : W ≤ r) (hW : W ≠ 0) (h1 : r * 2 ^ 53 = Gr * 2 ^ blen r) (h2 : W * 2 ^ 53 = Gy * 2 ^ blen W) (hGr : 4503599627370496 ≤ Gr ∧ Gr < 9007199254740992) (hGy : 4503599627370496 ≤ Gy ∧ Gy < 9007199254740992) :
    ∃ d : Nat, (d : Int) = (bif decide (Gr < Gy) then (blen r : Int) - 1 else (blen r : Int)) - blen W ∧ W * 2 ^ d ≤ r ∧ r < W * 2 ^ d * 2 := by
  have hb := blen_mono hr
  have hlt := blen_lt r
  have hle := blen_le (n := r) (by omega)
  have hlW := blen_lt W
  have hgW := blen_le hW
  have hbW := blen_pos hW
  have hcmp : Gr < Gy ↔ r * 2 ^ blen W < W * 2 ^ blen r := by
    have e1 : r * 2 ^ blen W * 2 ^ 53 = Gr * (2 ^ blen r * 2 ^ blen W) := by rw [Nat.mul_right_comm, h1, Nat.mul_assoc]
    have e2 : W * 2 ^ blen r * 2 ^ 53 = Gy * (2 ^ blen r * 2 ^ blen W) := by rw [Nat.mul_right_comm, h2, Nat.mul_assoc, Nat.mul_comm (2 ^ blen W)]
    have hp : 0 < 2 ^ blen r * 2 ^ blen W := Nat.mul_pos (pow_pos2 _) (pow_pos2 _)
    have h53 := pow_pos2 53
    constructor
    · intro g
      have := Nat.mul_lt_mul_of_pos_right g hp
      rw [← e1, ← e2] at this
      exact Nat.lt_of_mul_lt_mul_right this
    · intro g
      have := Nat.mul_lt_mul_of_pos_right g h53
      rw [e1, e2] at this
      exact Nat.lt_of_mul_lt_mul_right this
  have hpw := pow_pos2 (blen W)
  obtain ⟨c, hc⟩ : ∃ c, blen r = blen W + c := ⟨blen r - blen W, by omega⟩
  have hsplit : 2 ^ blen r = 2 ^ blen W * 2 ^ c := by rw [hc, Nat.pow_add]
  rw [hsplit, ← Nat.mul_assoc, Nat.mul_right_comm W] at hcmp
  by_cases g : Gr < Gy
  · rw [decide_eq_true g, cond_true]
    have h3 : r < W * 2 ^ c := Nat.lt_of_mul_lt_mul_right (hcmp.1 g)
    have hc0 : c ≠ 0 := by
      intro z
      rw [z, Nat.pow_zero, Nat.mul_one] at h3
      omega
    refine ⟨c - 1, by omega, ?_, ?_⟩
    · have h4 : W * 2 ^ (c - 1) < 2 ^ blen W * 2 ^ (c - 1) := Nat.mul_lt_mul_of_pos_right hlW (pow_pos2 _)
      rw [← Nat.pow_add, show blen W + (c - 1) = blen r - 1 by omega] at h4
      omega
    · rw [Nat.mul_assoc, ← Nat.pow_succ, show (c - 1).succ = c by omega]
      exact h3
  · rw [decide_eq_false g, cond_false]
    have h3 : W * 2 ^ c ≤ r := by
      rcases Nat.lt_or_ge r (W * 2 ^ c) with z | z
      · exact absurd (hcmp.2 (Nat.mul_lt_mul_of_pos_right z hpw)) g
      · exact z
    refine ⟨c, by omega, h3, ?_⟩
    have h4 : 2 ^ (blen W - 1) * 2 ^ c ≤ W * 2 ^ c := Nat.mul_le_mul_right _ hgW
    have h5 : 2 ^ (blen W - 1) * 2 ^ c * 2 = 2 ^ blen r := by
      rw [← Nat.pow_add, ← Nat.pow_succ]; exact congrArg (fun z => 2 ^ z) (by omega)
    omega
/-- One turn of Mod's loop. -/
theorem mod_turn {R r Y' yf Gy : Nat} {X0 : Option Nat} (hR : DV R false r) (hY : DV Y' false W) (hW : W ≠ 0) (hGy : 4503599627370496 ≤ Gy ∧ Gy < 9007199254740992) (hyf : ∀ K : Nat, K = 1021 → DV yf false (Gy * 2 ^ K)) (hy53 : W * 2 ^ 53 = Gy * 2 ^ blen W) (hge : W ≤ r) :
    ∃ R' d, F452_L8 N X0 (some Y') (some yf) ((blen W : Int) - 1074) (some R) = some (.inl (some R')) ∧ DV R' false (r - W * 2 ^ d) ∧ W * 2 ^ d ≤ r ∧ r - W * 2 ^ d < W * 2 ^ d := by
  have hr0 : r ≠ 0 := by omega
  obtain ⟨rf, Gr, T, k, f1, f2, f3, f4, f5, f6⟩ := F455_ok (N := N) hR hr0
  have hr53 := frac_eq hr0 f2 f3 f4 f5
  obtain ⟨d, d1, d2, d3⟩ := mod_place hge hW hr53 hy53 ⟨f2, f3⟩ hGy
  have sf : ∀ n : Nat, sg false n = (n : Int) := fun n => rfl
  have st : ∀ n : Nat, sg true n = -(n : Int) := fun n => rfl
  obtain ⟨K, hK⟩ : ∃ K : Nat, K = 1021 := ⟨_, rfl⟩
  have hcmp : fcmp .lss .f64 (some rf) (some yf) = decide (Gr < Gy) := by
    rw [(f6 K hK).lt (hyf K hK), sf, sf]
    refine decide_eq_decide.2 ?_
    have hp := pow_pos2 K
    constructor
    · intro g
      have g2 : Gr * 2 ^ K < Gy * 2 ^ K := by omega
      exact Nat.lt_of_mul_lt_mul_right g2
    · intro g
      have := Nat.mul_lt_mul_of_pos_right g hp
      omega
  obtain ⟨_, _, _, _, hrb, _⟩ := hR.rep.parts
  have hbr := hrb hr0
  have hbW := blen_mono hge
  have hdb : (d : Int) ≤ 2098 := by
    rw [d1]
    cases decide (Gr < Gy)
    · rw [cond_false]; omega
    · rw [cond_true]; omega
  have hrep := hY.rep.shl hR.rep d2
  obtain ⟨D, hD⟩ : ∃ D : Nat, D = 1074 := ⟨_, rfl⟩
  have hld : F428 N (some Y') (d : Int) = some (some (Ieee.double.write (.number false W ((d : Int) - 1074)))) := by
    unfold F428
    rw [F443_ok hY hW (by omega)]
    rfl
  have hz : DV (Ieee.double.write (.number false W ((d : Int) - 1074))) false (W * 2 ^ d) := by
    refine write_units (D := D) hD (by omega) ?_ hrep
    exact congrArg (fun z => W * 2 ^ z) (by omega)
  have hsum : sg false r + sg (!false) (W * 2 ^ d) = ((r - W * 2 ^ d : Nat) : Int) := by
    show sg false r + sg true (W * 2 ^ d) = _
    rw [sf, st]; omega
  have hst := hR.rep.sub hrep d2 (by omega)
  obtain ⟨R', g1, g2⟩ := hR.sub hz (by rw [hsum]; exact hst)
  rw [hsum] at g2
  have hsg : (if (((r - W * 2 ^ d : Nat) : Int)) = 0 then false && !false else decide (((r - W * 2 ^ d : Nat) : Int) < 0)) = false := by
    split
    · rfl
    · exact decide_eq_false (by omega)
  rw [hsg] at g2
  refine ⟨R', d, ?_, g2, d2, by omega⟩
  unfold F452_L8 F452_L8b F452_9
  rw [hR.ge hY, sf, sf, decide_eq_true (by omega), bt rfl]
  unfold F453
  rw [f1, Option.bind_some, Option.bind_some]
  unfold F452_10 F452_12
  simp only []
  rw [hcmp]
  have hfin : ∀ rx : Int, rx - ((blen W : Int) - 1074) = (d : Int) → F452_11 N X0 (some Y') (some yf) ((blen W : Int) - 1074) (some R) rx = some (.inl (some R')) := by
    intro rx hrx
    unfold F452_11
    rw [hrx, w64_id (by omega), hld, Option.bind_some]
    have : fbits .sub .f64 (some R) (some (Ieee.double.write (.number false W ((d : Int) - 1074)))) = some R' := g1
    rw [this]
  by_cases c : Gr < Gy
  · rw [decide_eq_true c, cond_true] at d1
    rw [decide_eq_true c, bt rfl, w64_id (by omega)]
    exact hfin _ (by omega)
  · rw [decide_eq_false c, cond_false] at d1
    rw [decide_eq_false c, bf rfl]
    exact hfin _ (by omega)
theorem mod_loop {Y' yf Gy : Nat} {X0 : Option Nat} (hY : DV Y' false W) (hW : W ≠ 0) (hGy : 4503599627370496 ≤ Gy ∧ Gy < 9007199254740992) (hyf : ∀ K : Nat, K = 1021 → DV yf false (Gy * 2 ^ K)) (hy53 : W * 2 ^ 53 = Gy * 2 ^ blen W) :
    ∀ (c M R r : Nat), DV R false r → r < W * 2 ^ c → c < M → ∃ R', iterL (F452_L8 N X0 (some Y') (some yf) ((blen W : Int) - 1074)) M (some R) = F452_5 N X0 (some R') ∧ DV R' false (r % W) ∧ (r < W → R' = R) := by
  have sf : ∀ n : Nat, sg false n = (n : Int) := fun n => rfl
  intro c
  induction c with
  | zero =>
    intro M R r hR hlt hM
    rw [Nat.pow_zero, Nat.mul_one] at hlt
    obtain ⟨M', rfl⟩ : ∃ M', M = M' + 1 := ⟨M - 1, by omega⟩
    refine ⟨R, iterL_out ?_, by rw [Nat.mod_eq_of_lt hlt]; exact hR, fun _ => rfl⟩
    unfold F452_L8 F452_L8b F452_9
    rw [hR.ge hY, sf, sf, decide_eq_false (by omega), bf rfl]
  | succ c ih =>
    intro M R r hR hlt hM
    obtain ⟨M', rfl⟩ : ∃ M', M = M' + 1 := ⟨M - 1, by omega⟩
    rcases Nat.lt_or_ge r W with g | g
    · refine ⟨R, iterL_out ?_, by rw [Nat.mod_eq_of_lt g]; exact hR, fun _ => rfl⟩
      unfold F452_L8 F452_L8b F452_9
      rw [hR.ge hY, sf, sf, decide_eq_false (by omega), bf rfl]
    · obtain ⟨R', d, h1, h2, h3, h4⟩ := mod_turn (N := N) (X0 := X0) hR hY hW hGy hyf hy53 g
      have hdc : d ≤ c := by
        rcases Nat.lt_or_ge c d with z | z
        · exfalso
          have : 2 ^ (c + 1) ≤ 2 ^ d := pow_le z
          have := Nat.mul_le_mul_left W this
          omega
        · exact z
      have hlt' : r - W * 2 ^ d < W * 2 ^ c := Nat.lt_of_lt_of_le h4 (Nat.mul_le_mul_left _ (pow_le hdc))
      obtain ⟨R'', k1, k2, k3⟩ := ih M' R' (r - W * 2 ^ d) h2 hlt' (by omega)
      refine ⟨R'', ?_, ?_, fun z => by omega⟩
      · rw [iterL, h1]; exact k1
      · have : (r - W * 2 ^ d) % W = r % W := by
          have e : r = (r - W * 2 ^ d) + W * 2 ^ d := by omega
          rw [e, Nat.add_mul_mod_self_left, ← e]
        rw [← this]; exact k2
/-- Mod. -/
theorem F452_ok (hN : 3000 ≤ N) (hX : DV X s V) (hY : DV Y false W) (hW : W ≠ 0) (hs : s = false ∨ V = 0) : ∃ Z, F452 N (some X) (some Y) = some (some Z) ∧ DV Z s (V % W) := by
  have hXf : F430 N (some X) 0 = some false := F430_fin hX
  unfold F452
  rw [eqz hY, decide_eq_false hW, bf rfl, hXf, Option.bind_some, F429_fin hX, F429_fin hY, Bool.or_self, Bool.or_self]
  unfold F452_1
  obtain ⟨Y', y1, y2⟩ := F444_ok (N := N) hY
  rw [bf rfl, y1, Option.bind_some]
  unfold F452_2 F453
  obtain ⟨yf, Gy, T, k, f1, f2, f3, f4, f5, f6⟩ := F455_ok (N := N) y2 hW
  rw [f1, Option.bind_some, Option.bind_some]
  unfold F452_3 F452_13
  have hlz : fcmp .lss .f64 (some X) (some 0) = false := by
    rw [ltz hX]
    rcases hs with g | g
    · rw [g]; rfl
    · rw [g]; simp
  rw [hlz, bf rfl]
  unfold F452_4
  have hy53 := frac_eq hW f2 f3 f4 f5
  have h5 : ∀ R', F452_5 N (some X) (some R') = some (some R') := by
    intro R'
    unfold F452_5 F452_7 F452_6
    rw [hlz, bf rfl]
  rcases hs with g | g
  · subst g
    obtain ⟨C, hC⟩ : ∃ C : Nat, C = 2100 := ⟨_, rfl⟩
    have hlt : V < W * 2 ^ C := by
      obtain ⟨_, _, _, _, h4, _⟩ := hX.rep.parts
      by_cases c : V = 0
      · rw [c]; exact Nat.mul_pos (by omega) (pow_pos2 _)
      · have := h4 c
        have h6 := blen_lt V
        have h7 : 2 ^ blen V ≤ 2 ^ C := pow_le (by omega)
        have h8 := Nat.mul_le_mul_right (2 ^ C) (show 1 ≤ W by omega)
        rw [Nat.one_mul] at h8
        exact Nat.lt_of_lt_of_le h6 (Nat.le_trans h7 h8)
    obtain ⟨R', k1, k2, k3⟩ := mod_loop (N := N) (X0 := some X) y2 hW ⟨f2, f3⟩ f6 hy53 C N X V hX hlt (by omega)
    refine ⟨R', ?_, k2⟩
    rw [k1, h5]
  · subst g
    -- a zero of either sign is left alone
    obtain ⟨M, rfl⟩ : ∃ M, N = M + 1 := ⟨N - 1, by omega⟩
    refine ⟨X, ?_, by rw [Nat.zero_mod]; exact hX⟩
    have hx : iterL (F452_L8 (M + 1) (some X) (some Y') (some yf) ((blen W : Int) - 1074)) (M + 1) (some X) = F452_5 (M + 1) (some X) (some X) := by
      refine iterL_out ?_
      unfold F452_L8 F452_L8b F452_9
      have h0 : sg s 0 = 0 := by unfold sg; cases s <;> rfl
      have sf : ∀ n : Nat, sg false n = (n : Int) := fun n => rfl
      rw [hX.ge y2, h0, sf, decide_eq_false (by omega), bf rfl]
    rw [hx, h5]
end
end Go.Proofs.YfwaawGreat
