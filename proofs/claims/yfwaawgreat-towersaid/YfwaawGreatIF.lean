/-
  native: sign, neighbours.
-/
import Derived.Test.YfwaawGreatIE
namespace Go.Proofs.YfwaawGreat
open Go.Aw
set_option linter.unusedVariables false
set_option linter.unusedSimpArgs false

section
variable {e m e' m' mode : BitVec 8} {f f' : Ieee.Format} {neg na nb : Bool} {x : BitVec 64} {N : Nat}
theorem clean_put (k : Kd e m f) (x : BitVec 64) : F222 e m x = put e m f (some (wd e m x)) := by
  rw [clean_val]
  rcases k.cls x with ⟨⟨s, t, h1⟩, h2⟩ | ⟨P, s, hP, hw, h4, hs, hn, _⟩
  · rw [if_pos h2]
    show _ = (bif (f.read (wd e m x)).isNaN then _ else _)
    rw [h1]; rfl
  · rw [if_neg h4, put_wd k hn]
/-- Neg. -/
theorem neg64 (c : BitVec 64) : F334 N c = some (F222 11#8 52#8 (c ^^^ F70 11#8 52#8)) := by
  unfold F334 F384
  simp only [lt]
  rw [F385_ok, clean_put kd64, wd_xor kd64.fm, wd64]
  rfl
theorem neg32 (c : BitVec 64) : ∃ y, F335 N (BitVec.ofInt 32 (c.toNat : Int)) = some y ∧ BitVec.ofInt 64 (y.toNat : Int) = F222 8#8 23#8 (c ^^^ F70 8#8 23#8) := by
  unfold F335 F386
  simp only [lt]
  rw [wd32]
  obtain ⟨y, y1, y2, y3⟩ := F387_ok (N := N) (fneg .f32 (some (wd 8#8 23#8 c))) (fun r hr => by
    cases hr
    exact Nat.xor_lt_two_pow (n := 32) (wd32_lt c) (by decide))
  rw [y1, clean_put kd32, wd_xor kd32.fm]
  exact ⟨y, rfl, y2⟩
theorem andn (h : Fm e m) (hM : ~~~F70 e m &&& F69 e m = F70 e m - 1#64) (c : BitVec 64) : wd e m (c &&& ~~~F70 e m) = wd e m c % 2 ^ (e.toNat + m.toNat) := by
  unfold wd
  rw [BitVec.and_assoc, hM]
  have h2 := h.e11
  have h4 := h.m52
  rw [F70_eq h, and_mask64 _ (by omega), BitVec.toNat_and, F69_ok h, Nat.and_two_pow_sub_one_eq_mod, Nat.mod_mod_of_dvd _ (Nat.pow_dvd_pow 2 (by omega))]
/-- Abs, as a float. -/
def absO (f : Ieee.Format) (X : Nat) : Option Nat := bif f.order X 0 == some .lt then some (X ^^^ 2 ^ (f.exponentBits + f.fractionBits)) else bif f.order X 0 == some .eq then some 0 else some X
theorem abs_ok (k : Kd e m f) (hM : ~~~F70 e m &&& F69 e m = F70 e m - 1#64) (c : BitVec 64) : put e m f (absO f (wd e m c)) = F222 e m (c &&& ~~~F70 e m) := by
  have hip := infP_pos k.fm
  have hpm := pow_pos2 m.toNat
  have hil := infP_lt' e.toNat m.toNat
  rw [clean_put k, andn k.fm hM]
  unfold absO
  rcases k.cls c with ⟨⟨s, t, h1⟩, h2⟩ | ⟨P, s, hP, hw, h4, hs, hn, _⟩
  · rw [ord_nanl ⟨s, t, h1⟩]
    show put e m f (some (wd e m c)) = _
    obtain ⟨P, s', hP, hw⟩ := wd_parts k.fm c
    have e1 : wd e m c % 2 ^ (e.toNat + m.toNat) = P := by rw [hw]; have := (k.parts (neg := s') hP).1; rw [k.sw] at this; exact this
    rw [e1]
    have hr := k.read (neg := s') hP
    rw [← hw, h1] at hr
    have hr2 := k.read (neg := false) hP
    rw [show P + sgn e.toNat m.toNat false = P from rfl] at hr2
    unfold put
    simp only []
    rw [h1]
    have : (f.read P).isNaN = true := by
      rw [hr2]
      by_cases c1 : P < 2 ^ m.toNat
      · rw [if_pos c1] at hr; cases hr
      · by_cases c2 : P < infP e.toNat m.toNat
        · rw [if_neg c1, if_pos c2] at hr; cases hr
        · by_cases c3 : P = infP e.toNat m.toNat
          · rw [if_neg c1, if_neg c2, if_pos c3] at hr; cases hr
          · rw [if_neg c1, if_neg c2, if_neg c3]; rfl
    rw [this]; rfl
  · have e1 : wd e m c % 2 ^ (e.toNat + m.toNat) = P := by rw [hw]; have := (k.parts (neg := s) (show P < 2 ^ (e.toNat + m.toNat) by omega)).1; rw [k.sw] at this; exact this
    have ho := ord_cm k (na := s) (nb := false) hP (Nat.zero_le (infP e.toNat m.toNat))
    rw [show (0 : Nat) + sgn e.toNat m.toNat false = 0 from rfl, ← hw] at ho
    rw [e1, ho, hw]
    by_cases z : P = 0
    · rw [z, cm_zero ⟨rfl, rfl⟩]; rfl
    · cases s
      · rw [cm_fgt (by omega)]
        rfl
      · rw [cm_tf (by omega)]
        show put e m f (some ((P + sgn e.toNat m.toNat true) ^^^ 2 ^ (f.exponentBits + f.fractionBits))) = _
        rw [k.ee, k.mm, xor_sgn (by omega)]
        rfl
theorem hM64 : ~~~F70 11#8 52#8 &&& F69 11#8 52#8 = F70 11#8 52#8 - 1#64 := by decide +kernel
theorem hM32 : ~~~F70 8#8 23#8 &&& F69 8#8 23#8 = F70 8#8 23#8 - 1#64 := by decide +kernel
theorem abs64 (c : BitVec 64) : F336 N c = some (F222 11#8 52#8 (c &&& ~~~F70 11#8 52#8)) := by
  rw [← abs_ok kd64 hM64, wd64]
  unfold F336 F336_1 F336_3 F336_4 F336_2 F384 absO
  simp only [lt, F385_ok]
  have e1 : fcmp .lss .f64 (some c.toNat) (some 0) = (Ieee.double.order c.toNat 0 == some .lt) := rfl
  have e2 : fcmp .eql .f64 (some c.toNat) (some 0) = (Ieee.double.order c.toNat 0 == some .eq) := rfl
  rw [e1, e2]
  cases Ieee.double.order c.toNat 0 == some .lt
  · cases Ieee.double.order c.toNat 0 == some .eq <;> rfl
  · rfl
theorem abs32 (c : BitVec 64) : ∃ y, F337 N (BitVec.ofInt 32 (c.toNat : Int)) = some y ∧ BitVec.ofInt 64 (y.toNat : Int) = F222 8#8 23#8 (c &&& ~~~F70 8#8 23#8) := by
  rw [← abs_ok kd32 hM32]
  unfold F337 F337_1 F337_3 F337_4 F337_2 F386
  simp only [lt]
  rw [wd32]
  have hlt := wd32_lt c
  obtain ⟨y, y1, y2, y3⟩ := F387_ok (N := N) (absO Ieee.single (wd 8#8 23#8 c)) (fun r hr => by
    unfold absO at hr
    cases h1 : Ieee.single.order (wd 8#8 23#8 c) 0 == some .lt
    · rw [h1, cond_false] at hr
      cases h2 : Ieee.single.order (wd 8#8 23#8 c) 0 == some .eq
      · rw [h2, cond_false] at hr; cases hr; exact hlt
      · rw [h2, cond_true] at hr; cases hr; decide
    · rw [h1, cond_true] at hr; cases hr
      exact Nat.xor_lt_two_pow (n := 32) hlt (by decide))
  refine ⟨y, ?_, y2⟩
  unfold absO at y1
  have e1 : fcmp .lss .f32 (some (wd 8#8 23#8 c)) (some 0) = (Ieee.single.order (wd 8#8 23#8 c) 0 == some .lt) := rfl
  have e2 : fcmp .eql .f32 (some (wd 8#8 23#8 c)) (some 0) = (Ieee.single.order (wd 8#8 23#8 c) 0 == some .eq) := rfl
  rw [e1, e2]
  cases h1 : Ieee.single.order (wd 8#8 23#8 c) 0 == some .lt
  · rw [h1, cond_false] at y1
    cases h2 : Ieee.single.order (wd 8#8 23#8 c) 0 == some .eq
    · rw [h2, cond_false] at y1
      simp only [cond_false]; rw [y1]; rfl
    · rw [h2, cond_true] at y1
      simp only [cond_false, cond_true]; rw [y1]; rfl
  · rw [h1, cond_true] at y1
    simp only [cond_true]
    have : fneg .f32 (some (wd 8#8 23#8 c)) = some (wd 8#8 23#8 c ^^^ 2 ^ (Ieee.single.exponentBits + Ieee.single.fractionBits)) := rfl
    rw [this, y1]; rfl

/-! ### Neighbours -/
/-- The neighbour, above or (d) below. -/
def nxw (E M : Nat) (d s : Bool) (P : Nat) : Nat := bif d then (nx E M (!s) P).2 + sgn E M (!(nx E M (!s) P).1) else (nx E M s P).2 + sgn E M (nx E M s P).1
theorem nextU_ok (k : Kd e m f) (a : BitVec 64) {P : Nat} {s : Bool} (hP : P ≤ infP e.toNat m.toNat) (hw : wd e m a = P + sgn e.toNat m.toNat s) (h4 : (F65 e m a).2.1 ≠ 4) : ((F177 e m a).1).toNat = nxw e.toNat m.toNat false s P := by
  unfold F177 F177_1 F177_2
  simp only [lt]
  rw [k.fm.ok, Bool.not_true, bf rfl, bf (by rw [beq_eq_false_iff_ne]; exact h4)]
  exact F277_ok k.fm hw hP
theorem nextU_nan (k : Kd e m f) (a : BitVec 64) (h4 : (F65 e m a).2.1 = 4) : (F177 e m a).1 = F66 e m := by
  unfold F177 F177_1 F177_2
  simp only [lt]
  rw [k.fm.ok, Bool.not_true, bf rfl, bt (by rw [beq_iff_eq]; exact h4)]
theorem F66_big (h : Fm e m) (hb : infP e.toNat m.toNat < (F66 e m).toNat % 2 ^ (e.toNat + m.toNat)) {z : BitVec 64} {P : Nat} {s : Bool} (hz : z.toNat = P + sgn e.toNat m.toNat s) (hP : P ≤ infP e.toNat m.toNat) : z ≠ F66 e m := by
  intro g
  have hil := infP_lt' e.toNat m.toNat
  have : (P + sgn e.toNat m.toNat s) % 2 ^ (e.toNat + m.toNat) = P := by
    clear hz
    unfold sgn
    cases s
    · rw [cond_false, Nat.add_zero]; exact Nat.mod_eq_of_lt (by omega)
    · rw [cond_true, Nat.add_mod_right]; exact Nat.mod_eq_of_lt (by omega)
  rw [← g, hz, this] at hb
  omega
theorem nextD_ok (k : Kd e m f) (hb : infP e.toNat m.toNat < (F66 e m).toNat % 2 ^ (e.toNat + m.toNat)) (a : BitVec 64) {P : Nat} {s : Bool} (hP : P ≤ infP e.toNat m.toNat) (hw : wd e m a = P + sgn e.toNat m.toNat s) (h4 : (F65 e m a).2.1 ≠ 4) : ((F178 e m a).1).toNat = nxw e.toNat m.toNat true s P := by
  have hip := infP_pos k.fm
  have hpm := pow_pos2 m.toNat
  have hil := infP_lt' e.toNat m.toNat
  have hw2 : wd e m (a ^^^ F70 e m) = P + sgn e.toNat m.toNat (!s) := by rw [wd_xor k.fm, hw, xor_sgn (by omega)]
  have h42 : (F65 e m (a ^^^ F70 e m)).2.1 ≠ 4 := by rw [(F65_flip k.fm a).1]; exact h4
  have hu := nextU_ok k (a ^^^ F70 e m) hP hw2 h42
  have hle := nx_le (E := e.toNat) (M := m.toNat) (neg := !s) (P := P) (by omega) hP
  unfold F178 F178_1 F178_3 F178_2
  simp only [lt]
  have hne : (F177 e m (a ^^^ F70 e m)).1 ≠ F66 e m := F66_big k.fm hb hu hle
  rw [k.fm.ok, show ((F177 e m (a ^^^ F70 e m)).1 != F66 e m) = true from by rw [bne_iff_ne]; exact hne, Bool.and_self, bt rfl]
  show ((F177 e m (a ^^^ F70 e m)).1 ^^^ F70 e m).toNat = _
  rw [BitVec.toNat_xor, F70_ok k.fm, hu]
  unfold nxw
  rw [cond_false, cond_true, xor_sgn (by omega)]
theorem nextD_nan (k : Kd e m f) (a : BitVec 64) (h4 : (F65 e m a).2.1 = 4) : (F178 e m a).1 = F66 e m := by
  have h42 : (F65 e m (a ^^^ F70 e m)).2.1 = 4 := by rw [(F65_flip k.fm a).1]; exact h4
  unfold F178 F178_1 F178_3 F178_2
  simp only [lt]
  rw [nextU_nan k _ h42, show (F66 e m != F66 e m) = false from by simp, Bool.and_false, bf rfl]
theorem nx_cases (k : Kd e m f) (d s : Bool) {P : Nat} (hP : P ≤ infP e.toNat m.toNat) :
    (s = d ∧ P = infP e.toNat m.toNat ∧ nxw e.toNat m.toNat d s P = P + sgn e.toNat m.toNat s) ∨
    (P = 0 ∧ nxw e.toNat m.toNat d s P = 1 + sgn e.toNat m.toNat d) ∨
    (P ≠ 0 ∧ ¬ (s = d ∧ P = infP e.toNat m.toNat) ∧ nxw e.toNat m.toNat d s P = (if s = d then P + 1 else P - 1) + sgn e.toNat m.toNat s) := by
  have hip := infP_pos k.fm
  have hpm := pow_pos2 m.toNat
  by_cases z : P = 0
  · subst z
    refine Or.inr (Or.inl ⟨rfl, ?_⟩)
    unfold nxw nx
    cases d <;> cases s
    · simp only [cond_false]; rw [Nat.min_eq_left (by omega)]
    · simp only [cond_false, cond_true]; rw [if_pos trivial]
    · simp only [cond_false, cond_true, Bool.not_false]; rw [if_pos trivial]; rfl
    · simp only [cond_false, cond_true, Bool.not_true, Bool.not_false]; rw [Nat.min_eq_left (by omega)]
  · by_cases c : s = d ∧ P = infP e.toNat m.toNat
    · refine Or.inl ⟨c.1, c.2, ?_⟩
      obtain ⟨c1, c2⟩ := c
      subst c1
      unfold nxw nx
      cases s
      · simp only [cond_false]; rw [Nat.min_eq_right (by omega), c2]
      · simp only [cond_false, cond_true, Bool.not_true, Bool.not_false]; rw [Nat.min_eq_right (by omega), c2]
    · refine Or.inr (Or.inr ⟨z, c, ?_⟩)
      unfold nxw nx
      cases d <;> cases s
      · have : P ≠ infP e.toNat m.toNat := fun g => c ⟨rfl, g⟩
        simp only [cond_false]; rw [Nat.min_eq_left (by omega), if_pos trivial]
      · simp only [cond_false, cond_true]; rw [if_neg z, if_neg (by decide)]
      · simp only [cond_false, cond_true, Bool.not_false]; rw [if_neg z, if_neg (by decide)]; rfl
      · have : P ≠ infP e.toNat m.toNat := fun g => c ⟨rfl, g⟩
        simp only [cond_false, cond_true, Bool.not_true, Bool.not_false]; rw [Nat.min_eq_left (by omega), if_pos trivial]
end
end Go.Proofs.YfwaawGreat
