/-
  exact.Shortest: the first place at which a candidate reads back.
-/
import Derived.Test.YfwaawGreatK6
namespace Go.Proofs.YfwaawGreat
open Go.Aw
set_option linter.unusedVariables false
set_option linter.unusedSimpArgs false

instance (l h A B : Nat) (ev : Prop) [Decidable ev] (n : Nat) : Decidable (Rd l h A B ev n) :=
  decidable_of_iff ((l * A < n * B ∨ (l * A = n * B ∧ ev)) ∧ (n * B < h * A ∨ (h * A = n * B ∧ ev))) ⟨fun k => ⟨k.1, k.2⟩, fun k => ⟨k.lo, k.hi⟩⟩
/-- A finite number, not zero, as Shortest sees it. -/
structure NB (e m : BitVec 8) (x : BitVec 64) (neg : Bool) (num den sig ex : Nat) (a : Int) : Prop where
  f : Fm e m
  hs : sig < 2 ^ (m.toNat + 1)
  hn : ex = 0 ∨ 2 ^ m.toNat ≤ sig
  hp : 1 ≤ sig
  hi : ex * 2 ^ m.toNat + sig < infP e.toNat m.toNat
  ha : a = (ex : Int) - bia e.toNat - m.toNat - 1
  xm : (x &&& F69 e m).toNat = ex * 2 ^ m.toNat + sig + sgn e.toNat m.toNat neg
  f144 : ∃ c : Int, (c = 1 ∨ c = 2) ∧ ∀ N, F144 N e m x = some (x &&& F69 e m, neg, c, neg, num, den)
  v : num * 2 ^ (-a).toNat = 4 * sig * 2 ^ a.toNat * den
  fb : FB num den
section
variable {N : Nat} {e m : BitVec 8} {x : BitVec 64} {neg : Bool} {num den sig ex : Nat} {a : Int}
theorem NB.ab (h : NB e m x neg num den sig ex a) : -1100 ≤ a ∧ a < 1031 := by
  have h1 := h.f.e2
  have h2 := h.f.e11
  have h3 := h.f.m2
  have h4 := h.f.m52
  have hb := bia_le h2
  have hpE := pow_E h1
  have hi := h.hi
  have ha := h.ha
  have : ex < 2 ^ e.toNat := by
    unfold infP at hi
    have k1 : ex * 2 ^ m.toNat < (2 ^ e.toNat - 1) * 2 ^ m.toNat := by omega
    have := Nat.lt_of_mul_lt_mul_right k1
    omega
  omega
theorem NB.cand (h : NB e m x neg num den sig ex a) (hN : 802 ≤ N) {n : Nat} (h0 : n ≠ 0) (hn : n < 9223372036854775808) {K : Int} {j : Nat} (hK : K = rq a + j) (hKb : -1000 ≤ K ∧ K ≤ 1000) {c : Int} :
    ∃ d, mkD N neg n K = some d ∧ F150 N e m (x &&& F69 e m) neg c neg num den (n : Int) K = some (d.1, d.2.1, d.2.2, decide (Rd (4 * sig - bel m.toNat ex sig) (4 * sig + 2) (sA a) (sB a * 10 ^ j) (sig % 2 = 0) n)) := by
  obtain ⟨s, dig, exp, jj, g1, g2, g3, g4, g5, g6, g7⟩ := mkD_ok (N := N) (by omega) (neg := neg) h0 hn hKb
  refine ⟨(neg, dig, exp), g3, ?_⟩
  unfold F150
  rw [g1, Option.bind_some, g2, Option.bind_some]
  unfold F150_1
  simp only []
  rw [bt rfl]
  unfold F77 F77_1
  rw [F135_ok hN h.f g4, Option.bind_some, Option.bind_some]
  unfold F150_2
  have hdv := dval_pos g4 g5
  unfold RD
  rw [if_neg hdv]
  have hp1 : dval dig * 10 ^ exp.toNat ≠ 0 := Nat.mul_ne_zero hdv (by have := pt_pos exp.toNat; omega)
  have hp2 : 10 ^ (-exp).toNat ≠ 0 := by have := pt_pos (-exp).toNat; omega
  have hp3 : 10 ^ (-K).toNat ≠ 0 := by have := pt_pos (-K).toNat; omega
  have hp4 : n * 10 ^ K.toNat ≠ 0 := Nat.mul_ne_zero h0 (by have := pt_pos K.toNat; omega)
  rw [RQ_cross (num' := n * 10 ^ K.toNat) (den' := 10 ^ (-K).toNat) hp1 hp2 hp3 (by
    rw [← g7]
    have e1 : 10 ^ exp.toNat * 10 ^ (-K).toNat = 10 ^ jj * 10 ^ K.toNat * 10 ^ (-exp).toNat := by
      rw [← Nat.pow_add, ← Nat.pow_add, ← Nat.pow_add]; exact congrArg (fun t => 10 ^ t) (by omega)
    rw [Nat.mul_assoc, e1, ← Nat.mul_assoc, ← Nat.mul_assoc])]
  refine congrArg (fun t => some (neg, dig, exp, t)) ?_
  rw [eq_bv, h.xm, decide_eq_decide, reads h.f h.hs h.hn h.hp h.hi h.ha hp4 hp3]
  have l1 := lev (X := (4 * sig - bel m.toNat ex sig) * 2 ^ a.toNat) (Y := n * 2 ^ (-a).toNat) hK
  have l2 := lev (X := (4 * sig + 2) * 2 ^ a.toNat) (Y := n * 2 ^ (-a).toNat) hK
  rw [Nat.mul_right_comm n, l1.1, l1.2.1, l2.2.1, l2.2.2]
  have e1 : ∀ z : Nat, z * 2 ^ a.toNat * 10 ^ (-rq a).toNat = z * sA a := fun z => by unfold sA; rw [Nat.mul_assoc]
  have e2 : n * 2 ^ (-a).toNat * (10 ^ (rq a).toNat * 10 ^ j) = n * (sB a * 10 ^ j) := by unfold sB; rw [Nat.mul_assoc, Nat.mul_assoc]
  rw [e1, e1, e2]
  exact ⟨fun k => ⟨k.1, k.2⟩, fun k => ⟨k.lo, k.hi⟩⟩
/-- What is left below the place, against a half. -/
theorem F149_ok {X Y p : Nat} (hY : 0 < Y) (hp : p = 1 ∨ (2 ≤ p ∧ p % 2 = 0)) (hpl : p ≤ 10000000000000000) :
    ((F149 ((X / Y % p : Nat) : Int) (p : Int) (ncmp (X % Y * 2) Y) (X % Y != 0)).1 < 0 ↔ 2 * X < (2 * (X / Y / p) + 1) * (Y * p)) ∧
    ((F149 ((X / Y % p : Nat) : Int) (p : Int) (ncmp (X % Y * 2) Y) (X % Y != 0)).1 = 0 ↔ 2 * X = (2 * (X / Y / p) + 1) * (Y * p)) := by
  have hdx := Nat.div_add_mod X Y
  have hdl := Nat.mod_lt X hY
  have hpp : 0 < p := by omega
  have hda := Nat.div_add_mod (X / Y) p
  have hal := Nat.mod_lt (X / Y) hpp
  generalize X % Y = r at *
  generalize X / Y = q at *
  generalize q / p = lo at *
  generalize q % p = left at *
  -- 2X = 2 Y p lo + 2 Y left + 2 r
  have eX : 2 * X = 2 * (Y * p * lo) + (2 * (Y * left) + 2 * r) := by
    rw [← hdx, ← hda, Nat.mul_add Y, ← Nat.mul_assoc Y]; omega
  have eR : (2 * lo + 1) * (Y * p) = 2 * (Y * p * lo) + Y * p := by
    rw [Nat.add_mul, Nat.one_mul, Nat.mul_assoc, Nat.mul_comm lo]
  rw [eX, eR]
  unfold F149
  rcases hp with k | ⟨k1, k2⟩
  · subst k
    have hl0 : left = 0 := by omega
    subst hl0
    unfold F149_1
    rw [bt (by rfl)]
    simp only [Nat.mul_one, Nat.mul_zero]
    unfold ncmp
    constructor
    · split
      · simp; omega
      · split
        · simp; omega
        · simp; omega
    · split
      · simp; omega
      · split
        · simp; omega
        · simp; omega
  · unfold F149_1
    rw [bf (by rw [beq_eq_false_iff_ne]; omega)]
    unfold F149_4 F149_2 F149_3
    rw [w64_id (n := 2 * (left : Int)) (by omega)]
    have hY2 : 2 * (Y * left) = Y * (2 * left) := by rw [← Nat.mul_assoc, Nat.mul_comm 2, Nat.mul_assoc]
    rw [hY2]
    rcases Nat.lt_trichotomy (2 * left) p with c | c | c
    · have c' : 2 * left + 2 ≤ p := by omega
      have := Nat.mul_le_mul_left Y c'
      rw [Nat.mul_add] at this
      rw [decide_eq_false (show ¬ 2 * (left : Int) > (p : Int) by omega), bf rfl, show ((2 * (left : Int)) == (p : Int)) = false from by rw [beq_eq_false_iff_ne]; omega, Bool.false_and, bf rfl, bf rfl]
      simp only []
      constructor
      · exact ⟨fun _ => by omega, fun _ => by decide⟩
      · exact ⟨fun k => by simp at k, fun k => by omega⟩
    · rw [decide_eq_false (show ¬ 2 * (left : Int) > (p : Int) by omega), bf rfl, show ((2 * (left : Int)) == (p : Int)) = true from by rw [beq_iff_eq]; omega, Bool.true_and, c]
      by_cases hr : r = 0
      · subst hr
        rw [show ((0 : Nat) != 0) = false from rfl, bf rfl, bt rfl]
        simp
      · rw [show (r != 0) = true from by simp [hr], bt rfl]
        simp
        omega
    · have := Nat.mul_le_mul_left Y (show p + 1 ≤ 2 * left by omega)
      rw [Nat.mul_add] at this
      rw [decide_eq_true (show 2 * (left : Int) > (p : Int) by omega), bt rfl, bt rfl]
      simp only []
      constructor
      · exact ⟨fun k => by simp at k, fun k => by omega⟩
      · exact ⟨fun k => by simp at k, fun k => by omega⟩
end
end Go.Proofs.YfwaawGreat
