/-
  The model's sum and product are exact's.
-/
import Derived.Test.YfwaawGreatI2
import Derived.Test.YfwaawGreatS3
namespace Go.Proofs.YfwaawGreat
open Go.Aw
set_option linter.unusedVariables false
set_option linter.unusedSimpArgs false

theorem xor_top {P k : Nat} (h : P < 2 ^ k) : P ^^^ 2 ^ k = P + 2 ^ k := by
  have h1 := Nat.two_pow_add_eq_or_of_lt h 1
  rw [Nat.mul_one] at h1
  rw [Nat.add_comm, h1]
  refine Nat.eq_of_testBit_eq fun i => ?_
  rw [Nat.testBit_xor, Nat.testBit_or, Nat.testBit_two_pow]
  by_cases c : k = i
  · subst c
    rw [Nat.testBit_lt_two_pow h]
    simp
  · simp [c]
theorem xor_top2 {P k : Nat} (h : P < 2 ^ k) : (P + 2 ^ k) ^^^ 2 ^ k = P := by
  rw [← xor_top h, Nat.xor_assoc, Nat.xor_self, Nat.xor_zero]
section
variable {e m mode : BitVec 8} {f : Ieee.Format} {neg : Bool} {x : BitVec 64} {N : Nat}
/-- A number as both have it. -/
structure Num (f : Ieee.Format) (m : BitVec 8) (c : Int) (num den mag : Nat) (place : Int) : Prop where
  c4 : (c == 4) = false
  c3 : (c == 3) = false
  c0 : (c == 0) = decide (mag = 0)
  n0 : num = 0 ↔ mag = 0
  v : num * 2 ^ (-place).toNat = mag * 2 ^ place.toNat * den
  d0 : 0 < den
  bn : blen num ≤ 2000
  bd : blen den ≤ 2000
  bm : blen mag ≤ 53
  pl : -1200 < place
  ph : place < 1100
theorem Kd.opd (k : Kd e m f) (x : BitVec 64) : ∃ (neg : Bool) (c : Int) (bits : BitVec 64) (ng vn : Bool) (num den : Nat), (∀ N, F144 N e m x = some (bits, ng, c, vn, num, den)) ∧
    (((c == 4) = true ∧ (c == 3) = false ∧ (c == 0) = false ∧ ∃ s t, f.read (wd e m x) = .nan s t) ∨
     ((c == 4) = false ∧ (c == 3) = true ∧ (c == 0) = false ∧ bits = F67 e m neg ∧ neg = ng ∧ f.read (wd e m x) = .infinity neg) ∨
     (neg = ng ∧ neg = vn ∧ ∃ mag place, f.read (wd e m x) = .number neg mag place ∧ Num f m c num den mag place)) := by
  have hb := bia_le k.fm.e11
  have h4 := k.fm.m52
  have hlp := k.lp
  rcases k.opn x with ⟨ng, s, t, h1, h2, h3⟩ | ⟨neg, h1, h2, h3, h4⟩ | ⟨neg, h1, h2, h3, h4⟩ | ⟨neg, c, ex, man, P, mag, place, h1, h2, h3⟩
  · exact ⟨false, 4, _, _, _, _, _, h3, Or.inl ⟨rfl, rfl, rfl, s, t, h1⟩⟩
  · exact ⟨neg, 3, _, _, _, _, _, h4, Or.inr (Or.inl ⟨rfl, rfl, rfl, rfl, rfl, h1⟩)⟩
  · refine ⟨neg, 0, _, _, _, _, _, h4, Or.inr (Or.inr ⟨rfl, rfl, 0, f.leastPlace, h1, ⟨rfl, rfl, rfl, Iff.rfl, by rw [Nat.zero_mul, Nat.zero_mul, Nat.zero_mul], by decide, by decide, by decide, by decide, by omega, by omega⟩⟩)⟩
  · obtain ⟨c4, c3, c0⟩ := h2.cls
    have hm : blen mag ≤ m.toNat + 1 := blen_le_iff.2 h3.hi
    have hpl := h3.pl
    have hph := h3.ph
    refine ⟨neg, c, _, _, _, _, _, h2.f144, Or.inr (Or.inr ⟨rfl, rfl, mag, place, h1, ⟨c4, c3, ?_, ?_, ?_, pow_pos2 _, h2.bnum k.fm, h2.bden k.fm, by omega, by omega, by omega⟩⟩)⟩
    · rw [c0, decide_eq_false h3.m0]
    · exact ⟨fun z => (h2.nne z).elim, fun z => (h3.m0 z).elim⟩
    · exact h3.cross k h2
theorem Num.units {c : Int} {num den mag : Nat} {place : Int} (n : Num f m c num den mag place) {L : Nat} (hL : 1200 ≤ L) : num * 2 ^ L = mag * 2 ^ (place + L).toNat * den := by
  have h := n.v
  have h1 := n.pl
  refine Nat.mul_right_cancel (pow_pos2 (-place).toNat) ?_
  rw [Nat.mul_right_comm, h]
  have e1 : 2 ^ place.toNat * 2 ^ L = 2 ^ (place + L).toNat * 2 ^ (-place).toNat := by
    rw [← Nat.pow_add, ← Nat.pow_add]; exact congrArg (fun t => 2 ^ t) (by omega)
  generalize 2 ^ place.toNat = p1 at *
  generalize 2 ^ L = p2 at *
  generalize 2 ^ (place + L).toNat = p3 at *
  generalize 2 ^ (-place).toNat = p4 at *
  grind
theorem bne_xor (a b : Bool) : (a != b) = (a ^^ b) := by cases a <;> cases b <;> rfl
/-- The product. -/
theorem nmul (k : Kd e m f) (hm : NE mode) (a b : BitVec 64) : ∃ z, F194 N e m mode a b = some z ∧ z.1 = can e m (f.mul (wd e m a) (wd e m b)) := by
  have z1 := bl1
  unfold F194 F194_1
  simp only [lt]
  rw [k.fm.ok, Bool.not_true, bf rfl]
  unfold Ieee.Format.mul
  obtain ⟨na, ca, ba, ga, va, an, ad, ha', alta⟩ := k.opd a
  obtain ⟨nb, cb, bb, gb, vb, bn, bd, hb', altb⟩ := k.opd b
  rw [ha', hb']
  simp only [Option.bind_some, F194_2, F194_3, F194_4, F194_5, F194_6, F194_7, lt]
  rcases alta with ⟨a4, a3, a0, s, t, ra⟩ | ⟨a4, a3, a0, rfl, rfl, ra⟩ | ⟨rfl, rfl, ma, pa, ra, A⟩ <;>
  rcases altb with ⟨b4, b3, b0, s', t', rb⟩ | ⟨b4, b3, b0, rfl, rfl, rb⟩ | ⟨rfl, rfl, mb, pb, rb, B⟩ <;> rw [ra, rb]
  · rw [a4, b4]; exact ⟨_, rfl, rfl⟩
  · rw [a4, b4]; exact ⟨_, rfl, rfl⟩
  · rw [a4, B.c4]; exact ⟨_, rfl, rfl⟩
  · rw [a4, b4]; exact ⟨_, rfl, rfl⟩
  · rw [a4, b4, a3, b3, a0, b0]
    refine ⟨_, rfl, ?_⟩
    show F67 e m (na != nb) = can e m (some (f.write (.infinity (na ^^ nb))))
    rw [can_inf k, bne_xor]
  · rw [a4, B.c4, a3, B.c3, a0, B.c0]
    by_cases z : mb = 0
    · subst z
      exact ⟨_, rfl, rfl⟩
    · rw [decide_eq_false z]
      refine ⟨_, rfl, ?_⟩
      show F67 e m (na != nb) = can e m (Option.map f.write (if mb = 0 then none else some (.infinity (na ^^ nb))))
      rw [if_neg z, Option.map_some, can_inf k, bne_xor]
  · rw [A.c4, b4]; exact ⟨_, rfl, rfl⟩
  · rw [A.c4, b4, A.c3, b3, A.c0, b0]
    by_cases z : ma = 0
    · subst z
      exact ⟨_, rfl, rfl⟩
    · rw [decide_eq_false z]
      refine ⟨_, rfl, ?_⟩
      show F67 e m (na != nb) = can e m (Option.map f.write (if ma = 0 then none else some (.infinity (nb ^^ na))))
      rw [if_neg z, Option.map_some, can_inf k, bne_xor, Bool.xor_comm]
  · rw [A.c4, B.c4, A.c3, B.c3, A.c0, B.c0]
    have n1 := A.bn
    have n2 := B.bn
    have d1 := A.bd
    have d2 := B.bd
    have b1 := blen_mul an bn
    have b2 := blen_mul ad bd
    have hd : ad * bd ≠ 0 := Nat.mul_ne_zero (by have := A.d0; omega) (by have := B.d0; omega)
    have hR : (Ieee.Datum.product (.number na ma pa) (.number nb mb pb)).map f.write = some (f.write (.number (na ^^ nb) (ma * mb) (pa + pb))) := rfl
    rw [hR]
    simp only [cond_false, Bool.or_self, Bool.false_and, Bool.and_false]
    rw [bt (limand (by omega) (by omega)), bt (limand (by omega) (by omega))]
    by_cases z : ma * mb = 0
    · have z2 : an * bn = 0 := by
        rcases Nat.mul_eq_zero.1 z with g | g
        · rw [A.n0.2 g, Nat.zero_mul]
        · rw [B.n0.2 g, Nat.mul_zero]
      rw [z2, F136_zero k.fm hd (by omega), z]
      refine ⟨_, rfl, ?_⟩
      rw [can_zero k, bne_xor]
    · have z2 : an * bn ≠ 0 := by
        refine Nat.mul_ne_zero (fun g => z ?_) (fun g => z ?_)
        · rw [A.n0.1 g, Nat.zero_mul]
        · rw [B.n0.1 g, Nat.mul_zero]
      rw [F136_RQ k.fm z2 hd (by omega) (by omega)]
      refine ⟨_, rfl, ?_⟩
      rw [can_num k hm z, bne_xor]
      show (RQ e m mode (na ^^ nb) _ _).1 = _
      refine congrArg Prod.fst (RQ_cross z2 hd (pne _) ?_)
      have hA := A.v
      have hB := B.v
      have hp := pow_int_add pa pb
      refine Nat.mul_right_cancel (Nat.mul_pos (pow_pos2 (-pa).toNat) (pow_pos2 (-pb).toNat)) ?_
      generalize 2 ^ pa.toNat = p1 at *
      generalize 2 ^ pb.toNat = p2 at *
      generalize 2 ^ (-pa).toNat = p3 at *
      generalize 2 ^ (-pb).toNat = p4 at *
      generalize 2 ^ (pa + pb).toNat = p5 at *
      generalize 2 ^ (-(pa + pb)).toNat = p6 at *
      calc an * bn * p6 * (p3 * p4) = (an * p3) * (bn * p4) * p6 := by grind
        _ = (ma * p1 * ad) * (mb * p2 * bd) * p6 := by rw [hA, hB]
        _ = ma * mb * (ad * bd) * (p1 * p2 * p6) := by grind
        _ = ma * mb * (ad * bd) * (p3 * p4 * p5) := by rw [hp]
        _ = ma * mb * p5 * (ad * bd) * (p3 * p4) := by grind
end
end Go.Proofs.YfwaawGreat
