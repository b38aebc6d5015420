/-
  The model's sum is exact's.
-/
import Derived.Test.YfwaawGreatI3
namespace Go.Proofs.YfwaawGreat
open Go.Aw
set_option linter.unusedVariables false
set_option linter.unusedSimpArgs false

section
variable {e m mode : BitVec 8} {f : Ieee.Format} {neg : Bool} {x : BitVec 64} {N : Nat}
theorem ne_false (hm : NE mode) : (mode == 4#8) = false := hm.d
theorem can_sum (k : Kd e m f) (hm : NE mode) {s t : Bool} {ma mb : Nat} {i j : Int} {L : Nat} (hi : -(L : Int) ≤ i) (hj : -(L : Int) ≤ j) :
    can e m ((Ieee.Datum.sum (.number s ma i) (.number t mb j)).map f.write) = if ma = 0 ∧ mb = 0 then F251 e m (s && t) else (SM e m mode s (ma * 2 ^ (i + L).toNat) t (mb * 2 ^ (j + L).toNat) L).1 := by
  obtain ⟨base, hbase⟩ : ∃ base, base = min i j := ⟨_, rfl⟩
  obtain ⟨A, hA⟩ : ∃ A, A = ma * 2 ^ (i - base).toNat := ⟨_, rfl⟩
  obtain ⟨B, hB⟩ : ∃ B, B = mb * 2 ^ (j - base).toNat := ⟨_, rfl⟩
  obtain ⟨U, hU⟩ : ∃ U, U = 2 ^ (base + L).toNat := ⟨_, rfl⟩
  have hUp : 0 < U := by rw [hU]; exact pow_pos2 _
  have hVA : ma * 2 ^ (i + L).toNat = A * U := by
    rw [hA, hU, Nat.mul_assoc, ← Nat.pow_add]; exact congrArg (fun t => ma * 2 ^ t) (by omega)
  have hVB : mb * 2 ^ (j + L).toNat = B * U := by
    rw [hB, hU, Nat.mul_assoc, ← Nat.pow_add]; exact congrArg (fun t => mb * 2 ^ t) (by omega)
  have hA0 : A = 0 ↔ ma = 0 := by
    rw [hA]
    constructor
    · intro h
      rcases Nat.mul_eq_zero.1 h with z | z
      · exact z
      · have := pow_pos2 (i - base).toNat; omega
    · intro h; rw [h, Nat.zero_mul]
  have hB0 : B = 0 ↔ mb = 0 := by
    rw [hB]
    constructor
    · intro h
      rcases Nat.mul_eq_zero.1 h with z | z
      · exact z
      · have := pow_pos2 (j - base).toNat; omega
    · intro h; rw [h, Nat.zero_mul]
  have hnum : ∀ (ng : Bool) (V : Nat), V ≠ 0 → can e m (some (f.write (.number ng V base))) = (RQ e m mode ng (V * U) (2 ^ L)).1 := by
    intro ng V hV
    rw [can_num k hm hV, RQ_L (L := L) hV (by omega), hU]
  have htot : ∀ (total : Int) (st : Bool), can e m (some (f.write (.number (if total = 0 then st else decide (total < 0)) total.natAbs base))) = if total = 0 then F251 e m st else (RQ e m mode (decide (total < 0)) (total.natAbs * U) (2 ^ L)).1 := by
    intro total st
    by_cases c : total = 0
    · rw [if_pos c, if_pos c, c]
      exact can_zero k _
    · rw [if_neg c, if_neg c]
      exact hnum _ _ (by omega)
  have hsum : Ieee.Datum.sum (.number s ma i) (.number t mb j) = some (.number (if (Ieee.signed s ma (i - base).toNat + Ieee.signed t mb (j - base).toNat) = 0 then s && t else decide ((Ieee.signed s ma (i - base).toNat + Ieee.signed t mb (j - base).toNat) < 0)) (Ieee.signed s ma (i - base).toNat + Ieee.signed t mb (j - base).toNat).natAbs base) := by
    rw [hbase]; rfl
  rw [hsum, Option.map_some, htot]
  have hf : ∀ (q : Nat) (u : Int), Ieee.signed false q u.toNat = ((q * 2 ^ u.toNat : Nat) : Int) := fun q u => by
    unfold Ieee.signed; rw [if_neg (by decide), Nat.shiftLeft_eq]
  have ht : ∀ (q : Nat) (u : Int), Ieee.signed true q u.toNat = -((q * 2 ^ u.toNat : Nat) : Int) := fun q u => by
    unfold Ieee.signed; rw [if_pos rfl, Nat.shiftLeft_eq]
  have hcz : (ma = 0 ∧ mb = 0) ↔ (A = 0 ∧ B = 0) := by rw [hA0, hB0]
  rw [hVA, hVB]
  clear hsum hVA hVB hi hj htot hnum
  unfold SM
  rw [hm.d]
  have hsame : ∀ g : Bool, (if ma = 0 ∧ mb = 0 then F251 e m (g && g) else (if g = g then RQ e m mode g (A * U + B * U) (2 ^ L) else if A * U = B * U then (F251 e m false, 0#8) else if B * U < A * U then RQ e m mode g (A * U - B * U) (2 ^ L) else RQ e m mode g (B * U - A * U) (2 ^ L)).1) = if A + B = 0 then F251 e m g else (RQ e m mode g ((A + B) * U) (2 ^ L)).1 := by
    intro g
    rw [if_pos (rfl : g = g), Bool.and_self, Nat.add_mul]
    by_cases z : A + B = 0
    · rw [if_pos z, if_pos (hcz.2 (by omega))]
    · rw [if_neg z, if_neg (fun q => z (by have := hcz.1 q; omega))]
  have hdiff : ∀ g g' : Bool, g ≠ g' → (if ma = 0 ∧ mb = 0 then F251 e m (g && g') else (if g = g' then RQ e m mode g (A * U + B * U) (2 ^ L) else if A * U = B * U then (F251 e m false, 0#8) else if B * U < A * U then RQ e m mode g (A * U - B * U) (2 ^ L) else RQ e m mode g' (B * U - A * U) (2 ^ L)).1) = if A = B then F251 e m false else if B < A then (RQ e m mode g ((A - B) * U) (2 ^ L)).1 else (RQ e m mode g' ((B - A) * U) (2 ^ L)).1 := by
    intro g g' hg
    rw [if_neg hg, show (g && g') = false by cases g <;> cases g' <;> first | rfl | exact (hg rfl).elim]
    by_cases z : A = B
    · rw [if_pos z, if_pos (show A * U = B * U by rw [z])]
      split <;> rfl
    · rw [if_neg z, if_neg (fun q => z (by have := hcz.1 q; omega)), if_neg (fun q => z (Nat.mul_right_cancel hUp q))]
      by_cases z2 : B < A
      · rw [if_pos z2, if_pos (Nat.mul_lt_mul_of_pos_right z2 hUp), Nat.sub_mul]
      · rw [if_neg z2, if_neg (fun q => z2 (Nat.lt_of_mul_lt_mul_right q)), Nat.sub_mul]
  cases s <;> cases t
  · rw [hsame, hf, hf, ← hA, ← hB]
    by_cases z : A + B = 0
    · rw [if_pos z, if_pos (by omega)]; rfl
    · rw [if_neg z, if_neg (by omega), decide_eq_false (by omega), show ((A : Int) + (B : Int)).natAbs = A + B by omega]
  · rw [hdiff _ _ (by decide), hf, ht, ← hA, ← hB]
    rcases Nat.lt_trichotomy A B with c | c | c
    · rw [if_neg (by omega), if_neg (by omega), if_neg (by omega), decide_eq_true (by omega), show ((A : Int) + -(B : Int)).natAbs = B - A by omega]
    · rw [if_pos (by omega), if_pos c]; rfl
    · rw [if_neg (by omega), if_neg (by omega), if_pos c, decide_eq_false (by omega), show ((A : Int) + -(B : Int)).natAbs = A - B by omega]
  · rw [hdiff _ _ (by decide), ht, hf, ← hA, ← hB]
    rcases Nat.lt_trichotomy A B with c | c | c
    · rw [if_neg (by omega), if_neg (by omega), if_neg (by omega), decide_eq_false (by omega), show (-(A : Int) + (B : Int)).natAbs = B - A by omega]
    · rw [if_pos (by omega), if_pos c]; rfl
    · rw [if_neg (by omega), if_neg (by omega), if_pos c, decide_eq_true (by omega), show (-(A : Int) + (B : Int)).natAbs = A - B by omega]
  · rw [hsame, ht, ht, ← hA, ← hB]
    by_cases z : A + B = 0
    · rw [if_pos z, if_pos (by omega)]; rfl
    · rw [if_neg z, if_neg (by omega), decide_eq_true (by omega), show (-(A : Int) + -(B : Int)).natAbs = A + B by omega]
/-- The sum of two numbers, by exact. -/
theorem ex_num (k : Kd e m f) (hm : NE mode) {na nb : Bool} {an ad bn bd ma mb : Nat} {pa pb : Int} {L : Nat} (hA : an * 2 ^ L = ma * 2 ^ (pa + L).toNat * ad) (hB : bn * 2 ^ L = mb * 2 ^ (pb + L).toNat * bd) (had : 0 < ad) (hbd : 0 < bd)
    (hi : -(L : Int) ≤ pa) (hj : -(L : Int) ≤ pb) (b1 : blen an ≤ 100000) (b2 : blen ad ≤ 100000) (b3 : blen bn ≤ 100000) (b4 : blen bd ≤ 100000) (za : an = 0 ↔ ma = 0) (zb : bn = 0 ↔ mb = 0)
    (Z : BitVec 64 × BitVec 8) (hZ1 : na = nb → Z.1 = F251 e m na) (hZ2 : na ≠ nb → Z = (F251 e m (mode == 4#8), 0#8)) :
    ∃ z, ((F146 N na an ad nb bn bd).bind fun y => bif y.2.1 == 0 then some Z else (F136 N e m mode y.1 y.2.1 y.2.2).bind fun z => some (z.1, z.2)) = some z ∧ z.1 = can e m ((Ieee.Datum.sum (.number na ma pa) (.number nb mb pb)).map f.write) := by
  have pl := pow_pos2 (pa + L).toNat
  have ql := pow_pos2 (pb + L).toNat
  by_cases c : ma = 0 ∧ mb = 0
  · rw [za.2 c.1, zb.2 c.2]
    refine ⟨_, ex_zero k.fm Z had hbd b2 b4, ?_⟩
    rw [can_sum k hm hi hj, if_pos c]
    by_cases g : na = nb
    · rw [hZ1 g, g, Bool.and_self]
    · rw [hZ2 g, hm.d]
      cases na <;> cases nb <;> first | rfl | exact (g rfl).elim
  · have hne : ma * 2 ^ (pa + L).toNat ≠ 0 ∨ mb * 2 ^ (pb + L).toNat ≠ 0 := by
      by_cases g : ma = 0
      · right; exact Nat.mul_ne_zero (fun z => c ⟨g, z⟩) (by omega)
      · left; exact Nat.mul_ne_zero g (by omega)
    refine ⟨_, ex_sum (N := N) k.fm Z hA hB had hbd b1 b2 b3 b4 hne (fun _ g => hZ2 g), ?_⟩
    rw [can_sum k hm hi hj, if_neg c]
theorem nadd (k : Kd e m f) (hm : NE mode) (a b : BitVec 64) : ∃ z, F192 N e m mode a b = some z ∧ z.1 = can e m (f.add (wd e m a) (wd e m b)) := by
  unfold F192 F192_1
  simp only [lt]
  rw [k.fm.ok, Bool.not_true, bf rfl]
  unfold Ieee.Format.add
  obtain ⟨na, ca, ba, ga, va, an, ad, ha', alta⟩ := k.opd a
  obtain ⟨nb, cb, bb, gb, vb, bn, bd, hb', altb⟩ := k.opd b
  rw [ha', hb']
  simp only [Option.bind_some, F192_2, F192_3, F192_4, F192_5, F192_6, F192_7, F192_8, F192_9, lt]
  rcases alta with ⟨a4, a3, a0, s, t, ra⟩ | ⟨a4, a3, a0, rfl, rfl, ra⟩ | ⟨rfl, rfl, ma, pa, ra, A⟩ <;>
  rcases altb with ⟨b4, b3, b0, s', t', rb⟩ | ⟨b4, b3, b0, rfl, rfl, rb⟩ | ⟨rfl, rfl, mb, pb, rb, B⟩ <;> rw [ra, rb]
  · rw [a4, b4]; exact ⟨_, rfl, rfl⟩
  · rw [a4, b4]; exact ⟨_, rfl, rfl⟩
  · rw [a4, B.c4]; exact ⟨_, rfl, rfl⟩
  · rw [a4, b4]; exact ⟨_, rfl, rfl⟩
  · rw [a4, b4, a3, b3]
    cases na <;> cases nb
    · exact ⟨_, rfl, (can_inf k).symm⟩
    · exact ⟨_, rfl, rfl⟩
    · exact ⟨_, rfl, rfl⟩
    · exact ⟨_, rfl, (can_inf k).symm⟩
  · rw [a4, B.c4, a3, B.c3]
    exact ⟨_, rfl, (can_inf k).symm⟩
  · rw [A.c4, b4]; exact ⟨_, rfl, rfl⟩
  · rw [A.c4, b4, A.c3, b3]
    exact ⟨_, rfl, (can_inf k).symm⟩
  · rw [A.c4, B.c4, A.c3, B.c3]
    obtain ⟨L, hL⟩ : ∃ L : Nat, L = 12000 := ⟨_, rfl⟩
    have n1 := A.bn
    have n2 := B.bn
    have d1 := A.bd
    have d2 := B.bd
    have p1 := A.pl
    have p2 := B.pl
    obtain ⟨z, hz, hz1⟩ := ex_num (N := N) (na := na) (nb := nb) k hm (A.units (L := L) (by omega)) (B.units (L := L) (by omega)) A.d0 B.d0 (by omega) (by omega) (by omega) (by omega) (by omega) (by omega) A.n0 B.n0
      (bif na == nb then (F251 e m na, 0#8) else (F251 e m (mode == 4#8), 0#8)) (fun g => by rw [bt (by rw [beq_iff_eq]; exact g)]) (fun g => by rw [bf (by rw [beq_eq_false_iff_ne]; exact g)])
    refine ⟨z, ?_, hz1⟩
    simp only [Bool.or_self, Bool.and_self, Bool.false_and, cond_false]
    rw [← hz]
    refine bindc fun y => ?_
    cases y.2.1 == 0 <;> cases na == nb <;> rfl
theorem wd_lt (h : Fm e m) (x : BitVec 64) : wd e m x < 2 ^ (e.toNat + m.toNat + 1) := by
  unfold wd
  rw [BitVec.toNat_and, F69_ok h, Nat.and_two_pow_sub_one_eq_mod]
  exact Nat.mod_lt _ (pow_pos2 _)
theorem wd_xor (h : Fm e m) (x : BitVec 64) : wd e m (x ^^^ F70 e m) = wd e m x ^^^ 2 ^ (e.toNat + m.toNat) := by
  unfold wd
  rw [BitVec.toNat_and, BitVec.toNat_and, F69_ok h, Nat.and_two_pow_sub_one_eq_mod, Nat.and_two_pow_sub_one_eq_mod, BitVec.toNat_xor, F70_ok h, Nat.xor_mod_two_pow]
  rw [Nat.mod_eq_of_lt (a := 2 ^ (e.toNat + m.toNat)) (pow_lt (by omega))]
/-- Any word's rung and sign. -/
theorem wd_parts (h : Fm e m) (x : BitVec 64) : ∃ P s, P < 2 ^ (e.toNat + m.toNat) ∧ wd e m x = P + sgn e.toNat m.toNat s := by
  have h1 := wd_lt h x
  rw [Nat.pow_succ] at h1
  rcases Nat.lt_or_ge (wd e m x) (2 ^ (e.toNat + m.toNat)) with c | c
  · exact ⟨wd e m x, false, c, rfl⟩
  · exact ⟨wd e m x - 2 ^ (e.toNat + m.toNat), true, by omega, by unfold sgn; rw [cond_true]; omega⟩
theorem opp_read (k : Kd e m f) {P : Nat} {s : Bool} (hP : P < 2 ^ (e.toNat + m.toNat)) : f.read (P + sgn e.toNat m.toNat (!s)) = (f.read (P + sgn e.toNat m.toNat s)).opposite := by
  rw [k.read hP, k.read hP]
  split
  · rfl
  · split
    · rfl
    · split
      · rfl
      · rfl
theorem xor_sgn {E M P : Nat} {s : Bool} (hP : P < 2 ^ (E + M)) : (P + sgn E M s) ^^^ 2 ^ (E + M) = P + sgn E M (!s) := by
  unfold sgn
  cases s
  · exact xor_top hP
  · exact xor_top2 hP
theorem nsub (k : Kd e m f) (hm : NE mode) (a b : BitVec 64) : ∃ z, F193 N e m mode a b = some z ∧ z.1 = can e m (f.sub (wd e m a) (wd e m b)) := by
  unfold F193
  simp only [lt]
  obtain ⟨z, h1, h2⟩ := nadd (N := N) k hm a (b ^^^ F70 e m)
  refine ⟨(z.1, z.2), by rw [h1, Option.bind_some], ?_⟩
  refine h2.trans ?_
  unfold Ieee.Format.add Ieee.Format.sub
  obtain ⟨P, s, hP, hw⟩ := wd_parts k.fm b
  rw [wd_xor k.fm, hw, xor_sgn hP, opp_read k hP]
end
end Go.Proofs.YfwaawGreat
