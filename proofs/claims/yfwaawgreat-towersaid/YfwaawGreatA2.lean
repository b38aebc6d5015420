/-
  soft = exact: quotient, rounding to whole numbers, logarithm.
-/
import Derived.Test.YfwaawGreatS2
import Derived.Test.YfwaawGreatW2
import Derived.Test.YfwaawGreatG14
import Derived.Test.YfwaawGreatG22
import Derived.Test.YfwaawGreatG46
import Derived.Test.YfwaawGreatG55
namespace Go.Proofs.YfwaawGreat
open Go.Aw
set_option linter.unusedVariables false
set_option linter.unusedSimpArgs false
section
variable {e m mode : BitVec 8} {neg : Bool}
variable {a b c : BitVec 64} {na nb nc : Bool} {ca cb cc ea eb ec : Int} {ma mb mc : BitVec 64} {pa pb pc : Nat}

/-! ### Quotient -/
theorem dvx {x y A B K A' B' K' U P : Nat} (h : A * B' * K' = P * (A' * B * K)) : x * A * B' * K' * (y * U) = x * U * P * (A' * (y * B) * K) := by
  have e1 : x * A * B' * K' * (y * U) = x * y * U * (A * B' * K') := by grind
  rw [e1, h]; grind
theorem div_round {N : Nat} (hN : 4 ≤ N) (h : Fm e m) (f : FinP e m a na ca ea ma pa) (g : FinP e m b nb cb eb mb pb) :
    F191_9 N e m mode nb cb eb mb neg (F260 e m na ca ea ma).1 (F260 e m na ca ea ma).2 = some (RQ e m mode neg (ma.toNat * 2 ^ ea.toNat * 2 ^ (-eb).toNat) (2 ^ (-ea).toNat * (mb.toNat * 2 ^ eb.toNat))) := by
  have h4 := h.m52
  obtain ⟨s1, s2⟩ := F260_ok h f
  obtain ⟨t1, t2⟩ := F260_ok h g
  have l1 := top_lo h f
  have l2 := top_lo h g
  have r1 := f.range h
  have r2 := g.range h
  unfold F191_9 F191_10
  simp only [lt]
  rw [s2, t2]
  generalize (F260 e m na ca ea ma).1 = x at *
  generalize (F260 e m nb cb eb mb).1 = y at *
  have hx := x.isLt
  have hy := y.isLt
  rw [← s1] at l1
  rw [← t1] at l2
  have p63 : (2 : Nat) ^ 63 = 9223372036854775808 := rfl
  have hv : v2 (x >>> 1) (x <<< 63) = x.toNat * 9223372036854775808 := by
    unfold v2
    rw [shr_nat, BitVec.toNat_shiftLeft, Nat.shiftLeft_eq, p64, p63]
    omega
  have hlt : (x >>> 1).toNat < y.toNat := by rw [shr_nat]; omega
  obtain ⟨q, r, g1, g2, g3⟩ := F280_ok hN (l := x <<< 63) hlt
  rw [hv] at g2 g3
  rw [g1]
  simp only [Option.bind_some, F191_11, F191_13, F191_12]
  obtain ⟨k, hk⟩ : ∃ k : Int, k = ea - eb - 63 := ⟨_, rfl⟩
  have w1 : w16 (ea - ((63 - m.toNat : Nat) : Int) - (eb - ((63 - m.toNat : Nat) : Int))) = ea - eb := by rw [w16_id (by omega)]; omega
  have w2 : w16 (ea - eb - 63) = k := by rw [hk]; exact w16_id (by omega)
  rw [w1, w2]
  -- the fraction in units of 2^k
  have hden : 2 ^ (-ea).toNat * (mb.toNat * 2 ^ eb.toNat) ≠ 0 := Nat.mul_ne_zero (pne _) g.nne
  have hnum : ma.toNat * 2 ^ ea.toNat * 2 ^ (-eb).toNat ≠ 0 := Nat.mul_ne_zero f.nne (pne _)
  have hyp : 0 < y.toNat := by omega
  have hc := div_cross (a := ma.toNat * 2 ^ ea.toNat * 2 ^ (-eb).toNat * 2 ^ (-k).toNat) (b := 2 ^ (-ea).toNat * (mb.toNat * 2 ^ eb.toNat) * 2 ^ k.toNat) (c := x.toNat * 9223372036854775808) (d := y.toNat) (Nat.mul_pos (by omega) (pow_pos2 _)) hyp (by
    rw [s1, t1, ← p63]
    have : 2 ^ ea.toNat * 2 ^ (-eb).toNat * 2 ^ (-k).toNat = 2 ^ 63 * (2 ^ (-ea).toNat * 2 ^ eb.toNat * 2 ^ k.toNat) := by
      simp only [← Nat.pow_add]
      exact congrArg (fun t => 2 ^ t) (by omega)
    exact dvx this)
  have hq : fq (ma.toNat * 2 ^ ea.toNat * 2 ^ (-eb).toNat) (2 ^ (-ea).toNat * (mb.toNat * 2 ^ eb.toNat)) k = q.toNat := by rw [g2]; exact hc.1
  have he : eq (ma.toNat * 2 ^ ea.toNat * 2 ^ (-eb).toNat) (2 ^ (-ea).toNat * (mb.toNat * 2 ^ eb.toNat)) k = decide (r.toNat ≠ 0) := by
    rw [g3]; exact decide_eq_decide.2 (not_congr hc.2)
  have hq62 : 4611686018427387904 ≤ q.toNat := by
    rw [g2]
    refine (Nat.le_div_iff_mul_le hyp).2 ?_
    omega
  have hlg := lg_ge hnum hden (k := k) (j := 62) (by rw [hq]; exact hq62)
  rw [RQ_sticky (k := k) hnum hden (by omega), hq, he, ne_bv, show (0#64).toNat = 0 from rfl]
  by_cases hr : r.toNat = 0
  · rw [bf (by simpa using hr), decide_eq_false (by simpa using hr), F215_ok h (by omega) (by omega)]
    rfl
  · have ho : (q ||| 1#64).toNat = jm q.toNat true := by rw [or_one64]; rfl
    rw [bt (by simpa using hr), decide_eq_true (by simpa using hr), F215_ok h (by rw [ho]; exact jm_ne (by omega)) (by omega), ho]
    rfl

theorem div_eq (h : Fm e m) (a b : BitVec 64) {N : Nat} (hN : 4 ≤ N) : Bo (F191 N e m mode a b) (F195 N e m mode a b) := by
  unfold F191 F191_1 F195 F195_1
  simp only [lt]
  rw [h.ok, Bool.not_true, bf rfl, bf rfl]
  have z0 := bl0
  have z1 := bl1
  obtain ⟨na, ca, ea, ma, ba, ga, va, an, ad, ha, ha', alta⟩ := opd h a
  obtain ⟨nb, cb, eb, mb, bb, gb, vb, bn, bd, hb, hb', altb⟩ := opd h b
  rw [ha, hb, ha', hb']
  simp only [Option.bind_some, F191_2, F191_3, F191_4, F191_5, F191_6, F191_7, F191_8, F191_14, F195_2, F195_3, F195_4, F195_5, F195_6, F195_7, F195_8, F195_9, lt]
  rcases alta with ⟨a4, a3, a0⟩ | ⟨a4, a3, a0, rfl, rfl⟩ | ⟨a4, a3, a0, rfl, rfl, rfl, rfl, rfl, rfl, rfl⟩ | ⟨a4, a3, a0, rfl, rfl, rfl, rfl, rfl, pa, fa⟩ <;>
  rcases altb with ⟨b4, b3, b0⟩ | ⟨b4, b3, b0, rfl, rfl⟩ | ⟨b4, b3, b0, rfl, rfl, rfl, rfl, rfl, rfl, rfl⟩ | ⟨b4, b3, b0, rfl, rfl, rfl, rfl, rfl, pb, fb⟩ <;>
  simp only [a4, a3, a0, b4, b3, b0, klit, cond_true, cond_false]
  case inr.inr.inr.inr.inr.inr =>
    have n1 := fa.bnum h
    have n2 := fb.bnum h
    have d1 := fa.bden h
    have d2 := fb.bden h
    have b1 := blen_mul (ma.toNat * 2 ^ ea.toNat) (2 ^ (-eb).toNat)
    have b2 := blen_mul (2 ^ (-ea).toNat) (mb.toNat * 2 ^ eb.toNat)
    rw [div_round hN h fa fb, bt (limand (by omega) (by omega)), bt (limand (by omega) (by omega)), F136_RQ h (Nat.mul_ne_zero fa.nne (pne _)) (Nat.mul_ne_zero (pne _) fb.nne) (by omega) (by omega)]
    exact ⟨_, rfl, rfl⟩
  case inr.inr.inl.inr.inr.inr =>
    have n2 := fb.bnum h
    have d2 := fb.bden h
    have n3 := fb.nne
    rw [bt (limand (by omega) (by omega)), bt (limand (by omega) (by omega)), Nat.zero_mul, Nat.one_mul, F136_zero h n3 (by omega)]
    exact ⟨_, rfl, rfl⟩
  all_goals exact ⟨_, rfl, rfl⟩

/-! ### Whole numbers -/
/-- A finite number cut to a whole one. -/
theorem cut_whole {N : Nat} (mode : BitVec 8) (neg : Bool) (s : BitVec 64) {x : Int} (hx : -20000 < x ∧ x < 0) : ∃ n rest, F257 N s (w16 (0 - x)) = some (n, rest) ∧
    (bif F258 mode neg n rest then n + 1#64 else n).toNat = rn mode neg (2 * (s.toNat * 2 ^ x.toNat) / 2 ^ (-x).toNat) (decide (2 * (s.toNat * 2 ^ x.toNat) % 2 ^ (-x).toNat ≠ 0)) ∧
    (rest != 0#64) = decide (s.toNat * 2 ^ x.toNat % 2 ^ (-x).toNat ≠ 0) := by
  obtain ⟨j, hj⟩ : ∃ j : Nat, -x = ((j + 1 : Nat) : Int) := ⟨(-x - 1).toNat, by omega⟩
  have w1 : w16 (0 - x) = ((j + 1 : Nat) : Int) := by rw [w16_id (by omega)]; omega
  rw [w1, hj, Int.toNat_natCast, show x.toNat = 0 from by omega, Nat.pow_zero, Nat.mul_one]
  obtain ⟨n, rest, h1, h2, h3⟩ := F257_ok (N := N) s (j + 1) (by omega)
  have hf := F258_ok (mode := mode) (neg := neg) (pow_pos2 _) h2 h3
  refine ⟨n, rest, h1, ?_, ?_⟩
  · have hd := (half_div (a := s.toNat) (b := 2 ^ (j + 1)) (pow_pos2 _)).1
    have hl := s.isLt
    rw [hf]
    refine raise_rn ?_ ?_
    · rw [h2, hd]; split <;> omega
    · have ht := two_shift s.toNat j
      rw [ht.1]
      exact Nat.lt_of_le_of_lt (Nat.div_le_self _ _) hl
  · rw [ne_bv, show (0#64).toNat = 0 from rfl]
    exact decide_eq_decide.2 (not_congr h3.z)
theorem F245_one {N : Nat} {num : Nat} (hn : blen num ≤ 1000000) : F245 N mode neg num 1 = some (num, ncmp 0 1, false) := by
  rw [F245_ok (by decide) (by omega) (by decide), Nat.mod_one, Nat.mod_one, Nat.div_one, rn_exact (by omega) (by simp), show 2 * num / 2 = num from by omega]
  rfl

theorem roundInt_eq (h : Fm e m) (a : BitVec 64) {N : Nat} : Bo (F174 N e m mode a) (F182 N e m mode a) := by
  unfold F174 F174_1 F182 F182_1
  simp only [lt]
  rw [h.ok, Bool.not_true, bf rfl, bf rfl]
  have z0 := bl0
  obtain ⟨na, ca, ea, ma, ba, ga, va, an, ad, ha, ha', alta⟩ := opd h a
  rw [ha, ha']
  simp only [Option.bind_some, F174_2, F174_3, F174_4, F174_5, F182_2, F182_3, F182_4, lt]
  rcases alta with ⟨a4, a3, a0⟩ | ⟨a4, a3, a0, rfl, rfl⟩ | ⟨a4, a3, a0, rfl, rfl, rfl, rfl, rfl, rfl, rfl⟩ | ⟨a4, a3, a0, rfl, rfl, rfl, rfl, rfl, pa, fa⟩ <;>
  simp only [a4, a3, a0, klit, cond_true, cond_false]
  case inr.inr.inl =>
    rw [F245_one (by omega)]
    simp only [Option.bind_some, F182_5, F129, lt]
    rw [F136_zero h (by decide) (by decide), F215_zero]
    exact ⟨_, rfl, rfl⟩
  case inr.inr.inr =>
    have r1 := fa.range h
    have n1 := fa.bnum h
    have d1 := fa.bden h
    by_cases hx : 0 ≤ ea
    · rw [bt (by simpa using hx), (round_eq h fa h).1, show (-ea).toNat = 0 from by omega, Nat.pow_zero, F245_one (by omega)]
      simp only [Option.bind_some, F182_5, F129, lt]
      rw [show (1#64).toNat = 1 from rfl, F136_RQ h fa.nne (by decide) (by omega) (by decide)]
      exact ⟨_, rfl, rfl⟩
    · rw [bf (by simpa using hx)]
      obtain ⟨n, rest, c1, c2, c3⟩ := cut_whole (N := N) mode na ma (x := ea) (by omega)
      rw [c1, F245_ok (pow_pos2 _) (by omega) (by omega), ← c2]
      simp only [Option.bind_some, F182_5, F129, F174_6, F174_11, lt]
      have c4 : (ma.toNat * 2 ^ ea.toNat % 2 ^ (-ea).toNat != 0) = (rest != 0#64) := by
        rw [c3]
        by_cases k : ma.toNat * 2 ^ ea.toNat % 2 ^ (-ea).toNat = 0
        · simp [k]
        · simp [k]
      rw [c4]
      have fin : ∀ n' : BitVec 64, Bo (F174_7 N e m mode na ca ea ma rest n') ((F136 N e m mode na n'.toNat (1#64).toNat).bind fun y17 => F182_6 N (ncmp (ma.toNat * 2 ^ ea.toNat % 2 ^ (-ea).toNat * 2) (2 ^ (-ea).toNat)) (rest != 0#64) y17.1 y17.2) := by
        intro n'
        obtain ⟨r, w1, w2⟩ := whole_eq (mode := mode) (neg := na) h n' (N := N)
        unfold F174_7 F174_8 F174_10 F174_9 F182_6 F182_7
        rw [w1, show (1#64).toNat = 1 from rfl, w2]
        simp only [Option.bind_some]
        cases rest != 0#64 <;> exact ⟨_, rfl, rfl⟩
      cases F258 mode na n rest
      · exact fin n
      · exact fin (n + 1#64)
  all_goals exact ⟨_, rfl, rfl⟩
end
end Go.Proofs.YfwaawGreat
