/-
  soft = exact: the square root.
-/
import Derived.Test.YfwaawGreatA5
namespace Go.Proofs.YfwaawGreat
open Go.Aw
set_option linter.unusedVariables false
set_option linter.unusedSimpArgs false
section
variable {e m mode : BitVec 8} {neg : Bool}
variable {a b c : BitVec 64} {na nb nc : Bool} {ca cb cc ea eb ec : Int} {ma mb mc : BitVec 64} {pa pb pc : Nat}

theorem sq_lt {num den : Nat} (hn : num ≠ 0) (hd : den ≠ 0) (j : Nat) (d : Int) (h : lg num den - 2 * d < 2 * j) : sq num den d < 2 ^ j := by
  have h1 := fq_lt (by omega) (lg_spec hn hd) (2 * j) (2 * d) (by omega)
  have h2 := isq_le (fq num den (2 * d))
  unfold sq
  generalize isq (fq num den (2 * d)) = r at *
  rcases Nat.lt_or_ge r (2 ^ j) with c | c
  · exact c
  · have := Nat.mul_le_mul c c
    rw [← Nat.pow_add, show j + j = 2 * j from by omega] at this
    omega
theorem sq_ge {num den : Nat} (hn : num ≠ 0) (hd : den ≠ 0) (j : Nat) (d : Int) (h : 2 * j ≤ lg num den - 2 * d) : 2 ^ j ≤ sq num den d := by
  have h1 := fq_ge (by omega) (lg_spec hn hd) (2 * j) (2 * d) (by omega)
  refine le_isq ?_
  rw [← Nat.pow_add, show j + j = 2 * j from by omega]
  exact h1

theorem pk_tiny {X : Nat} {i t t' : Bool} (h : t = t') : some (pk e m mode neg X i t) = some (pk e m mode neg X i t') := by rw [h]
theorem sqrt_exact {N : Nat} (h : Fm e m) (f : FinP e m a na ca ea ma pa) {x2 : BitVec 64} {x3 vn : Bool} :
    F132_5 N e m mode x2 x3 ca vn (ma.toNat * 2 ^ ea.toNat) (2 ^ (-ea).toNat) false = some (RS e m mode false (lg (ma.toNat * 2 ^ ea.toNat) (2 ^ (-ea).toNat) / 2) (sq (ma.toNat * 2 ^ ea.toNat) (2 ^ (-ea).toNat)) (se (ma.toNat * 2 ^ ea.toNat) (2 ^ (-ea).toNat))) := by
  have h4 := h.m52
  have hb := bia_le h.e11
  have hbg := bia_ge h.e2
  have r1 := f.range h
  have n1 := f.bnum h
  have d1 := f.bden h
  have hxl := f.exl
  have hxh := f.exh
  have hnn := f.nne
  have hdd := pne (-ea).toNat
  have hbm : blen ma.toNat = m.toNat + 1 := by
    have u1 : blen ma.toNat ≤ m.toNat + 1 := blen_le_iff.2 f.hi
    have u2 : ¬ blen ma.toNat ≤ m.toNat := fun k => by have := blen_le_iff.1 k; have := f.lo; omega
    omega
  have hlg : lg (ma.toNat * 2 ^ ea.toNat) (2 ^ (-ea).toNat) = m.toNat + ea := by rw [lg_pow f.ne, hbm]; omega
  unfold F132_5
  simp only [lt]
  rw [bf rfl, F246_ok h, F247_ok h]
  have w1 : w64 (2 * (1 - (bia e.toNat : Int))) = 2 * (1 - bia e.toNat) := w64_id (by omega)
  have w2 : w64 (2 * (1 - (bia e.toNat : Int)) - 200) = 2 * (1 - bia e.toNat) - 200 := w64_id (by omega)
  have w3 : w64 (2 * (bia e.toNat : Int)) = 2 * bia e.toNat := w64_id (by omega)
  rw [w1, w2, w3]
  obtain ⟨r, real, q1, q2, q3⟩ := F207_ok (N := N) (num := ma.toNat * 2 ^ ea.toNat) (den := 2 ^ (-ea).toNat) (lo := 2 * (1 - (bia e.toNat : Int)) - 200) (hi := 2 * (bia e.toNat : Int)) hnn hdd (by omega) (by omega) (by omega) (by omega) (by omega)
  have hre := q2.eq hdd
  have hrr : r = m.toNat + ea := by omega
  rw [q1]
  simp only [Option.bind_some, F132_6, F132_7, lt]
  rw [F246_ok h, hrr, hlg, show ((2 : Int) ^ 1) = 2 from rfl]
  generalize ma.toNat * 2 ^ ea.toNat = num at *
  generalize 2 ^ (-ea).toNat = den at *
  obtain ⟨x, hx⟩ : ∃ x : Int, x = ((m.toNat : Int) + ea) / 2 := ⟨_, rfl⟩
  rw [← hx, RS_pk, if_neg (by omega)]
  obtain ⟨y, hy⟩ : ∃ y : Int, y = max x (1 - (bia e.toNat : Int)) := ⟨_, rfl⟩
  rw [← hy]
  obtain ⟨half, k1⟩ := F248_ok (N := N) (mode := mode) (v0 := vn) h hnn hdd n1 d1 (x := y) (by omega)
  rw [k1]
  simp only [Option.bind_some, F132_8, F132_9, lt]
  rw [F246_ok h]
  have hφ : sq num den (y - m.toNat - 1) < 2 ^ (m.toNat + 2) := sq_lt hnn hdd _ _ (by omega)
  have hrn := rn_bound (mode := mode) (neg := false) (s := se num den (y - m.toNat - 1)) hφ
  have hpl : 2 ^ (m.toNat + 1) ≤ 2 ^ 53 := pow_le (by omega)
  have hbrn : blen (rn mode false (sq num den (y - m.toNat - 1)) (se num den (y - m.toNat - 1))) ≤ 100 := by
    have := blen_mono hrn
    have h5 : blen (2 ^ (m.toNat + 1)) ≤ m.toNat + 2 := blen_le_iff.2 (pow_lt (by omega))
    omega
  have hfin : ∀ tiny, F132_10 N e m mode y (rn mode false (sq num den (y - m.toNat - 1)) (se num den (y - m.toNat - 1))) half (decide (sq num den (y - m.toNat - 1) % 2 = 1) || se num den (y - m.toNat - 1)) tiny =
      some (pk e m mode false ((y - (1 - bia e.toNat)).toNat * 2 ^ m.toNat + rn mode false (sq num den (y - m.toNat - 1)) (se num den (y - m.toNat - 1))) (decide (sq num den (y - m.toNat - 1) % 2 = 1) || se num den (y - m.toNat - 1)) tiny) := by
    intro tiny
    unfold F132_10
    simp only [lt]
    rw [bt (lim_blen (by omega)), F249_ok h (by omega) hrn]
  have w4 : w64 (1 - (bia e.toNat : Int) - 1) = 1 - bia e.toNat - 1 := w64_id (by omega)
  rw [w4]
  unfold F132_11
  by_cases c : x = 1 - (bia e.toNat : Int) - 1
  · rw [bt (by simpa using c)]
    obtain ⟨half2, k2⟩ := F248_ok (N := N) (mode := mode) (v0 := vn) h hnn hdd n1 d1 (x := x) (by omega)
    rw [k2]
    simp only [Option.bind_some, F132_12]
    have hφ2 : sq num den (x - m.toNat - 1) < 2 ^ (m.toNat + 2) := sq_lt hnn hdd _ _ (by omega)
    have hφ3 : 2 ^ (m.toNat + 1) ≤ sq num den (x - m.toNat - 1) := sq_ge hnn hdd _ _ (by omega)
    have hrn2 := rn_bound (mode := mode) (neg := false) (s := se num den (x - m.toNat - 1)) hφ2
    have hge : 2 ^ m.toNat ≤ rn mode false (sq num den (x - m.toNat - 1)) (se num den (x - m.toNat - 1)) := by
      rw [Nat.pow_succ] at hφ3
      unfold rn; omega
    generalize rn mode false (sq num den (x - m.toNat - 1)) (se num den (x - m.toNat - 1)) = n2 at *
    have hbn2 : blen n2 ≤ 100 := by
      have := blen_mono hrn2
      have h5 : blen (2 ^ (m.toNat + 1)) ≤ m.toNat + 2 := blen_le_iff.2 (pow_lt (by omega))
      omega
    have w5 : w64 (m.toNat : Int) = m.toNat := w64_id (by omega)
    have w6 : w64 ((m.toNat : Int) + 1) = m.toNat + 1 := w64_id (by omega)
    rw [bt (lim_blen (by omega)), w5, w6, hfin]
    refine pk_tiny ?_
    have hbl : blen n2 = m.toNat + 1 ↔ n2 < 2 ^ (m.toNat + 1) := by
      constructor
      · intro k; have := blen_lt n2; rw [k] at this; exact this
      · intro k
        have u1 : blen n2 ≤ m.toNat + 1 := blen_le_iff.2 k
        have u2 := blen_ge hge
        omega
    have e1 : ((blen n2 : Int) == (m.toNat : Int) + 1) = decide (n2 < 2 ^ (m.toNat + 1)) := by
      by_cases k : n2 < 2 ^ (m.toNat + 1)
      · rw [decide_eq_true k, hbl.2 k]; simp
      · rw [decide_eq_false k]
        have : blen n2 ≠ m.toNat + 1 := fun q => k (hbl.1 q)
        simp; omega
    rw [e1]
    refine decide_eq_decide.2 ?_
    constructor
    · intro k; exact ⟨by omega, fun _ => k⟩
    · intro k; exact k.2 c
  · rw [bf (by simpa using c), hfin]
    refine pk_tiny ?_
    refine decide_eq_decide.2 ?_
    omega

theorem sqrt_eq (h : Fm e m) (a : BitVec 64) {N : Nat} (hN : 17 ≤ N) : Bo (F152 N e m mode a) (F132 N e m mode a) := by
  unfold F152 F152_1 F132 F132_1
  simp only [lt]
  rw [h.ok, Bool.not_true, bf rfl, bf rfl]
  obtain ⟨na, ca, ea, ma, ba, ga, va, an, ad, ha, ha', alta⟩ := opd h a
  rw [ha, ha']
  simp only [Option.bind_some, F152_2, F152_3, F152_4, F152_5, F132_2, F132_3, F132_4, lt]
  rcases alta with ⟨a4, a3, a0⟩ | ⟨a4, a3, a0, rfl, rfl⟩ | ⟨a4, a3, a0, rfl, rfl, rfl, rfl, rfl, rfl, rfl⟩ | ⟨a4, a3, a0, rfl, rfl, rfl, rfl, rfl, pa, fa⟩ <;>
  simp only [a4, a3, a0, klit, cond_true, cond_false]
  case inr.inr.inr =>
    cases na with
    | true => exact ⟨_, rfl, rfl⟩
    | false =>
      simp only [cond_false]
      rw [sqrt_soft hN h fa, sqrt_exact h fa]
      exact ⟨_, rfl, rfl⟩
  case inr.inl => cases na <;> exact ⟨_, rfl, rfl⟩
  all_goals exact ⟨_, rfl, rfl⟩
end
end Go.Proofs.YfwaawGreat
