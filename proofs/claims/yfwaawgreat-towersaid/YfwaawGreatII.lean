/-
  Numbers that a format has: their rung, and that rounding leaves them.
-/
import Derived.Test.YfwaawGreatIH
namespace Go.Proofs.YfwaawGreat
open Go.Aw
set_option linter.unusedVariables false
set_option linter.unusedSimpArgs false

section
variable {e m e' m' mode : BitVec 8} {f f' : Ieee.Format} {neg na nb : Bool} {x : BitVec 64} {N : Nat}
/-- A short number has a rung. -/
theorem uvR (M : Nat) {n t : Nat} (h0 : n ≠ 0) (hn : n < 2 ^ (M + 1)) : ∃ Q, 0 < Q ∧ uv M Q = n * 2 ^ t ∧ (∀ E, 2 ≤ E → blen n + t ≤ 2 * bia E + M → Q < infP E M) ∧ (M < blen n + t → 2 ^ M ≤ Q ∧ Q / 2 ^ M = blen n + t - M) := by
  have hb : blen n ≤ M + 1 := blen_le_iff.2 hn
  have hpm := pow_pos2 M
  have hnp : 0 < n * 2 ^ t := Nat.mul_pos (by omega) (pow_pos2 t)
  have hbl := blen_pow n h0 t
  rcases Nat.lt_or_ge M (blen n + t) with c | c
  · have hlo := blen_le h0
    have hbp := blen_pos h0
    obtain ⟨T, hT⟩ : ∃ T, T + (M + 1) = blen n + t := ⟨blen n + t - (M + 1), by omega⟩
    obtain ⟨mag, hmag⟩ : ∃ mag, mag = n * 2 ^ (M + 1 - blen n) := ⟨_, rfl⟩
    have h1 : 2 ^ M ≤ mag := by
      rw [hmag]
      have := Nat.mul_le_mul_right (2 ^ (M + 1 - blen n)) hlo
      rw [← Nat.pow_add, show blen n - 1 + (M + 1 - blen n) = M by omega] at this
      exact this
    have h2 : mag < 2 * 2 ^ M := by
      rw [hmag]
      have := Nat.mul_lt_mul_of_pos_right (blen_lt n) (pow_pos2 (M + 1 - blen n))
      rw [← Nat.pow_add, show blen n + (M + 1 - blen n) = M + 1 by omega, Nat.pow_succ] at this
      omega
    have hd : ((T + 1) * 2 ^ M + (mag - 2 ^ M)) / 2 ^ M = T + 1 := by
      rw [Nat.mul_comm, Nat.mul_add_div hpm, Nat.div_eq_of_lt (by omega), Nat.add_zero]
    have hr : ((T + 1) * 2 ^ M + (mag - 2 ^ M)) % 2 ^ M = mag - 2 ^ M := by
      rw [Nat.mul_comm, Nat.mul_add_mod, Nat.mod_eq_of_lt (by omega)]
    refine ⟨(T + 1) * 2 ^ M + (mag - 2 ^ M), ?_, ?_, ?_, ?_⟩
    · have := Nat.mul_le_mul_right (2 ^ M) (show 1 ≤ T + 1 by omega)
      omega
    · unfold uv
      rw [hd, hr, if_neg (by omega), Nat.add_sub_cancel, show mag - 2 ^ M + 2 ^ M = mag by omega, hmag, Nat.mul_assoc, ← Nat.pow_add]
      exact congrArg (fun z => n * 2 ^ z) (by omega)
    · intro E hE h
      have hpE := pow_E hE
      unfold infP
      have := Nat.mul_le_mul_right (2 ^ M) (show T + 2 ≤ 2 ^ E - 1 by omega)
      rw [Nat.add_mul] at this
      rw [Nat.add_mul]
      omega
    · intro _
      rw [hd]
      refine ⟨?_, by omega⟩
      have := Nat.mul_le_mul_right (2 ^ M) (show 1 ≤ T + 1 by omega)
      omega
  · have hlt : n * 2 ^ t < 2 ^ M := blen_le_iff.1 (by omega)
    refine ⟨n * 2 ^ t, hnp, ?_, ?_, fun h => by omega⟩
    · unfold uv
      rw [if_pos (Nat.div_eq_of_lt hlt)]
    · intro E hE h
      have hpE := pow_E hE
      have hbg := bia_ge hE
      unfold infP
      have := Nat.mul_le_mul_right (2 ^ M) (show 1 ≤ 2 ^ E - 1 by omega)
      omega
/-- The pattern of a rung. -/
theorem pat (h : Fm e m) {Q : Nat} (s : Bool) (hQ : Q ≤ infP e.toNat m.toNat) : ∃ x : BitVec 64, x.toNat = Q + sgn e.toNat m.toNat s ∧ wd e m x = Q + sgn e.toNat m.toNat s ∧ x &&& F69 e m = x := by
  have h2 := h.e11
  have h4 := h.m52
  have hil := infP_lt' e.toNat m.toNat
  have hs : sgn e.toNat m.toNat s ≤ 2 ^ (e.toNat + m.toNat) := by unfold sgn; cases s <;> simp
  have hl : 2 ^ (e.toNat + m.toNat) * 2 ≤ 2 ^ 64 := by rw [← Nat.pow_succ]; exact pow_le (by omega)
  have hx : (BitVec.ofNat 64 (Q + sgn e.toNat m.toNat s)).toNat = Q + sgn e.toNat m.toNat s := by
    rw [BitVec.toNat_ofNat]; exact Nat.mod_eq_of_lt (by omega)
  have hm : (BitVec.ofNat 64 (Q + sgn e.toNat m.toNat s) &&& F69 e m).toNat = Q + sgn e.toNat m.toNat s := by
    rw [BitVec.toNat_and, F69_ok h, Nat.and_two_pow_sub_one_eq_mod, hx]
    refine Nat.mod_eq_of_lt ?_
    rw [Nat.pow_succ]; omega
  exact ⟨_, hx, hm, BitVec.eq_of_toNat_eq (by rw [hm, hx])⟩
/-- Rounding leaves a number that the format has. -/
theorem RQ_uv (k : Kd e m f) {Q num den : Nat} {s : Bool} (h0 : 0 < Q) (hQ : Q < infP e.toNat m.toNat) (hd : den ≠ 0) (hv : num * 2 ^ (bia e.toNat + m.toNat - 1) = uv m.toNat Q * den) :
    (RQ e m mode s num den).1.toNat = Q + sgn e.toNat m.toNat s ∧ (RQ e m mode s num den).2 = 0#8 := by
  obtain ⟨x, hx, hw, hmx⟩ := pat k.fm s (Nat.le_of_lt hQ)
  have hne : num ≠ 0 := by
    intro g
    rw [g, Nat.zero_mul] at hv
    have := uv_pos (M := m.toNat) h0
    have := Nat.mul_pos this (Nat.pos_of_ne_zero hd)
    omega
  rcases k.opn x with ⟨ng, s', t, h1, _⟩ | ⟨s', h1, _⟩ | ⟨s', h1, _⟩ | ⟨s', c, ex, man, P, mag, place, h1, h2, h3⟩
  · exfalso
    obtain ⟨mag, place, g1, _⟩ := k.rnum (neg := s) h0 hQ
    rw [hw, g1] at h1; cases h1
  · exfalso
    obtain ⟨mag, place, g1, _⟩ := k.rnum (neg := s) h0 hQ
    rw [hw, g1] at h1; cases h1
  · exfalso
    obtain ⟨mag, place, g1, g2⟩ := k.rnum (neg := s) h0 hQ
    rw [hw, g1] at h1
    have : mag = 0 := by injection h1
    exact g2.m0 this
  · obtain ⟨mag', place', g1, g2⟩ := k.rnum (neg := s) h0 hQ
    rw [hw, g1] at h1
    have hs : s = s' := by injection h1
    have hP : P = Q := by
      have h5 := h2.xm
      have h6 : wd e m x = P + sgn e.toNat m.toNat s' := h5
      rw [hw, hs] at h6
      omega
    subst hs hP
    have hl := h2.least k.fm
    have hr := RQ_self (mode := mode) k.fm h2
    have hcr : num * 2 ^ (-ex).toNat = man.toNat * 2 ^ ex.toNat * den := by
      refine Nat.mul_right_cancel (pow_pos2 (bia e.toNat + m.toNat - 1)) ?_
      rw [Nat.mul_right_comm, hv, Nat.mul_right_comm (man.toNat * 2 ^ ex.toNat), hl]
      rw [Nat.mul_right_comm]
    rw [RQ_cross hne hd (pne _) hcr, hr]
    exact ⟨by rw [hmx]; exact hx, rfl⟩
/-- Written exactly. -/
theorem wr_uv (k : Kd e m f) {Q mag : Nat} {s : Bool} {p : Int} (h0 : 0 < Q) (hQ : Q < infP e.toNat m.toNat) (hv : mag * 2 ^ p.toNat * 2 ^ (bia e.toNat + m.toNat - 1) = uv m.toNat Q * 2 ^ (-p).toNat) : f.write (.number s mag p) = Q + sgn e.toNat m.toNat s := by
  have hm : mag ≠ 0 := by
    intro g
    rw [g, Nat.zero_mul, Nat.zero_mul] at hv
    have := Nat.mul_pos (uv_pos (M := m.toNat) h0) (pow_pos2 (-p).toNat)
    omega
  show f.nearest s mag p = _
  rw [k.near ne_zero hm]
  exact (RQ_uv k h0 hQ (pne _) hv).1
theorem wr_zero (k : Kd e m f) (s : Bool) (p : Int) : f.write (.number s 0 p) = sgn e.toNat m.toNat s := by
  show f.nearest s 0 p = _
  unfold Ieee.Format.nearest
  rw [if_pos rfl, k.word, Nat.zero_add]
/-- The mode does not matter to a number that the format has. -/
theorem RQ_mode (k : Kd e m f) {Q num den : Nat} {s : Bool} (h0 : 0 < Q) (hQ : Q < infP e.toNat m.toNat) (hd : den ≠ 0) (hv : num * 2 ^ (bia e.toNat + m.toNat - 1) = uv m.toNat Q * den) : (RQ e m mode s num den).1 = (RQ e m 0#8 s num den).1 :=
  BitVec.eq_of_toNat_eq (by rw [(RQ_uv k h0 hQ hd hv).1, (RQ_uv k h0 hQ hd hv).1])

/-! ### To a whole number -/
/-- The whole number that a mode gives. -/
def wh (mode : BitVec 8) (s : Bool) (mag : Nat) (place : Int) : Nat := rn mode s (2 * (mag * 2 ^ place.toNat) / 2 ^ (-place).toNat) (decide (2 * (mag * 2 ^ place.toNat) % 2 ^ (-place).toNat ≠ 0))
theorem wh_le (mode : BitVec 8) (s : Bool) {mag : Nat} {place : Int} (hp : place < 0) : wh mode s mag place ≤ mag / 2 + 1 := by
  unfold wh
  have h := rn_le mode s (2 * (mag * 2 ^ place.toNat) / 2 ^ (-place).toNat) (decide (2 * (mag * 2 ^ place.toNat) % 2 ^ (-place).toNat ≠ 0))
  rw [show place.toNat = 0 by omega, Nat.pow_zero, Nat.mul_one] at h ⊢
  have h2 : 2 * mag / 2 ^ (-place).toNat ≤ mag := by
    have : 2 ^ 1 ≤ 2 ^ (-place).toNat := pow_le (by omega)
    have h3 := Nat.div_le_div_left (a := 2 * mag) this (by decide)
    rw [Nat.pow_one, Nat.mul_div_cancel_left _ (by decide)] at h3
    exact h3
  omega
theorem wh_whole (mode : BitVec 8) (s : Bool) {mag : Nat} {place : Int} (hp : 0 ≤ place) : wh mode s mag place = mag * 2 ^ place.toNat := by
  unfold wh
  rw [show (-place).toNat = 0 by omega, Nat.pow_zero, Nat.div_one, Nat.mod_one, decide_eq_false (by omega), rn_exact (by omega) rfl]
  omega
/-- The whole number has a rung. -/
theorem wh_rung (k : Kd e m f) (hbm : m.toNat ≤ bia e.toNat) (mode : BitVec 8) (s : Bool) {P mag : Nat} {place : Int} (nu : Nu f e m P mag place) (hP : P < infP e.toNat m.toNat) (hw : wh mode s mag place ≠ 0) : ∃ Q, 0 < Q ∧ Q < infP e.toNat m.toNat ∧ wh mode s mag place * 2 ^ (bia e.toNat + m.toNat - 1) = uv m.toNat Q := by
  have hb := bia_ge k.fm.e2
  have h3 := k.fm.m2
  rcases Int.lt_or_le place 0 with c | c
  · have hle := wh_le mode s (mag := mag) c
    have hhi := nu.hi
    have hn : wh mode s mag place < 2 ^ (m.toNat + 1) := by
      rw [Nat.pow_succ] at hhi ⊢
      have : 2 ^ 2 ≤ 2 ^ m.toNat := pow_le h3
      omega
    obtain ⟨Q, q1, q2, q3, _⟩ := uvR m.toNat (t := bia e.toNat + m.toNat - 1) hw hn
    refine ⟨Q, q1, q3 e.toNat k.fm.e2 ?_, q2.symm⟩
    have : blen (wh mode s mag place) ≤ m.toNat + 1 := blen_le_iff.2 hn
    omega
  · refine ⟨P, ?_, hP, ?_⟩
    · have := nu.u
      rcases Nat.eq_zero_or_pos P with z | z
      · exfalso
        rw [z, uv_zero] at this
        exact Nat.mul_ne_zero nu.m0 (pne _) this
      · exact z
    · rw [wh_whole mode s c, ← nu.u, k.lp, Nat.mul_assoc, ← Nat.pow_add]
      exact congrArg (fun t => mag * 2 ^ t) (by omega)
end
end Go.Proofs.YfwaawGreat
