/-
  soft = exact: the square root.
-/
import Derived.Test.YfwaawGreatA3
import Derived.Test.YfwaawGreatW3
import Derived.Test.YfwaawGreatG6
namespace Go.Proofs.YfwaawGreat
open Go.Aw
set_option linter.unusedVariables false
set_option linter.unusedSimpArgs false

theorem F261_ok {N : Nat} (hN : 17 ≤ N) {h l : BitVec 64} (hh : 2 ^ 62 ≤ h.toNat) :
    ∃ s, F261 N h l = some (s, decide (isq (v2 h l) * isq (v2 h l) = v2 h l)) ∧ s.toNat = isq (v2 h l) := by
  have hhl := h.isLt
  have hll := l.isLt
  have hb : blen h.toNat = 63 ∨ blen h.toNat = 64 := by
    have h1 := blen64 h
    have h2 : ¬ blen h.toNat ≤ 62 := fun c => by have := blen_le_iff.1 c; omega
    omega
  have hh' : 4611686018427387904 ≤ h.toNat := hh
  have hz : (h == 0#64) = false := by rw [eq_bv]; exact decide_eq_false (by show h.toNat ≠ 0; omega)
  unfold F261 F261_1
  rw [hz, bf rfl, F164_ok]
  simp only [Option.bind_some]
  have hup : (BitVec.ofNat 8 (64 - blen h.toNat) &&& ~~~1#8) = 0#8 := by
    rcases hb with k | k <;> rw [k] <;> decide
  rw [hup]
  unfold F261_6
  simp only [lt]
  have hsh : F206 h l 0#8 = (h, l) := by
    have h1 := F206_ok h l 0#8
    have h2 := v2_lt h l
    rw [show (0#8).toNat = 0 from rfl, Nat.pow_zero, Nat.mul_one, Nat.mod_eq_of_lt h2] at h1
    obtain ⟨h3, h4⟩ := v2_inj h1
    exact Prod.ext h3 h4
  rw [hsh]
  obtain ⟨q, r, f1, f2, f3⟩ := F361_ok hN hh
  unfold F261_7
  rw [f1]
  simp only [Option.bind_some, F261_8]
  -- the upper half
  have hle := isq_le h.toNat
  have hlt := isq_lt h.toNat
  rw [← f2] at f3 hle hlt
  have hq31 : 2147483648 ≤ q.toNat := by
    rcases Nat.lt_or_ge q.toNat 2147483648 with c | c
    · have := Nat.mul_le_mul (show q.toNat + 1 ≤ 2147483648 by omega) (show q.toNat + 1 ≤ 2147483648 by omega)
      omega
    · exact c
  have hq32 : q.toNat < 4294967296 := by
    rcases Nat.lt_or_ge q.toNat 4294967296 with c | c
    · exact c
    · have := Nat.mul_le_mul c c
      omega
  have e0 : (q.toNat + 1) * (q.toNat + 1) = q.toNat * q.toNat + 2 * q.toNat + 1 := by grind
  have hr2 : r.toNat ≤ 2 * q.toNat := by omega
  have e1 : (2#64 * q).toNat = 2 * q.toNat := by rw [mul64, show (2#64).toNat = 2 from rfl]; omega
  have e2 : (r >>> 32).toNat = r.toNat / 4294967296 := shr_nat _ _
  have e3 : (r <<< 32).toNat = r.toNat % 4294967296 * 4294967296 := by
    rw [BitVec.toNat_shiftLeft, Nat.shiftLeft_eq, p64, show (2 : Nat) ^ 32 = 4294967296 from rfl]; omega
  have e4 : (l >>> 32).toNat = l.toNat / 4294967296 := shr_nat _ _
  have e5 : ((r <<< 32) ||| (l >>> 32)).toNat = r.toNat % 4294967296 * 4294967296 + l.toNat / 4294967296 := by
    rw [BitVec.or_comm, or_add _ _ 32 (by rw [e4]; show _ < 4294967296; omega) (by rw [e3]; exact Nat.dvd_mul_left _ _), e3, e4]; omega
  have hv : v2 (r >>> 32) ((r <<< 32) ||| (l >>> 32)) = r.toNat * 4294967296 + l.toNat / 4294967296 := by
    unfold v2; rw [e2, e5]; omega
  obtain ⟨t, t', g1, g2, g3⟩ := F280_ok (N := N) (by omega) (h := r >>> 32) (l := (r <<< 32) ||| (l >>> 32)) (d := 2#64 * q) (by rw [e1, e2]; omega)
  rw [hv, e1] at g2
  rw [g1]
  simp only [Option.bind_some, F261_9, F261_10, lt]
  have e6 : (q <<< 32).toNat = q.toNat * 4294967296 := shl_nat _ _ (by
    show q.toNat * 4294967296 < 18446744073709551616
    omega)
  have e7 : (umin t 4294967295#64).toNat = min t.toNat 4294967295 := umin_nat _ _
  have e8 : ((q <<< 32) ||| umin t 4294967295#64).toNat = q.toNat * 4294967296 + min t.toNat 4294967295 := by
    rw [BitVec.or_comm, or_add _ _ 32 (by rw [e7]; show min t.toNat 4294967295 < 4294967296; omega) (by rw [e6]; exact Nat.dvd_mul_left _ _), e6, e7]; omega
  generalize (q <<< 32) ||| umin t 4294967295#64 = S at *
  have hstep := sqrt_step (β := 4294967296) (s := q.toNat) (left := r.toNat) (mid := l.toNat / 4294967296) (lo := l.toNat % 4294967296) (x := v2 h l) (q := t.toNat) (by
    have : q.toNat * q.toNat + r.toNat = h.toNat := by omega
    rw [this]; unfold v2; omega) (by omega) (by omega) hr2 (by omega) g2
  rw [← e8] at hstep
  rw [F362_ok, F165_ok, ncmp_pos]
  have hfin : ∀ r : BitVec 64, r.toNat = isq (v2 h l) → ∃ s, F261_12 N h l r = some (s, decide (isq (v2 h l) * isq (v2 h l) = v2 h l)) ∧ s.toNat = isq (v2 h l) := by
    intro r hr
    unfold F261_12
    simp only [lt]
    have hp := F165_ok r r
    generalize F165 r r = p at *
    rw [hr] at hp
    have : ((p.1 == h) && (p.2 == l)) = decide (isq (v2 h l) * isq (v2 h l) = v2 h l) := by
      rw [← hp]
      by_cases k : v2 p.1 p.2 = v2 h l
      · obtain ⟨a, b⟩ := v2_inj k
        rw [decide_eq_true k, a, b]; simp
      · rw [decide_eq_false k]
        by_cases a : p.1 = h
        · by_cases b : p.2 = l
          · exact (k (by rw [a, b])).elim
          · simp [b]
        · simp [a]
    rw [this]
    exact ⟨r, rfl, hr⟩
  unfold F261_13 F261_11
  have e9 : ∀ y : BitVec 64, y >>> (0#8 / 2#8).toNat = y := by
    intro y
    rw [show (0#8 / 2#8).toNat = 0 from rfl]; simp
  rw [e9, e9]
  by_cases c : v2 h l < S.toNat * S.toNat
  · rw [bt (decide_eq_true c)]
    rw [if_pos c] at hstep
    have e10 : (S - 1#64).toNat = S.toNat - 1 := by
      rw [sub64, show (1#64).toNat = 1 from rfl]
      have := S.isLt
      omega
    exact hfin _ (by rw [e10, hstep])
  · rw [bf (decide_eq_false c)]
    rw [if_neg c] at hstep
    exact hfin _ hstep.symm

/-! ### Roots in units -/
theorem isq_shift (n j : Nat) : isq (n / 2 ^ (2 * j)) = isq n / 2 ^ j := by
  have h1 := isq_le n
  have h2 := isq_lt n
  have pj := pow_pos2 j
  have p2 : 2 ^ (2 * j) = 2 ^ j * 2 ^ j := by rw [← Nat.pow_add]; exact congrArg (fun t => 2 ^ t) (by omega)
  have d := Nat.div_add_mod (isq n) (2 ^ j)
  have l := Nat.mod_lt (isq n) pj
  generalize isq n = S at *
  refine isq_unique ?_ ?_
  · rw [Nat.le_div_iff_mul_le (pow_pos2 _), p2]
    have e1 : S / 2 ^ j * (S / 2 ^ j) * (2 ^ j * 2 ^ j) = (2 ^ j * (S / 2 ^ j)) * (2 ^ j * (S / 2 ^ j)) := by grind
    have e2 : 2 ^ j * (S / 2 ^ j) ≤ S := by omega
    rw [e1]
    exact Nat.le_trans (Nat.mul_le_mul e2 e2) h1
  · rw [Nat.div_lt_iff_lt_mul (pow_pos2 _), p2]
    have e1 : (S / 2 ^ j + 1) * (S / 2 ^ j + 1) * (2 ^ j * 2 ^ j) = (2 ^ j * (S / 2 ^ j) + 2 ^ j) * (2 ^ j * (S / 2 ^ j) + 2 ^ j) := by grind
    have e2 : S + 1 ≤ 2 ^ j * (S / 2 ^ j) + 2 ^ j := by omega
    rw [e1]
    exact Nat.lt_of_lt_of_le h2 (Nat.mul_le_mul e2 e2)
/-- The floor of the root in units of 2^d, and whether it left something. -/
def sq (num den : Nat) (d : Int) : Nat := isq (fq num den (2 * d))
def se (num den : Nat) (d : Int) : Bool := eq num den (2 * d) || decide (sq num den d * sq num den d ≠ fq num den (2 * d))
theorem sq_comp {num den : Nat} (hd : 0 < den) (d : Int) (j : Nat) : sq num den (d + j) = sq num den d / 2 ^ j ∧ se num den (d + j) = (se num den d || decide (sq num den d % 2 ^ j ≠ 0)) := by
  have hc := fq_comp (num := num) hd (2 * d) (2 * j)
  have e0 : 2 * (d + (j : Int)) = 2 * d + ((2 * j : Nat) : Int) := by omega
  have h1 : sq num den (d + j) = sq num den d / 2 ^ j := by
    unfold sq; rw [e0, hc.1, isq_shift]
  refine ⟨h1, ?_⟩
  unfold se
  rw [e0, h1, hc.1, hc.2]
  generalize eq num den (2 * d) = b
  have hsq : sq num den d = isq (fq num den (2 * d)) := rfl
  generalize fq num den (2 * d) = n at *
  generalize sq num den d = S at *
  have pj := pow_pos2 j
  have p2 : 2 ^ (2 * j) = 2 ^ j * 2 ^ j := by rw [← Nat.pow_add]; exact congrArg (fun t => 2 ^ t) (by omega)
  have key : (n % 2 ^ (2 * j) = 0 ∧ S / 2 ^ j * (S / 2 ^ j) = n / 2 ^ (2 * j)) ↔ (S * S = n ∧ S % 2 ^ j = 0) := by
    have d1 := Nat.div_add_mod n (2 ^ (2 * j))
    have d2 := Nat.div_add_mod S (2 ^ j)
    constructor
    · rintro ⟨k1, k2⟩
      rw [k1, ← k2, p2, Nat.add_zero] at d1
      have e1 : n = (2 ^ j * (S / 2 ^ j)) * (2 ^ j * (S / 2 ^ j)) := by rw [← d1]; grind
      have e2 : isq n = 2 ^ j * (S / 2 ^ j) := isq_unique (by rw [e1]; exact Nat.le_refl _) (by
        rw [e1]; exact Nat.mul_lt_mul'' (Nat.lt_succ_self _) (Nat.lt_succ_self _))
      rw [← hsq] at e2
      rw [← e2] at e1
      exact ⟨e1.symm, by omega⟩
    · rintro ⟨k1, k2⟩
      rw [k2, Nat.add_zero] at d2
      have e1 : n = 2 ^ (2 * j) * (S / 2 ^ j * (S / 2 ^ j)) := by
        rw [← k1, p2]
        have : S * S = (2 ^ j * (S / 2 ^ j)) * (2 ^ j * (S / 2 ^ j)) := by rw [d2]
        rw [this]; grind
      rw [e1, Nat.mul_mod_right, Nat.mul_div_cancel_left _ (pow_pos2 _)]
      exact ⟨rfl, rfl⟩
  cases b
  · simp only [Bool.false_or]
    rw [← Bool.decide_or, ← Bool.decide_or]
    refine decide_eq_decide.2 ?_
    omega
  · simp
section
variable {e m mode : BitVec 8} {neg : Bool}
/-- A value known from one unit on: its jammed floor rounds alike. -/
theorem RS_sticky {real : Int} {φ : Int → Nat} {ε : Int → Bool} {k : Int} (h0 : φ k ≠ 0) (hk : k + m.toNat + 2 ≤ real) (hr : real = blen (φ k) - 1 + k)
    (hc : ∀ j : Nat, φ (k + j) = φ k / 2 ^ j ∧ ε (k + j) = (ε k || decide (φ k % 2 ^ j ≠ 0))) :
    RS e m mode neg real φ ε = RQ e m mode neg (jm (φ k) (ε k) * 2 ^ k.toNat) (2 ^ (-k).toNat) := by
  unfold RQ
  rw [lg_pow (jm_ne h0), blen_jm h0, ← hr]
  refine RS_congr fun d hdd => ?_
  obtain ⟨j, rfl⟩ : ∃ j : Nat, d = k + j := ⟨(d - k).toNat, by omega⟩
  have h1 := fq_pow (jm (φ k) (ε k)) k j
  have h2 := hc j
  have h3 := jm_div (n := φ k) (s := ε k) (j := j) (by omega)
  rw [h1.1, h1.2, h2.1, h2.2, h3.1, h3.2]
  exact ⟨rfl, rfl⟩
end
end Go.Proofs.YfwaawGreat
