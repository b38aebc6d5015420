/-
  ryu.Scale, second half: entries rounded down, whole numbers, the function.
-/
import Derived.Test.YfwaawGreatK2
namespace Go.Proofs.YfwaawGreat
open Go.Aw
set_option linter.unusedVariables false
set_option linter.unusedSimpArgs false

theorem rq_neg {e : Int} (h : rq e ≤ 0) (h1 : -1100 ≤ e) : e ≤ 6 ∧ (e < 0 → (-rq e).toNat ≤ (-e).toNat + 2) := by unfold rq at *; omega
theorem scale_dn {e x : Int} {hi lo : BitVec 64} {mm s : Nat} (h1 : -1100 ≤ e) (h2 : e < 1031) (h : EN hi lo x (-rq e)) (hq : rq e ≤ 0) (hs : (s : Int) = -(e + x)) (hm0 : 0 < mm) (hm : mm < 36028797018963968) :
    mm * v2 hi lo / 2 ^ s = mm * sA e / sB e := by
  have hsb := shift_bd h1 h2 h
  obtain ⟨p, hpv⟩ : ∃ p, p = (-rq e).toNat := ⟨_, rfl⟩
  have hBp := sB_pos e
  have hps := pow_pos2 s
  rcases Nat.lt_or_ge 55 p with c | c
  · have hk : e ≤ -180 := by unfold rq at hpv; omega
    obtain ⟨k, hkv⟩ : ∃ k : Nat, e = -(k : Int) := ⟨(-e).toNat, by omega⟩
    have hkp : p + 66 ≤ k := by subst hkv; unfold rq at hpv; omega
    have l := h.lb
    have u := h.ub
    have hx0 : 0 ≤ x := by
      subst hkv; unfold rq at hpv; omega
    rw [Int.neg_neg, show (rq e).toNat = 0 by omega, ← hpv, Nat.pow_zero, Nat.mul_one, show (-x).toNat = 0 by omega, Nat.pow_zero, Nat.mul_one] at l u
    obtain ⟨X, hX⟩ : ∃ X, X = x.toNat := ⟨_, rfl⟩
    rw [← hX] at l u
    have hA : sA e = 10 ^ p := by
      unfold sA; rw [show e.toNat = 0 by omega, Nat.pow_zero, Nat.one_mul, ← hpv]
    have hB : sB e = 2 ^ s * 2 ^ X := by
      unfold sB; rw [show (rq e).toNat = 0 by omega, Nat.pow_zero, Nat.mul_one, ← Nat.pow_add]
      exact congrArg (fun t => 2 ^ t) (by omega)
    have hB2 : sB e = 2 ^ p * 2 ^ (k - p) := by
      unfold sB; rw [show (rq e).toNat = 0 by omega, Nat.pow_zero, Nat.mul_one, ← Nat.pow_add]
      exact congrArg (fun t => 2 ^ t) (by omega)
    obtain ⟨W, hW⟩ : ∃ W, W = 2 ^ (k - p - 66) := ⟨_, rfl⟩
    have hW2 : 2 ^ (k - p) = 73786976294838206464 * W := by
      rw [hW, show (73786976294838206464 : Nat) = 2 ^ 66 by decide +kernel, ← Nat.pow_add]
      exact congrArg (fun t => 2 ^ t) (by omega)
    have hle : mm * sA e / sB e * sB e ≤ mm * sA e := Nat.div_mul_le_self _ _
    have hlt : mm * sA e < (mm * sA e / sB e + 1) * sB e := by
      have hd := Nat.div_add_mod (mm * sA e) (sB e)
      have hdl := Nat.mod_lt (mm * sA e) hBp
      rw [Nat.add_mul, Nat.one_mul, Nat.mul_comm (mm * sA e / sB e)]; omega
    obtain ⟨n, hn⟩ : ∃ n, n = mm * sA e / sB e := ⟨_, rfl⟩
    rw [← hn] at hle hlt
    have e1 : n * sB e = 2 ^ p * (n * 2 ^ (k - p)) := by rw [hB2, ← Nat.mul_assoc, Nat.mul_comm n, Nat.mul_assoc]
    have e2 : mm * sA e = 2 ^ p * (mm * 5 ^ p) := by rw [hA, ← ten_eq, ← Nat.mul_assoc, Nat.mul_comm]
    have g1 : n * 2 ^ (k - p) ≤ mm * 5 ^ p := Nat.le_of_mul_le_mul_left (by rw [← e1, ← e2]; exact hle) (pow_pos2 p)
    have g2 : n * 2 ^ (k - p) + W ≤ mm * 5 ^ p := by
      obtain ⟨cc, hc⟩ := certV (q := k) (by omega) (by omega)
      unfold okV at hc
      rw [← hkv, ← hpv] at hc
      have := (ck_ok hc hm0 hm (k := n)).1 g1
      rw [show 2 ^ (k - p) / 73786976294838206464 = W by rw [hW2, Nat.mul_div_cancel_left _ (by decide)]] at this
      exact this
    refine div_of hBp hps ?_ ?_
    · rw [← hn]
      refine Nat.le_of_mul_le_mul_right (c := 2 ^ X) ?_ (pow_pos2 X)
      -- n * B + 2^p W <= m 10^p < m (T + 1) 2^X, and m 2^X <= 2^p W
      have a1 : n * sB e + 2 ^ p * W ≤ mm * sA e := by
        rw [e1, e2, ← Nat.mul_add]; exact Nat.mul_le_mul_left _ g2
      have a2 : mm * sA e ≤ mm * ((v2 hi lo + 1) * 2 ^ X) := by
        rw [hA]; exact Nat.mul_le_mul_left _ (Nat.le_of_lt u)
      have a3 : 73786976294838206464 * (2 ^ p * W) = 2 ^ s * 2 ^ X := by
        rw [← hB, hB2, hW2, ← Nat.mul_assoc, ← Nat.mul_assoc, Nat.mul_comm (2 ^ p)]
      have a4 : 2 ^ 121 * 2 ^ X ≤ 2 ^ s * 2 ^ X := Nat.mul_le_mul_right _ (pow_le (by omega))
      have a5 : (2 : Nat) ^ 121 = 73786976294838206464 * 36028797018963968 := by decide +kernel
      rw [a5, ← a3, Nat.mul_assoc] at a4
      have a6 : 36028797018963968 * 2 ^ X ≤ 2 ^ p * W := Nat.le_of_mul_le_mul_left a4 (by decide)
      have a7 : mm * 2 ^ X ≤ 36028797018963968 * 2 ^ X := Nat.mul_le_mul_right _ (by omega)
      rw [Nat.add_mul, Nat.one_mul, Nat.mul_add] at a2
      rw [Nat.mul_assoc n, ← hB, Nat.mul_assoc mm]
      omega
    · rw [← hn]
      refine Nat.lt_of_mul_lt_mul_right (a := 2 ^ X) ?_
      rw [Nat.mul_assoc (n + 1), ← hB, Nat.mul_assoc mm]
      refine Nat.lt_of_le_of_lt (Nat.mul_le_mul_left _ l) ?_
      rw [← hA]; exact hlt
  · have hx := h.ex (by omega) (by omega)
    rw [Int.neg_neg, show (rq e).toNat = 0 by omega, ← hpv, Nat.pow_zero, Nat.mul_one] at hx
    refine (div_cross hps hBp ?_).1
    unfold sA sB
    rw [show (rq e).toNat = 0 by omega, Nat.pow_zero, Nat.mul_one, ← hpv]
    -- T * 2^-e = 2^e * 10^p * 2^s
    refine Nat.mul_right_cancel (pow_pos2 x.toNat) ?_
    rw [show mm * v2 hi lo * 2 ^ (-e).toNat * 2 ^ x.toNat = mm * (v2 hi lo * 2 ^ x.toNat) * 2 ^ (-e).toNat by
      rw [Nat.mul_right_comm, Nat.mul_assoc mm], hx]
    rw [show mm * (10 ^ p * 2 ^ (-x).toNat) * 2 ^ (-e).toNat = mm * 10 ^ p * (2 ^ (-x).toNat * 2 ^ (-e).toNat) by rw [← Nat.mul_assoc, Nat.mul_assoc (mm * 10 ^ p)]]
    rw [show mm * (2 ^ e.toNat * 10 ^ p) * 2 ^ s * 2 ^ x.toNat = mm * 10 ^ p * (2 ^ e.toNat * 2 ^ s * 2 ^ x.toNat) by
      rw [Nat.mul_comm (2 ^ e.toNat), ← Nat.mul_assoc, Nat.mul_assoc (mm * 10 ^ p), Nat.mul_assoc (mm * 10 ^ p)]]
    rw [← Nat.pow_add, ← Nat.pow_add, ← Nat.pow_add]
    exact congrArg (fun t => mm * 10 ^ p * 2 ^ t) (by omega)

/-! ### Whole numbers -/
theorem F218_ok {N : Nat} : ∀ (q : Nat) (x : BitVec 64), q < 24 → q < N → iterL (F218_L2 N) N (x, (q : Int)) = some (decide (5 ^ q ∣ x.toNat)) := by
  have main : ∀ (q M : Nat) (x : BitVec 64), q < 24 → q < M → iterL (F218_L2 N) M (x, (q : Int)) = some (decide (5 ^ q ∣ x.toNat)) := by
    intro q
    induction q with
    | zero =>
      intro M x h1 h2
      obtain ⟨M', rfl⟩ : ∃ M', M = M' + 1 := ⟨M - 1, by omega⟩
      have hstep : F218_L2 N (x, ((0 : Nat) : Int)) = some (.inr true) := by
        unfold F218_L2 F218_L2b F218_3
        rw [decide_eq_false (show ¬ ((0 : Nat) : Int) > 0 by omega)]
        rfl
      rw [iterL, hstep]
      simp
    | succ q ih =>
      intro M x h1 h2
      obtain ⟨M', rfl⟩ : ∃ M', M = M' + 1 := ⟨M - 1, by omega⟩
      have hmod : (x % 5#64 != 0#64) = decide (x.toNat % 5 ≠ 0) := by
        rw [ne_bv, BitVec.toNat_umod]; rfl
      by_cases c : x.toNat % 5 = 0
      · have hstep : F218_L2 N (x, ((q + 1 : Nat) : Int)) = some (.inl (x / 5#64, (q : Int))) := by
          unfold F218_L2 F218_L2b F218_3 F218_5 F218_4
          simp only []
          rw [decide_eq_true (show ((q + 1 : Nat) : Int) > 0 by omega), bt rfl, hmod, decide_eq_false (by omega), bf rfl, show w16 (((q + 1 : Nat) : Int) - 1) = (q : Int) by rw [w16_id (by omega)]; omega]
        rw [iterL, hstep]
        simp only []
        rw [ih M' _ (by omega) (by omega)]
        congr 1
        have hd : (x / 5#64).toNat = x.toNat / 5 := by rw [BitVec.toNat_udiv]; rfl
        rw [hd, decide_eq_decide, Nat.pow_succ, Nat.mul_comm]
        obtain ⟨y, hy⟩ : ∃ y, x.toNat = 5 * y := ⟨x.toNat / 5, by omega⟩
        rw [hy, Nat.mul_div_cancel_left _ (by decide)]
        exact (Nat.mul_dvd_mul_iff_left (by decide)).symm
      · have hstep : F218_L2 N (x, ((q + 1 : Nat) : Int)) = some (.inr false) := by
          unfold F218_L2 F218_L2b F218_3 F218_5
          simp only []
          rw [decide_eq_true (show ((q + 1 : Nat) : Int) > 0 by omega), bt rfl, hmod, decide_eq_true c, bt rfl]
          rfl
        rw [iterL, hstep]
        simp only []
        refine congrArg some (decide_eq_false ?_).symm
        intro k
        have : 5 ∣ x.toNat := Nat.dvd_trans ⟨5 ^ q, by rw [Nat.pow_succ, Nat.mul_comm]⟩ k
        omega
  exact fun q x h1 h2 => main q N x h1 h2
theorem five_two (q k : Nat) : Nat.Coprime (5 ^ q) (2 ^ k) := Nat.Coprime.pow _ _ (by decide)
theorem whole_up {e : Int} (hq : 0 < rq e) (mm : Nat) : sB e ∣ mm * sA e ↔ 5 ^ (rq e).toNat ∣ mm := by
  obtain ⟨hp1, hp2⟩ := rq_pos hq
  obtain ⟨q, hqv⟩ : ∃ q, q = (rq e).toNat := ⟨_, rfl⟩
  have hA : sA e = 2 ^ q * 2 ^ (e.toNat - q) := by
    unfold sA
    rw [show (-rq e).toNat = 0 by omega, Nat.pow_zero, Nat.mul_one, ← Nat.pow_add]
    exact congrArg (fun t => 2 ^ t) (by omega)
  have hB : sB e = 2 ^ q * 5 ^ q := by
    unfold sB
    rw [show (-e).toNat = 0 by omega, Nat.pow_zero, Nat.one_mul, ← hqv, ← ten_eq, Nat.mul_comm]
  rw [← hqv, hA, hB, show mm * (2 ^ q * 2 ^ (e.toNat - q)) = 2 ^ q * (mm * 2 ^ (e.toNat - q)) by rw [← Nat.mul_assoc, Nat.mul_comm mm, Nat.mul_assoc]]
  rw [Nat.mul_dvd_mul_iff_left (pow_pos2 q)]
  exact ⟨fun k => (five_two q _).dvd_of_dvd_mul_right k, fun k => Nat.dvd_trans k (Nat.dvd_mul_right _ _)⟩
theorem whole_int {e : Int} (hq : rq e ≤ 0) (hqe : rq e - e ≤ 0) (mm : Nat) : sB e ∣ mm * sA e := by
  have hA : sA e = 2 ^ (e.toNat + (-rq e).toNat) * 5 ^ (-rq e).toNat := by
    unfold sA
    rw [← ten_eq, Nat.pow_add, Nat.mul_comm (5 ^ (-rq e).toNat), ← Nat.mul_assoc]
  have hB : sB e = 2 ^ (-e).toNat := by unfold sB; rw [show (rq e).toNat = 0 by omega, Nat.pow_zero, Nat.mul_one]
  rw [hA, hB]
  exact Nat.dvd_trans (Nat.dvd_trans (Nat.pow_dvd_pow 2 (by omega)) (Nat.dvd_mul_right _ _)) (Nat.dvd_mul_left _ _)
theorem whole_dn {e : Int} (hq : rq e ≤ 0) (hqe : 0 < rq e - e) (mm : Nat) : sB e ∣ mm * sA e ↔ 2 ^ (rq e - e).toNat ∣ mm := by
  obtain ⟨p, hpv⟩ : ∃ p, p = (-rq e).toNat := ⟨_, rfl⟩
  have hA : sA e = 2 ^ p * 5 ^ p := by
    unfold sA
    rw [show e.toNat = 0 by omega, Nat.pow_zero, Nat.one_mul, ← hpv, ← ten_eq, Nat.mul_comm]
  have hB : sB e = 2 ^ p * 2 ^ (rq e - e).toNat := by
    unfold sB
    rw [show (rq e).toNat = 0 by omega, Nat.pow_zero, Nat.mul_one, ← Nat.pow_add]
    exact congrArg (fun t => 2 ^ t) (by omega)
  rw [hA, hB, show mm * (2 ^ p * 5 ^ p) = 2 ^ p * (mm * 5 ^ p) by rw [← Nat.mul_assoc, Nat.mul_comm mm, Nat.mul_assoc]]
  rw [Nat.mul_dvd_mul_iff_left (pow_pos2 p)]
  exact ⟨fun k => (five_two p _).symm.dvd_of_dvd_mul_right k, fun k => Nat.dvd_trans k (Nat.dvd_mul_right _ _)⟩
end Go.Proofs.YfwaawGreat
