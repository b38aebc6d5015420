/-
  ryu.Scale: the floor of m * 2^e / 10^q, and whether it is whole.
-/
import Derived.Test.YfwaawGreatK1
namespace Go.Proofs.YfwaawGreat
open Go.Aw
set_option linter.unusedVariables false
set_option linter.unusedSimpArgs false

theorem rq_bd {e : Int} (h1 : -1100 ≤ e) (h2 : e < 1031) : -333 ≤ rq e ∧ rq e ≤ 310 := by unfold rq; omega
theorem F171_ok {e : Int} (h1 : -1100 ≤ e) (h2 : e < 1031) : F171 e = rq e + 1 := by
  unfold F171 F171_1
  rw [decide_eq_false (show ¬ e < -1100 by omega), decide_eq_false (show ¬ e > 1030 by omega), Bool.or_self, bf rfl]
  have w1 : w32 e = e := w32_id (by omega)
  have w2 : w32 (e * 315653) = e * 315653 := w32_id (by omega)
  have hb := rq_bd h1 h2
  rw [w1, w2, show (2 : Int) ^ 20 = 1048576 from rfl]
  unfold rq at *
  rw [w16_id (by omega)]
  omega

/-- The two sides of m * 2^e / 10^q. -/
def sA (e : Int) : Nat := 2 ^ e.toNat * 10 ^ (-rq e).toNat
def sB (e : Int) : Nat := 2 ^ (-e).toNat * 10 ^ (rq e).toNat
theorem sA_pos (e : Int) : 0 < sA e := Nat.mul_pos (pow_pos2 _) (Nat.pow_pos (by decide))
theorem sB_pos (e : Int) : 0 < sB e := Nat.mul_pos (pow_pos2 _) (Nat.pow_pos (by decide))
/-- 10 <= A/B < 100. -/
theorem sAB {e : Int} (h1 : -1100 ≤ e) (h2 : e < 1031) : 10 * sB e ≤ sA e ∧ sA e < 100 * sB e := by
  have h := certL h1 h2
  unfold okL at h
  rw [Bool.and_eq_true, decide_eq_true_eq, decide_eq_true_eq] at h
  unfold sA sB
  generalize rq e = q at *
  obtain ⟨ha, hb⟩ := h
  constructor
  · by_cases c : 0 ≤ q
    · rw [show (q + 1).toNat = q.toNat + 1 by omega, show (-(q + 1)).toNat = 0 by omega, Nat.pow_succ] at ha
      rw [show (-q).toNat = 0 by omega]
      generalize 10 ^ q.toNat = t at *
      rw [show 10 * (2 ^ (-e).toNat * t) = t * 10 * 2 ^ (-e).toNat by rw [Nat.mul_comm t 10, Nat.mul_assoc, Nat.mul_comm t]]
      exact ha
    · rw [show (q + 1).toNat = 0 by omega, Nat.pow_zero, Nat.one_mul] at ha
      rw [show (-q).toNat = (-(q + 1)).toNat + 1 by omega, show q.toNat = 0 by omega, Nat.pow_succ, Nat.pow_zero, Nat.mul_one, ← Nat.mul_assoc]
      omega
  · by_cases c : 0 ≤ q
    · rw [show (q + 2).toNat = q.toNat + 1 + 1 by omega, show (-(q + 2)).toNat = 0 by omega, Nat.pow_succ, Nat.pow_succ] at hb
      rw [show (-q).toNat = 0 by omega]
      generalize 10 ^ q.toNat = t at *
      rw [show 100 * (2 ^ (-e).toNat * t) = t * 10 * 10 * 2 ^ (-e).toNat by rw [Nat.mul_assoc t, Nat.mul_comm t, Nat.mul_assoc, Nat.mul_comm t]]
      exact hb
    · by_cases c1 : q = -1
      · rw [show (q + 2).toNat = 1 by omega, show (-(q + 2)).toNat = 0 by omega, Nat.pow_zero, Nat.mul_one, Nat.pow_one] at hb
        rw [show (-q).toNat = 1 by omega, show q.toNat = 0 by omega, Nat.pow_one, Nat.pow_zero, Nat.mul_one]
        omega
      · rw [show (q + 2).toNat = 0 by omega, Nat.pow_zero, Nat.one_mul] at hb
        rw [show (-q).toNat = (-(q + 2)).toNat + 1 + 1 by omega, show q.toNat = 0 by omega, Nat.pow_succ, Nat.pow_succ, Nat.pow_zero, Nat.mul_one, ← Nat.mul_assoc, ← Nat.mul_assoc]
        omega
/-- The shift lies between 121 and 124. -/
theorem shift_bd {e x : Int} {hi lo : BitVec 64} (h1 : -1100 ≤ e) (h2 : e < 1031) (h : EN hi lo x (-rq e)) : 121 ≤ -(e + x) ∧ -(e + x) ≤ 124 := by
  have hab := sAB h1 h2
  unfold sA sB at hab
  have l := h.lb
  have u := h.ub
  have g := h.ge
  have v := v2_lt hi lo
  rw [Int.neg_neg] at l u
  generalize v2 hi lo = T at *
  generalize 10 ^ (-rq e).toNat = a at *
  generalize 10 ^ (rq e).toNat = b at *
  have g1 : 2 ^ 127 ≤ T := g
  have v1 : T + 1 ≤ 2 ^ 128 := by rw [show (2 : Nat) ^ 128 = 340282366920938463463374607431768211456 from rfl]; omega
  have pe := pow_pos2 e.toNat
  have pe' := pow_pos2 (-e).toNat
  have px := pow_pos2 x.toNat
  have px' := pow_pos2 (-x).toNat
  constructor
  · rcases Int.lt_or_le (-(e + x)) 121 with k | k
    · exfalso
      -- 2^127 * 2^x * 2^e <= 10^-q * 2^e < 100
      have k1 : 2 ^ 127 * 2 ^ x.toNat * b * 2 ^ e.toNat ≤ a * 2 ^ (-x).toNat * 2 ^ e.toNat := Nat.mul_le_mul_right _ (Nat.le_trans (Nat.mul_le_mul_right _ (Nat.mul_le_mul_right _ g1)) l)
      have k2 : 2 ^ e.toNat * a * 2 ^ (-x).toNat < 100 * (2 ^ (-e).toNat * b) * 2 ^ (-x).toNat := Nat.mul_lt_mul_of_pos_right hab.2 px'
      have k3 : 2 ^ 7 * (2 ^ (-e).toNat * 2 ^ (-x).toNat) ≤ 2 ^ 127 * 2 ^ x.toNat * 2 ^ e.toNat := by
        rw [← Nat.pow_add, ← Nat.pow_add, ← Nat.pow_add, ← Nat.pow_add]; exact pow_le (by omega)
      have k4 := Nat.mul_le_mul_right b k3
      rw [show 2 ^ 7 * (2 ^ (-e).toNat * 2 ^ (-x).toNat) * b = 128 * (2 ^ (-e).toNat * b * 2 ^ (-x).toNat) by
        rw [Nat.mul_assoc, show (2 : Nat) ^ 7 = 128 from rfl, Nat.mul_right_comm (2 ^ (-e).toNat)]] at k4
      rw [show 2 ^ 127 * 2 ^ x.toNat * 2 ^ e.toNat * b = 2 ^ 127 * 2 ^ x.toNat * b * 2 ^ e.toNat by rw [Nat.mul_right_comm]] at k4
      rw [show a * 2 ^ (-x).toNat * 2 ^ e.toNat = 2 ^ e.toNat * a * 2 ^ (-x).toNat by rw [Nat.mul_right_comm, Nat.mul_comm a]] at k1
      rw [Nat.mul_assoc 100] at k2
      generalize 2 ^ (-e).toNat * b * 2 ^ (-x).toNat = Z at *
      omega
    · exact k
  · rcases Int.lt_or_le 124 (-(e + x)) with k | k
    · exfalso
      have k1 : a * 2 ^ (-x).toNat * 2 ^ e.toNat < 2 ^ 128 * 2 ^ x.toNat * b * 2 ^ e.toNat := Nat.mul_lt_mul_of_pos_right (Nat.lt_of_lt_of_le u (Nat.mul_le_mul_right _ (Nat.mul_le_mul_right _ v1))) pe
      have k2 : 10 * (2 ^ (-e).toNat * b) * 2 ^ (-x).toNat ≤ 2 ^ e.toNat * a * 2 ^ (-x).toNat := Nat.mul_le_mul_right _ hab.1
      have k3 : 2 ^ 128 * 2 ^ x.toNat * 2 ^ e.toNat ≤ 2 ^ 3 * (2 ^ (-e).toNat * 2 ^ (-x).toNat) := by
        rw [← Nat.pow_add, ← Nat.pow_add, ← Nat.pow_add, ← Nat.pow_add]; exact pow_le (by omega)
      have k4 := Nat.mul_le_mul_right b k3
      rw [show 2 ^ 3 * (2 ^ (-e).toNat * 2 ^ (-x).toNat) * b = 8 * (2 ^ (-e).toNat * b * 2 ^ (-x).toNat) by
        rw [Nat.mul_assoc, show (2 : Nat) ^ 3 = 8 from rfl, Nat.mul_right_comm (2 ^ (-e).toNat)]] at k4
      rw [show 2 ^ 128 * 2 ^ x.toNat * 2 ^ e.toNat * b = 2 ^ 128 * 2 ^ x.toNat * b * 2 ^ e.toNat by rw [Nat.mul_right_comm]] at k4
      rw [show a * 2 ^ (-x).toNat * 2 ^ e.toNat = 2 ^ e.toNat * a * 2 ^ (-x).toNat by rw [Nat.mul_right_comm, Nat.mul_comm a]] at k1
      rw [Nat.mul_assoc 10] at k2
      generalize 2 ^ (-e).toNat * b * 2 ^ (-x).toNat = Z at *
      omega
    · exact k
/-- A quotient between two bounds. -/
theorem div_of {a b c d : Nat} (hb : 0 < b) (hd : 0 < d) (h1 : a / b * d ≤ c) (h2 : c < (a / b + 1) * d) : c / d = a / b := by
  have l1 : a / b ≤ c / d := (Nat.le_div_iff_mul_le hd).2 h1
  have l2 : c / d < a / b + 1 := (Nat.div_lt_iff_lt_mul hd).2 h2
  omega
theorem rq_pos {e : Int} (h : 0 < rq e) : 7 ≤ e ∧ (rq e).toNat ≤ e.toNat := by unfold rq at *; omega
/-- The floor, from an entry rounded up. -/
theorem scale_up {e x : Int} {hi lo : BitVec 64} {mm s : Nat} (h1 : -1100 ≤ e) (h2 : e < 1031) (h : EN hi lo x (-rq e)) (hq : 0 < rq e) (hs : (s : Int) = -(e + x)) (hm0 : 0 < mm) (hm : mm < 36028797018963968) :
    mm * (v2 hi lo + 1) / 2 ^ s = mm * sA e / sB e := by
  have hsb := shift_bd h1 h2 h
  obtain ⟨hp1, hp2⟩ := rq_pos hq
  obtain ⟨q, hqv⟩ : ∃ q, q = (rq e).toNat := ⟨_, rfl⟩
  obtain ⟨n, hnv⟩ : ∃ n, n = e.toNat := ⟨_, rfl⟩
  have l := h.lb
  have u := h.ub
  rw [Int.neg_neg, show (-rq e).toNat = 0 by omega, ← hqv, Nat.pow_zero, Nat.one_mul, show x.toNat = 0 by omega, Nat.pow_zero, Nat.mul_one, show (-x).toNat = s + n by omega] at l u
  have hA : sA e = 2 ^ q * 2 ^ (n - q) := by
    unfold sA
    rw [show (-rq e).toNat = 0 by omega, Nat.pow_zero, Nat.mul_one, ← Nat.pow_add]
    exact congrArg (fun t => 2 ^ t) (by omega)
  have hB : sB e = 2 ^ q * 5 ^ q := by
    unfold sB
    rw [show (-e).toNat = 0 by omega, Nat.pow_zero, Nat.one_mul, ← hqv, ← ten_eq, Nat.mul_comm]
  have hsn : 2 ^ (s + n) = 2 ^ s * sA e := by
    rw [hA, Nat.pow_add, ← Nat.pow_add 2 q]
    exact congrArg (fun t => 2 ^ s * 2 ^ t) (by omega)
  have hten : 10 ^ q = sB e := by rw [hB, ← ten_eq, Nat.mul_comm]
  rw [hsn, hten] at l u
  have hBp := sB_pos e
  have hps := pow_pos2 s
  -- the gap
  have gap : ∀ k : Nat, mm * sA e < k * sB e → mm * sB e < 2 ^ s * (k * sB e - mm * sA e) := by
    intro k hk
    obtain ⟨g, hg⟩ : ∃ g, g = k * 5 ^ q - mm * 2 ^ (n - q) := ⟨_, rfl⟩
    have e1 : k * sB e = 2 ^ q * (k * 5 ^ q) := by rw [hB, ← Nat.mul_assoc, Nat.mul_comm k, Nat.mul_assoc]
    have e2 : mm * sA e = 2 ^ q * (mm * 2 ^ (n - q)) := by rw [hA, ← Nat.mul_assoc, Nat.mul_comm mm, Nat.mul_assoc]
    have e3 : mm * sB e = 2 ^ q * (mm * 5 ^ q) := by rw [hB, ← Nat.mul_assoc, Nat.mul_comm mm, Nat.mul_assoc]
    rw [e1, e2] at hk
    have hk' := Nat.lt_of_mul_lt_mul_left hk
    have e4 : k * sB e - mm * sA e = 2 ^ q * g := by rw [e1, e2, ← Nat.mul_sub, hg]
    rw [e4, e3, Nat.mul_left_comm (2 ^ s)]
    refine Nat.mul_lt_mul_of_pos_left ?_ (pow_pos2 q)
    have hs121 : 2 ^ 121 ≤ 2 ^ s := pow_le (by omega)
    have hg1 : 1 ≤ g := by omega
    have main : mm * 5 ^ q < 2 ^ 121 * g := by
      rcases Nat.lt_or_ge n 100 with c | c
      · have h5 : 5 ^ q ≤ 5 ^ 28 := Nat.pow_le_pow_right (by decide) (by unfold rq at hqv; omega)
        have h6 : (5 : Nat) ^ 28 = 37252902984619140625 := by decide +kernel
        have h7 : mm * 5 ^ q ≤ 36028797018963968 * 37252902984619140625 := Nat.mul_le_mul (by omega) (by omega)
        have h8 : (2 : Nat) ^ 121 = 2658455991569831745807614120560689152 := by decide +kernel
        omega
      · obtain ⟨cc, hc⟩ := certU c (show n < 1031 by omega)
        unfold okU at hc
        rw [show ((n : Nat) : Int) = e by omega, ← hqv] at hc
        have h3 := (ck_ok hc hm0 hm (k := k)).2 (Nat.le_of_lt hk')
        have h4 : 5 ^ q / 73786976294838206464 + 1 ≤ g := by omega
        have h5 : 5 ^ q < 73786976294838206464 * g := by
          have := Nat.div_add_mod (5 ^ q) 73786976294838206464
          have := Nat.mod_lt (5 ^ q) (show 0 < 73786976294838206464 by decide)
          have h6 : 73786976294838206464 * (5 ^ q / 73786976294838206464 + 1) ≤ 73786976294838206464 * g := Nat.mul_le_mul_left _ h4
          omega
        have h7 : mm * 5 ^ q ≤ 36028797018963968 * 5 ^ q := Nat.mul_le_mul_right _ (by omega)
        have h8 : (2 : Nat) ^ 121 = 36028797018963968 * 73786976294838206464 := by decide +kernel
        rw [h8, Nat.mul_assoc]
        omega
    exact Nat.lt_of_lt_of_le main (Nat.mul_le_mul_right _ hs121)
  have hd := Nat.div_add_mod (mm * sA e) (sB e)
  have hdl := Nat.mod_lt (mm * sA e) hBp
  have hk : mm * sA e < (mm * sA e / sB e + 1) * sB e := by
    rw [Nat.add_mul, Nat.one_mul, Nat.mul_comm (mm * sA e / sB e)]; omega
  have hg := gap _ hk
  have hle : mm * sA e / sB e * sB e ≤ mm * sA e := Nat.div_mul_le_self _ _
  refine div_of hBp hps ?_ ?_
  · -- n * 2^s * B <= m * A * 2^s <= m * T' * B
    refine Nat.le_of_mul_le_mul_right (c := sB e) ?_ hBp
    have a1 : mm * sA e / sB e * 2 ^ s * sB e = 2 ^ s * (mm * sA e / sB e * sB e) := by
      rw [Nat.mul_comm _ (2 ^ s), Nat.mul_assoc]
    have a2 : 2 ^ s * (mm * sA e / sB e * sB e) ≤ 2 ^ s * (mm * sA e) := Nat.mul_le_mul_left _ hle
    have a3 : mm * (2 ^ s * sA e) ≤ mm * ((v2 hi lo + 1) * sB e) := Nat.mul_le_mul_left _ (Nat.le_of_lt u)
    rw [a1, Nat.mul_assoc]
    refine Nat.le_trans a2 (Nat.le_trans (Nat.le_of_eq ?_) a3)
    rw [← Nat.mul_assoc, ← Nat.mul_assoc, Nat.mul_comm mm]
  · refine Nat.lt_of_mul_lt_mul_right (a := sB e) ?_
    have a1 : mm * (v2 hi lo + 1) * sB e ≤ 2 ^ s * (mm * sA e) + mm * sB e := by
      have : mm * (v2 hi lo * sB e) ≤ mm * (2 ^ s * sA e) := Nat.mul_le_mul_left _ l
      rw [Nat.mul_assoc, Nat.add_mul, Nat.one_mul, Nat.mul_add]
      rw [show 2 ^ s * (mm * sA e) = mm * (2 ^ s * sA e) by rw [← Nat.mul_assoc, ← Nat.mul_assoc, Nat.mul_comm mm]]
      omega
    have a2 : (mm * sA e / sB e + 1) * 2 ^ s * sB e = 2 ^ s * ((mm * sA e / sB e + 1) * sB e) := by
      rw [Nat.mul_comm _ (2 ^ s), Nat.mul_assoc]
    rw [a2]
    have a3 : 2 ^ s * ((mm * sA e / sB e + 1) * sB e) = 2 ^ s * (mm * sA e) + 2 ^ s * ((mm * sA e / sB e + 1) * sB e - mm * sA e) := by
      rw [← Nat.mul_add]
      exact congrArg (fun t => 2 ^ s * t) (by omega)
    omega
end Go.Proofs.YfwaawGreat
