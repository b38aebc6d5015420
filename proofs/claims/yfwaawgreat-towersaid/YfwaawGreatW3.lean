/-
  Package wide, plain: the square root.
-/
import Derived.Test.YfwaawGreatW2
import Derived.Test.YfwaawGreatG30
namespace Go.Proofs.YfwaawGreat
open Go.Aw
set_option linter.unusedVariables false
set_option linter.unusedSimpArgs false

/-- The lower half of a root, by dividing what the upper half leaves by twice it. -/
theorem sqrt_step {β s left mid lo x q : Nat} (hx : x = (s * s + left) * (β * β) + mid * β + lo) (hm : mid < β) (hl : lo < β) (hle : left ≤ 2 * s) (hs : β ≤ 2 * s) (hq : q = (left * β + mid) / (2 * s)) :
    isq x = if x < (s * β + min q (β - 1)) * (s * β + min q (β - 1)) then s * β + min q (β - 1) - 1 else s * β + min q (β - 1) := by
  have hs0 : 0 < 2 * s := by omega
  have hdm := Nat.div_add_mod (left * β + mid) (2 * s)
  have hml := Nat.mod_lt (left * β + mid) hs0
  rw [← hq] at hdm
  obtain ⟨t, ht⟩ : ∃ t, t = min q (β - 1) := ⟨_, rfl⟩
  rw [← ht]
  have htb : t + 1 ≤ β := by omega
  have htq : t ≤ q := by omega
  -- above
  have hA : x < (s * β + t + 1) * (s * β + t + 1) := by
    rcases Nat.lt_or_ge q β with c | c
    · have htq : t = q := by omega
      rw [htq]
      have e1 : (s * β + q + 1) * (s * β + q + 1) = s * s * (β * β) + β * (2 * s * (q + 1)) + (q + 1) * (q + 1) := by grind
      have e2 : (left * β + mid + 1) * β ≤ β * (2 * s * (q + 1)) := by
        rw [Nat.mul_comm]
        refine Nat.mul_le_mul_left _ ?_
        rw [Nat.mul_add, Nat.mul_one]; omega
      have e3 : (left * β + mid + 1) * β = left * (β * β) + mid * β + β := by grind
      have e4 : (s * s + left) * (β * β) = s * s * (β * β) + left * (β * β) := by grind
      rw [hx, e1, e4]
      omega
    · have hte : t + 1 = β := by omega
      have e1 : (s * β + t + 1) * (s * β + t + 1) = (s * s + 2 * s + 1) * (β * β) := by
        rw [Nat.add_assoc, hte]; grind
      have e2 : (s * s + left + 1) * (β * β) ≤ (s * s + 2 * s + 1) * (β * β) := Nat.mul_le_mul_right _ (by omega)
      have e3 : (s * s + left + 1) * (β * β) = (s * s + left) * (β * β) + β * β := by grind
      have e4 : (mid + 1) * β ≤ β * β := Nat.mul_le_mul_right _ hm
      rw [Nat.add_mul, Nat.one_mul] at e4
      rw [hx, e1]
      omega
  -- one below
  have hB : (s * β + t) * (s * β + t) ≤ x + t * t := by
    have e1 : (s * β + t) * (s * β + t) = s * s * (β * β) + β * (2 * s * t) + t * t := by grind
    have e2 : β * (2 * s * t) ≤ β * (left * β + mid) := by
      refine Nat.mul_le_mul_left _ ?_
      have := Nat.mul_le_mul_left (2 * s) htq
      omega
    have e3 : β * (left * β + mid) = left * (β * β) + mid * β := by grind
    have e4 : (s * s + left) * (β * β) = s * s * (β * β) + left * (β * β) := by grind
    rw [hx, e1, e4]
    omega
  have hC : t * t + 1 ≤ 2 * (s * β + t) := by
    have e1 : (t + 1) * (t + 1) ≤ 2 * s * β := Nat.mul_le_mul (by omega) htb
    have e2 : (t + 1) * (t + 1) = t * t + 2 * t + 1 := by grind
    have e3 : 2 * s * β = 2 * (s * β) := by grind
    omega
  generalize hS : s * β + t = S at *
  by_cases c : x < S * S
  · rw [if_pos c]
    obtain ⟨R, hR⟩ : ∃ R, S = R + 1 := ⟨S - 1, by omega⟩
    rw [hR, Nat.add_sub_cancel]
    rw [hR] at c hB hC
    have e1 : (R + 1) * (R + 1) = R * R + 2 * R + 1 := by grind
    exact isq_unique (by omega) c
  · rw [if_neg c]
    exact isq_unique (by omega) hA

theorem umin_nat {w : Nat} (a b : BitVec w) : (umin a b).toNat = min a.toNat b.toNat := by
  unfold umin
  by_cases h : b.toNat < a.toNat
  · rw [bt (decide_eq_true h)]; omega
  · rw [bf (decide_eq_false h)]; omega

theorem blen_p2 (k : Nat) : blen (2 ^ k) = k + 1 := by
  have a : blen (2 ^ k) ≤ k + 1 := blen_le_iff.2 (pow_lt (by omega))
  have b : ¬ blen (2 ^ k) ≤ k := fun c => by have := blen_le_iff.1 c; omega
  omega
/-- After the bits: the root of the upper half, and what it leaves. -/
theorem F361_2_ok {N : Nat} {x s left : BitVec 64} (hx : 2 ^ 62 ≤ x.toNat) (h1 : s.toNat * s.toNat + left.toNat = x.toNat / 4294967296) (h2 : x.toNat / 4294967296 < (s.toNat + 1) * (s.toNat + 1)) (hs : s.toNat < 65536) :
    ∃ q r, F361_2 N x s left = some (q, r) ∧ q.toNat = isq x.toNat ∧ r.toNat = x.toNat - isq x.toNat * isq x.toNat := by
  have hxl := x.isLt
  have p62 : (2 : Nat) ^ 62 = 4611686018427387904 := rfl
  rw [p62] at hx
  have e0 : (s.toNat + 1) * (s.toNat + 1) = s.toNat * s.toNat + 2 * s.toNat + 1 := by grind
  have hle : left.toNat ≤ 2 * s.toNat := by omega
  have hs15 : 32768 ≤ s.toNat := by
    rcases Nat.lt_or_ge s.toNat 32768 with c | c
    · have := Nat.mul_le_mul (show s.toNat + 1 ≤ 32768 by omega) (show s.toNat + 1 ≤ 32768 by omega)
      omega
    · exact c
  unfold F361_2 F361_3 F361_4 F361_6 F361_5
  have e1 : (2#64 * s).toNat = 2 * s.toNat := by rw [mul64, show (2#64).toNat = 2 from rfl]; omega
  have hz : (2#64 * s != 0#64) = true := by rw [ne_bv, e1]; exact decide_eq_true (by show 2 * s.toNat ≠ 0; omega)
  rw [hz, bt rfl]
  have e2 : (left <<< 16).toNat = left.toNat * 65536 := shl_nat _ _ (by
    show left.toNat * 65536 < 18446744073709551616
    omega)
  have e3 : (x >>> 16 &&& 65535#64).toNat = x.toNat / 65536 % 65536 := by
    rw [BitVec.toNat_and, show (65535#64).toNat = 2 ^ 16 - 1 from rfl, Nat.and_two_pow_sub_one_eq_mod, shr_nat]
  have e4 : ((left <<< 16) ||| (x >>> 16 &&& 65535#64)).toNat = left.toNat * 65536 + x.toNat / 65536 % 65536 := by
    rw [BitVec.or_comm, or_add _ _ 16 (by rw [e3]; exact Nat.mod_lt _ (by decide)) (by rw [e2]; exact Nat.dvd_mul_left _ _), e2, e3]; omega
  have e5 : (((left <<< 16) ||| (x >>> 16 &&& 65535#64)) / (2#64 * s)).toNat = (left.toNat * 65536 + x.toNat / 65536 % 65536) / (2 * s.toNat) := by
    rw [BitVec.toNat_udiv, e4, e1]
  generalize ((left <<< 16) ||| (x >>> 16 &&& 65535#64)) / (2#64 * s) = q at *
  have e6 : (s <<< 16).toNat = s.toNat * 65536 := shl_nat _ _ (by
    show s.toNat * 65536 < 18446744073709551616
    omega)
  have e7 : (umin q 65535#64).toNat = min q.toNat 65535 := umin_nat _ _
  have e8 : ((s <<< 16) ||| umin q 65535#64).toNat = s.toNat * 65536 + min q.toNat 65535 := by
    rw [BitVec.or_comm, or_add _ _ 16 (by rw [e7]; show min q.toNat 65535 < 65536; omega) (by rw [e6]; exact Nat.dvd_mul_left _ _), e6, e7]; omega
  generalize (s <<< 16) ||| umin q 65535#64 = S at *
  have hS32 : S.toNat < 4294967296 := by omega
  have hSS : S.toNat * S.toNat ≤ 4294967295 * 4294967295 := Nat.mul_le_mul (by omega) (by omega)
  have e9 : (S * S).toNat = S.toNat * S.toNat := by rw [mul64]; exact Nat.mod_eq_of_lt (by omega)
  have hstep := sqrt_step (β := 65536) (s := s.toNat) (left := left.toNat) (mid := x.toNat / 65536 % 65536) (lo := x.toNat % 65536) (x := x.toNat) (q := q.toNat) (by rw [h1]; omega) (by omega) (by omega) hle (by omega) e5
  rw [← e8] at hstep
  rw [e9]
  have hfin : ∀ r : BitVec 64, r.toNat = isq x.toNat → r.toNat ≤ S.toNat → (x - r * r).toNat = x.toNat - isq x.toNat * isq x.toNat := by
    intro r hr hle
    have h5 := isq_le x.toNat
    rw [← hr] at h5 ⊢
    have h6 : (r * r).toNat = r.toNat * r.toNat := by rw [mul64]; exact Nat.mod_eq_of_lt (by omega)
    rw [sub64, h6]
    omega
  by_cases c : x.toNat < S.toNat * S.toNat
  · rw [bt (decide_eq_true c)]
    rw [if_pos c] at hstep
    have e10 : (S - 1#64).toNat = S.toNat - 1 := by
      rw [sub64, show (1#64).toNat = 1 from rfl]
      have := S.isLt
      omega
    exact ⟨_, _, rfl, by rw [e10, hstep], hfin _ (by rw [e10, hstep]) (by omega)⟩
  · rw [bf (decide_eq_false c)]
    rw [if_neg c] at hstep
    exact ⟨_, _, rfl, hstep.symm, hfin _ hstep.symm (by omega)⟩

/-- The bits' loop: k bits to go. -/
def RI (X k s left bit : Nat) : Prop := k ≤ 16 ∧ bit = 2 ^ k / 2 ∧ 2 ^ k ∣ s ∧ s + 2 ^ k ≤ 65536 ∧ s * s + left = X ∧ X < (s + 2 ^ k) * (s + 2 ^ k)
theorem ri_start {X : Nat} (h : X < 4294967296) : RI X 16 0 X 32768 := by
  refine ⟨Nat.le_refl _, rfl, Nat.dvd_zero _, Nat.le_refl _, ?_, ?_⟩
  · omega
  · rw [show (2 : Nat) ^ 16 = 65536 from rfl]; omega
theorem F361_ok {N : Nat} (hN : 17 ≤ N) {x : BitVec 64} (hx : 2 ^ 62 ≤ x.toNat) : ∃ q r, F361 N x = some (q, r) ∧ q.toNat = isq x.toNat ∧ r.toNat = x.toNat - isq x.toNat * isq x.toNat := by
  have hxl := x.isLt
  unfold F361 F361_1
  have htop : (x >>> 32).toNat = x.toNat / 4294967296 := shr_nat _ _
  have ht32 : x.toNat / 4294967296 < 4294967296 := by omega
  obtain ⟨r, hr, hp⟩ := iter_inv (L := F361_L7 N x)
    (fun v : BitVec 64 × BitVec 64 × BitVec 64 => ∃ k, RI (x.toNat / 4294967296) k v.1.toNat v.2.1.toNat v.2.2.toNat)
    (fun v => blen v.2.2.toNat)
    (fun r : BitVec 64 × BitVec 64 => r.1.toNat = isq x.toNat ∧ r.2.toNat = x.toNat - isq x.toNat * isq x.toNat)
    (by
      rintro ⟨s, left, bit⟩ ⟨k, hk, hb, hd, hsl, hsum, hup⟩
      simp only at hb hd hsl hsum hup
      unfold F361_L7 F361_L7b F361_8
      cases k with
      | zero =>
        rw [Nat.pow_zero] at hb hup hsl
        rw [bf (by show decide (0 < bit.toNat) = false; exact decide_eq_false (by omega))]
        obtain ⟨q, r, f1, f2, f3⟩ := F361_2_ok (N := N) hx hsum hup (by omega)
        rw [f1]
        exact .inr ⟨(q, r), rfl, f2, f3⟩
      | succ k =>
        have hp := pow_pos2 k
        have hb' : bit.toNat = 2 ^ k := by rw [hb, Nat.pow_succ]; omega
        rw [Nat.pow_succ] at hd hsl hup
        have hk15 : 2 ^ k ≤ 32768 := @pow_le k 15 (by omega)
        rw [bt (by show decide (0 < bit.toNat) = true; exact decide_eq_true (by omega))]
        unfold F361_10 F361_11
        have hsb : (2 * s.toNat + 2 ^ k) * 2 ^ k ≤ 262144 * 32768 := Nat.mul_le_mul (by omega) hk15
        have et : ((2#64 * s + bit) * bit).toNat = (2 * s.toNat + 2 ^ k) * 2 ^ k := by
          have e1 : (2#64 * s + bit).toNat = 2 * s.toNat + 2 ^ k := by
            rw [add64, mul64, hb', show (2#64).toNat = 2 from rfl]; omega
          rw [mul64, e1, hb']; exact Nat.mod_eq_of_lt (by omega)
        have hsq : (s.toNat + 2 ^ k) * (s.toNat + 2 ^ k) = s.toNat * s.toNat + (2 * s.toNat + 2 ^ k) * 2 ^ k := by grind
        have hbit2 : (bit >>> 1).toNat = 2 ^ k / 2 := by rw [shr_nat, hb']
        have hmu : blen (bit >>> 1).toNat < blen bit.toNat := by
          rw [hbit2, hb', blen_p2]
          cases k with
          | zero => rw [Nat.pow_zero, show 1 / 2 = 0 from rfl, blen_zero]; omega
          | succ k => rw [Nat.pow_succ, Nat.mul_div_cancel _ (by decide), blen_p2]; omega
        rw [et]
        by_cases c : (2 * s.toNat + 2 ^ k) * 2 ^ k ≤ left.toNat
        · rw [bt (decide_eq_true c)]
          unfold F361_12 F361_9
          have eor : (s ||| bit).toNat = s.toNat + 2 ^ k := by
            rw [BitVec.or_comm, or_add _ _ (k + 1) (by rw [hb', Nat.pow_succ]; omega) (by rw [Nat.pow_succ]; exact hd), hb']; omega
          have esub : (left - (2#64 * s + bit) * bit).toNat = left.toNat - (2 * s.toNat + 2 ^ k) * 2 ^ k := by
            rw [sub64, et]
            have := left.isLt
            omega
          refine .inl ⟨_, rfl, ⟨k, by omega, hbit2, ?_, ?_, ?_, ?_⟩, hmu⟩
          · simp only []; rw [eor]; exact (Nat.dvd_add_left (Nat.dvd_refl _)).2 (Nat.dvd_trans ⟨2, rfl⟩ hd)
          · simp only []; rw [eor]; omega
          · simp only []; rw [eor, esub, hsq]; omega
          · simp only []; rw [eor, show s.toNat + 2 ^ k + 2 ^ k = s.toNat + 2 ^ k * 2 from by omega]; exact hup
        · rw [bf (decide_eq_false c)]
          unfold F361_9
          refine .inl ⟨_, rfl, ⟨k, by omega, hbit2, ?_, ?_, hsum, ?_⟩, hmu⟩
          · exact Nat.dvd_trans ⟨2, rfl⟩ hd
          · simp only []; omega
          · simp only []; rw [hsq]; omega)
    N (0#64, x >>> 32, 32768#64) ⟨16, by
      have := ri_start ht32
      rw [← htop] at this ⊢
      exact this⟩ (by
      have : blen (32768#64).toNat = 16 := blen_p2 15
      simp only []
      omega)
  exact ⟨r.1, r.2, hr, hp.1, hp.2⟩
end Go.Proofs.YfwaawGreat
