/-
  Package nat, its plain part: subtract, the next number, multiply, shift up.
-/
import Derived.Test.YfwaawGreatPn1
namespace Go.Proofs.YfwaawGreat
open Go.Aw
set_option linter.unusedVariables false
set_option linter.unusedSimpArgs false

theorem p32 : (2 : Nat) ^ 32 = 4294967296 := rfl
theorem bv64 (x : BitVec 64) : x.toNat < 18446744073709551616 := x.isLt
theorem bv32 (x : BitVec 32) : x.toNat < 4294967296 := x.isLt
theorem shr_nat {w : Nat} (x : BitVec w) (k : Nat) : (x >>> k).toNat = x.toNat / 2 ^ k := by rw [BitVec.toNat_ushiftRight, Nat.shiftRight_eq_div_pow]
theorem sub64 (x y : BitVec 64) : (x - y).toNat = (18446744073709551616 - y.toNat + x.toNat) % 18446744073709551616 := by rw [BitVec.toNat_sub]
theorem low32 (x : BitVec 64) : (BitVec.ofInt 32 (x.toNat : Int)).toNat = x.toNat % 4294967296 := by rw [ofInt_nat, BitVec.toNat_ofNat]

/-! ### Sub -/
theorem F254_core {N : Nat} {x y : NS (BitVec 32)} (hle : y.2.1 ≤ x.2.1) (hv : vN y ≤ vN x) (hl : x.2.1 < 1073741824) (hN : x.2.1 + 1 < N) : ∃ r, F254_2 N x y false = some (r, true) ∧ NN r ∧ vN r = vN x - vN y := by
  unfold F254_2
  rw [bf rfl, bt (by simp; omega)]
  unfold F254_3 F254_5
  have key := iter_inv (L := F254_L6 N x y (x.2.1 : Int)) (I := fun v : BitVec 64 × Int × (Nat → BitVec 32) => 0 ≤ v.2.1 ∧ v.2.1 ≤ (x.2.1 : Int) ∧ v.1.toNat ≤ 1 ∧ vl v.2.1.toNat v.2.2 + vl v.2.1.toNat (ext0 y) = vl v.2.1.toNat x.2.2 + v.1.toNat * 2 ^ (32 * v.2.1.toNat)) (μ := fun v => ((x.2.1 : Int) - v.2.1).toNat) (Post := fun r => r.2 = true ∧ NN r.1 ∧ vN r.1 = vN x - vN y) (by
    rintro ⟨bo, i, c⟩ ⟨h0, h1, h2, h3⟩
    simp only at h0 h1 h2 h3 ⊢
    simp only [F254_L6, F254_L6b, F254_7, F254_9, F254_12, F254_10, F254_11, F254_8]
    by_cases hi : i < (x.2.1 : Int)
    · left
      have hb := bv32 (x.2.2 i.toNat)
      have hbe := bv32 (ext0 y i.toNat)
      have step : ∀ z : BitVec 64, z.toNat = (18446744073709551616 + (x.2.2 i.toNat).toNat - bo.toNat - (ext0 y i.toNat).toNat) % 18446744073709551616 →
          ∃ x', (bif (decide (0 ≤ i) && decide (i < ((x.2.1 : Int).toNat : Int))) then (some (.inl (z >>> 63, w64 (i + 1), upd c i.toNat (BitVec.ofInt 32 (z.toNat : Int)))) : Option ((BitVec 64 × Int × (Nat → BitVec 32)) ⊕ (NS (BitVec 32) × Bool))) else none) = some (.inl x') ∧ (0 ≤ x'.2.1 ∧ x'.2.1 ≤ (x.2.1 : Int) ∧ x'.1.toNat ≤ 1 ∧ vl x'.2.1.toNat x'.2.2 + vl x'.2.1.toNat (ext0 y) = vl x'.2.1.toNat x.2.2 + x'.1.toNat * 2 ^ (32 * x'.2.1.toNat)) ∧ ((x.2.1 : Int) - x'.2.1).toNat < ((x.2.1 : Int) - i).toNat := by
        intro z hz
        rw [bt (by simp; omega), w64_id (by omega)]
        have e63 : (z >>> 63).toNat = z.toNat / 9223372036854775808 := shr_nat z 63
        refine ⟨_, rfl, ⟨show 0 ≤ i + 1 by omega, show i + 1 ≤ (x.2.1 : Int) by omega, ?_, ?_⟩, show ((x.2.1 : Int) - (i + 1)).toNat < _ by omega⟩
        · show (z >>> 63).toNat ≤ 1
          rw [e63]; omega
        · show vl (i + 1).toNat (upd c i.toNat (BitVec.ofInt 32 (z.toNat : Int))) + vl (i + 1).toNat (ext0 y) = vl (i + 1).toNat x.2.2 + (z >>> 63).toNat * 2 ^ (32 * (i + 1).toNat)
          have ei : (i + 1).toNat = i.toNat + 1 := by omega
          rw [ei, vl, vl, vl, vl_upd (Nat.le_refl _), upd_eq, low32, e63, pow32_succ]
          -- the limb
          have hlimb : z.toNat % 4294967296 + (ext0 y i.toNat).toNat + bo.toNat = (x.2.2 i.toNat).toNat + z.toNat / 9223372036854775808 * 4294967296 := by omega
          have hm := congrArg (· * 2 ^ (32 * i.toNat)) hlimb
          simp only [Nat.add_mul] at hm
          rw [Nat.mul_comm (2 ^ (32 * i.toNat)) 4294967296, ← Nat.mul_assoc]
          omega
      rw [bt (by simpa using hi), bt (by simp; omega)]
      have e1 : ((BitVec.ofInt 64 ((x.2.2 i.toNat).toNat : Int)) - bo).toNat = (18446744073709551616 + (x.2.2 i.toNat).toNat - bo.toNat) % 18446744073709551616 := by
        rw [sub64, of32]; omega
      by_cases hy : i < (y.2.1 : Int)
      · rw [bt (by simpa using hy), bt (by simp; omega)]
        refine step _ ?_
        rw [sub64, e1, of32, ← ext0_lt (y := y) (i := i.toNat) (by omega)]
        omega
      · rw [bf (by simpa using hy)]
        refine step _ ?_
        rw [e1, ext0_ge (by omega)]; simp
    · right
      have : i = x.2.1 := by omega
      subst this
      rw [bf (by simp)]
      simp only [F254_4]
      simp only [Int.toNat_natCast] at h3 ⊢
      obtain ⟨t, e, ht⟩ := F33_ok (N := N) (a := (false, x.2.1, c)) (fun h => by cases h) (show x.2.1 < 2147483648 by omega) (show x.2.1 < N by omega)
      rw [e]
      refine ⟨(t, true), rfl, rfl, ht.nn, ?_⟩
      show vN t = _
      rw [ht.val]
      show vl x.2.1 c = _
      rw [vl_ext0 hle] at h3
      have hlt := vl_lt (f := c) (n := x.2.1)
      have hb0 : bo.toNat = 0 := by
        rcases Nat.eq_zero_or_pos bo.toNat with h | h
        · exact h
        · have : bo.toNat = 1 := by omega
          rw [this, Nat.one_mul] at h3
          have : vN x = vl x.2.1 x.2.2 := rfl
          omega
      rw [hb0, Nat.zero_mul] at h3
      have : vN x = vl x.2.1 x.2.2 := rfl
      omega) N (0#64, 0, fun _ => 0#32) ⟨by simp, by simp, by simp, by simp [vl]⟩ (by simp; omega)
  obtain ⟨⟨r, b⟩, e, h1, h2, h3⟩ := key
  exact ⟨r, by rw [e]; simp only at h1; rw [h1], h2, h3⟩

theorem F254_ok {N : Nat} {a b : NS (BitVec 32)} (ha : OKs a) (hb : OKs b) (hl : a.2.1 < 1073741824) (hl2 : b.2.1 < 1073741824) (hN : a.2.1 + 1 < N) (hN2 : b.2.1 + 1 < N) : ∃ r, F254 N a b = some (r, decide (vN b ≤ vN a)) ∧ NN r ∧ vN r = vN a - vN b := by
  obtain ⟨x, e, hx⟩ := F33_ok (N := N) ha (by omega) (by omega)
  obtain ⟨y, e', hy⟩ := F33_ok (N := N) hb (by omega) (by omega)
  have h1 := hx.le
  have h2 := hy.le
  unfold F254
  rw [e, e']
  simp only [Option.bind_some, F254_1]
  rw [F60_ok hx.nn.ok hy.nn.ok (by omega) (by omega) (by omega) (by omega)]
  simp only [Option.bind_some]
  rw [← hx.val, ← hy.val]
  by_cases hlt : vN x < vN y
  · have : decide (ncmp (vN x) (vN y) < 0) = true := by unfold ncmp; rw [if_pos hlt]; rfl
    rw [this]
    refine ⟨(true, 0, fun _ => 0#32), ?_, NN_nil, ?_⟩
    · unfold F254_2; rw [bt rfl]
      have : decide (vN y ≤ vN x) = false := by simp; omega
      rw [this]
    · show 0 = _; omega
  · have : decide (ncmp (vN x) (vN y) < 0) = false := by unfold ncmp; rw [if_neg hlt]; split <;> rfl
    rw [this]
    have hle : y.2.1 ≤ x.2.1 := by
      rcases Nat.lt_or_ge x.2.1 y.2.1 with h' | h'
      · exact (hlt (len_lt hy.nn h')).elim
      · exact h'
    obtain ⟨r, h3, h4, h5⟩ := F254_core (N := N) hle (by omega) (by omega) (by omega)
    refine ⟨r, ?_, h4, h5⟩
    rw [h3]
    have : decide (vN y ≤ vN x) = true := by simp; omega
    rw [this]

/-! ### Mul -/
theorem vl_set {c : Nat → BitVec 32} {v : BitVec 32} {i : Nat} : ∀ {n : Nat}, i < n → vl n (upd c i v) + (c i).toNat * 2 ^ (32 * i) = vl n c + v.toNat * 2 ^ (32 * i)
  | n + 1, h => by
    rcases Nat.lt_or_ge i n with h' | h'
    · have ih := vl_set (c := c) (v := v) h'
      rw [vl, vl, upd_ne (by omega)]; omega
    · have : i = n := by omega
      subst this
      rw [vl, vl, vl_upd (Nat.le_refl _), upd_eq]; omega

theorem mul32 (a b : BitVec 32) : (BitVec.ofInt 64 (a.toNat : Int) * BitVec.ofInt 64 (b.toNat : Int)).toNat = a.toNat * b.toNat := by
  rw [BitVec.toNat_mul, of32, of32]
  have h1 := bv32 a
  have h2 := bv32 b
  have : a.toNat * b.toNat ≤ 4294967295 * 4294967295 := Nat.mul_le_mul (by omega) (by omega)
  exact Nat.mod_eq_of_lt (by omega)

theorem F22_core {N : Nat} {x y : NS (BitVec 32)} (hl : x.2.1 < 1073741824) (hl2 : y.2.1 < 1073741824) (hN : x.2.1 + y.2.1 + 1 < N) : ∃ r, F22_1 N x y = some r ∧ NN r ∧ vN r = vN x * vN y := by
  unfold F22_1
  have hw : w64 ((x.2.1 : Int) + (y.2.1 : Int)) = (x.2.1 : Int) + (y.2.1 : Int) := w64_id (by omega)
  have hwn : (w64 ((x.2.1 : Int) + (y.2.1 : Int))).toNat = x.2.1 + y.2.1 := by rw [hw]; omega
  rw [hw, bt (by simp; omega)]
  unfold F22_2 F22_4
  refine iter_inv (L := F22_L5 N x y (x.2.1 : Int)) (I := fun v : Int × (Nat → BitVec 32) => 0 ≤ v.1 ∧ v.1 ≤ (x.2.1 : Int) ∧ vl (x.2.1 + y.2.1) v.2 = vl v.1.toNat x.2.2 * vN y ∧ ∀ k, v.1.toNat + y.2.1 ≤ k → v.2 k = 0#32) (μ := fun v => ((x.2.1 : Int) - v.1).toNat) (Post := fun r => NN r ∧ vN r = vN x * vN y) ?_ N _ ⟨by simp, by simp, by
    show vl (x.2.1 + y.2.1) (fun _ => 0#32) = vl (0 : Int).toNat x.2.2 * vN y
    rw [vl_drop (m := 0) (Nat.zero_le _) fun _ _ _ => rfl]; simp [vl], fun _ _ => rfl⟩ (by simp; omega)
  rintro ⟨i, c⟩ ⟨h0, h1, h3, h4⟩
  simp only at h0 h1 h3 h4 ⊢
  simp only [F22_L5, F22_L5b, F22_6]
  by_cases hi : i < (x.2.1 : Int)
  · left
    rw [bt (by simpa using hi)]
    unfold F22_9
    have hxi := bv32 (x.2.2 i.toNat)
    obtain ⟨out, e, hp⟩ := iter_inv (L := F22_L10 N x y (x.2.1 : Int) i (y.2.1 : Int)) (I := fun v : BitVec 64 × Int × (Nat → BitVec 32) => 0 ≤ v.2.1 ∧ v.2.1 ≤ (y.2.1 : Int) ∧ v.1.toNat < 4294967296 ∧ vl (x.2.1 + y.2.1) v.2.2 + v.1.toNat * 2 ^ (32 * (i.toNat + v.2.1.toNat)) = vl i.toNat x.2.2 * vN y + (x.2.2 i.toNat).toNat * vl v.2.1.toNat y.2.2 * 2 ^ (32 * i.toNat) ∧ ∀ k, i.toNat + v.2.1.toNat ≤ k → v.2.2 k = c k) (μ := fun v => ((y.2.1 : Int) - v.2.1).toNat)
      (Post := fun r => ∃ c', r = .inl (i + 1, c') ∧ vl (x.2.1 + y.2.1) c' = vl (i.toNat + 1) x.2.2 * vN y ∧ ∀ k, i.toNat + 1 + y.2.1 ≤ k → c' k = 0#32) (by
        rintro ⟨carry, j, d⟩ ⟨g0, g1, g2, g3, g4⟩
        simp only at g0 g1 g2 g3 g4 ⊢
        simp only [F22_L10, F22_L10b, F22_11, F22_13, F22_14, F22_12]
        by_cases hj : j < (y.2.1 : Int)
        · left
          have hwij : w64 (i + j) = i + j := w64_id (by omega)
          have hij : (i + j).toNat = i.toNat + j.toNat := by omega
          rw [bt (by simpa using hj), bt (by simp; omega), bt (by simp; omega), hwij, hwn, bt (by simp; omega), bt (by simp; omega), w64_id (by omega)]
          have hyj := bv32 (y.2.2 j.toNat)
          have hd := bv32 (d (i + j).toNat)
          have hprod : (x.2.2 i.toNat).toNat * (y.2.2 j.toNat).toNat ≤ 4294967295 * 4294967295 := Nat.mul_le_mul (by omega) (by omega)
          generalize hz : carry + (BitVec.ofInt 64 ((x.2.2 i.toNat).toNat : Int) * BitVec.ofInt 64 ((y.2.2 j.toNat).toNat : Int) + BitVec.ofInt 64 ((d (i + j).toNat).toNat : Int)) = z
          have hzn : z.toNat = carry.toNat + (x.2.2 i.toNat).toNat * (y.2.2 j.toNat).toNat + (d (i + j).toNat).toNat := by
            rw [← hz, BitVec.toNat_add, BitVec.toNat_add, mul32, of32]; omega
          have e32 : (z >>> 32).toNat = z.toNat / 4294967296 := shr_nat z 32
          have hzlt := bv64 z
          refine ⟨_, rfl, ⟨show 0 ≤ j + 1 by omega, show j + 1 ≤ (y.2.1 : Int) by omega, ?_, ?_, ?_⟩, show ((y.2.1 : Int) - (j + 1)).toNat < _ by omega⟩
          · show (z >>> 32).toNat < 4294967296
            rw [e32]; omega
          · show vl (x.2.1 + y.2.1) (upd d (i + j).toNat (BitVec.ofInt 32 (z.toNat : Int))) + (z >>> 32).toNat * 2 ^ (32 * (i.toNat + (j + 1).toNat)) = vl i.toNat x.2.2 * vN y + (x.2.2 i.toNat).toNat * vl (j + 1).toNat y.2.2 * 2 ^ (32 * i.toNat)
            have ej : (j + 1).toNat = j.toNat + 1 := by omega
            have hs := vl_set (c := d) (v := BitVec.ofInt 32 (z.toNat : Int)) (i := (i + j).toNat) (n := x.2.1 + y.2.1) (by omega)
            rw [low32, hij] at hs
            rw [ej, vl, e32, ← Nat.add_assoc, pow32_succ, hij]
            have hsp := limb_split z.toNat (2 ^ (32 * (i.toNat + j.toNat)))
            have hzm := congrArg (· * 2 ^ (32 * (i.toNat + j.toNat))) hzn
            simp only [Nat.add_mul, hij] at hzm
            have hpow : 2 ^ (32 * (i.toNat + j.toNat)) = 2 ^ (32 * i.toNat) * 2 ^ (32 * j.toNat) := by rw [Nat.mul_add, Nat.pow_add]
            have hre : (x.2.2 i.toNat).toNat * (vl j.toNat y.2.2 + (y.2.2 j.toNat).toNat * 2 ^ (32 * j.toNat)) * 2 ^ (32 * i.toNat) = (x.2.2 i.toNat).toNat * vl j.toNat y.2.2 * 2 ^ (32 * i.toNat) + (x.2.2 i.toNat).toNat * (y.2.2 j.toNat).toNat * 2 ^ (32 * (i.toNat + j.toNat)) := by
              rw [hpow, Nat.mul_add, Nat.add_mul]
              congr 1
              simp only [Nat.mul_assoc, Nat.mul_comm, Nat.mul_left_comm]
            rw [hre]
            omega
          · intro k hk
            show upd d (i + j).toNat _ k = c k
            have hk' : i.toNat + (j + 1).toNat ≤ k := hk
            rw [upd_ne (by omega)]
            exact g4 k (by omega)
        · right
          have : j = y.2.1 := by omega
          subst this
          have hwi : w64 (i + (y.2.1 : Int)) = i + (y.2.1 : Int) := w64_id (by omega)
          rw [bf (by simp)]
          simp only [F22_8, F22_7]
          rw [hwi, hwn, bt (by simp; omega), w64_id (by omega)]
          refine ⟨_, rfl, _, rfl, ?_, ?_⟩
          · have hiy : (i + (y.2.1 : Int)).toNat = i.toNat + y.2.1 := by omega
            have hs := vl_set (c := d) (v := BitVec.ofInt 32 (carry.toNat : Int)) (i := (i + (y.2.1 : Int)).toNat) (n := x.2.1 + y.2.1) (by omega)
            simp only [Int.toNat_natCast] at g3 g4
            have hd0 : d (i + (y.2.1 : Int)).toNat = 0#32 := by rw [g4 _ (by omega)]; exact h4 _ (by omega)
            rw [low32, hd0, Nat.mod_eq_of_lt g2, hiy] at hs
            rw [hiy, vl, Nat.add_mul]
            have hvy : vN y = vl y.2.1 y.2.2 := rfl
            have hre : (x.2.2 i.toNat).toNat * 2 ^ (32 * i.toNat) * vN y = (x.2.2 i.toNat).toNat * vl y.2.1 y.2.2 * 2 ^ (32 * i.toNat) := by
              rw [hvy]; simp only [Nat.mul_assoc, Nat.mul_comm, Nat.mul_left_comm]
            rw [hre]
            rw [show (0#32).toNat = 0 from rfl, Nat.zero_mul, Nat.add_zero] at hs
            omega
          · intro k hk
            simp only [Int.toNat_natCast] at g4
            rw [upd_ne (by omega), g4 k (by omega)]
            exact h4 k (by omega)) N (0#64, 0, c) ⟨by simp, by simp, by simp, by simp [h3, vl], fun k hk => rfl⟩ (by simp; omega)
    obtain ⟨c', rfl, h5, h6⟩ := hp
    refine ⟨_, e, ⟨show 0 ≤ i + 1 by omega, show i + 1 ≤ (x.2.1 : Int) by omega, ?_, ?_⟩, show ((x.2.1 : Int) - (i + 1)).toNat < _ by omega⟩
    · show vl (x.2.1 + y.2.1) c' = vl (i + 1).toNat x.2.2 * vN y
      rw [show (i + 1).toNat = i.toNat + 1 from by omega]; exact h5
    · intro k hk
      have hk' : (i + 1).toNat + y.2.1 ≤ k := hk
      exact h6 k (by omega)
  · right
    have : i = x.2.1 := by omega
    subst this
    rw [bf (by simp)]
    simp only [F22_3]
    rw [hwn]
    obtain ⟨t, e, ht⟩ := F33_ok (N := N) (a := (false, x.2.1 + y.2.1, c)) (fun h => by cases h) (show x.2.1 + y.2.1 < 2147483648 by omega) (show x.2.1 + y.2.1 < N by omega)
    rw [e]
    refine ⟨t, rfl, ht.nn, ?_⟩
    rw [ht.val]
    simp only [Int.toNat_natCast] at h3
    exact h3

theorem F22_ok {N : Nat} {a b : NS (BitVec 32)} (ha : OKs a) (hb : OKs b) (hl : a.2.1 < 1073741824) (hl2 : b.2.1 < 1073741824) (hN : a.2.1 + b.2.1 + 1 < N) : ∃ r, F22 N a b = some r ∧ NN r ∧ vN r = vN a * vN b := by
  obtain ⟨x, e, hx⟩ := F33_ok (N := N) ha (by omega) (by omega)
  obtain ⟨y, e', hy⟩ := F33_ok (N := N) hb (by omega) (by omega)
  have h1 := hx.le
  have h2 := hy.le
  unfold F22
  rw [e, e']
  simp only [Option.bind_some]
  rw [← hx.val, ← hy.val]
  exact F22_core (by omega) (by omega) (by omega)
end Go.Proofs.YfwaawGreat
