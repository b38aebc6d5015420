/-
  Package nat, its plain part: shift down, bits, words, powers of five, division by a limb.
-/
import Derived.Test.YfwaawGreatPn3
namespace Go.Proofs.YfwaawGreat
open Go.Aw
set_option linter.unusedVariables false
set_option linter.unusedSimpArgs false

theorem tdiv32 (K : Nat) : (K : Int).tdiv 32 = ((K / 32 : Nat) : Int) := by
  rw [Int.tdiv_eq_ediv_of_nonneg (by omega)]; omega
theorem tmod32 (K : Nat) : (K : Int).tmod 32 = ((K % 32 : Nat) : Int) := by
  rw [Int.tmod_eq_emod_of_nonneg (by omega)]; omega

theorem F36_ok {N : Nat} {a : NS (BitVec 32)} {k : BitVec 16} (ha : OKs a) (hl : a.2.1 < 1073741824) (hN : a.2.1 + 3000 < N) : ∃ r, F36 N a k = some r ∧ NN r ∧ vN r = vN a * 2 ^ k.toNat := by
  have hk := k.isLt
  unfold F36
  rw [w64_id (by omega)]
  obtain ⟨r, e, h1, h2⟩ := F64_ok (N := N) (a := a) (k := (k.toNat : Int)) ha (by omega) hl (by simp only [Int.toNat_natCast]; omega)
  rw [e]
  exact ⟨r, rfl, h1, by simpa using h2⟩

theorem zero_limbs {f : Nat → BitVec 32} : ∀ {n : Nat}, vl n f = 0 ↔ ∀ i, i < n → (f i).toNat = 0
  | 0 => by simp [vl]
  | n + 1 => by
    have hp : 0 < 2 ^ (32 * n) := Nat.two_pow_pos _
    rw [vl]
    constructor
    · intro h i hi
      have h1 : vl n f = 0 := by omega
      have h2 : (f n).toNat * 2 ^ (32 * n) = 0 := by omega
      rcases Nat.lt_or_ge i n with h' | h'
      · exact zero_limbs.1 h1 i h'
      · have : i = n := by omega
        subst this
        rcases Nat.mul_eq_zero.1 h2 with h | h <;> omega
    · intro h
      rw [zero_limbs.2 fun i hi => h i (by omega), h n (by omega)]; simp

theorem mask32 (x : BitVec 32) (b : Nat) (hb : b < 32) : (x &&& ((1#32 <<< b) - 1#32)).toNat = x.toNat % 2 ^ b := by
  rw [BitVec.toNat_and]
  have h1 : ((1#32 <<< b) - 1#32).toNat = 2 ^ b - 1 := by
    have hp : 0 < 2 ^ b := Nat.two_pow_pos _
    have hle : 2 ^ b ≤ 2 ^ 31 := Nat.pow_le_pow_right (by decide) (by omega)
    have e : (1#32 <<< b).toNat = 2 ^ b := by
      rw [BitVec.toNat_shiftLeft, Nat.shiftLeft_eq, show (1#32).toNat = 1 from rfl, Nat.one_mul]
      exact Nat.mod_eq_of_lt (by omega)
    rw [BitVec.toNat_sub, e, show (1#32).toNat = 1 from rfl]
    omega
  rw [h1, Nat.and_two_pow_sub_one_eq_mod]

theorem win_div (A p b : Nat) (hb : b < 32) : (A / p % 4294967296 + A / (p * 4294967296) % 4294967296 * 4294967296) / 2 ^ b % 4294967296 = A / (p * 2 ^ b) % 4294967296 := by
  have e1 : A / p % 4294967296 + A / (p * 4294967296) % 4294967296 * 4294967296 = A / p % (4294967296 * 4294967296) := by
    rw [Nat.mod_mul, Nat.div_div_eq_div_mul, Nat.mul_comm 4294967296 (_ % _)]
  rw [e1, ← Nat.div_div_eq_div_mul A p]
  generalize A / p = B
  have e2 : (4294967296 * 4294967296 : Nat) = 2 ^ b * (4294967296 * 2 ^ (32 - b)) := by
    have : (4294967296 : Nat) = 2 ^ b * 2 ^ (32 - b) := by rw [← Nat.pow_add, show b + (32 - b) = 32 from by omega]
    grind
  rw [e2, Nat.mod_mul_right_div_self, Nat.mod_mul_right_mod]

theorem F38_tail {N : Nat} {x : NS (BitVec 32)} {L B : Nat} {lost : Bool} (hl : x.2.1 < 1073741824) (hL : L < x.2.1) (hB : B < 32) (hN : x.2.1 + 1 < N) :
    ∃ r, F38_5 N x (L : Int) (B : Int) lost = some (r, lost) ∧ NN r ∧ vN r = vN x / 2 ^ (32 * L + B) := by
  unfold F38_5 F38_6 F38_8
  have hw : w64 ((x.2.1 : Int) - (L : Int)) = ((x.2.1 - L : Nat) : Int) := by rw [w64_id (by omega)]; omega
  rw [hw, bt (by simp; omega)]
  simp only [Int.toNat_natCast]
  have key := iter_inv (L := F38_L9 N x (L : Int) (B : Int) lost ((x.2.1 - L : Nat) : Int)) (I := fun v : Int × (Nat → BitVec 32) => 0 ≤ v.1 ∧ v.1 ≤ ((x.2.1 - L : Nat) : Int) ∧ ∀ j, j < v.1.toNat → (v.2 j).toNat = vN x / 2 ^ (32 * L + B) / 2 ^ (32 * j) % 4294967296) (μ := fun v => (((x.2.1 - L : Nat) : Int) - v.1).toNat) (Post := fun r => r.2 = lost ∧ NN r.1 ∧ vN r.1 = vN x / 2 ^ (32 * L + B)) (by
    rintro ⟨i, c⟩ ⟨g0, g1, g2⟩
    simp only at g0 g1 g2 ⊢
    simp only [F38_L9, F38_L9b, F38_10, F38_12, F38_14, F38_13, F38_11, F38_7]
    by_cases hi : i < ((x.2.1 - L : Nat) : Int)
    · left
      obtain ⟨n, rfl⟩ : ∃ n : Nat, i = (n : Int) := ⟨i.toNat, by omega⟩
      simp only [Int.toNat_natCast] at g2 ⊢
      have hwi : w64 ((n : Int) + (L : Int)) = ((n + L : Nat) : Int) := by rw [w64_id (by omega)]; omega
      have hwi1 : w64 (((n + L : Nat) : Int) + 1) = ((n + L + 1 : Nat) : Int) := by rw [w64_id (by omega)]; omega
      have hwn : w64 ((n : Int) + 1) = ((n + 1 : Nat) : Int) := by rw [w64_id (by omega)]; omega
      rw [hw, hwi, hwi1, hwn]
      simp only [Int.toNat_natCast]
      rw [bt (by simpa using hi), bt (by simp; omega)]
      have hlo : (ext0 x (n + L)).toNat = (x.2.2 (n + L)).toNat := by rw [ext0_lt (by omega)]
      have key2 : ∀ z : BitVec 64, z.toNat = (ext0 x (n + L)).toNat + (ext0 x (n + L + 1)).toNat * 4294967296 →
          (BitVec.ofInt 32 ((z >>> B).toNat : Int)).toNat = vN x / 2 ^ (32 * L + B) / 2 ^ (32 * n) % 4294967296 := by
        intro z hz
        rw [low32, shr_nat, hz, ← limb_ext, ← limb_ext, pow32_succ, win_div _ _ _ hB, Nat.div_div_eq_div_mul, ← Nat.pow_add, ← Nat.pow_add]
        congr 3
        omega
      have fin : ∀ z : BitVec 64, z.toNat = (ext0 x (n + L)).toNat + (ext0 x (n + L + 1)).toNat * 4294967296 →
          ∃ x', (bif decide (0 ≤ (B : Int)) then bif (decide (0 ≤ (n : Int)) && decide ((n : Int) < ((x.2.1 - L : Nat) : Int))) then (some (.inl (((n + 1 : Nat) : Int), upd c n (BitVec.ofInt 32 ((z >>> B).toNat : Int)))) : Option ((Int × (Nat → BitVec 32)) ⊕ (NS (BitVec 32) × Bool))) else none else none) = some (.inl x') ∧ (0 ≤ x'.1 ∧ x'.1 ≤ ((x.2.1 - L : Nat) : Int) ∧ ∀ j, j < x'.1.toNat → (x'.2 j).toNat = vN x / 2 ^ (32 * L + B) / 2 ^ (32 * j) % 4294967296) ∧ (((x.2.1 - L : Nat) : Int) - x'.1).toNat < (((x.2.1 - L : Nat) : Int) - (n : Int)).toNat := by
        intro z hz
        rw [bt (by simp), bt (by simpa using hi)]
        refine ⟨_, rfl, ⟨show 0 ≤ ((n + 1 : Nat) : Int) by omega, show ((n + 1 : Nat) : Int) ≤ _ by omega, ?_⟩, show (((x.2.1 - L : Nat) : Int) - ((n + 1 : Nat) : Int)).toNat < _ by omega⟩
        intro j hj
        have hj' : j < ((n + 1 : Nat) : Int).toNat := hj
        show (upd c n _ j).toNat = _
        by_cases hjn : j = n
        · subst hjn; rw [upd_eq]; exact key2 z hz
        · rw [upd_ne hjn]; exact g2 j (by omega)
      by_cases hy : n + L + 1 < x.2.1
      · rw [bt (by simp; omega), bt (by simp; omega)]
        refine fin _ ?_
        have e1 : ((BitVec.ofInt 64 ((x.2.2 (n + L + 1)).toNat : Int)) <<< 32).toNat = (x.2.2 (n + L + 1)).toNat * 4294967296 := by
          have := bv32 (x.2.2 (n + L + 1))
          rw [BitVec.toNat_shiftLeft, of32, Nat.shiftLeft_eq, p32]; exact Nat.mod_eq_of_lt (by omega)
        rw [or_add _ _ 32 (by rw [of32]; exact (x.2.2 (n + L)).isLt) (by rw [e1]; exact ⟨_, Nat.mul_comm _ _⟩), of32, e1, hlo, ext0_lt hy]
      · rw [bf (by simp; omega)]
        refine fin _ ?_
        rw [of32, hlo, ext0_ge hy]; simp
    · right
      have : i = ((x.2.1 - L : Nat) : Int) := by omega
      subst this
      rw [bf (by simp), hw]
      simp only [Int.toNat_natCast] at g2 ⊢
      obtain ⟨t, e', ht⟩ := F33_ok (N := N) (a := (false, x.2.1 - L, c)) (fun h => by cases h) (show x.2.1 - L < 2147483648 by omega) (show x.2.1 - L < N by omega)
      rw [e']
      refine ⟨(t, lost), rfl, rfl, ht.nn, ?_⟩
      show vN t = _
      rw [ht.val]
      show vl (x.2.1 - L) c = _
      rw [vl_mod g2]
      refine Nat.mod_eq_of_lt ?_
      rw [Nat.div_lt_iff_lt_mul (Nat.two_pow_pos _), ← Nat.pow_add]
      exact Nat.lt_of_lt_of_le vN_lt (Nat.pow_le_pow_right (by decide) (by omega))) N (0, fun _ => 0#32) ⟨by simp, by simp, fun j hj => by have : j < 0 := hj; omega⟩ (by simp; omega)
  obtain ⟨⟨r, b⟩, e, h1, h2, h3⟩ := key
  exact ⟨r, by rw [e]; simp only at h1; rw [h1], h2, h3⟩

theorem low_mod {f : Nat → BitVec 32} {L B n : Nat} (hL : L < n) (hB : B < 32) : vl n f % 2 ^ (32 * L + B) = vl L f + (f L).toNat % 2 ^ B * 2 ^ (32 * L) := by
  rw [Nat.pow_add, Nat.mod_mul]
  have h1 : vl n f % 2 ^ (32 * L) = vl L f := by
    rw [← vl_mod (A := vl n f) (f := f) (n := L) fun j hj => (limb_get (by omega)).symm]
  have h2 : vl n f / 2 ^ (32 * L) % 2 ^ B = (f L).toNat % 2 ^ B := by
    rw [← limb_get (f := f) hL]
    refine (Nat.mod_mod_of_dvd _ ?_).symm
    exact ⟨2 ^ (32 - B), by rw [← Nat.pow_add, show B + (32 - B) = 32 from by omega]⟩
  rw [h1, h2, Nat.mul_comm]

theorem F38_ok {N : Nat} {a : NS (BitVec 32)} {k : BitVec 16} (ha : OKs a) (hl : a.2.1 < 1073741824) (hN : a.2.1 + 1 < N) : ∃ r, F38 N a k = some (r, vN a % 2 ^ k.toNat != 0) ∧ NN r ∧ vN r = vN a / 2 ^ k.toNat := by
  obtain ⟨x, e, hx⟩ := F33_ok (N := N) ha (by omega) (by omega)
  have h1 := hx.le
  unfold F38
  rw [e]
  simp only [Option.bind_some, F38_1]
  rw [← hx.val]
  have hk := k.isLt
  rw [w64_id (by omega : -9223372036854775808 ≤ (k.toNat : Int) ∧ (k.toNat : Int) < 9223372036854775808), tdiv32, tmod32, w64_id (by omega)]
  generalize hL : k.toNat / 32 = L
  generalize hB : k.toNat % 32 = B
  have hB32 : B < 32 := by omega
  have hKe : k.toNat = 32 * L + B := by omega
  rw [hKe]
  have hv : vN x = vl x.2.1 x.2.2 := rfl
  unfold F38_2
  have key := iter_inv (L := F38_L15 N x (L : Int) (B : Int)) (I := fun v : Bool × Int => 0 ≤ v.2 ∧ v.2 ≤ (L : Int) ∧ v.2 ≤ (x.2.1 : Int) ∧ v.1 = (vl v.2.toNat x.2.2 != 0)) (μ := fun v => ((x.2.1 : Int) - v.2).toNat) (Post := fun r => r.2 = (vN x % 2 ^ (32 * L + B) != 0) ∧ NN r.1 ∧ vN r.1 = vN x / 2 ^ (32 * L + B)) (by
    rintro ⟨lost, i⟩ ⟨g0, g1, g2, g3⟩
    simp only at g0 g1 g2 g3 ⊢
    obtain ⟨n, rfl⟩ : ∃ n : Nat, i = (n : Int) := ⟨i.toNat, by omega⟩
    simp only [Int.toNat_natCast] at g3
    simp only [F38_L15, F38_L15b, F38_16, F38_17]
    by_cases hi : n < L ∧ n < x.2.1
    · left
      have hwn : w64 ((n : Int) + 1) = ((n + 1 : Nat) : Int) := by rw [w64_id (by omega)]; omega
      rw [bt (by simp; omega), hwn]
      simp only [Int.toNat_natCast]
      have fin : ∀ b : Bool, b = (vl (n + 1) x.2.2 != 0) → ∃ x', (some (.inl (b, ((n + 1 : Nat) : Int))) : Option ((Bool × Int) ⊕ (NS (BitVec 32) × Bool))) = some (.inl x') ∧ (0 ≤ x'.2 ∧ x'.2 ≤ (L : Int) ∧ x'.2 ≤ (x.2.1 : Int) ∧ x'.1 = (vl x'.2.toNat x.2.2 != 0)) ∧ ((x.2.1 : Int) - x'.2).toNat < ((x.2.1 : Int) - (n : Int)).toNat := by
        intro b hb
        refine ⟨_, rfl, ⟨show 0 ≤ ((n + 1 : Nat) : Int) by omega, show ((n + 1 : Nat) : Int) ≤ _ by omega, show ((n + 1 : Nat) : Int) ≤ _ by omega, ?_⟩, show ((x.2.1 : Int) - ((n + 1 : Nat) : Int)).toNat < _ by omega⟩
        show b = (vl ((n + 1 : Nat) : Int).toNat x.2.2 != 0)
        rw [Int.toNat_natCast, hb]
      have hp : 0 < 2 ^ (32 * n) := Nat.two_pow_pos _
      cases hlost : lost with
      | true =>
        rw [bt rfl]
        refine fin _ ?_
        rw [hlost] at g3
        have : vl n x.2.2 ≠ 0 := by simpa using g3.symm
        rw [vl]
        simp; omega
      | false =>
        rw [bf rfl, bt (by simp; omega)]
        refine fin _ ?_
        rw [hlost] at g3
        have : vl n x.2.2 = 0 := by simpa using g3.symm
        rw [vl, this, nz32, Nat.zero_add]
        by_cases h0 : (x.2.2 n).toNat = 0
        · simp [h0]
        · have : (x.2.2 n).toNat * 2 ^ (32 * n) ≠ 0 := Nat.mul_ne_zero h0 (by omega)
          simp [h0]; exact this
    · right
      rw [bf (by simp; omega)]
      unfold F38_3 F38_4
      by_cases hLn : x.2.1 ≤ L
      · have hn : n = x.2.1 := by omega
        subst hn
        rw [bt (by simp; omega)]
        have hlt : vN x < 2 ^ (32 * L + B) := Nat.lt_of_lt_of_le vN_lt (Nat.pow_le_pow_right (by decide) (by omega))
        refine ⟨_, rfl, ?_, NN_nil, ?_⟩
        · show lost = _
          rw [Nat.mod_eq_of_lt hlt, g3]; rfl
        · rw [Nat.div_eq_of_lt hlt]; rfl
      · have hn : n = L := by omega
        subst hn
        rw [bf (by simp; omega)]
        have hmod := low_mod (f := x.2.2) (L := n) (B := B) (n := x.2.1) (by omega) hB32
        have hp : 0 < 2 ^ (32 * n) := Nat.two_pow_pos _
        cases hlost : lost with
        | true =>
          rw [bt rfl]
          obtain ⟨r, e1, e2, e3⟩ := F38_tail (N := N) (x := x) (L := n) (B := B) (lost := true) (by omega) (by omega) hB32 (by omega)
          rw [e1]
          refine ⟨_, rfl, ?_, e2, e3⟩
          rw [hlost] at g3
          have : vl n x.2.2 ≠ 0 := by simpa using g3.symm
          rw [hv, hmod]
          simp; omega
        | false =>
          rw [bf rfl, bt (by simp; omega), bt (by simp)]
          simp only [Int.toNat_natCast]
          obtain ⟨r, e1, e2, e3⟩ := F38_tail (N := N) (x := x) (L := n) (B := B) (lost := ((x.2.2 n &&& ((1#32 <<< B) - 1#32)) != 0#32)) (by omega) (by omega) hB32 (by omega)
          rw [e1]
          refine ⟨_, rfl, ?_, e2, e3⟩
          rw [hlost] at g3
          have : vl n x.2.2 = 0 := by simpa using g3.symm
          show ((x.2.2 n &&& ((1#32 <<< B) - 1#32)) != 0#32) = _
          rw [hv, hmod, this, nz32, mask32 _ _ hB32, Nat.zero_add]
          by_cases h0 : (x.2.2 n).toNat % 2 ^ B = 0
          · simp [h0]
          · have : (x.2.2 n).toNat % 2 ^ B * 2 ^ (32 * n) ≠ 0 := Nat.mul_ne_zero h0 (by omega)
            simp [h0]; exact this) N (false, 0) ⟨by simp, by simp, by simp, by simp [vl]⟩ (by simp; omega)
  obtain ⟨⟨r, b⟩, e, h1, h2, h3⟩ := key
  exact ⟨r, by rw [e]; simp only at h1; rw [h1], h2, h3⟩
end Go.Proofs.YfwaawGreat
