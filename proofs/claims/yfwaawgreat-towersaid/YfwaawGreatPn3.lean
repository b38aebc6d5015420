/-
  Package nat, its plain part: the next number, widths, limbs as digits, shifts.
-/
import Derived.Test.YfwaawGreatPn2
namespace Go.Proofs.YfwaawGreat
open Go.Aw
set_option linter.unusedVariables false
set_option linter.unusedSimpArgs false

/-! ### Limbs are digits -/
theorem vl_mod {A : Nat} {f : Nat → BitVec 32} : ∀ {n : Nat}, (∀ j, j < n → (f j).toNat = A / 2 ^ (32 * j) % 4294967296) → vl n f = A % 2 ^ (32 * n)
  | 0, _ => by simp [vl, Nat.mod_one]
  | n + 1, h => by
    rw [vl, vl_mod (fun j hj => h j (by omega)), h n (by omega), pow32_succ, Nat.mod_mul, Nat.mul_comm (A / _ % _)]
theorem limb_get {f : Nat → BitVec 32} {j : Nat} : ∀ {n : Nat}, j < n → vl n f / 2 ^ (32 * j) % 4294967296 = (f j).toNat
  | n + 1, h => by
    have hp : 0 < 2 ^ (32 * j) := Nat.two_pow_pos _
    rcases Nat.lt_or_ge j n with h' | h'
    · have ih := limb_get (f := f) h'
      obtain ⟨k, hk⟩ : ∃ k, n = j + 1 + k := ⟨n - (j + 1), by omega⟩
      rw [vl, ← ih]
      have e : (f n).toNat * 2 ^ (32 * n) = 2 ^ (32 * j) * (4294967296 * ((f n).toNat * 2 ^ (32 * k))) := by
        rw [hk, Nat.mul_add, Nat.pow_add, pow32_succ]; grind
      rw [e, Nat.add_mul_div_left _ _ hp, Nat.add_mul_mod_self_left]
    · have : j = n := by omega
      subst this
      have h1 := vl_lt (f := f) (n := j)
      have h2 := bv32 (f j)
      rw [vl, Nat.add_mul_div_right _ _ hp, Nat.div_eq_of_lt h1, Nat.zero_add, Nat.mod_eq_of_lt h2]
theorem limb_ext {y : NS (BitVec 32)} (j : Nat) : vN y / 2 ^ (32 * j) % 4294967296 = (ext0 y j).toNat := by
  rw [← vl_ext0 (y := y) (n := y.2.1 + j + 1) (by omega)]
  exact limb_get (by omega)
theorem vN_lt {y : NS (BitVec 32)} : vN y < 2 ^ (32 * y.2.1) := vl_lt

/-! ### Succ -/
theorem add1_32 (x : BitVec 32) : (x + 1#32).toNat = (x.toNat + 1) % 4294967296 := by rw [BitVec.toNat_add]; rfl
theorem nz32 {x : BitVec 32} : (x != 0#32) = decide (x.toNat ≠ 0) := by
  by_cases h : x = 0#32
  · subst h; rfl
  · have : x.toNat ≠ 0 := fun e => h (BitVec.eq_of_toNat_eq (by simpa using e))
    simp [h, this]
theorem F359_ok {N : Nat} {a : NS (BitVec 32)} (ha : OKs a) (hl : a.2.1 < 1073741824) (hN : a.2.1 + 1 < N) : ∃ r, F359 N a = some r ∧ NN r ∧ vN r = vN a + 1 := by
  obtain ⟨x, e, hx⟩ := F33_ok (N := N) ha (by omega) (by omega)
  have h1 := hx.le
  unfold F359
  rw [e]
  simp only [Option.bind_some, F359_1]
  have hw : w64 ((x.2.1 : Int) + 1) = (x.2.1 : Int) + 1 := w64_id (by omega)
  have en : ((x.2.1 : Int) + 1).toNat = x.2.1 + 1 := by omega
  rw [hw, bt (by simp; omega)]
  unfold F359_2
  rw [hw, en, bt (by simp)]
  unfold F359_3 F359_5
  rw [hw, en, ← hx.val]
  refine iter_inv (L := F359_L6 N x ((x.2.1 + 1 : Nat) : Int)) (I := fun v : Int × (Nat → BitVec 32) => 0 ≤ v.1 ∧ v.1 ≤ (x.2.1 : Int) ∧ vl (x.2.1 + 1) v.2 + 2 ^ (32 * v.1.toNat) = vN x + 1 ∧ v.2 x.2.1 = 0#32) (μ := fun v => ((x.2.1 : Int) + 1 - v.1).toNat) (Post := fun r => NN r ∧ vN r = vN x + 1) ?_ N _ ⟨by simp, by simp, ?_, ?_⟩ (by simp; omega)
  · rintro ⟨i, c⟩ ⟨g0, g1, g2, g3⟩
    simp only at g0 g1 g2 g3 ⊢
    simp only [F359_L6, F359_L6b, F359_7, F359_9, F359_10, F359_8, F359_4]
    rw [hw, en, bt (by simp; omega), bt (by simp; omega), bt (by simp; omega), bt (by simp; omega), upd_eq, nz32, add1_32]
    have hs := vl_set (c := c) (v := c i.toNat + 1#32) (i := i.toNat) (n := x.2.1 + 1) (by omega)
    rw [add1_32] at hs
    have hb := bv32 (c i.toNat)
    by_cases hz : (c i.toNat).toNat + 1 = 4294967296
    · left
      have hne : i.toNat ≠ x.2.1 := fun e => by rw [e, g3] at hz; simp at hz
      rw [bf (by rw [hz]; rfl), w64_id (by omega)]
      refine ⟨_, rfl, ⟨show 0 ≤ i + 1 by omega, show i + 1 ≤ (x.2.1 : Int) by omega, ?_, ?_⟩, show ((x.2.1 : Int) + 1 - (i + 1)).toNat < _ by omega⟩
      · show vl (x.2.1 + 1) (upd c i.toNat _) + 2 ^ (32 * (i + 1).toNat) = _
        rw [show (i + 1).toNat = i.toNat + 1 from by omega, pow32_succ]
        rw [hz, Nat.mod_self, Nat.zero_mul] at hs
        have : (c i.toNat).toNat = 4294967295 := by omega
        rw [this] at hs
        omega
      · show upd c i.toNat _ x.2.1 = _
        rw [upd_ne (by omega)]; exact g3
    · right
      rw [Nat.mod_eq_of_lt (by omega)] at hs ⊢
      rw [bt (by simp)]
      obtain ⟨t, e', ht⟩ := F33_ok (N := N) (a := (false, x.2.1 + 1, upd c i.toNat (c i.toNat + 1#32))) (fun h => by cases h) (show x.2.1 + 1 < 2147483648 by omega) (show x.2.1 + 1 < N by omega)
      rw [e']
      refine ⟨t, rfl, ht.nn, ?_⟩
      rw [ht.val]
      show vl (x.2.1 + 1) (upd c i.toNat (c i.toNat + 1#32)) = _
      rw [Nat.add_mul, Nat.one_mul] at hs
      omega
  · show vl (x.2.1 + 1) (cpy (fun _ => 0#32) x.2.1 x.2.2) + 2 ^ (32 * 0) = _
    have : vl (x.2.1 + 1) (cpy (fun _ => 0#32) x.2.1 x.2.2) = vN x := by
      rw [← vl_ext0 (y := x) (n := x.2.1 + 1) (by omega)]; rfl
    rw [this]
  · show cpy (fun _ => 0#32) x.2.1 x.2.2 x.2.1 = _
    exact bf (by
      cases hb : Nat.blt x.2.1 x.2.1 with
      | false => rfl
      | true => rw [Nat.blt_eq] at hb; omega)

/-! ### Widths -/
theorem blen_zero : blen 0 = 0 := rfl
theorem blen_lt (n : Nat) : n < 2 ^ blen n := by
  unfold blen; split
  · subst_vars; decide
  · exact Nat.lt_log2_self
theorem blen_le {n : Nat} (h : n ≠ 0) : 2 ^ (blen n - 1) ≤ n := by
  unfold blen; rw [if_neg h]
  exact Nat.log2_self_le h
theorem blen_pos {n : Nat} (h : n ≠ 0) : 0 < blen n := by unfold blen; rw [if_neg h]; omega
theorem blen_unique {n k : Nat} (h : 2 ^ k ≤ n) (h2 : n < 2 ^ (k + 1)) : blen n = k + 1 := by
  have h0 : n ≠ 0 := by have := Nat.two_pow_pos k; omega
  unfold blen; rw [if_neg h0, (Nat.log2_eq_iff h0).2 ⟨h, h2⟩]
theorem blen_half {n : Nat} (h : n ≠ 0) : blen n = blen (n / 2) + 1 := by
  by_cases h1 : n / 2 = 0
  · have : n = 1 := by omega
    subst this; decide
  · have a := blen_le h1
    have b := blen_lt (n / 2)
    have p := blen_pos h1
    obtain ⟨k, hk⟩ : ∃ k, blen (n / 2) = k + 1 := ⟨_, (by omega : blen (n / 2) = (blen (n / 2) - 1) + 1)⟩
    rw [hk] at a b ⊢
    refine blen_unique (k := k + 1) ?_ ?_
    · rw [Nat.pow_succ]; simp at a; omega
    · rw [Nat.pow_succ]; omega
theorem blen_le_iff {n k : Nat} : blen n ≤ k ↔ n < 2 ^ k := by
  constructor
  · intro h; exact Nat.lt_of_lt_of_le (blen_lt n) (Nat.pow_le_pow_right (by decide) h)
  · intro h
    by_cases h0 : n = 0
    · subst h0; rw [blen_zero]; omega
    · have := pow_gap k (Nat.lt_of_le_of_lt (blen_le h0) h)
      omega

theorem F59_ok {N : Nat} (x : BitVec 32) (hN : 32 < N) : F59 N x = some (blen x.toNat : Int) := by
  unfold F59
  obtain ⟨r, e, h⟩ := iter_inv (L := F59_L2 N) (I := fun v : BitVec 32 × Int => 0 ≤ v.2 ∧ v.2 + blen v.1.toNat = blen x.toNat) (μ := fun v => blen v.1.toNat) (Post := fun r => r = (blen x.toNat : Int)) (by
    rintro ⟨y, n⟩ ⟨h0, h1⟩
    simp only at h0 h1 ⊢
    simp only [F59_L2, F59_L2b, F59_3, F59_4, F59_1, nz32]
    have hb : blen x.toNat ≤ 32 := blen_le_iff.2 x.isLt
    by_cases hz : y.toNat = 0
    · right
      rw [hz]
      refine ⟨n, rfl, ?_⟩
      rw [hz, blen_zero] at h1; omega
    · left
      rw [bt (by simp [hz])]
      have hh := blen_half hz
      rw [w64_id (by omega)]
      have e : (y >>> 1).toNat = y.toNat / 2 := shr_nat y 1
      refine ⟨_, rfl, ⟨show 0 ≤ n + 1 by omega, ?_⟩, ?_⟩
      · show n + 1 + (blen (y >>> 1).toNat : Int) = _
        rw [e]; omega
      · show blen (y >>> 1).toNat < blen y.toNat
        rw [e]; omega) N (x, 0) ⟨by simp, by simp⟩ (by
    have : blen x.toNat ≤ 32 := blen_le_iff.2 x.isLt
    show blen x.toNat < N
    omega)
  rw [e, h]

theorem blen_top {x : NS (BitVec 32)} {n : Nat} (hn : x.2.1 = n + 1) (ht : (x.2.2 n).toNat ≠ 0) : blen (vN x) = 32 * n + blen (x.2.2 n).toNat := by
  have a := blen_le ht
  have b := blen_lt (x.2.2 n).toNat
  have p := blen_pos ht
  obtain ⟨k, hk⟩ : ∃ k, blen (x.2.2 n).toNat = k + 1 := ⟨_, (by omega : blen (x.2.2 n).toNat = (blen (x.2.2 n).toNat - 1) + 1)⟩
  rw [hk] at a b ⊢
  simp only [Nat.add_sub_cancel] at a
  have hv : vN x = vl n x.2.2 + (x.2.2 n).toNat * 2 ^ (32 * n) := by unfold vN; rw [hn, vl]
  have hlow := vl_lt (f := x.2.2) (n := n)
  refine blen_unique (k := 32 * n + k) ?_ ?_
  · have := Nat.mul_le_mul_right (2 ^ (32 * n)) a
    rw [Nat.add_comm, Nat.pow_add]; omega
  · have : ((x.2.2 n).toNat + 1) * 2 ^ (32 * n) ≤ 2 ^ (k + 1) * 2 ^ (32 * n) := Nat.mul_le_mul_right _ b
    rw [Nat.add_assoc, Nat.add_comm, Nat.pow_add]
    rw [Nat.add_mul, Nat.one_mul] at this
    omega

theorem F34_ok {N : Nat} {a : NS (BitVec 32)} (ha : OKs a) (hl : a.2.1 < 1073741824) (hN : a.2.1 + 32 < N) : F34 N a = some (blen (vN a) : Int) := by
  obtain ⟨x, e, hx⟩ := F33_ok (N := N) ha (by omega) (by omega)
  have h1 := hx.le
  unfold F34
  rw [e]
  simp only [Option.bind_some, F34_1, F34_2]
  rw [← hx.val]
  rcases hx.nn with ⟨h3, h4⟩ | ⟨h3, h4, h5⟩
  · rw [h3, bt rfl]
    have : vN x = 0 := by unfold vN; rw [h4]; rfl
    rw [this]; rfl
  · obtain ⟨n, hn⟩ : ∃ n, x.2.1 = n + 1 := ⟨x.2.1 - 1, by omega⟩
    have hlim := vl_lt (f := x.2.2) (n := x.2.1)
    rw [h3, bf rfl, w64_id (by omega)]
    unfold F34_3
    have en : ((x.2.1 : Int) - 1).toNat = n := by omega
    rw [bt (by simp; omega), en, F59_ok _ (by omega)]
    have hbt := blen_top hn (fun h0 => h5 (BitVec.eq_of_toNat_eq (by rw [show x.2.1 - 1 = n from by omega]; simpa using h0)))
    have hb32 : blen (x.2.2 n).toNat ≤ 32 := blen_le_iff.2 (x.2.2 n).isLt
    simp only [Option.bind_some]
    have hw1 : w64 (32 * ((x.2.1 : Int) - 1)) = 32 * ((x.2.1 : Int) - 1) := w64_id (by omega)
    rw [hw1, w64_id (by omega), hbt]
    congr 1
    omega

/-! ### Shift up -/
theorem or_add {w : Nat} (x y : BitVec w) (b : Nat) (hx : x.toNat < 2 ^ b) (hy : 2 ^ b ∣ y.toNat) : (x ||| y).toNat = x.toNat + y.toNat := by
  rw [BitVec.toNat_or]
  obtain ⟨q, hq⟩ := hy
  rw [hq, Nat.or_comm, ← Nat.two_pow_add_eq_or_of_lt hx, Nat.add_comm]

theorem F64_ok {N : Nat} {a : NS (BitVec 32)} {k : Int} (ha : OKs a) (hk : 0 ≤ k ∧ k < 1073741824) (hl : a.2.1 < 1073741824) (hN : a.2.1 + k.toNat / 32 + 1 < N) : ∃ r, F64 N a k = some r ∧ NN r ∧ vN r = vN a * 2 ^ k.toNat := by
  obtain ⟨x, e, hx⟩ := F33_ok (N := N) ha (by omega) (by omega)
  have h1 := hx.le
  unfold F64
  rw [e]
  simp only [Option.bind_some, F64_1, F64_2]
  rw [← hx.val]
  obtain ⟨K, rfl⟩ : ∃ K : Nat, k = (K : Int) := ⟨k.toNat, by omega⟩
  simp only [Int.toNat_natCast] at hN ⊢
  have ed : (K : Int).tdiv 32 = ((K / 32 : Nat) : Int) := by
    rw [Int.tdiv_eq_ediv_of_nonneg (by omega)]; omega
  have em : (K : Int).tmod 32 = ((K % 32 : Nat) : Int) := by
    rw [Int.tmod_eq_emod_of_nonneg (by omega)]; omega
  rcases hx.nn with ⟨h3, h4⟩ | ⟨h3, h4, h5⟩
  · rw [h3, bt rfl]
    refine ⟨_, rfl, NN_nil, ?_⟩
    have : vN x = 0 := by unfold vN; rw [h4]; rfl
    rw [this, Nat.zero_mul]; rfl
  · rw [h3, bf rfl, ed, em, w64_id (by omega)]
    generalize hL : K / 32 = L
    generalize hB : K % 32 = B
    have hB32 : B < 32 := by omega
    have hKe : K = 32 * L + B := by omega
    unfold F64_3 F64_4 F64_6
    have hw1 : w64 ((x.2.1 : Int) + (L : Int)) = (x.2.1 : Int) + (L : Int) := w64_id (by omega)
    have hw : w64 ((w64 ((x.2.1 : Int) + (L : Int))) + 1) = (x.2.1 : Int) + (L : Int) + 1 := by rw [hw1]; exact w64_id (by omega)
    have hwn : ((x.2.1 : Int) + (L : Int) + 1).toNat = x.2.1 + L + 1 := by omega
    rw [hw, bt (by simp; omega)]
    have hpB : 0 < 2 ^ B := Nat.two_pow_pos _
    refine iter_inv (L := F64_L7 N x (L : Int) (B : Int) (x.2.1 : Int)) (I := fun v : Int × (Nat → BitVec 32) => 0 ≤ v.1 ∧ v.1 ≤ (x.2.1 : Int) ∧ vl (x.2.1 + L + 1) v.2 = vl v.1.toNat x.2.2 * 2 ^ K ∧ (v.2 (v.1.toNat + L)).toNat < 2 ^ B ∧ ∀ j, v.1.toNat + L < j → v.2 j = 0#32) (μ := fun v => ((x.2.1 : Int) - v.1).toNat) (Post := fun r => NN r ∧ vN r = vN x * 2 ^ K) ?_ N _ ⟨by simp, by simp, by
        show vl (x.2.1 + L + 1) (fun _ => 0#32) = vl 0 x.2.2 * 2 ^ K
        rw [vl_drop (m := 0) (Nat.zero_le _) fun _ _ _ => rfl]; simp [vl], by simpa using hpB, fun _ _ => rfl⟩ (by simp; omega)
    rintro ⟨i, c⟩ ⟨g0, g1, g2, g3, g4⟩
    simp only at g0 g1 g2 g3 g4 ⊢
    simp only [F64_L7, F64_L7b, F64_8, F64_10, F64_11, F64_12, F64_9, F64_5]
    by_cases hi : i < (x.2.1 : Int)
    · left
      obtain ⟨n, rfl⟩ : ∃ n : Nat, i = (n : Int) := ⟨i.toNat, by omega⟩
      simp only [Int.toNat_natCast] at g2 g3 g4 ⊢
      have hwi : w64 ((n : Int) + (L : Int)) = ((n + L : Nat) : Int) := by rw [w64_id (by omega)]; omega
      have hwi1 : w64 (((n + L : Nat) : Int) + 1) = ((n + L + 1 : Nat) : Int) := by rw [w64_id (by omega)]; omega
      rw [hw, hwn, hwi, hwi1]
      simp only [Int.toNat_natCast]
      rw [bt (by simp; omega), bt (by simp; omega), bt (by simp), bt (by simp; omega), bt (by simp; omega), bt (by simp; omega), w64_id (by omega)]
      generalize hz : (BitVec.ofInt 64 ((x.2.2 n).toNat : Int)) <<< B = z
      have hxn := bv32 (x.2.2 n)
      have hzn : z.toNat = (x.2.2 n).toNat * 2 ^ B := by
        rw [← hz, BitVec.toNat_shiftLeft, of32, Nat.shiftLeft_eq]
        refine Nat.mod_eq_of_lt ?_
        have : 2 ^ B ≤ 2 ^ 31 := Nat.pow_le_pow_right (by decide) (by omega)
        have h2 : (x.2.2 n).toNat * 2 ^ B ≤ 4294967295 * 2 ^ 31 := Nat.mul_le_mul (by omega) this
        omega
      have e32 : (z >>> 32).toNat = z.toNat / 4294967296 := shr_nat z 32
      have hlow : (BitVec.ofInt 32 (z.toNat : Int)).toNat = z.toNat % 4294967296 := low32 z
      have hhi : z.toNat / 4294967296 < 2 ^ B := by
        rw [Nat.div_lt_iff_lt_mul (by decide), hzn, Nat.mul_comm]
        exact Nat.mul_lt_mul_of_pos_left hxn hpB
      have hdvd : 2 ^ B ∣ z.toNat % 4294967296 := by
        refine (Nat.dvd_mod_iff ?_).2 ⟨(x.2.2 n).toNat, by rw [hzn, Nat.mul_comm]⟩
        exact ⟨2 ^ (32 - B), by rw [← Nat.pow_add, show B + (32 - B) = 32 from by omega]⟩
      have hor : (c (n + L) ||| BitVec.ofInt 32 (z.toNat : Int)).toNat = (c (n + L)).toNat + z.toNat % 4294967296 := by
        rw [or_add _ _ B g3 (by rw [hlow]; exact hdvd), hlow]
      have hhiv : (BitVec.ofInt 32 ((z >>> 32).toNat : Int)).toNat = z.toNat / 4294967296 := by
        have : 2 ^ B ≤ 2 ^ 31 := Nat.pow_le_pow_right (by decide) (by omega)
        rw [low32, e32]; exact Nat.mod_eq_of_lt (by omega)
      refine ⟨_, rfl, ⟨show 0 ≤ (n : Int) + 1 by omega, show (n : Int) + 1 ≤ (x.2.1 : Int) by omega, ?_, ?_, ?_⟩, show ((x.2.1 : Int) - ((n : Int) + 1)).toNat < _ by omega⟩
      · show vl (x.2.1 + L + 1) (upd (upd c (n + L) _) (n + L + 1) _) = vl ((n : Int) + 1).toNat x.2.2 * 2 ^ K
        have hs1 := vl_set (c := c) (v := c (n + L) ||| BitVec.ofInt 32 (z.toNat : Int)) (i := n + L) (n := x.2.1 + L + 1) (by omega)
        have hs2 := vl_set (c := upd c (n + L) (c (n + L) ||| BitVec.ofInt 32 (z.toNat : Int))) (v := BitVec.ofInt 32 ((z >>> 32).toNat : Int)) (i := n + L + 1) (n := x.2.1 + L + 1) (by omega)
        rw [upd_ne (by omega), g4 (n + L + 1) (by omega), hhiv, show (0#32).toNat = 0 from rfl, Nat.zero_mul, Nat.add_zero, pow32_succ] at hs2
        rw [hor, Nat.add_mul] at hs1
        rw [show ((n : Int) + 1).toNat = n + 1 from by omega, hs2, vl.eq_2 _ n]
        have hsp := limb_split z.toNat (2 ^ (32 * (n + L)))
        have hzz : z.toNat * 2 ^ (32 * (n + L)) = (x.2.2 n).toNat * 2 ^ (32 * n) * 2 ^ K := by
          rw [hzn, hKe, Nat.mul_add, Nat.pow_add, Nat.pow_add]; grind
        rw [Nat.add_mul, ← g2, ← hzz]
        omega
      · show (upd (upd c (n + L) _) (n + L + 1) _ (((n : Int) + 1).toNat + L)).toNat < 2 ^ B
        rw [show ((n : Int) + 1).toNat + L = n + L + 1 from by omega, upd_eq, hhiv]; exact hhi
      · intro j hj
        have hj' : ((n : Int) + 1).toNat + L < j := hj
        show upd (upd c (n + L) _) (n + L + 1) _ j = _
        rw [upd_ne (by omega), upd_ne (by omega)]
        exact g4 j (by omega)
    · right
      have : i = x.2.1 := by omega
      subst this
      rw [bf (by simp), hw, hwn]
      obtain ⟨t, e', ht⟩ := F33_ok (N := N) (a := (false, x.2.1 + L + 1, c)) (fun h => by cases h) (show x.2.1 + L + 1 < 2147483648 by omega) (show x.2.1 + L + 1 < N by omega)
      rw [e']
      refine ⟨t, rfl, ht.nn, ?_⟩
      rw [ht.val]
      exact g2
end Go.Proofs.YfwaawGreat
