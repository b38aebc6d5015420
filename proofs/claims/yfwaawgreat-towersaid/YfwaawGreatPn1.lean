/-
  Package nat, its plain part: take, from words, compare, add, subtract.
-/
import Derived.Test.YfwaawGreatPl
namespace Go.Proofs.YfwaawGreat
open Go.Aw
set_option linter.unusedVariables false

theorem ofInt_nat (w n : Nat) : BitVec.ofInt w (n : Int) = BitVec.ofNat w n := by simp
theorem NN_nil : NN (true, 0, fun _ => 0#32) := .inl ⟨rfl, rfl⟩

theorem F61_ok {N : Nat} {a : NS (BitVec 32)} (ho : OKs a) (hl : a.2.1 < 2147483648) (hN : a.2.1 < N) : ∃ r, F61 N a = some r ∧ NN r ∧ vN r = vN a := by
  obtain ⟨t, e, ht⟩ := F33_ok ho hl hN
  unfold F61
  rw [e]
  simp only [Option.bind_some, F61_1, F61_2]
  rcases ht.nn with ⟨h1, h2⟩ | ⟨h1, h2, h3⟩
  · rw [h1]
    refine ⟨_, rfl, NN_nil, ?_⟩
    rw [← ht.val]; unfold vN; rw [h2]; rfl
  · have hle := ht.le
    rw [h1, bf rfl, bt (by simp; omega)]
    simp only [F61_3, F61_4]
    rw [bt (by simp)]
    refine ⟨_, rfl, .inr ⟨rfl, by simpa using h2, ?_⟩, ?_⟩
    · show (cpy (fun _ => 0#32) t.2.1 t.2.2) ((t.2.1 : Int).toNat - 1) ≠ 0#32
      simp only [Int.toNat_natCast, cpy]
      rw [bt (by simp [Nat.blt_eq]; omega)]; exact h3
    · rw [← ht.val]
      show vl (t.2.1 : Int).toNat _ = vl _ _
      simp only [Int.toNat_natCast]
      exact vl_congr fun i hi => by simp only [cpy]; rw [bt (by simpa [Nat.blt_eq] using hi)]

theorem F20_ok {N : Nat} (x : BitVec 64) (hN : 2 < N) : ∃ r, F20 N x = some r ∧ NN r ∧ vN r = x.toNat := by
  obtain ⟨t, e, ht⟩ := F33_ok (N := N) (a := (false, 2, fun i => bif Nat.beq i 0 then BitVec.ofInt 32 (x.toNat : Int) else BitVec.ofInt 32 ((x >>> 32).toNat : Int))) (fun h => by cases h) (show 2 < 2147483648 by decide) hN
  unfold F20
  rw [e]
  refine ⟨t, rfl, ht.nn, ?_⟩
  rw [ht.val]
  have hx := x.isLt
  show 0 + (BitVec.ofInt 32 (x.toNat : Int)).toNat * 2 ^ (32 * 0) + (BitVec.ofInt 32 ((x >>> 32).toNat : Int)).toNat * 2 ^ (32 * 1) = x.toNat
  rw [ofInt_nat, ofInt_nat, BitVec.toNat_ofNat, BitVec.toNat_ofNat, BitVec.toNat_ushiftRight, Nat.shiftRight_eq_div_pow]
  omega

/-! ### Compare -/
theorem vl_top {f g : Nat → BitVec 32} {n k : Nat} (hk : k < n) (hlt : (f k).toNat < (g k).toNat) (he : ∀ i, k < i → i < n → f i = g i) : vl n f < vl n g := by
  induction n with
  | zero => omega
  | succ n ih =>
    rw [vl, vl]
    rcases Nat.lt_or_ge k n with h | h
    · have := ih h fun i h1 h2 => he i h1 (by omega)
      rw [he n h (by omega)]; omega
    · have : k = n := by omega
      subst this
      have h1 := vl_lt (f := f) (n := k)
      have h2 : ((f k).toNat + 1) * 2 ^ (32 * k) ≤ (g k).toNat * 2 ^ (32 * k) := Nat.mul_le_mul_right _ hlt
      rw [Nat.add_mul] at h2
      omega

theorem len_lt {x y : NS (BitVec 32)} (hy : NN y) (h : x.2.1 < y.2.1) : vN x < vN y := by
  have h1 := vl_lt (f := x.2.2) (n := x.2.1)
  have h2 := hy.ge (by omega)
  have h3 : 2 ^ (32 * x.2.1) ≤ 2 ^ (32 * (y.2.1 - 1)) := Nat.pow_le_pow_right (by decide) (by omega)
  unfold vN at *
  omega

theorem F60_core {N : Nat} {x y : NS (BitVec 32)} (hx : NN x) (hy : NN y) (hl : x.2.1 < 2147483648) (hl2 : y.2.1 < 2147483648) (hN : x.2.1 < N) : F60_1 N x y = some (ncmp (vN x) (vN y)) := by
  unfold F60_1 F60_2
  by_cases he : x.2.1 = y.2.1
  · rw [bf (by simp [he])]
    unfold F60_4
    rw [w64_id (by omega)]
    obtain ⟨r, h1, h2⟩ := iter_inv (L := F60_L5 N x y) (I := fun n : Int => -1 ≤ n ∧ n < (x.2.1 : Int) ∧ ∀ i : Nat, n < i → i < x.2.1 → x.2.2 i = y.2.2 i) (μ := fun n => (n + 1).toNat) (Post := fun r => r = ncmp (vN x) (vN y)) (by
      rintro n ⟨h0, h1, hz⟩
      simp only [F60_L5, F60_L5b, F60_6, F60_7, F60_8]
      by_cases hp : n ≥ 0
      · rw [bt (by simpa using hp), bt (by simp; omega), bt (by simp; omega)]
        by_cases ha : (x.2.2 n.toNat).toNat < (y.2.2 n.toNat).toNat
        · right
          rw [bt (by simpa using ha)]
          refine ⟨-1, rfl, ?_⟩
          have := vl_top (f := x.2.2) (g := y.2.2) (n := x.2.1) (k := n.toNat) (by omega) ha fun i h1 h2 => hz i (by omega) h2
          unfold ncmp vN
          rw [← he, if_pos this]
        · rw [bf (by simpa using ha), bt (by simp; omega), bt (by simp; omega)]
          by_cases hb : (y.2.2 n.toNat).toNat < (x.2.2 n.toNat).toNat
          · right
            rw [bt (by simpa using hb)]
            refine ⟨1, rfl, ?_⟩
            have := vl_top (f := y.2.2) (g := x.2.2) (n := x.2.1) (k := n.toNat) (by omega) hb fun i h1 h2 => (hz i (by omega) h2).symm
            unfold ncmp vN
            rw [← he, if_neg (by omega), if_neg (by omega)]
          · left
            rw [bf (by simpa using hb), w64_id (by omega)]
            refine ⟨n - 1, rfl, ⟨by omega, by omega, fun i h2 h3 => ?_⟩, by omega⟩
            rcases Int.lt_or_le n (i : Int) with h4 | h4
            · exact hz i h4 h3
            · have : i = n.toNat := by omega
              rw [this]
              exact BitVec.eq_of_toNat_eq (by omega)
      · right
        rw [bf (by simpa using hp)]
        refine ⟨0, rfl, ?_⟩
        have : vl x.2.1 x.2.2 = vl x.2.1 y.2.2 := vl_congr fun i hi => hz i (by omega) hi
        unfold ncmp vN
        rw [← he, this, if_neg (Nat.lt_irrefl _), if_pos rfl]) N ((x.2.1 : Int) - 1) ⟨by omega, by omega, fun i h1 h2 => by omega⟩ (by omega)
    rw [h1, h2]
  · rw [bt (by simp; omega)]
    unfold F60_3
    by_cases hlt : x.2.1 < y.2.1
    · rw [bt (by simpa using hlt)]
      have := len_lt (x := x) hy hlt
      unfold ncmp; rw [if_pos this]
    · rw [bf (by simpa using hlt)]
      have := len_lt (x := y) (y := x) hx (by omega)
      unfold ncmp; rw [if_neg (by omega), if_neg (by omega)]

theorem F60_ok {N : Nat} {a b : NS (BitVec 32)} (ha : OKs a) (hb : OKs b) (hl : a.2.1 < 2147483648) (hl2 : b.2.1 < 2147483648) (hN : a.2.1 < N) (hN2 : b.2.1 < N) : F60 N a b = some (ncmp (vN a) (vN b)) := by
  obtain ⟨x, e, hx⟩ := F33_ok ha hl hN
  obtain ⟨y, e', hy⟩ := F33_ok hb hl2 hN2
  unfold F60
  rw [e, e']
  have h1 := hx.le
  have h2 := hy.le
  simp only [Option.bind_some]
  rw [F60_core hx.nn hy.nn (by omega) (by omega) (by omega), hx.val, hy.val]

/-! ### Add -/
theorem vl_upd {c : Nat → BitVec 32} {v : BitVec 32} {i : Nat} : ∀ {n : Nat}, n ≤ i → vl n (upd c i v) = vl n c := fun {n} h => vl_congr fun j hj => upd_ne (by omega)
theorem limb_split (t A : Nat) : t % 4294967296 * A + t / 4294967296 * (A * 4294967296) = t * A := by
  have h := Nat.div_add_mod t 4294967296
  calc t % 4294967296 * A + t / 4294967296 * (A * 4294967296) = (4294967296 * (t / 4294967296) + t % 4294967296) * A := by
        rw [Nat.add_mul, Nat.mul_comm A, ← Nat.mul_assoc, Nat.mul_comm (t / 4294967296), Nat.add_comm]
    _ = t * A := by rw [h]
theorem pow32_succ (i : Nat) : 2 ^ (32 * (i + 1)) = 2 ^ (32 * i) * 4294967296 := by rw [Nat.mul_add, Nat.pow_add]
theorem of32 (x : BitVec 32) : (BitVec.ofInt 64 (x.toNat : Int)).toNat = x.toNat := by
  have := x.isLt
  rw [ofInt_nat, BitVec.toNat_ofNat]; omega
/-- A row of limbs, zeros behind its end. -/
def ext0 (y : NS (BitVec 32)) : Nat → BitVec 32 := fun i => bif Nat.blt i y.2.1 then y.2.2 i else 0#32
theorem ext0_lt {y : NS (BitVec 32)} {i : Nat} (h : i < y.2.1) : ext0 y i = y.2.2 i := bt (by simpa [Nat.blt_eq] using h)
theorem ext0_ge {y : NS (BitVec 32)} {i : Nat} (h : ¬ i < y.2.1) : ext0 y i = 0#32 := bf (by
  cases hb : Nat.blt i y.2.1 with
  | false => rfl
  | true => exact (h (by simpa [Nat.blt_eq] using hb)).elim)
theorem vl_ext0 {y : NS (BitVec 32)} {n : Nat} (h : y.2.1 ≤ n) : vl n (ext0 y) = vN y := by
  rw [vl_drop (m := y.2.1) h fun i h1 _ => ext0_ge (by omega)]
  exact vl_congr fun i hi => ext0_lt hi

theorem F253_core {N : Nat} {x y : NS (BitVec 32)} (hle : y.2.1 ≤ x.2.1) (hl : x.2.1 < 1073741824) (hN : x.2.1 + 1 < N) : ∃ r, F253_2 N x y = some r ∧ NN r ∧ vN r = vN x + vN y := by
  unfold F253_2
  have hw : w64 ((x.2.1 : Int) + 1) = (x.2.1 : Int) + 1 := w64_id (by omega)
  rw [hw, bt (by simp; omega)]
  unfold F253_3 F253_6
  refine iter_inv (L := F253_L7 N x y (x.2.1 : Int)) (I := fun v : BitVec 64 × Int × (Nat → BitVec 32) => 0 ≤ v.2.1 ∧ v.2.1 ≤ (x.2.1 : Int) ∧ v.1.toNat ≤ 1 ∧ vl v.2.1.toNat v.2.2 + v.1.toNat * 2 ^ (32 * v.2.1.toNat) = vl v.2.1.toNat x.2.2 + vl v.2.1.toNat (ext0 y)) (μ := fun v => ((x.2.1 : Int) - v.2.1).toNat) (Post := fun r => NN r ∧ vN r = vN x + vN y) ?_ N _ ⟨by simp, by simp, by simp, by simp [vl]⟩ (by simp; omega)
  rintro ⟨carry, i, c⟩ ⟨h0, h1, h2, h3⟩
  simp only at h0 h1 h2 h3 ⊢
  simp only [F253_L7, F253_L7b, F253_8, F253_10, F253_13, F253_11, F253_12, F253_9]
  by_cases hi : i < (x.2.1 : Int)
  · left
    have hb := (x.2.2 i.toNat).isLt
    have hbe := (ext0 y i.toNat).isLt
    have e1 : (carry + BitVec.ofInt 64 ((x.2.2 i.toNat).toNat : Int)).toNat = carry.toNat + (x.2.2 i.toNat).toNat := by
      rw [BitVec.toNat_add, of32]; omega
    have key : ∀ z : BitVec 64, z.toNat = carry.toNat + (x.2.2 i.toNat).toNat + (ext0 y i.toNat).toNat →
        ∃ x', (bif (decide (0 ≤ i) && decide (i < ((w64 ((x.2.1 : Int) + 1)).toNat : Int))) then (some (.inl (z >>> 32, w64 (i + 1), upd c i.toNat (BitVec.ofInt 32 (z.toNat : Int)))) : Option ((BitVec 64 × Int × (Nat → BitVec 32)) ⊕ NS (BitVec 32))) else none) = some (.inl x') ∧ (0 ≤ x'.2.1 ∧ x'.2.1 ≤ (x.2.1 : Int) ∧ x'.1.toNat ≤ 1 ∧ vl x'.2.1.toNat x'.2.2 + x'.1.toNat * 2 ^ (32 * x'.2.1.toNat) = vl x'.2.1.toNat x.2.2 + vl x'.2.1.toNat (ext0 y)) ∧ ((x.2.1 : Int) - x'.2.1).toNat < ((x.2.1 : Int) - i).toNat := by
      intro z hz
      rw [hw, bt (by simp; omega), w64_id (by omega)]
      refine ⟨_, rfl, ⟨show 0 ≤ i + 1 by omega, show i + 1 ≤ (x.2.1 : Int) by omega, ?_, ?_⟩, show ((x.2.1 : Int) - (i + 1)).toNat < _ by omega⟩
      · show (z >>> 32).toNat ≤ 1
        rw [BitVec.toNat_ushiftRight, Nat.shiftRight_eq_div_pow]; omega
      · show vl (i + 1).toNat (upd c i.toNat (BitVec.ofInt 32 (z.toNat : Int))) + (z >>> 32).toNat * 2 ^ (32 * (i + 1).toNat) = vl (i + 1).toNat x.2.2 + vl (i + 1).toNat (ext0 y)
        have ei : (i + 1).toNat = i.toNat + 1 := by omega
        rw [ei, vl, vl, vl, vl_upd (Nat.le_refl _), upd_eq, ofInt_nat, BitVec.toNat_ofNat, BitVec.toNat_ushiftRight, Nat.shiftRight_eq_div_pow, pow32_succ]
        have hs := limb_split z.toNat (2 ^ (32 * i.toNat))
        rw [hz, Nat.add_mul, Nat.add_mul] at hs
        rw [hz, show (2 : Nat) ^ 32 = 4294967296 from rfl]
        omega
    rw [bt (by simpa using hi), bt (by simp; omega)]
    by_cases hy : i < (y.2.1 : Int)
    · rw [bt (by simpa using hy), bt (by simp; omega)]
      refine key _ ?_
      rw [BitVec.toNat_add, e1, of32, ext0_lt (by omega)]
      have := (y.2.2 i.toNat).isLt
      omega
    · rw [bf (by simpa using hy)]
      refine key _ ?_
      rw [e1, ext0_ge (by omega)]; simp
  · right
    have : i = x.2.1 := by omega
    subst this
    rw [bf (by simp)]
    simp only [F253_4, F253_5]
    rw [hw, bt (by simp; omega)]
    simp only [Int.toNat_natCast] at h3 ⊢
    have en : ((x.2.1 : Int) + 1).toNat = x.2.1 + 1 := by omega
    rw [en]
    obtain ⟨t, e, ht⟩ := F33_ok (N := N) (a := (false, x.2.1 + 1, upd c x.2.1 (BitVec.ofInt 32 (carry.toNat : Int)))) (fun h => by cases h) (show x.2.1 + 1 < 2147483648 by omega) hN
    rw [e]
    refine ⟨t, rfl, ht.nn, ?_⟩
    rw [ht.val]
    show vl (x.2.1 + 1) (upd c x.2.1 (BitVec.ofInt 32 (carry.toNat : Int))) = _
    rw [vl, vl_upd (Nat.le_refl _), upd_eq, ofInt_nat, BitVec.toNat_ofNat, Nat.mod_eq_of_lt (by omega), h3, vl_ext0 hle]; rfl

theorem F253_ok {N : Nat} {a b : NS (BitVec 32)} (ha : OKs a) (hb : OKs b) (hl : a.2.1 < 1073741824) (hl2 : b.2.1 < 1073741824) (hN : a.2.1 + 1 < N) (hN2 : b.2.1 + 1 < N) : ∃ r, F253 N a b = some r ∧ NN r ∧ vN r = vN a + vN b := by
  obtain ⟨x, e, hx⟩ := F33_ok (N := N) ha (by omega) (by omega)
  obtain ⟨y, e', hy⟩ := F33_ok (N := N) hb (by omega) (by omega)
  have h1 := hx.le
  have h2 := hy.le
  unfold F253
  rw [e, e']
  simp only [Option.bind_some, F253_1, F253_14]
  rw [← hx.val, ← hy.val]
  by_cases h : x.2.1 < y.2.1
  · rw [bt (by simpa using h), Nat.add_comm]
    exact F253_core (by omega) (by omega) (by omega)
  · rw [bf (by simpa using h)]
    exact F253_core (by omega) (by omega) (by omega)
end Go.Proofs.YfwaawGreat
