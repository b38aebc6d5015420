/-
  Package nat, its plain part: bits, words, powers of five, division by a limb.
-/
import Derived.Test.YfwaawGreatPn4
namespace Go.Proofs.YfwaawGreat
open Go.Aw
set_option linter.unusedVariables false
set_option linter.unusedSimpArgs false

theorem F278_ok {N : Nat} {a : NS (BitVec 32)} {i : Int} (hl : a.2.1 < 1073741824) (hi : -9223372036854775808 ≤ i ∧ i < 9223372036854775808) : F278 N a i = some (nbit (vN a) i) := by
  unfold F278 nbit
  by_cases h0 : i < 0
  · rw [show (decide (i < 0) || decide (w64 (i.tdiv 32) ≥ (a.2.1 : Int))) = true from by simp [h0]]
    have : decide (0 ≤ i) = false := by simp; omega
    rw [this]; rfl
  · obtain ⟨n, rfl⟩ : ∃ n : Nat, i = (n : Int) := ⟨i.toNat, by omega⟩
    rw [tdiv32, w64_id (by omega)]
    unfold F278_1
    rw [tdiv32, tmod32, w64_id (by omega)]
    simp only [Int.toNat_natCast]
    have hg := limb_ext (y := a) (n / 32)
    have hbit : (vN a).testBit n = decide ((ext0 a (n / 32)).toNat / 2 ^ (n % 32) % 2 = 1) := by
      rw [Nat.testBit_eq_decide_div_mod_eq, ← hg]
      congr 2
      have h32 : n % 32 < 32 := Nat.mod_lt _ (by decide)
      have e : (4294967296 : Nat) = 2 ^ (n % 32) * (2 * 2 ^ (31 - n % 32)) := by
        rw [← Nat.pow_succ', ← Nat.pow_add, show n % 32 + (31 - n % 32 + 1) = 32 from by omega]
      rw [e, Nat.mod_mul_right_div_self, Nat.mod_mul_right_mod, Nat.div_div_eq_div_mul, ← Nat.pow_add]
      congr 3
      omega
    rw [hbit]
    by_cases hge : a.2.1 ≤ n / 32
    · rw [bt (by simp; omega), ext0_ge (by omega)]
      simp
    · rw [bf (by simp; omega), bt (by simp; omega), bt (by simp; omega), ext0_lt (by omega)]
      have e : ((a.2.2 (n / 32) >>> (n % 32)) &&& 1#32).toNat = (a.2.2 (n / 32)).toNat / 2 ^ (n % 32) % 2 := by
        rw [BitVec.toNat_and, shr_nat, show (1#32).toNat = 1 from rfl, Nat.and_one_is_mod]
      have : ((a.2.2 (n / 32) >>> (n % 32)) &&& 1#32 == 1#32) = decide ((a.2.2 (n / 32)).toNat / 2 ^ (n % 32) % 2 = 1) := by
        rw [← e]
        by_cases h : ((a.2.2 (n / 32) >>> (n % 32)) &&& 1#32) = 1#32
        · rw [h]; rfl
        · have h2 : ((a.2.2 (n / 32) >>> (n % 32)) &&& 1#32).toNat ≠ 1 := fun e' => h (BitVec.eq_of_toNat_eq (by simpa using e'))
          rw [decide_eq_false h2]
          simpa using h
      rw [this]
      simp

theorem ofNat_ext (x : BitVec 64) (n : Nat) (h : x.toNat = n % 18446744073709551616) : x = BitVec.ofNat 64 n :=
  BitVec.eq_of_toNat_eq (by rw [h, BitVec.toNat_ofNat])

theorem two_limbs (A p : Nat) : A / p % 18446744073709551616 = A / p % 4294967296 + A / (p * 4294967296) % 4294967296 * 4294967296 := by
  rw [show (18446744073709551616 : Nat) = 4294967296 * 4294967296 from rfl, Nat.mod_mul, Nat.div_div_eq_div_mul, Nat.mul_comm 4294967296 (_ % _)]

theorem shl32 (x : BitVec 32) : ((BitVec.ofInt 64 (x.toNat : Int)) <<< 32).toNat = x.toNat * 4294967296 := by
  have := bv32 x
  rw [BitVec.toNat_shiftLeft, of32, Nat.shiftLeft_eq, p32]; exact Nat.mod_eq_of_lt (by omega)

theorem or_shl32 (h l : BitVec 32) : ((BitVec.ofInt 64 (h.toNat : Int)) <<< 32 ||| BitVec.ofInt 64 (l.toNat : Int)).toNat = h.toNat * 4294967296 + l.toNat := by
  rw [BitVec.or_comm, or_add _ _ 32 (by rw [of32]; exact l.isLt) (by rw [shl32]; exact ⟨_, Nat.mul_comm _ _⟩), of32, shl32]; omega

theorem F210_ok {N : Nat} {a : NS (BitVec 32)} : F210 N a = some (BitVec.ofNat 64 (vN a)) := by
  have h0 := limb_ext (y := a) 0
  have h1 := limb_ext (y := a) 1
  have h2 := two_limbs (vN a) 1
  rw [show (32 * 0) = 0 from rfl, Nat.pow_zero] at h0
  rw [show (32 * 1) = 32 from rfl, p32] at h1
  rw [Nat.one_mul, h0, h1, Nat.div_one] at h2
  unfold F210 F210_4 F210_1 F210_3 F210_2
  by_cases c1 : 1 < a.2.1
  · rw [bt (by simp; omega), bt (by simpa using c1), bt (by simp; omega), bt (by simp; omega)]
    congr 1
    refine ofNat_ext _ _ ?_
    rw [or_shl32, h2, ext0_lt (by omega), ext0_lt (by omega)]; omega
  · rw [bf (by simp; omega)]
    by_cases c0 : 0 < a.2.1
    · rw [bt (by simp; omega), bt (by simp; omega)]
      congr 1
      refine ofNat_ext _ _ ?_
      rw [h2, ext0_lt (i := 0) (by omega), ext0_ge (i := 1) (by omega)]
      rw [show (0#64 ||| BitVec.ofInt 64 ((a.2.2 0).toNat : Int)) = BitVec.ofInt 64 ((a.2.2 0).toNat : Int) from by simp, of32]
      simp
    · rw [bf (by simp; omega)]
      congr 1
      refine ofNat_ext _ _ ?_
      rw [h2, ext0_ge (i := 0) (by omega), ext0_ge (i := 1) (by omega)]
      simp

theorem and3 (n : Nat) (h : n < 4) : w64 ((BitVec.ofInt 64 (n : Int) &&& BitVec.ofInt 64 3).toNat : Int) = (n : Int) := by
  have : n = 0 ∨ n = 1 ∨ n = 2 ∨ n = 3 := by omega
  rcases this with h | h | h | h <;> subst h <;> decide

theorem len_of_lt {a : NS (BitVec 32)} {k : Nat} (hn : NN a) (h : vN a < 2 ^ (32 * k)) : a.2.1 ≤ k := by
  rcases Nat.eq_zero_or_pos a.2.1 with h0 | h0
  · omega
  · have := pow_gap _ (Nat.lt_of_le_of_lt (hn.ge h0) h)
    omega

theorem F37_ok {N : Nat} {a : NS (BitVec 32)} (hn : NN a) (hlt : vN a < 2 ^ 128) (hN : 5 < N) : F37 N a = some (BitVec.ofNat 64 (vN a / 2 ^ 64), BitVec.ofNat 64 (vN a)) := by
  have hlen : a.2.1 ≤ 4 := len_of_lt hn hlt
  unfold F37 F37_1 F37_3
  obtain ⟨r, e, h⟩ := iter_inv (L := F37_L4 N a (a.2.1 : Int)) (I := fun v : Int × (Nat → BitVec 64) => 0 ≤ v.1 ∧ v.1 ≤ (a.2.1 : Int) ∧ ∀ j, v.2 j = bif Nat.blt j v.1.toNat then BitVec.ofInt 64 ((a.2.2 j).toNat : Int) else 0#64) (μ := fun v => ((a.2.1 : Int) - v.1).toNat) (Post := fun r => r = (BitVec.ofNat 64 (vN a / 2 ^ 64), BitVec.ofNat 64 (vN a))) (by
    rintro ⟨i, c⟩ ⟨g0, g1, g2⟩
    simp only at g0 g1 g2 ⊢
    obtain ⟨n, rfl⟩ : ∃ n : Nat, i = (n : Int) := ⟨i.toNat, by omega⟩
    simp only [Int.toNat_natCast] at g2
    simp only [F37_L4, F37_L4b, F37_5, F37_7, F37_6, F37_2]
    by_cases hi : n < a.2.1
    · left
      rw [bt (by simpa using hi), bt (by simpa using hi), and3 n (by omega), bt (by simp; omega)]
      simp only [Int.toNat_natCast]
      have hwn : w64 ((n : Int) + 1) = ((n + 1 : Nat) : Int) := by rw [w64_id (by omega)]; omega
      rw [hwn]
      refine ⟨_, rfl, ⟨show 0 ≤ ((n + 1 : Nat) : Int) by omega, show ((n + 1 : Nat) : Int) ≤ _ by omega, ?_⟩, show ((a.2.1 : Int) - ((n + 1 : Nat) : Int)).toNat < _ by omega⟩
      intro j
      show upd c n _ j = bif Nat.blt j ((n + 1 : Nat) : Int).toNat then _ else _
      rw [Int.toNat_natCast]
      by_cases hj : j = n
      · subst hj
        rw [upd_eq, bt (by simp [Nat.blt_eq])]
      · rw [upd_ne hj, g2]
        by_cases hjn : j < n
        · rw [bt (by simp [Nat.blt_eq]; omega), bt (by simp [Nat.blt_eq]; omega)]
        · rw [bf (by cases hb : Nat.blt j n with
            | false => rfl
            | true => rw [Nat.blt_eq] at hb; omega), bf (by cases hb : Nat.blt j (n + 1) with
            | false => rfl
            | true => rw [Nat.blt_eq] at hb; omega)]
    · right
      have hn' : n = a.2.1 := by omega
      subst hn'
      rw [bf (by simp)]
      refine ⟨_, rfl, ?_⟩
      have hc : ∀ j, c j = BitVec.ofInt 64 ((ext0 a j).toNat : Int) := by
        intro j
        rw [g2]
        by_cases hj : j < a.2.1
        · rw [bt (by simpa [Nat.blt_eq] using hj), ext0_lt hj]
        · rw [ext0_ge hj, bf (by cases hb : Nat.blt j a.2.1 with
            | false => rfl
            | true => rw [Nat.blt_eq] at hb; omega)]; rfl
      have h0 := limb_ext (y := a) 0
      have h1 := limb_ext (y := a) 1
      have h2 := limb_ext (y := a) 2
      have h3 := limb_ext (y := a) 3
      rw [show (32 * 0) = 0 from rfl, Nat.pow_zero] at h0
      rw [show (32 * 1) = 32 from rfl, p32] at h1
      have t1 := two_limbs (vN a) 1
      have t2 := two_limbs (vN a) (2 ^ 64)
      rw [Nat.one_mul, h0, h1, Nat.div_one] at t1
      rw [show (2 : Nat) ^ 64 * 4294967296 = 2 ^ (32 * 3) from rfl, show (2 : Nat) ^ 64 = 2 ^ (32 * 2) from rfl, h2, h3] at t2
      rw [hc, hc, hc, hc]
      refine Prod.ext (ofNat_ext _ _ ?_) (ofNat_ext _ _ ?_)
      · rw [or_shl32]; rw [show (2 : Nat) ^ 64 = 2 ^ (32 * 2) from rfl, t2]; omega
      · rw [or_shl32, t1]; omega) N (0, fun _ => 0#64) ⟨by simp, by simp, fun j => by
        show 0#64 = bif Nat.blt j 0 then _ else _
        rw [bf (by cases hb : Nat.blt j 0 with
            | false => rfl
            | true => rw [Nat.blt_eq] at hb; omega)]⟩ (by simp; omega)
  rw [e, h]

/-! ### Powers of five -/
theorem pow5_bits (k i : Nat) : 5 ^ (k / 2 ^ i) = (5 ^ (k / 2 ^ (i + 1))) * (5 ^ (k / 2 ^ (i + 1))) * 5 ^ (k / 2 ^ i % 2) := by
  rw [← Nat.pow_add, ← Nat.pow_add, Nat.pow_succ 2 i, ← Nat.div_div_eq_div_mul]
  congr 1
  omega

theorem five_lt {k m : Nat} (h : 3 * k < 32 * m) : 5 ^ k < 2 ^ (32 * m) := by
  have h1 : 5 ^ k ≤ 8 ^ k := Nat.pow_le_pow_left (by decide) k
  have h2 : (8 : Nat) ^ k = 2 ^ (3 * k) := by rw [Nat.pow_mul]
  have h3 : 2 ^ (3 * k) < 2 ^ (32 * m) := Nat.pow_lt_pow_right (by decide) h
  omega

theorem five_len {x : NS (BitVec 32)} {k m : Nat} (hx : NN x) (hv : vN x = 5 ^ k) (h : 3 * k < 32 * m) : x.2.1 ≤ m :=
  len_of_lt hx (by rw [hv]; exact five_lt h)

theorem nz16 {x : BitVec 16} : (x != 0#16) = decide (x.toNat ≠ 0) := by
  by_cases h : x = 0#16
  · subst h; rfl
  · have : x.toNat ≠ 0 := fun e => h (BitVec.eq_of_toNat_eq (by simpa using e))
    simp [h, this]

theorem one16 (x : BitVec 16) : (x &&& 1#16 == 1#16) = decide (x.toNat % 2 = 1) := by
  have e : (x &&& 1#16).toNat = x.toNat % 2 := by rw [BitVec.toNat_and, show (1#16).toNat = 1 from rfl, Nat.and_one_is_mod]
  rw [← e]
  by_cases h : (x &&& 1#16) = 1#16
  · rw [h]; rfl
  · have h2 : (x &&& 1#16).toNat ≠ 1 := fun e' => h (BitVec.eq_of_toNat_eq (by simpa using e'))
    rw [decide_eq_false h2]
    simpa using h

theorem F55_ok {N : Nat} (k : BitVec 16) (hN : 20000 < N) : ∃ r, F55 N k = some r ∧ NN r ∧ vN r = 5 ^ k.toNat := by
  unfold F55 F55_1
  have hk := k.isLt
  refine iter_inv (L := F55_L3 N k) (I := fun v : NS (BitVec 32) × Int => -1 ≤ v.2 ∧ v.2 ≤ 15 ∧ NN v.1 ∧ vN v.1 = 5 ^ (k.toNat / 2 ^ (v.2 + 1).toNat)) (μ := fun v => (v.2 + 1).toNat) (Post := fun r => NN r ∧ vN r = 5 ^ k.toNat) ?_ N _ ⟨by simp, by simp, .inr ⟨rfl, by simp, by simp⟩, ?_⟩ (by
    show ((15 : Int) + 1).toNat < N
    omega)
  · rintro ⟨p, i⟩ ⟨g0, g1, g2, g3⟩
    simp only at g0 g1 g2 g3 ⊢
    simp only [F55_L3, F55_L3b, F55_4, F55_8, F55_6, F55_7, F55_5, F55_2]
    have small : ∀ x : NS (BitVec 32), NN x → ∀ m, m < 65536 → vN x = 5 ^ m → x.2.1 ≤ 6144 := fun x hx m hm hv => five_len hx hv (by omega)
    have hdl : ∀ j, k.toNat / 2 ^ j < 65536 := fun j => Nat.lt_of_le_of_lt (Nat.div_le_self _ _) hk
    by_cases hi : 0 ≤ i
    · left
      obtain ⟨n, rfl⟩ : ∃ n : Nat, i = (n : Int) := ⟨i.toNat, by omega⟩
      rw [show ((n : Int) + 1).toNat = n + 1 from by omega] at g3
      have hp := small p g2 _ (hdl (n + 1)) g3
      simp only [Int.toNat_natCast]
      rw [bt (by simp), bt (by simp), nz16, shr_nat, one16, shr_nat, w64_id (by omega)]
      have hb := pow5_bits k.toNat n
      -- the end of a round
      have fin : ∀ r : NS (BitVec 32), NN r → vN r = 5 ^ (k.toNat / 2 ^ n) → ∃ x', (some (.inl (r, (n : Int) - 1)) : Option ((NS (BitVec 32) × Int) ⊕ NS (BitVec 32))) = some (.inl x') ∧ (-1 ≤ x'.2 ∧ x'.2 ≤ 15 ∧ NN x'.1 ∧ vN x'.1 = 5 ^ (k.toNat / 2 ^ (x'.2 + 1).toNat)) ∧ (x'.2 + 1).toNat < ((n : Int) + 1).toNat := by
        intro r h1 h2
        refine ⟨_, rfl, ⟨show -1 ≤ (n : Int) - 1 by omega, show (n : Int) - 1 ≤ 15 by omega, h1, ?_⟩, show ((n : Int) - 1 + 1).toNat < _ by omega⟩
        show vN r = 5 ^ (k.toNat / 2 ^ ((n : Int) - 1 + 1).toNat)
        rw [show ((n : Int) - 1 + 1).toNat = n from by omega]; exact h2
      have fin2 : ∀ r : NS (BitVec 32), NN r → r.2.1 ≤ 6144 → vN r = 5 ^ (k.toNat / 2 ^ (n + 1)) * 5 ^ (k.toNat / 2 ^ (n + 1)) → ∃ x', (bif decide (0 ≤ (n : Int)) then bif decide (k.toNat / 2 ^ n % 2 = 1) then (F22 N r (false, 1, fun _ => 5#32)).bind fun y23 => (some (.inl (y23, (n : Int) - 1)) : Option ((NS (BitVec 32) × Int) ⊕ NS (BitVec 32))) else some (.inl (r, (n : Int) - 1)) else none) = some (.inl x') ∧ (-1 ≤ x'.2 ∧ x'.2 ≤ 15 ∧ NN x'.1 ∧ vN x'.1 = 5 ^ (k.toNat / 2 ^ (x'.2 + 1).toNat)) ∧ (x'.2 + 1).toNat < ((n : Int) + 1).toNat := by
        intro r h1 h2 h3
        rw [bt (by simp)]
        rcases Nat.mod_two_eq_zero_or_one (k.toNat / 2 ^ n) with hm | hm
        · rw [bf (by simp [hm])]
          exact fin r h1 (by rw [h3, hb, hm]; simp)
        · rw [bt (by simp [hm])]
          obtain ⟨t, e, ht, hv⟩ := F22_ok (N := N) (a := r) (b := (false, 1, fun _ => 5#32)) h1.ok (fun h => by cases h) (by omega) (by decide) (by show r.2.1 + 1 + 1 < N; omega)
          rw [e]
          refine fin t ht ?_
          rw [hv, h3, hb, hm, show vN (false, 1, fun _ => 5#32) = 5 ^ 1 from rfl]
      by_cases hz : k.toNat / 2 ^ n = 0
      · rw [bf (by simp [hz])]
        refine fin2 p g2 hp ?_
        have hz1 : k.toNat / 2 ^ (n + 1) = 0 := by rw [Nat.pow_succ, ← Nat.div_div_eq_div_mul, hz]
        rw [g3, hz1]
      · rw [bt (by simp [hz])]
        obtain ⟨t, e, ht, hv⟩ := F22_ok (N := N) (a := p) (b := p) g2.ok g2.ok (by omega) (by omega) (by omega)
        rw [e]
        refine fin2 t ht (small t ht (k.toNat / 2 ^ (n + 1) + k.toNat / 2 ^ (n + 1)) ?_ ?_) ?_
        · have : k.toNat / 2 ^ (n + 1) = k.toNat / 2 ^ n / 2 := by rw [Nat.pow_succ, ← Nat.div_div_eq_div_mul]
          have := hdl n
          omega
        · rw [hv, g3, ← Nat.pow_add]
        · rw [hv, g3]
    · right
      rw [bf (by simp; omega)]
      refine ⟨p, rfl, g2, ?_⟩
      rw [g3, show (i + 1).toNat = 0 from by omega]; simp
  · show vl 1 (fun _ => 1#32) = 5 ^ (k.toNat / 2 ^ 16)
    rw [Nat.div_eq_of_lt hk]; rfl

/-! ### Division by a limb -/
theorem F62_ok {N : Nat} {a : NS (BitVec 32)} {d : BitVec 32} (hd : d.toNat ≠ 0) (hl : a.2.1 < 1073741824) (hN : a.2.1 + 1 < N) : ∃ q r, F62 N a d = some (q, r) ∧ NN q ∧ vN q = vN a / d.toNat ∧ r.toNat = vN a % d.toNat := by
  unfold F62
  rw [bt (by simp; omega)]
  unfold F62_1 F62_3
  have hv : vN a = vl a.2.1 a.2.2 := rfl
  have hdn : ((BitVec.ofInt 64 (d.toNat : Int)) != 0#64) = true := by
    have : (BitVec.ofInt 64 (d.toNat : Int)).toNat ≠ 0 := by rw [of32]; exact hd
    simp only [bne_iff_ne]
    intro h; rw [h] at this; exact this rfl
  have key := iter_inv (L := F62_L4 N a d) (I := fun v : BitVec 64 × Int × (Nat → BitVec 32) => -1 ≤ v.2.1 ∧ v.2.1 < (a.2.1 : Int) ∧ v.1.toNat < d.toNat ∧ vl a.2.1 v.2.2 * d.toNat + v.1.toNat * 2 ^ (32 * (v.2.1 + 1).toNat) + vl (v.2.1 + 1).toNat a.2.2 = vN a ∧ ∀ j : Nat, (j : Int) ≤ v.2.1 → v.2.2 j = 0#32) (μ := fun v => (v.2.1 + 1).toNat) (Post := fun r => NN r.1 ∧ vN r.1 = vN a / d.toNat ∧ r.2.toNat = vN a % d.toNat) (by
    rintro ⟨rest, i, c⟩ ⟨g0, g1, g2, g3, g4⟩
    simp only at g0 g1 g2 g3 g4 ⊢
    simp only [F62_L4, F62_L4b, F62_5, F62_7, F62_8, F62_6, F62_2]
    have hdlt := bv32 d
    by_cases hi : 0 ≤ i
    · left
      obtain ⟨n, rfl⟩ : ∃ n : Nat, i = (n : Int) := ⟨i.toNat, by omega⟩
      rw [show ((n : Int) + 1).toNat = n + 1 from by omega] at g3
      simp only [Int.toNat_natCast]
      rw [bt (by simp), bt (by simp; omega), bt hdn, bt (by simp; omega), bt hdn, w64_id (by omega)]
      have hxn := bv32 (a.2.2 n)
      generalize hz : (rest <<< 32) ||| (BitVec.ofInt 64 ((a.2.2 n).toNat : Int)) = z
      have hzn : z.toNat = rest.toNat * 4294967296 + (a.2.2 n).toNat := by
        have e1 : (rest <<< 32).toNat = rest.toNat * 4294967296 := by
          rw [BitVec.toNat_shiftLeft, Nat.shiftLeft_eq, p32]; exact Nat.mod_eq_of_lt (by omega)
        rw [← hz, BitVec.or_comm, or_add _ _ 32 (by rw [of32]; exact (a.2.2 n).isLt) (by rw [e1]; exact ⟨_, Nat.mul_comm _ _⟩), of32, e1]; omega
      have hq : (BitVec.ofInt 32 ((z / (BitVec.ofInt 64 (d.toNat : Int))).toNat : Int)).toNat = z.toNat / d.toNat := by
        rw [low32, BitVec.toNat_udiv, of32]
        refine Nat.mod_eq_of_lt ?_
        rw [Nat.div_lt_iff_lt_mul (by omega), hzn]
        have : (rest.toNat + 1) * 4294967296 ≤ d.toNat * 4294967296 := Nat.mul_le_mul_right _ g2
        omega
      have hr : (z % (BitVec.ofInt 64 (d.toNat : Int))).toNat = z.toNat % d.toNat := by rw [BitVec.toNat_umod, of32]
      refine ⟨_, rfl, ⟨show -1 ≤ (n : Int) - 1 by omega, show (n : Int) - 1 < (a.2.1 : Int) by omega, ?_, ?_, ?_⟩, show ((n : Int) - 1 + 1).toNat < _ by omega⟩
      · show (z % _).toNat < d.toNat
        rw [hr]; exact Nat.mod_lt _ (by omega)
      · show vl a.2.1 (upd c n _) * d.toNat + (z % _).toNat * 2 ^ (32 * ((n : Int) - 1 + 1).toNat) + vl ((n : Int) - 1 + 1).toNat a.2.2 = vN a
        rw [show ((n : Int) - 1 + 1).toNat = n from by omega, hr]
        have hs := vl_set (c := c) (v := BitVec.ofInt 32 ((z / (BitVec.ofInt 64 (d.toNat : Int))).toNat : Int)) (i := n) (n := a.2.1) (by omega)
        rw [g4 n (by omega), hq, show (0#32).toNat = 0 from rfl, Nat.zero_mul, Nat.add_zero] at hs
        rw [hs, ← g3, pow32_succ, vl.eq_2 _ n, Nat.add_mul]
        have hdm := Nat.div_add_mod z.toNat d.toNat
        generalize z.toNat / d.toNat = Q at *
        generalize z.toNat % d.toNat = R at *
        generalize 2 ^ (32 * n) = P
        have : Q * P * d.toNat + R * P = rest.toNat * (P * 4294967296) + (a.2.2 n).toNat * P := by
          have := congrArg (· * P) (hdm.trans hzn)
          simp only [Nat.add_mul] at this
          grind
        omega
      · intro j hj
        have hj' : (j : Int) ≤ (n : Int) - 1 := hj
        show upd c n _ j = _
        rw [upd_ne (by omega)]; exact g4 j (by omega)
    · right
      rw [bf (by simp; omega)]
      have hi1 : (i + 1).toNat = 0 := by omega
      rw [hi1] at g3
      simp only [Int.toNat_natCast]
      obtain ⟨t, e', ht⟩ := F33_ok (N := N) (a := (false, a.2.1, c)) (fun h => by cases h) (show a.2.1 < 2147483648 by omega) (show a.2.1 < N by omega)
      rw [e']
      simp only [Nat.mul_zero, Nat.pow_zero, Nat.mul_one, vl, Nat.add_zero] at g3
      refine ⟨(t, BitVec.ofInt 32 (rest.toNat : Int)), rfl, ht.nn, ?_, ?_⟩
      · show vN t = _
        rw [ht.val]
        show vl a.2.1 c = _
        rw [← g3, Nat.mul_comm, Nat.mul_add_div (by omega), Nat.div_eq_of_lt g2]; simp
      · show (BitVec.ofInt 32 (rest.toNat : Int)).toNat = _
        rw [low32, Nat.mod_eq_of_lt (by omega), ← g3, Nat.mul_comm, Nat.mul_add_mod, Nat.mod_eq_of_lt g2]) N (0#64, w64 ((a.2.1 : Int) - 1), fun _ => 0#32) ⟨by show -1 ≤ w64 _; rw [w64_id (by omega)]; omega, by show w64 _ < _; rw [w64_id (by omega)]; omega, by show 0 < d.toNat; omega, by
      show vl a.2.1 (fun _ => 0#32) * d.toNat + 0 * _ + vl (w64 ((a.2.1 : Int) - 1) + 1).toNat a.2.2 = vN a
      rw [w64_id (by omega), show ((a.2.1 : Int) - 1 + 1).toNat = a.2.1 from by omega, vl_drop (m := 0) (Nat.zero_le _) fun _ _ _ => rfl]
      simp [vl, vN], fun _ _ => rfl⟩ (by
      show (w64 ((a.2.1 : Int) - 1) + 1).toNat < N
      rw [w64_id (by omega)]; omega)
  obtain ⟨⟨q, r⟩, e, h1, h2, h3⟩ := key
  exact ⟨q, r, e, h1, h2, h3⟩
end Go.Proofs.YfwaawGreat
