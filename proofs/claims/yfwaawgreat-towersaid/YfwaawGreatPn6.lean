/-
  Package nat, its plain part: long division.
-/
import Derived.Test.YfwaawGreatPn5
namespace Go.Proofs.YfwaawGreat
open Go.Aw
set_option linter.unusedVariables false
set_option linter.unusedSimpArgs false

/-! ### The guess -/
theorem F124_ok {N : Nat} {u2 u1 u0 d1 d0 : BitVec 32} {T E : Nat} (hT : (u2.toNat * 4294967296 + u1.toNat) * 4294967296 + u0.toNat = T) (hE : d1.toNat * 4294967296 + d0.toNat = E) (hd : 2147483648 ≤ d1.toNat) (hu : u2.toNat ≤ d1.toNat) (hN : 4294967300 < N) :
    ∃ r, F124 N u2 u1 u0 d1 d0 = some r ∧ (∀ q, q < 4294967296 → q * E ≤ T → q ≤ r.toNat) ∧ r.toNat * E ≤ T := by
  have b2 := bv32 u2
  have b1 := bv32 u1
  have b0 := bv32 u0
  have e1 := bv32 d1
  have e0 := bv32 d0
  unfold F124 F124_1
  generalize hh : (((BitVec.ofInt 64 (u2.toNat : Int)) <<< 32) ||| (BitVec.ofInt 64 (u1.toNat : Int))) = head
  have hhn : head.toNat = u2.toNat * 4294967296 + u1.toNat := by rw [← hh, or_shl32]
  have hdn : ((BitVec.ofInt 64 (d1.toNat : Int)) != 0#64) = true := by
    have : (BitVec.ofInt 64 (d1.toNat : Int)).toNat ≠ 0 := by rw [of32]; omega
    simp only [bne_iff_ne]
    intro h; rw [h] at this; exact this rfl
  rw [bt hdn, bt hdn]
  unfold F124_2
  have hdm := Nat.div_add_mod head.toNat d1.toNat
  have hml := Nat.mod_lt head.toNat (show 0 < d1.toNat by omega)
  refine iter_inv (L := F124_L4 N u0 d1 d0) (I := fun v : BitVec 64 × BitVec 64 => v.1.toNat * d1.toNat + v.2.toNat = head.toNat ∧ v.2.toNat < 4294967296 ∧ v.1.toNat ≤ 4294967297 ∧ ∀ q, q < 4294967296 → q * E ≤ T → q ≤ v.1.toNat) (μ := fun v => v.1.toNat) (Post := fun r => (∀ q, q < 4294967296 → q * E ≤ T → q ≤ r.toNat) ∧ r.toNat * E ≤ T) ?_ N _ ⟨?_, ?_, ?_, ?_⟩ ?_
  · rintro ⟨est, rest⟩ ⟨g0, g1, g2, g3⟩
    simp only at g0 g1 g2 g3 ⊢
    simp only [F124_L4, F124_L4b, F124_5, F124_6, F124_7, F124_8, F124_3]
    have hcmp : ((rest <<< 32) ||| (BitVec.ofInt 64 (u0.toNat : Int))).toNat = rest.toNat * 4294967296 + u0.toNat := by
      have e1 : (rest <<< 32).toNat = rest.toNat * 4294967296 := by
        rw [BitVec.toNat_shiftLeft, Nat.shiftLeft_eq, p32]; exact Nat.mod_eq_of_lt (by omega)
      rw [BitVec.or_comm, or_add _ _ 32 (by rw [of32]; exact u0.isLt) (by rw [e1]; exact ⟨_, Nat.mul_comm _ _⟩), of32, e1]; omega
    -- est * E against T
    have hTE : est.toNat * E ≤ T ↔ est.toNat * d0.toNat ≤ rest.toNat * 4294967296 + u0.toNat := by
      rw [← hE, ← hT, ← hhn, ← g0]
      have : est.toNat * (d1.toNat * 4294967296 + d0.toNat) = est.toNat * d1.toNat * 4294967296 + est.toNat * d0.toNat := by grind
      rw [this]
      omega
    have hprod : est.toNat < 4294967296 → (est * (BitVec.ofInt 64 (d0.toNat : Int))).toNat = est.toNat * d0.toNat := by
      intro h
      rw [BitVec.toNat_mul, of32]
      have : est.toNat * d0.toNat ≤ 4294967295 * 4294967295 := Nat.mul_le_mul (by omega) (by omega)
      exact Nat.mod_eq_of_lt (by omega)
    rw [hcmp]
    have go : (4294967296 ≤ est.toNat ∨ T < est.toNat * E) ∨ (est.toNat < 4294967296 ∧ est.toNat * E ≤ T) := by omega
    rcases go with go | go
    · -- one less
      have hc : (decide ((4294967296#64).toNat ≤ est.toNat) || decide (rest.toNat * 4294967296 + u0.toNat < (est * (BitVec.ofInt 64 (d0.toNat : Int))).toNat)) = true := by
        by_cases hb : 4294967296 ≤ est.toNat
        · have : (4294967296#64).toNat = 4294967296 := rfl
          rw [this]; simp [hb]
        · rw [hprod (by omega)]
          have : rest.toNat * 4294967296 + u0.toNat < est.toNat * d0.toNat := by
            rcases go with go | go
            · omega
            · rw [← Nat.not_le] at go ⊢
              exact fun h => go (hTE.2 h)
          simp [this]
      rw [hc, bt rfl]
      have hpos : 1 ≤ est.toNat := by
        rcases go with go | go
        · omega
        · rcases Nat.eq_zero_or_pos est.toNat with h | h
          · rw [h] at go; omega
          · exact h
      have he : (est - 1#64).toNat = est.toNat - 1 := by
        have := bv64 est
        rw [sub64, show (1#64).toNat = 1 from rfl]; omega
      have hr : (rest + BitVec.ofInt 64 (d1.toNat : Int)).toNat = rest.toNat + d1.toNat := by
        rw [BitVec.toNat_add, of32]; exact Nat.mod_eq_of_lt (by omega)
      have hg0 : (est.toNat - 1) * d1.toNat + (rest.toNat + d1.toNat) = head.toNat := by
        rw [Nat.sub_mul, ← g0]
        have := Nat.mul_le_mul_right d1.toNat hpos
        omega
      have hg3 : ∀ q, q < 4294967296 → q * E ≤ T → q ≤ est.toNat - 1 := by
        intro q h1 h2
        have h3 := g3 q h1 h2
        rcases Nat.lt_or_ge q est.toNat with h | h
        · omega
        · have : q = est.toNat := by omega
          subst this
          rcases go with go | go <;> omega
      rw [hr, show (4294967296#64).toNat = 4294967296 from rfl]
      by_cases hb : 4294967296 ≤ rest.toNat + d1.toNat
      · right
        rw [bt (by simpa using hb)]
        have hlt : est.toNat - 1 < 4294967296 := by
          rcases Nat.lt_or_ge (est.toNat - 1) 4294967296 with h | h
          · exact h
          · have := Nat.mul_le_mul_right d1.toNat h
            have : u2.toNat * 4294967296 ≤ d1.toNat * 4294967296 := Nat.mul_le_mul_right _ hu
            omega
        have hv : (BitVec.ofInt 32 ((est - 1#64).toNat : Int)).toNat = est.toNat - 1 := by rw [low32, he]; exact Nat.mod_eq_of_lt hlt
        refine ⟨_, rfl, ?_, ?_⟩
        · intro q h1 h2
          rw [hv]; exact hg3 q h1 h2
        · rw [hv, ← hE, ← hT, ← hhn, ← hg0]
          have h1 : (est.toNat - 1) * (d1.toNat * 4294967296 + d0.toNat) = (est.toNat - 1) * d1.toNat * 4294967296 + (est.toNat - 1) * d0.toNat := by grind
          have h2 : (est.toNat - 1) * d0.toNat ≤ 4294967295 * 4294967295 := Nat.mul_le_mul (by omega) (by omega)
          rw [h1]
          omega
      · left
        rw [bf (by simpa using hb)]
        refine ⟨_, rfl, ⟨?_, ?_, ?_, ?_⟩, ?_⟩
        · show (est - 1#64).toNat * _ + (rest + _).toNat = _
          rw [he, hr]; exact hg0
        · show (rest + _).toNat < _
          rw [hr]; omega
        · show (est - 1#64).toNat ≤ _
          rw [he]; omega
        · show ∀ q, q < 4294967296 → q * E ≤ T → q ≤ (est - 1#64).toNat
          rw [he]; exact hg3
        · show (est - 1#64).toNat < _
          rw [he]; omega
    · right
      have hc : (decide ((4294967296#64).toNat ≤ est.toNat) || decide (rest.toNat * 4294967296 + u0.toNat < (est * (BitVec.ofInt 64 (d0.toNat : Int))).toNat)) = false := by
        rw [hprod go.1, show (4294967296#64).toNat = 4294967296 from rfl]
        have := hTE.1 go.2
        simp; omega
      rw [hc, bf rfl]
      have hv : (BitVec.ofInt 32 (est.toNat : Int)).toNat = est.toNat := by rw [low32]; exact Nat.mod_eq_of_lt go.1
      refine ⟨_, rfl, ?_, ?_⟩
      · rw [hv]; exact g3
      · rw [hv]; exact go.2
  · show (head / _).toNat * _ + (head % _).toNat = _
    rw [BitVec.toNat_udiv, BitVec.toNat_umod, of32, Nat.mul_comm]; exact hdm
  · show (head % _).toNat < _
    rw [BitVec.toNat_umod, of32]; omega
  · show (head / _).toNat ≤ _
    rw [BitVec.toNat_udiv, of32]
    have : head.toNat < 4294967298 * d1.toNat := by
      rw [hhn]
      have : u2.toNat * 4294967296 ≤ d1.toNat * 4294967296 := Nat.mul_le_mul_right _ hu
      omega
    have := (Nat.div_lt_iff_lt_mul (show 0 < d1.toNat by omega)).2 this
    omega
  · intro q h1 h2
    show q ≤ (head / _).toNat
    rw [BitVec.toNat_udiv, of32, Nat.le_div_iff_mul_le (by omega)]
    rw [← hE, ← hT, ← hhn] at h2
    have : q * (d1.toNat * 4294967296 + d0.toNat) = q * d1.toNat * 4294967296 + q * d0.toNat := by grind
    omega
  · show (head / _).toNat < N
    rw [BitVec.toNat_udiv, of32]
    have : head.toNat < 4294967298 * d1.toNat := by
      rw [hhn]
      have : u2.toNat * 4294967296 ≤ d1.toNat * 4294967296 := Nat.mul_le_mul_right _ hu
      omega
    have := (Nat.div_lt_iff_lt_mul (show 0 < d1.toNat by omega)).2 this
    omega

/-- The guess is right or one too great. -/
theorem guess_near {R T E wl dl W D r : Nat} (hR : 0 < R) (hwl : wl < R) (hdl : dl < R) (hW : W = T * R + wl) (hD : D = E * R + dl)
    (hE : 4294967296 ≤ E) (hWD : W < D * 4294967296) (hr : r < 4294967296)
    (h1 : ∀ q, q < 4294967296 → q * E ≤ T → q ≤ r) (h2 : r * E ≤ T) : r = W / D ∨ (r = W / D + 1) := by
  have hDp : 0 < D := by
    have : 4294967296 * R ≤ E * R := Nat.mul_le_mul_right _ hE
    omega
  have hq : W / D < 4294967296 := (Nat.div_lt_iff_lt_mul hDp).2 (by rw [Nat.mul_comm]; exact hWD)
  have hqE : W / D * E ≤ T := by
    have a := Nat.div_mul_le_self W D
    have b : W / D * E * R ≤ W / D * D := by
      rw [hD, Nat.mul_add, ← Nat.mul_assoc]; omega
    have c : W / D * E * R < (T + 1) * R := by rw [Nat.add_mul, Nat.one_mul]; omega
    have := Nat.lt_of_mul_lt_mul_right c
    omega
  have hlow := h1 _ hq hqE
  have hup : r < W / D + 2 := by
    have h3 : r * D < W + D := by
      have a : r * D = r * E * R + r * dl := by rw [hD]; grind
      have b : r * E * R ≤ T * R := Nat.mul_le_mul_right _ h2
      have c : r * dl ≤ r * R := Nat.mul_le_mul_left _ (by omega)
      have d : r * R < E * R := Nat.mul_lt_mul_of_pos_right (by omega) hR
      omega
    have h4 : W < (W / D + 1) * D := by
      have := Nat.lt_div_mul_add (a := W) hDp
      rw [Nat.add_mul, Nat.one_mul]; omega
    have h5 : r * D < (W / D + 2) * D := by
      have : (W / D + 2) * D = (W / D + 1) * D + D := by grind
      omega
    exact Nat.lt_of_mul_lt_mul_right h5
  omega

/-! ### Take away, put back -/
/-- A window of a row. -/
def win (o : Nat) (w : Nat → BitVec 32) : Nat → BitVec 32 := fun i => w (o + i)
theorem win_upd {o k n : Nat} {w : Nat → BitVec 32} {v : BitVec 32} (h : n ≤ k) : vl n (win o (upd w (o + k) v)) = vl n (win o w) :=
  vl_congr fun i hi => upd_ne (by omega)

theorem and_low (x : BitVec 64) : (x &&& 4294967295#64).toNat = x.toNat % 4294967296 := by
  rw [BitVec.toNat_and, show (4294967295#64).toNat = 2 ^ 32 - 1 from rfl, Nat.and_two_pow_sub_one_eq_mod]

theorem F125_ok {N m o l c : Nat} {w : Nat → BitVec 32} {d : NS (BitVec 32)} {g : BitVec 32} (hl : l < 1073741824) (hm : o + l ≤ m) (hd : d.2.1 < l) (hN : l < N) :
    ∃ b w', F125 N m o l c w d g = some (b, w') ∧ (∀ i, (i < o ∨ o + l ≤ i) → w' i = w i) ∧ vl l (win o w') + g.toNat * vN d = vl l (win o w) + (bif b then 1 else 0) * 2 ^ (32 * l) := by
  unfold F125 F125_2
  have key := iter_inv (L := F125_L3 N m o l c d g (l : Int)) (I := fun v : BitVec 64 × BitVec 64 × Int × (Nat → BitVec 32) => 0 ≤ v.2.2.1 ∧ v.2.2.1 ≤ (l : Int) ∧ v.1.toNat < 4294967296 ∧ v.2.1.toNat ≤ 1 ∧ (∀ i : Nat, ((i : Int) < o ∨ o + v.2.2.1 ≤ i) → v.2.2.2 i = w i) ∧ (v.2.2.1 = (l : Int) → v.1.toNat = 0) ∧ vl v.2.2.1.toNat (win o v.2.2.2) + g.toNat * vl v.2.2.1.toNat (ext0 d) = vl v.2.2.1.toNat (win o w) + (v.1.toNat + v.2.1.toNat) * 2 ^ (32 * v.2.2.1.toNat)) (μ := fun v => ((l : Int) - v.2.2.1).toNat)
    (Post := fun r => (∀ i, (i < o ∨ o + l ≤ i) → r.2 i = w i) ∧ vl l (win o r.2) + g.toNat * vN d = vl l (win o w) + (bif r.1 then 1 else 0) * 2 ^ (32 * l)) (by
    rintro ⟨carry, bo, i, u⟩ ⟨h0, h1, h2, h3, h4, h6, h5⟩
    simp only at h0 h1 h2 h3 h4 h5 h6 ⊢
    obtain ⟨n, rfl⟩ : ∃ n : Nat, i = (n : Int) := ⟨i.toNat, by omega⟩
    simp only [Int.toNat_natCast] at h5
    simp only [F125_L3, F125_L3b, F125_4, F125_10, F125_6, F125_7, F125_8, F125_9, F125_5, F125_1]
    by_cases hi : n < l
    · left
      simp only [Int.toNat_natCast]
      have hwn : w64 ((n : Int) + 1) = ((n + 1 : Nat) : Int) := by rw [w64_id (by omega)]; omega
      rw [bt (by simpa using hi), hwn]
      have hbd := bv32 (ext0 d n)
      have hbg := bv32 g
      have hbu := bv32 (u (o + n))
      have fin : ∀ z : BitVec 64, z.toNat = carry.toNat + g.toNat * (ext0 d n).toNat →
          ∃ x', (bif (decide (0 ≤ (n : Int)) && decide ((n : Int) < (l : Int))) then bif decide (o + n < m) then bif (decide (0 ≤ (n : Int)) && decide ((n : Int) < (l : Int))) then bif decide (o + n < m) then (some (.inl (z >>> 32, (((BitVec.ofInt 64 ((u (o + n)).toNat : Int)) - (z &&& (4294967295#64))) - bo) >>> 63, ((n + 1 : Nat) : Int), upd u (o + n) (BitVec.ofInt 32 ((((BitVec.ofInt 64 ((u (o + n)).toNat : Int)) - (z &&& (4294967295#64))) - bo).toNat : Int)))) : Option ((BitVec 64 × BitVec 64 × Int × (Nat → BitVec 32)) ⊕ (Bool × (Nat → BitVec 32)))) else none else none else none else none) = some (.inl x') ∧
            (0 ≤ x'.2.2.1 ∧ x'.2.2.1 ≤ (l : Int) ∧ x'.1.toNat < 4294967296 ∧ x'.2.1.toNat ≤ 1 ∧ (∀ i : Nat, ((i : Int) < o ∨ o + x'.2.2.1 ≤ i) → x'.2.2.2 i = w i) ∧ (x'.2.2.1 = (l : Int) → x'.1.toNat = 0) ∧ vl x'.2.2.1.toNat (win o x'.2.2.2) + g.toNat * vl x'.2.2.1.toNat (ext0 d) = vl x'.2.2.1.toNat (win o w) + (x'.1.toNat + x'.2.1.toNat) * 2 ^ (32 * x'.2.2.1.toNat)) ∧ ((l : Int) - x'.2.2.1).toNat < ((l : Int) - (n : Int)).toNat := by
        intro z hz
        rw [bt (by simpa using hi), bt (by simp; omega), bt (by simpa using hi), bt (by simp; omega)]
        generalize hx : ((BitVec.ofInt 64 ((u (o + n)).toNat : Int)) - (z &&& (4294967295#64))) - bo = x
        have hxn : x.toNat = (18446744073709551616 + (u (o + n)).toNat - z.toNat % 4294967296 - bo.toNat) % 18446744073709551616 := by
          rw [← hx, sub64, sub64, of32, and_low]; omega
        have hzlt := bv64 z
        have e32 : (z >>> 32).toNat = z.toNat / 4294967296 := shr_nat z 32
        have e63 : (x >>> 63).toNat = x.toNat / 9223372036854775808 := shr_nat x 63
        have hui : u (o + n) = w (o + n) := h4 _ (by omega)
        refine ⟨_, rfl, ⟨show 0 ≤ ((n + 1 : Nat) : Int) by omega, show ((n + 1 : Nat) : Int) ≤ _ by omega, ?_, ?_, ?_, ?_, ?_⟩, show ((l : Int) - ((n + 1 : Nat) : Int)).toNat < _ by omega⟩
        · show (z >>> 32).toNat < _
          rw [e32]; omega
        · show (x >>> 63).toNat ≤ 1
          rw [e63]; omega
        · intro k hk
          have hk' : (k : Int) < o ∨ o + ((n + 1 : Nat) : Int) ≤ k := hk
          show upd u (o + n) _ k = w k
          rw [upd_ne (by omega)]; exact h4 k (by omega)
        · intro he
          have he' : ((n + 1 : Nat) : Int) = (l : Int) := he
          show (z >>> 32).toNat = 0
          rw [e32, hz, ext0_ge (by omega)]
          simp; omega
        · show vl ((n + 1 : Nat) : Int).toNat (win o (upd u (o + n) _)) + g.toNat * vl ((n + 1 : Nat) : Int).toNat (ext0 d) = vl ((n + 1 : Nat) : Int).toNat (win o w) + ((z >>> 32).toNat + (x >>> 63).toNat) * 2 ^ (32 * ((n + 1 : Nat) : Int).toNat)
          rw [Int.toNat_natCast, vl, vl, vl, win_upd (Nat.le_refl _), e32, e63, pow32_succ]
          have hw1 : win o (upd u (o + n) (BitVec.ofInt 32 (x.toNat : Int))) n = BitVec.ofInt 32 (x.toNat : Int) := upd_eq
          have hw2 : (win o w n).toNat = (u (o + n)).toNat := by rw [hui]; rfl
          rw [hw1, hw2, low32]
          have hlimb : x.toNat % 4294967296 + z.toNat % 4294967296 + bo.toNat = (u (o + n)).toNat + x.toNat / 9223372036854775808 * 4294967296 := by omega
          have hsp : z.toNat % 4294967296 + z.toNat / 4294967296 * 4294967296 = carry.toNat + g.toNat * (ext0 d n).toNat := by omega
          generalize x.toNat % 4294967296 = xl at *
          generalize x.toNat / 9223372036854775808 = xb at *
          generalize z.toNat % 4294967296 = zl at *
          generalize z.toNat / 4294967296 = zh at *
          generalize 2 ^ (32 * n) = P at *
          grind
      by_cases hy : n < d.2.1
      · rw [bt (by simpa using hy), bt (by simpa using hy)]
        refine fin _ ?_
        rw [BitVec.toNat_add, mul32, ext0_lt hy]
        have hbd := bv32 (d.2.2 n)
        have : g.toNat * (d.2.2 n).toNat ≤ 4294967295 * 4294967295 := Nat.mul_le_mul (by omega) (by omega)
        exact Nat.mod_eq_of_lt (by omega)
      · rw [bf (by simpa using hy)]
        refine fin _ ?_
        rw [ext0_ge hy]; simp
    · right
      have hn : n = l := by omega
      subst hn
      rw [bf (by simp)]
      refine ⟨_, rfl, fun i hi => h4 i (by omega), ?_⟩
      show vl n (win o u) + g.toNat * vN d = vl n (win o w) + (bif (bo == 1#64) then 1 else 0) * 2 ^ (32 * n)
      rw [← vl_ext0 (y := d) (n := n) (by omega), h5, h6 rfl, Nat.zero_add]
      congr 2
      by_cases hb : bo = 1#64
      · subst hb; rfl
      · have : bo.toNat ≠ 1 := fun e => hb (BitVec.eq_of_toNat_eq (by simpa using e))
        have e : (bo == 1#64) = false := by simpa using hb
        rw [e]; show bo.toNat = 0; omega) N (0#64, 0#64, 0, w) ⟨by simp, by simp, by simp, by simp, fun _ _ => rfl, fun _ => rfl, by simp [vl]⟩ (by simp; omega)
  obtain ⟨⟨b, w'⟩, e, h1, h2⟩ := key
  exact ⟨b, w', e, h1, h2⟩

theorem F126_ok {N m o l c : Nat} {w : Nat → BitVec 32} {d : NS (BitVec 32)} (hl : l < 1073741824) (hm : o + l ≤ m) (hd : d.2.1 < l) (hN : l < N) :
    ∃ w' k, F126 N m o l c w d = some w' ∧ (∀ i, (i < o ∨ o + l ≤ i) → w' i = w i) ∧ k ≤ 1 ∧ vl l (win o w') + k * 2 ^ (32 * l) = vl l (win o w) + vN d := by
  unfold F126 F126_1
  have key := iter_inv (L := F126_L2 N m o l c d (l : Int)) (I := fun v : BitVec 64 × Int × (Nat → BitVec 32) => 0 ≤ v.2.1 ∧ v.2.1 ≤ (l : Int) ∧ v.1.toNat ≤ 1 ∧ (∀ i : Nat, ((i : Int) < o ∨ o + v.2.1 ≤ i) → v.2.2 i = w i) ∧ vl v.2.1.toNat (win o v.2.2) + v.1.toNat * 2 ^ (32 * v.2.1.toNat) = vl v.2.1.toNat (win o w) + vl v.2.1.toNat (ext0 d)) (μ := fun v => ((l : Int) - v.2.1).toNat)
    (Post := fun r => (∀ i, (i < o ∨ o + l ≤ i) → r i = w i) ∧ ∃ k, k ≤ 1 ∧ vl l (win o r) + k * 2 ^ (32 * l) = vl l (win o w) + vN d) (by
    rintro ⟨carry, i, u⟩ ⟨h0, h1, h2, h4, h5⟩
    simp only at h0 h1 h2 h4 h5 ⊢
    obtain ⟨n, rfl⟩ : ∃ n : Nat, i = (n : Int) := ⟨i.toNat, by omega⟩
    simp only [Int.toNat_natCast] at h5
    simp only [F126_L2, F126_L2b, F126_3, F126_5, F126_8, F126_6, F126_7, F126_4]
    by_cases hi : n < l
    · left
      simp only [Int.toNat_natCast]
      have hwn : w64 ((n : Int) + 1) = ((n + 1 : Nat) : Int) := by rw [w64_id (by omega)]; omega
      rw [bt (by simpa using hi), bt (by simpa using hi), bt (by simp; omega), hwn]
      have hbd := bv32 (ext0 d n)
      have hbu := bv32 (u (o + n))
      have fin : ∀ z : BitVec 64, z.toNat = carry.toNat + (u (o + n)).toNat + (ext0 d n).toNat →
          ∃ x', (bif (decide (0 ≤ (n : Int)) && decide ((n : Int) < (l : Int))) then bif decide (o + n < m) then (some (.inl (z >>> 32, ((n + 1 : Nat) : Int), upd u (o + n) (BitVec.ofInt 32 (z.toNat : Int)))) : Option ((BitVec 64 × Int × (Nat → BitVec 32)) ⊕ (Nat → BitVec 32))) else none else none) = some (.inl x') ∧
            (0 ≤ x'.2.1 ∧ x'.2.1 ≤ (l : Int) ∧ x'.1.toNat ≤ 1 ∧ (∀ i : Nat, ((i : Int) < o ∨ o + x'.2.1 ≤ i) → x'.2.2 i = w i) ∧ vl x'.2.1.toNat (win o x'.2.2) + x'.1.toNat * 2 ^ (32 * x'.2.1.toNat) = vl x'.2.1.toNat (win o w) + vl x'.2.1.toNat (ext0 d)) ∧ ((l : Int) - x'.2.1).toNat < ((l : Int) - (n : Int)).toNat := by
        intro z hz
        rw [bt (by simpa using hi), bt (by simp; omega)]
        have e32 : (z >>> 32).toNat = z.toNat / 4294967296 := shr_nat z 32
        have hui : u (o + n) = w (o + n) := h4 _ (by omega)
        refine ⟨_, rfl, ⟨show 0 ≤ ((n + 1 : Nat) : Int) by omega, show ((n + 1 : Nat) : Int) ≤ _ by omega, ?_, ?_, ?_⟩, show ((l : Int) - ((n + 1 : Nat) : Int)).toNat < _ by omega⟩
        · show (z >>> 32).toNat ≤ 1
          rw [e32]; omega
        · intro k hk
          have hk' : (k : Int) < o ∨ o + ((n + 1 : Nat) : Int) ≤ k := hk
          show upd u (o + n) _ k = w k
          rw [upd_ne (by omega)]; exact h4 k (by omega)
        · show vl ((n + 1 : Nat) : Int).toNat (win o (upd u (o + n) _)) + (z >>> 32).toNat * 2 ^ (32 * ((n + 1 : Nat) : Int).toNat) = vl ((n + 1 : Nat) : Int).toNat (win o w) + vl ((n + 1 : Nat) : Int).toNat (ext0 d)
          rw [Int.toNat_natCast, vl, vl, vl, win_upd (Nat.le_refl _), e32, pow32_succ]
          have hw1 : win o (upd u (o + n) (BitVec.ofInt 32 (z.toNat : Int))) n = BitVec.ofInt 32 (z.toNat : Int) := upd_eq
          have hw2 : (win o w n).toNat = (u (o + n)).toNat := by rw [hui]; rfl
          rw [hw1, hw2, low32]
          have hsp := limb_split z.toNat (2 ^ (32 * n))
          rw [hz, Nat.add_mul, Nat.add_mul] at hsp
          rw [hz]
          omega
      by_cases hy : n < d.2.1
      · rw [bt (by simpa using hy), bt (by simpa using hy)]
        refine fin _ ?_
        have hbd := bv32 (d.2.2 n)
        rw [BitVec.toNat_add, BitVec.toNat_add, of32, of32, ext0_lt hy]
        omega
      · rw [bf (by simpa using hy)]
        refine fin _ ?_
        rw [ext0_ge hy, BitVec.toNat_add, of32]; simp; omega
    · right
      have hn : n = l := by omega
      subst hn
      rw [bf (by simp)]
      refine ⟨_, rfl, fun i hi => h4 i (by omega), _, h2, ?_⟩
      rw [← vl_ext0 (y := d) (n := n) (by omega)]
      exact h5) N (0#64, 0, w) ⟨by simp, by simp, by simp, fun _ _ => rfl, by simp [vl]⟩ (by simp; omega)
  obtain ⟨w', e, h1, k, h2, h3⟩ := key
  exact ⟨w', k, e, h1, h2, h3⟩
end Go.Proofs.YfwaawGreat
