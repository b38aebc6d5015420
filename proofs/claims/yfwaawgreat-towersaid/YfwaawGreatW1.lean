/-
  Package wide, plain: numbers of 128 bits in two words; soft's jam.
-/
import Derived.Test.YfwaawGreatQ4
import Derived.Test.YfwaawGreatG26
import Derived.Test.YfwaawGreatG28
namespace Go.Proofs.YfwaawGreat
open Go.Aw
set_option linter.unusedVariables false
set_option linter.unusedSimpArgs false

theorem pne (k : Nat) : 2 ^ k ≠ 0 := by have := pow_pos2 k; omega
/-- The number of two words. -/
def v2 (h l : BitVec 64) : Nat := h.toNat * 18446744073709551616 + l.toNat
theorem v2_lt (h l : BitVec 64) : v2 h l < 340282366920938463463374607431768211456 := by
  have := h.isLt
  have := l.isLt
  unfold v2; omega
theorem v2_inj {h l h' l' : BitVec 64} (e : v2 h l = v2 h' l') : h = h' ∧ l = l' := by
  have := h.isLt
  have := l.isLt
  have := h'.isLt
  have := l'.isLt
  unfold v2 at e
  exact ⟨BitVec.eq_of_toNat_eq (by omega), BitVec.eq_of_toNat_eq (by omega)⟩
theorem add64 (x y : BitVec 64) : (x + y).toNat = (x.toNat + y.toNat) % 18446744073709551616 := by rw [BitVec.toNat_add]
theorem mul64 (x y : BitVec 64) : (x * y).toNat = x.toNat * y.toNat % 18446744073709551616 := by rw [BitVec.toNat_mul]
theorem p128 : (2 : Nat) ^ 128 = 340282366920938463463374607431768211456 := rfl

theorem F165_ok (a b : BitVec 64) : v2 (F165 a b).1 (F165 a b).2 = a.toNat * b.toNat := by
  unfold F165 F165_1 F165_2 F165_3 F165_4 v2
  simp only [add64, mul64, shr_nat, and_low]
  have ha := a.isLt
  have hb := b.isLt
  generalize a.toNat = x at *
  generalize b.toNat = y at *
  rw [show (2 : Nat) ^ 32 = 4294967296 from rfl]
  have hx := Nat.div_add_mod x 4294967296
  have hy := Nat.div_add_mod y 4294967296
  have hx0 := Nat.mod_lt x (show 0 < 4294967296 by decide)
  have hy0 := Nat.mod_lt y (show 0 < 4294967296 by decide)
  have hx1 : x / 4294967296 < 4294967296 := by omega
  have hy1 : y / 4294967296 < 4294967296 := by omega
  generalize x / 4294967296 = x1 at *
  generalize x % 4294967296 = x0 at *
  generalize y / 4294967296 = y1 at *
  generalize y % 4294967296 = y0 at *
  have hxy : x * y = x1 * y1 * 18446744073709551616 + (x1 * y0 + x0 * y1) * 4294967296 + x0 * y0 := by
    rw [← hx, ← hy]; grind
  rw [hxy]
  have b11 : x1 * y1 ≤ 4294967295 * 4294967295 := Nat.mul_le_mul (by omega) (by omega)
  have b10 : x1 * y0 ≤ 4294967295 * 4294967295 := Nat.mul_le_mul (by omega) (by omega)
  have b01 : x0 * y1 ≤ 4294967295 * 4294967295 := Nat.mul_le_mul (by omega) (by omega)
  have b00 : x0 * y0 ≤ 4294967295 * 4294967295 := Nat.mul_le_mul (by omega) (by omega)
  generalize x1 * y1 = p11 at *
  generalize x1 * y0 = p10 at *
  generalize x0 * y1 = p01 at *
  generalize x0 * y0 = p00 at *
  clear ha hb hx hy hxy
  omega

theorem F166_ok (a b c d : BitVec 64) : v2 (F166 a b c d).1 (F166 a b c d).2.1 = (v2 a b + v2 c d) % 340282366920938463463374607431768211456 ∧
    (F166 a b c d).2.2 = decide (340282366920938463463374607431768211456 ≤ v2 a b + v2 c d) := by
  unfold F166 F166_1 F166_2 F166_3 F166_5 F166_6 F166_4 v2
  have ha := a.isLt
  have hb := b.isLt
  have hc := c.isLt
  have hd := d.isLt
  by_cases h : (b + d).toNat < b.toNat
  · rw [bt (by simpa using h)]
    rw [add64] at h
    simp only [add64, eq_bv, show (0#64).toNat = 0 from rfl, show (1#64).toNat = 1 from rfl]
    refine ⟨by omega, ?_⟩
    rw [← Bool.decide_or]
    exact decide_eq_decide.2 (by omega)
  · rw [bf (by simpa using h)]
    rw [add64] at h
    simp only [add64]
    exact ⟨by omega, decide_eq_decide.2 (by omega)⟩

theorem F362_ok (a b c d : BitVec 64) : F362 a b c d = ncmp (v2 a b) (v2 c d) := by
  unfold F362 F362_1 F362_2 ncmp v2
  have ha := a.isLt
  have hb := b.isLt
  have hc := c.isLt
  have hd := d.isLt
  simp only [eq_bv, ← Bool.decide_and, ← Bool.decide_or]
  by_cases h : a.toNat < c.toNat ∨ a.toNat = c.toNat ∧ b.toNat < d.toNat
  · rw [decide_eq_true h, if_pos (by omega)]; rfl
  · rw [decide_eq_false h, if_neg (by omega)]
    by_cases h' : a.toNat = c.toNat ∧ b.toNat = d.toNat
    · rw [decide_eq_true h', if_pos (by omega)]; rfl
    · rw [decide_eq_false h', if_neg (by omega)]; rfl

theorem F371_ok {a b c d : BitVec 64} (h : v2 c d ≤ v2 a b) : v2 (F371 a b c d).1 (F371 a b c d).2.1 = v2 a b - v2 c d := by
  unfold F371 F371_1 F371_3 F371_2
  have ha := a.isLt
  have hb := b.isLt
  have hc := c.isLt
  have hd := d.isLt
  unfold v2 at h ⊢
  simp only [lt]
  by_cases h' : b.toNat < d.toNat
  · rw [bt (by simpa using h')]
    simp only [sub64, show (1#64).toNat = 1 from rfl]
    omega
  · rw [bf (by simpa using h')]
    simp only [sub64]
    omega

/-! ### Shifts -/
theorem sub8 {x y : BitVec 8} (h : y.toNat ≤ x.toNat) : (x - y).toNat = x.toNat - y.toNat := by
  rw [BitVec.toNat_sub]
  have := x.isLt
  have := y.isLt
  omega
theorem F206_ok (h l : BitVec 64) (k : BitVec 8) : v2 (F206 h l k).1 (F206 h l k).2 = v2 h l * 2 ^ k.toNat % 340282366920938463463374607431768211456 := by
  unfold F206 F206_1
  have hh := h.isLt
  have hl := l.isLt
  have hk := k.isLt
  by_cases c : 64 ≤ k.toNat
  · rw [bt (by simpa using c)]
    have e1 : (k - 64#8).toNat = k.toNat - 64 := sub8 (by simpa using c)
    unfold v2
    simp only [e1, BitVec.toNat_shiftLeft, Nat.shiftLeft_eq, show (0#64).toNat = 0 from rfl]
    have e2 : 2 ^ k.toNat = 2 ^ (k.toNat - 64) * 18446744073709551616 := by rw [← p64, ← Nat.pow_add]; congr 1; omega
    rw [e2, p64, ← Nat.mul_assoc, show 340282366920938463463374607431768211456 = 18446744073709551616 * 18446744073709551616 from rfl, Nat.mul_mod_mul_right, Nat.add_zero]
    congr 1
    rw [Nat.add_mul, Nat.mul_right_comm, Nat.mul_add_mod_self_right]
  · rw [bf (by simpa using c)]
    have e1 : (64#8 - k).toNat = 64 - k.toNat := sub8 (by show k.toNat ≤ 64; omega)
    have hKL : 2 ^ k.toNat * 2 ^ (64 - k.toNat) = 18446744073709551616 := by rw [← p64, ← Nat.pow_add]; congr 1; omega
    have pK := pow_pos2 k.toNat
    have pL := pow_pos2 (64 - k.toNat)
    have ehi : (h <<< k.toNat).toNat = h.toNat * 2 ^ k.toNat % 18446744073709551616 := by rw [BitVec.toNat_shiftLeft, Nat.shiftLeft_eq]
    have elo : (l <<< k.toNat).toNat = l.toNat % 2 ^ (64 - k.toNat) * 2 ^ k.toNat := by
      rw [BitVec.toNat_shiftLeft, Nat.shiftLeft_eq, p64, ← hKL, Nat.mul_comm (2 ^ k.toNat) (2 ^ (64 - k.toNat)), Nat.mul_mod_mul_right]
    have elr : (l >>> (64 - k.toNat)).toNat = l.toNat / 2 ^ (64 - k.toNat) := shr_nat _ _
    have hlr : l.toNat / 2 ^ (64 - k.toNat) < 2 ^ k.toNat := by
      rw [Nat.div_lt_iff_lt_mul pL, hKL]; exact hl
    have hdv : 2 ^ k.toNat ∣ h.toNat * 2 ^ k.toNat % 18446744073709551616 := by
      rw [← hKL, Nat.mul_comm (2 ^ k.toNat) (2 ^ (64 - k.toNat)), Nat.mul_mod_mul_right]
      exact Nat.dvd_mul_left _ _
    have eor : ((h <<< k.toNat) ||| (l >>> (64 - k.toNat))).toNat = h.toNat * 2 ^ k.toNat % 18446744073709551616 + l.toNat / 2 ^ (64 - k.toNat) := by
      rw [BitVec.or_comm, or_add _ _ k.toNat (by rw [elr]; exact hlr) (by rw [ehi]; exact hdv), ehi, elr, Nat.add_comm]
    rw [e1]
    unfold v2
    simp only []
    rw [eor, elo]
    have hsum : h.toNat * 2 ^ k.toNat % 18446744073709551616 + 2 ^ k.toNat ≤ 18446744073709551616 := by
      obtain ⟨q, hq⟩ := hdv
      have : h.toNat * 2 ^ k.toNat % 18446744073709551616 < 18446744073709551616 := Nat.mod_lt _ (by decide)
      rw [hq] at this ⊢
      rw [← hKL] at this ⊢
      have h3 : q < 2 ^ (64 - k.toNat) := Nat.lt_of_mul_lt_mul_left this
      have h4 := Nat.mul_le_mul_left (2 ^ k.toNat) (show q + 1 ≤ 2 ^ (64 - k.toNat) from h3)
      rw [Nat.mul_add, Nat.mul_one] at h4
      exact h4
    have hld := Nat.div_add_mod l.toNat (2 ^ (64 - k.toNat))
    have hlm : l.toNat % 2 ^ (64 - k.toNat) * 2 ^ k.toNat < 18446744073709551616 := by
      rw [← hKL, Nat.mul_comm (2 ^ k.toNat)]
      exact Nat.mul_lt_mul_of_pos_right (Nat.mod_lt _ pL) pK
    have hexp : (h.toNat * 18446744073709551616 + l.toNat) * 2 ^ k.toNat = h.toNat * 2 ^ k.toNat * 18446744073709551616 + l.toNat / 2 ^ (64 - k.toNat) * 18446744073709551616 + l.toNat % 2 ^ (64 - k.toNat) * 2 ^ k.toNat := by
      have : l.toNat * 2 ^ k.toNat = l.toNat / 2 ^ (64 - k.toNat) * (2 ^ k.toNat * 2 ^ (64 - k.toNat)) + l.toNat % 2 ^ (64 - k.toNat) * 2 ^ k.toNat := by
        have h5 : l.toNat * 2 ^ k.toNat = (2 ^ (64 - k.toNat) * (l.toNat / 2 ^ (64 - k.toNat)) + l.toNat % 2 ^ (64 - k.toNat)) * 2 ^ k.toNat := by rw [hld]
        rw [h5]; grind
      rw [hKL] at this
      rw [Nat.add_mul, this]; grind
    rw [hexp]
    generalize h.toNat * 2 ^ k.toNat = X at *
    generalize l.toNat / 2 ^ (64 - k.toNat) = Y at *
    generalize l.toNat % 2 ^ (64 - k.toNat) * 2 ^ k.toNat = Z at *
    clear hld hexp hdv eor elo elr ehi
    generalize 2 ^ k.toNat = K at *
    omega

theorem F217_ok (h l : BitVec 64) (k : BitVec 8) : v2 (F217 h l k).1 (F217 h l k).2 = v2 h l / 2 ^ k.toNat := by
  unfold F217 F217_1
  have hh := h.isLt
  have hl := l.isLt
  have hk := k.isLt
  by_cases c : 64 ≤ k.toNat
  · rw [bt (by simpa using c)]
    have e1 : (k - 64#8).toNat = k.toNat - 64 := sub8 (by simpa using c)
    unfold v2
    simp only [e1, shr_nat, show (0#64).toNat = 0 from rfl]
    have e2 : 2 ^ k.toNat = 18446744073709551616 * 2 ^ (k.toNat - 64) := by rw [← p64, ← Nat.pow_add]; congr 1; omega
    rw [e2, ← Nat.div_div_eq_div_mul, show (h.toNat * 18446744073709551616 + l.toNat) / 18446744073709551616 = h.toNat from by omega]
    omega
  · rw [bf (by simpa using c)]
    have e1 : (64#8 - k).toNat = 64 - k.toNat := sub8 (by show k.toNat ≤ 64; omega)
    have hKL : 2 ^ k.toNat * 2 ^ (64 - k.toNat) = 18446744073709551616 := by rw [← p64, ← Nat.pow_add]; congr 1; omega
    have pK := pow_pos2 k.toNat
    have pL := pow_pos2 (64 - k.toNat)
    have ehl : (h <<< (64 - k.toNat)).toNat = h.toNat % 2 ^ k.toNat * 2 ^ (64 - k.toNat) := by
      rw [BitVec.toNat_shiftLeft, Nat.shiftLeft_eq, p64, ← hKL, Nat.mul_mod_mul_right]
    have elr : (l >>> k.toNat).toNat = l.toNat / 2 ^ k.toNat := shr_nat _ _
    have hlr : l.toNat / 2 ^ k.toNat < 2 ^ (64 - k.toNat) := by
      rw [Nat.div_lt_iff_lt_mul pK, Nat.mul_comm, hKL]; exact hl
    have eor : ((l >>> k.toNat) ||| (h <<< (64 - k.toNat))).toNat = l.toNat / 2 ^ k.toNat + h.toNat % 2 ^ k.toNat * 2 ^ (64 - k.toNat) := by
      rw [or_add _ _ (64 - k.toNat) (by rw [elr]; exact hlr) (by rw [ehl]; exact Nat.dvd_mul_left _ _), ehl, elr]
    rw [e1]
    unfold v2
    simp only []
    rw [eor, shr_nat]
    have hd := Nat.div_add_mod h.toNat (2 ^ k.toNat)
    have hexp : h.toNat * 18446744073709551616 + l.toNat = l.toNat + 2 ^ k.toNat * (h.toNat / 2 ^ k.toNat * 18446744073709551616 + h.toNat % 2 ^ k.toNat * 2 ^ (64 - k.toNat)) := by
      have h5 : h.toNat * 18446744073709551616 = (2 ^ k.toNat * (h.toNat / 2 ^ k.toNat) + h.toNat % 2 ^ k.toNat) * 18446744073709551616 := by rw [hd]
      rw [h5]
      rw [Nat.add_mul, Nat.add_comm l.toNat, Nat.mul_add]
      have h6 : h.toNat % 2 ^ k.toNat * 18446744073709551616 = 2 ^ k.toNat * (h.toNat % 2 ^ k.toNat * 2 ^ (64 - k.toNat)) := by
        rw [← hKL]; grind
      rw [h6]; grind
    rw [hexp, Nat.add_mul_div_left _ _ pK]
    exact Nat.add_left_comm _ _ _

theorem F370_ok (h l : BitVec 64) (k : BitVec 8) : v2 (F370 h l k).1 (F370 h l k).2 = jm (v2 h l / 2 ^ k.toNat) (decide (v2 h l % 2 ^ k.toNat ≠ 0)) := by
  have h1 := F217_ok h l k
  unfold F370
  simp only [lt]
  generalize F217 h l k = q at *
  unfold F370_1 F370_3 F370_2
  simp only [lt]
  have h2 := F206_ok q.1 q.2 k
  generalize F206 q.1 q.2 k = r at *
  have hv := v2_lt h l
  have hp := pow_pos2 k.toNat
  have hdm := Nat.div_add_mod (v2 h l) (2 ^ k.toNat)
  have hle := Nat.div_mul_le_self (v2 h l) (2 ^ k.toNat)
  rw [h1, Nat.mod_eq_of_lt (by omega)] at h2
  have hc : (!((r.1 == h) && (r.2 == l))) = decide (v2 h l % 2 ^ k.toNat ≠ 0) := by
    have : ((r.1 == h) && (r.2 == l)) = decide (v2 r.1 r.2 = v2 h l) := by
      by_cases e : v2 r.1 r.2 = v2 h l
      · obtain ⟨a, b⟩ := v2_inj e
        rw [decide_eq_true e, a, b]; simp
      · rw [decide_eq_false e]
        by_cases a : r.1 = h
        · by_cases b : r.2 = l
          · exact (e (by rw [a, b])).elim
          · simp [b]
        · simp [a]
    rw [this, h2, ← decide_not]
    refine decide_eq_decide.2 ?_
    rw [Nat.mul_comm (2 ^ k.toNat)] at hdm
    generalize v2 h l / 2 ^ k.toNat * 2 ^ k.toNat = X at *
    omega
  rw [hc]
  by_cases hm : v2 h l % 2 ^ k.toNat = 0
  · rw [bf (by simpa using hm)]
    rw [h1, decide_eq_false (by simpa using hm)]; rfl
  · rw [bt (by simpa using hm), decide_eq_true (by simpa using hm)]
    unfold jm
    simp only [cond_true]
    rw [← h1]
    unfold v2
    rw [or_one64]
    omega

/-! ### jam -/
theorem blen_v2 (h l : BitVec 64) : blen (v2 h l) = if h.toNat = 0 then blen l.toNat else blen h.toNat + 64 := by
  have hl := l.isLt
  split
  · rename_i hz
    unfold v2; rw [hz, Nat.zero_mul, Nat.zero_add]
  · rename_i hz
    have a := blen_le hz
    have b := blen_lt h.toNat
    have c := blen_pos hz
    have u : blen (v2 h l) ≤ blen h.toNat + 64 := by
      rw [blen_le_iff, Nat.pow_add, p64]
      unfold v2
      rw [p64] at hl
      have := Nat.mul_le_mul_right 18446744073709551616 (show h.toNat + 1 ≤ 2 ^ blen h.toNat from b)
      omega
    have d : ¬ blen (v2 h l) ≤ blen h.toNat + 63 := fun k => by
      have k := blen_le_iff.1 k
      rw [show blen h.toNat + 63 = blen h.toNat - 1 + 64 from by omega, Nat.pow_add, p64] at k
      unfold v2 at k
      have := Nat.mul_le_mul_right 18446744073709551616 a
      omega
    omega
theorem blen_norm {A : Nat} (h : A ≠ 0) {k : Nat} (hk : blen A ≤ k) : blen (A * 2 ^ (k - blen A)) = k := by
  have a := blen_shl A (k - blen A)
  have c := blen_pos h
  have b : ¬ blen (A * 2 ^ (k - blen A)) ≤ k - 1 := fun c => by
    have h5 := Nat.mul_le_mul_right (2 ^ (k - blen A)) (blen_le h)
    rw [← Nat.pow_add, show blen A - 1 + (k - blen A) = k - 1 from by omega] at h5
    have h6 := blen_le_iff.1 c
    omega
  omega

theorem F272_lead {N : Nat} {h l : BitVec 64} {x : Int} (hA : v2 h l ≠ 0) : F272 N h l x = F272_2 N h l x (BitVec.ofNat 8 (128 - blen (v2 h l))) := by
  have hb := blen_v2 h l
  have b1 := blen64 h
  have b2 := blen64 l
  unfold F272 F272_1 F272_6
  rw [F164_ok]
  simp only [Option.bind_some]
  by_cases hz : h.toNat = 0
  · have : h = 0#64 := BitVec.eq_of_toNat_eq hz
    rw [bt (by rw [this]; rfl), F164_ok]
    simp only [Option.bind_some]
    congr 1
    refine BitVec.eq_of_toNat_eq ?_
    rw [BitVec.toNat_add, BitVec.toNat_ofNat, BitVec.toNat_ofNat, BitVec.toNat_ofNat, hb, if_pos hz, hz, blen_zero]
    omega
  · have : h ≠ 0#64 := fun e => hz (by rw [e]; rfl)
    rw [bf (by simpa using this), hb, if_neg hz, show 128 - (blen h.toNat + 64) = 64 - blen h.toNat from by omega]

theorem F272_tail {N : Nat} {h l : BitVec 64} {x : Int} {k : BitVec 8} (hx : -30000 < x ∧ x < 30000) (hk : k.toNat ≤ 128) (hA : v2 h l * 2 ^ k.toNat < 340282366920938463463374607431768211456) :
    ∃ sig, F272_2 N h l x k = some (sig, x + 64 - (k.toNat : Int)) ∧ sig.toNat = jm (v2 h l * 2 ^ k.toNat / 18446744073709551616) (decide (v2 h l * 2 ^ k.toNat % 18446744073709551616 ≠ 0)) := by
  unfold F272_2
  simp only [lt]
  have hs := F206_ok h l k
  rw [Nat.mod_eq_of_lt hA] at hs
  generalize v2 h l * 2 ^ k.toNat = A at *
  generalize F206 h l k = r at *
  unfold F272_3 F272_5 F272_4
  have w1 : w16 (x + 64) = x + 64 := w16_id (by omega)
  have w2 : w16 (k.toNat : Int) = (k.toNat : Int) := w16_id (by omega)
  have w3 : w16 (x + 64 - (k.toNat : Int)) = x + 64 - (k.toNat : Int) := w16_id (by omega)
  rw [w1, w2, w3, ne_bv, show (0#64).toNat = 0 from rfl]
  have hl := r.2.isLt
  have e1 : A / 18446744073709551616 = r.1.toNat := by rw [← hs]; unfold v2; omega
  have e2 : A % 18446744073709551616 = r.2.toNat := by rw [← hs]; unfold v2; omega
  rw [e1, e2]
  by_cases hz : r.2.toNat = 0
  · rw [bf (by simpa using hz)]
    exact ⟨_, rfl, by rw [decide_eq_false (by simpa using hz)]; rfl⟩
  · rw [bt (by simpa using hz)]
    exact ⟨_, rfl, by rw [decide_eq_true (by simpa using hz), or_one64]; rfl⟩

theorem F272_ok {N : Nat} {h l : BitVec 64} {x : Int} {k : Nat} (hk : k = 128 - blen (v2 h l)) (hx : -30000 < x ∧ x < 30000) (hA : v2 h l ≠ 0) :
    ∃ sig, F272 N h l x = some (sig, x + 64 - (k : Int)) ∧
    sig.toNat = jm (v2 h l * 2 ^ k / 18446744073709551616) (decide (v2 h l * 2 ^ k % 18446744073709551616 ≠ 0)) := by
  have b1 := blen64 h
  have b2 := blen64 l
  have hbl : blen (v2 h l) ≤ 128 := by rw [blen_v2]; split <;> omega
  have hbp := blen_pos hA
  rw [F272_lead hA]
  have hn := blen_lt (v2 h l * 2 ^ (128 - blen (v2 h l)))
  rw [blen_norm hA hbl, ← hk] at hn
  rw [← hk]
  have hkk : (BitVec.ofNat 8 k).toNat = k := by
    rw [BitVec.toNat_ofNat]; exact Nat.mod_eq_of_lt (by omega)
  have ht := F272_tail (N := N) (h := h) (l := l) (x := x) (k := BitVec.ofNat 8 k) hx (by omega) (by rw [hkk]; exact hn)
  rw [hkk] at ht
  exact ht

/-- jam, then roundPack: the whole number rounded. -/
theorem jam_round {e m mode : BitVec 8} {neg : Bool} {N : Nat} {h l : BitVec 64} {x : Int} (hf : Fm e m) (hx : -20000 < x ∧ x < 20000) (hA : v2 h l ≠ 0) :
    ((F272 N h l x).bind fun y => (F215 N e m mode neg y.2 y.1).bind fun z => some (z.1, z.2)) = some (RQ e m mode neg (v2 h l * 2 ^ x.toNat) (2 ^ (-x).toNat)) := by
  obtain ⟨k, hk⟩ : ∃ k, k = 128 - blen (v2 h l) := ⟨_, rfl⟩
  obtain ⟨sig, h1, h2⟩ := F272_ok (N := N) (x := x) hk (by omega) hA
  have h4 := hf.m52
  have b1 := blen64 h
  have b2 := blen64 l
  have hbl : blen (v2 h l) ≤ 128 := by rw [blen_v2]; split <;> omega
  have hbp := blen_pos hA
  have hbn := blen_norm hA hbl
  rw [← hk] at hbn
  have hA' : v2 h l * 2 ^ k ≠ 0 := Nat.mul_ne_zero hA (by have := pow_pos2 k; omega)
  rw [h1]
  simp only [Option.bind_some]
  obtain ⟨u, hu⟩ : ∃ u : Int, u = x - (k : Int) := ⟨_, rfl⟩
  rw [show x + 64 - (k : Int) = u + (64 : Nat) from by omega]
  have e1 : RQ e m mode neg (v2 h l * 2 ^ x.toNat) (2 ^ (-x).toNat) = RQ e m mode neg (v2 h l * 2 ^ k * 2 ^ u.toNat) (2 ^ (-u).toNat) := by
    have p1 := pow_pos2 x.toNat
    have p2 := pow_pos2 (-x).toNat
    have p3 := pow_pos2 (-u).toNat
    refine RQ_cross (Nat.mul_ne_zero hA (by omega)) (by omega) (by omega) ?_
    have : 2 ^ x.toNat * 2 ^ (-u).toNat = 2 ^ k * (2 ^ u.toNat * 2 ^ (-x).toNat) := by
      simp only [← Nat.pow_add]; congr 1; omega
    grind
  rw [e1]
  generalize v2 h l * 2 ^ k = A at *
  have hq := fq_pow A u 64
  have p4 := pow_pos2 u.toNat
  have p5 := pow_pos2 (-u).toNat
  have hs : sig.toNat ≠ 0 := by
    rw [h2]
    refine jm_ne ?_
    have := blen_le hA'
    rw [hbn] at this
    have h7 : 9223372036854775808 ≤ A / 18446744073709551616 := (Nat.le_div_iff_mul_le (by decide)).2 this
    omega
  rw [RQ_sticky (k := u + (64 : Nat)) (Nat.mul_ne_zero hA' (by omega)) (by omega) (by rw [lg_pow hA', hbn]; omega), hq.1, hq.2]
  have e3 : jm (A / 2 ^ 64) (decide (A % 2 ^ 64 ≠ 0)) = sig.toNat := h2.symm
  rw [e3, F215_ok hf hs (by omega)]
  rfl
end Go.Proofs.YfwaawGreat
