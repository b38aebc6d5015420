/-
  Package total, plain: its rounding; no half-way point in what an entry lacks.
-/
import Derived.Test.YfwaawGreatE3
import Derived.Test.YfwaawGreatZ1
import Derived.Test.YfwaawGreatG54
namespace Go.Proofs.YfwaawGreat
open Go.Aw
set_option linter.unusedVariables false
set_option linter.unusedSimpArgs false
section
variable {e m mode : BitVec 8} {neg : Bool}

/-- pack rounds the value whose floor it is given. -/
theorem F205_ok {N : Nat} (h : Fm e m) {s : BitVec 64} {x : Int} {so : Bool} {num den l : Nat} (hs0 : s.toNat ≠ 0) (hx : -5000 < x ∧ x < 5000) (hn : num ≠ 0) (hd : den ≠ 0) (hl : l = 64 - blen s.toNat)
    (hlg : lg num den = x - l + 63) (hval : ∀ j : Nat, 10 ≤ j → fq num den (x - l + j) = s.toNat * 2 ^ l / 2 ^ j ∧ eq num den (x - l + j) = (decide (s.toNat * 2 ^ l % 2 ^ j ≠ 0) || so)) :
    F205 N e m s x so = some (RQ e m 0#8 false num den).1 := by
  have h2 := h.e11
  have h3 := h.m2
  have h4 := h.m52
  have hb := bia_le h.e11
  have hbp := bia_ge h.e2
  have hbs := blen64 s
  have hbpos := blen_pos hs0
  have hR := RQ_ne (neg := false) h ne_zero hn hd
  rw [show sgn e.toNat m.toNat false = 0 from rfl, Nat.add_zero] at hR
  have fin : ∀ y : BitVec 64, y.toNat = min (UP e m num den) (infP e.toNat m.toNat) → some y = some (RQ e m 0#8 false num den).1 := by
    intro y hy
    rw [BitVec.eq_of_toNat_eq (hy.trans hR.symm)]
  -- the significand moved up
  have hl8 : (BitVec.ofNat 8 (64 - blen s.toNat)).toNat = l := by rw [BitVec.toNat_ofNat, ← hl]; exact Nat.mod_eq_of_lt (by omega)
  have hnorm := blen_norm hs0 hbs
  rw [← hl] at hnorm
  have hsl : (s <<< l).toNat = s.toNat * 2 ^ l := shl_nat _ _ (by
    have := blen_lt (s.toNat * 2 ^ l)
    rw [hnorm] at this; exact this)
  unfold F205
  rw [F164_ok]
  simp only [Option.bind_some, F205_1, F205_2]
  rw [hl8]
  have w1 : w16 (l : Int) = l := w16_id (by omega)
  have w2 : w16 (x - l) = x - l := w16_id (by omega)
  rw [w1, w2]
  rw [← hsl] at hval
  have hSl := (s <<< l).isLt
  have hS0 : (s <<< l).toNat ≠ 0 := by rw [hsl]; exact Nat.mul_ne_zero hs0 (pne l)
  generalize s <<< l = S at *
  obtain ⟨y, hy⟩ : ∃ y : Int, y = x - l := ⟨_, rfl⟩
  rw [← hy] at hlg hval ⊢
  obtain ⟨ex, hex⟩ : ∃ ex : Int, ex = max (y + 63) (1 - (bia e.toNat : Int)) := ⟨_, rfl⟩
  obtain ⟨j, hj⟩ : ∃ j : Nat, ex - m.toNat - 1 = y + j := ⟨(ex - m.toNat - 1 - y).toNat, by omega⟩
  obtain ⟨hv1, hv2⟩ := hval j (by omega)
  have hU : UP e m num den = (ex - (1 - bia e.toNat)).toNat * 2 ^ m.toNat + rne (S.toNat / 2 ^ j) (decide (S.toNat % 2 ^ j ≠ 0) || so) := by
    unfold UP
    rw [hlg, ← hex, hj, hv1, hv2]
  unfold F205_3 F205_4
  simp only [lt]
  rw [F71_ok h]
  have w3 : w16 (y + 63) = y + 63 := w16_id (by omega)
  have w4 : w16 (1 - (bia e.toNat : Int)) = 1 - bia e.toNat := w16_id (by omega)
  have w5 : w16 (m.toNat : Int) = m.toNat := w16_id (by omega)
  have w6 : w16 (63 - (m.toNat : Int)) = 63 - m.toNat := w16_id (by omega)
  rw [w3, w4]
  unfold F205_5
  simp only [lt]
  by_cases ho : (bia e.toNat : Int) < y + 63
  · rw [bt (decide_eq_true (by omega))]
    refine fin _ ?_
    rw [F67_ok h, show sgn e.toNat m.toNat false = 0 from rfl, Nat.add_zero]
    have hEp := pow_E h.e2
    have hlo := UP_lo h hn hd (by rw [hlg]; omega)
    rw [hlg] at hlo
    have h5 : (2 ^ e.toNat - 2) * 2 ^ m.toNat ≤ (y + 63 - (1 - bia e.toNat)).toNat * 2 ^ m.toNat := Nat.mul_le_mul_right _ (by omega)
    have h8 : infP e.toNat m.toNat = (2 ^ e.toNat - 2) * 2 ^ m.toNat + 2 ^ m.toNat := by
      unfold infP
      rw [show 2 ^ e.toNat - 1 = 2 ^ e.toNat - 2 + 1 from by omega, Nat.add_mul, Nat.one_mul]
    omega
  · rw [bf (decide_eq_false (by omega)), w5, w6]
    unfold F205_6
    have hgo : F205_12 N e m so S (y + 63) (1 - (bia e.toNat : Int)) (63 - (m.toNat : Int)) (decide (y + 63 < 1 - (bia e.toNat : Int))) = F205_7 N e m so S (1 - (bia e.toNat : Int)) ((j + 1 : Nat) : Int) ex := by
      unfold F205_12 F205_13
      by_cases c : y + 63 < 1 - (bia e.toNat : Int)
      · have w7 : w16 (1 - (bia e.toNat : Int) - (y + 63)) = 1 - bia e.toNat - (y + 63) := w16_id (by omega)
        have w8 : w16 (63 - (m.toNat : Int) + (1 - (bia e.toNat : Int) - (y + 63))) = ((j + 1 : Nat) : Int) := by rw [w16_id (by omega)]; omega
        rw [bt (decide_eq_true c), w7, w8, show ex = 1 - (bia e.toNat : Int) from by omega]
      · rw [bf (decide_eq_false c), show ex = y + 63 from by omega, show 63 - (m.toNat : Int) = ((j + 1 : Nat) : Int) from by omega]
    rw [hgo]
    have hn2l : S.toNat / 2 ^ j < 2 ^ (m.toNat + 2) := by
      rw [Nat.div_lt_iff_lt_mul (pow_pos2 _), ← Nat.pow_add]
      exact Nat.lt_of_lt_of_le hSl (pow_le (by omega))
    have hrb := rn_bound (mode := 0#8) (neg := false) (s := decide (S.toNat % 2 ^ j ≠ 0) || so) hn2l
    rw [rn_ne ne_zero] at hrb
    have hcap : UP e m num den ≤ infP e.toNat m.toNat := by
      have hEp := pow_E h.e2
      have hs1 := Nat.pow_succ 2 m.toNat
      have h5 : (ex - (1 - bia e.toNat)).toNat * 2 ^ m.toNat ≤ (2 * bia e.toNat - 1) * 2 ^ m.toNat := Nat.mul_le_mul_right _ (by omega)
      have h8 : infP e.toNat m.toNat = (2 * bia e.toNat - 1) * 2 ^ m.toNat + 2 * 2 ^ m.toNat := by
        unfold infP
        rw [show 2 ^ e.toNat - 1 = 2 * bia e.toNat - 1 + 2 from by omega, Nat.add_mul]
      rw [hU]; omega
    have w9 : w16 (ex - (1 - (bia e.toNat : Int))) = ex - (1 - bia e.toNat) := w16_id (by omega)
    have done : ∀ nn : BitVec 64, nn.toNat = rne (S.toNat / 2 ^ j) (decide (S.toNat % 2 ^ j ≠ 0) || so) → F205_9 N e m (1 - (bia e.toNat : Int)) ex nn = some (RQ e m 0#8 false num den).1 := by
      intro nn hnn
      unfold F205_9
      rw [w9]
      refine fin _ ?_
      rw [(patt h (ex := ex) (by omega) hnn hrb).1, ← hU]
      omega
    unfold F205_7 F205_11
    by_cases c : j + 1 ≤ 64
    · obtain ⟨n, rest, r1, r2, r3⟩ := rest_ok S (j + 1) (by omega) hS0
      rw [bt (decide_eq_true c)] at r1
      obtain ⟨k1, k2⟩ := Prod.mk.inj r1
      have w7 : w16 (64 - ((j + 1 : Nat) : Int)) = ((64 - (j + 1) : Nat) : Int) := by rw [w16_id (by omega)]; omega
      rw [bt (decide_eq_true (by omega)), bt (decide_eq_true (by omega)), w7, bt (decide_eq_true (by omega)), Int.toNat_natCast, Int.toNat_natCast, k1, k2]
      have hn2 : n.toNat = S.toNat / 2 ^ j / 2 := by rw [r2, Nat.pow_succ, Nat.div_div_eq_div_mul]
      -- the rule
      have hm2 : S.toNat % 2 ^ (j + 1) = S.toNat % 2 ^ j + 2 ^ j * (S.toNat / 2 ^ j % 2) := by rw [Nat.pow_succ, Nat.mod_mul]
      have hml := Nat.mod_lt S.toNat (pow_pos2 j)
      have hps : 2 ^ (j + 1) = 2 ^ j * 2 := Nat.pow_succ _ _
      obtain ⟨g1, g2, g3⟩ := r3
      rw [hm2, hps] at g1 g2
      have hup : ((decide ((9223372036854775808#64).toNat < rest.toNat)) || ((rest == (9223372036854775808#64)) && (so || ((n &&& (1#64)) == (1#64))))) =
          (decide (S.toNat / 2 ^ j % 2 = 1) && ((decide (S.toNat % 2 ^ j ≠ 0) || so) || decide (S.toNat / 2 ^ j / 2 % 2 = 1))) := by
        have hodd : ((n &&& 1#64) == 1#64) = decide (S.toNat / 2 ^ j / 2 % 2 = 1) := by
          rw [eq_bv, BitVec.toNat_and, show (1#64).toNat = 1 from rfl, hn2, Nat.and_one_is_mod]
        rw [hodd, eq_bv]
        simp only [show (9223372036854775808#64).toNat = 9223372036854775808 from rfl]
        generalize decide (S.toNat / 2 ^ j / 2 % 2 = 1) = od
        generalize S.toNat % 2 ^ j = r at *
        have hp := pow_pos2 j
        rcases Nat.mod_two_eq_zero_or_one (S.toNat / 2 ^ j) with q | q <;> rw [q] at g1 g2 ⊢
        · have a1 : ¬ 9223372036854775808 < rest.toNat := fun k => by have := g2.1 k; omega
          have a2 : ¬ rest.toNat = 9223372036854775808 := fun k => by have := g1.1 (by omega); omega
          rw [decide_eq_false a1, decide_eq_false a2]; simp
        · by_cases hr : r = 0
          · have a1 : ¬ 9223372036854775808 < rest.toNat := fun k => by have := g2.1 k; omega
            have a2 : rest.toNat = 9223372036854775808 := by have := g1.2 (by omega); omega
            rw [decide_eq_false a1, decide_eq_true a2, hr]; simp
          · have a1 : 9223372036854775808 < rest.toNat := g2.2 (by omega)
            rw [decide_eq_true a1]; simp [hr]
      unfold F205_8
      rw [hup]
      unfold F205_10
      cases hz : (decide (S.toNat / 2 ^ j % 2 = 1) && ((decide (S.toNat % 2 ^ j ≠ 0) || so) || decide (S.toNat / 2 ^ j / 2 % 2 = 1)))
      · rw [bf rfl]
        refine done _ ?_
        unfold rne
        rw [hz, hn2]; rfl
      · rw [bt rfl]
        refine done _ ?_
        unfold rne
        rw [hz, add64, hn2, show (1#64).toNat = 1 from rfl]
        have : S.toNat / 2 ^ j ≤ S.toNat := Nat.div_le_self _ _
        generalize S.toNat / 2 ^ j = q at *
        simp only [cond_true]
        omega
    · rw [bf (decide_eq_false (by omega))]
      have hz0 : S.toNat / 2 ^ j = 0 := Nat.div_eq_of_lt (Nat.lt_of_lt_of_le hSl (pow_le (by omega)))
      have : F205_8 N e m so (1 - (bia e.toNat : Int)) ex 0#64 0#64 = F205_9 N e m (1 - (bia e.toNat : Int)) ex 0#64 := rfl
      rw [this]
      refine done _ ?_
      rw [hz0]; rfl

theorem F204_ok {N : Nat} (hN : 40 ≤ N) (man : BitVec 64) {k : Nat} (hk : k ≤ 27) : ∃ r b, F204 N man (k : Int) = some (r, b) ∧ ((b = true ∧ man.toNat = r.toNat * 5 ^ k) ∨ (b = false ∧ man.toNat % 5 ^ k ≠ 0)) := by
  unfold F204
  obtain ⟨r, hr, hp⟩ := iter_inv (L := F204_L2 N)
    (fun v : BitVec 64 × Int => ∃ i : Nat, i ≤ k ∧ v.2 = ((k - i : Nat) : Int) ∧ man.toNat = v.1.toNat * 5 ^ i)
    (fun v => v.2.toNat)
    (fun r : BitVec 64 × Bool => (r.2 = true ∧ man.toNat = r.1.toNat * 5 ^ k) ∨ (r.2 = false ∧ man.toNat % 5 ^ k ≠ 0))
    (by
      rintro ⟨x, v⟩ ⟨i, h1, h2, h3⟩
      simp only at h2 h3
      subst h2
      unfold F204_L2 F204_L2b F204_3
      simp only []
      by_cases hi : i < k
      · rw [bt (decide_eq_true (by omega))]
        unfold F204_5 F204_4
        rw [ne_bv, BitVec.toNat_umod, show (5#64).toNat = 5 from rfl, show (0#64).toNat = 0 from rfl]
        by_cases hc : x.toNat % 5 = 0
        · rw [bf (decide_eq_false (by simpa using hc)), w16_id (by omega)]
          refine .inl ⟨_, rfl, ⟨i + 1, by omega, by simp only []; omega, ?_⟩, by simp only []; omega⟩
          simp only []
          rw [BitVec.toNat_udiv, show (5#64).toNat = 5 from rfl, Nat.pow_succ, h3]
          have : x.toNat = x.toNat / 5 * 5 := by omega
          have e1 : x.toNat / 5 * (5 ^ i * 5) = x.toNat / 5 * 5 * 5 ^ i := by grind
          rw [e1, ← this]
        · rw [bt (decide_eq_true hc)]
          refine .inr ⟨_, rfl, .inr ⟨rfl, ?_⟩⟩
          intro hz
          obtain ⟨j, hj⟩ : ∃ j, k = i + 1 + j := ⟨k - i - 1, by omega⟩
          have hd : 5 ^ (i + 1) ∣ man.toNat := Nat.dvd_trans (Nat.pow_dvd_pow 5 (by omega)) (Nat.dvd_of_mod_eq_zero hz)
          rw [h3, Nat.pow_succ, Nat.mul_comm x.toNat] at hd
          have := Nat.dvd_of_mul_dvd_mul_left (Nat.pow_pos (by decide)) hd
          exact hc (Nat.mod_eq_zero_of_dvd this)
      · rw [bf (decide_eq_false (by omega))]
        have : i = k := by omega
        subst this
        exact .inr ⟨_, rfl, .inl ⟨rfl, h3⟩⟩)
    N (man, (k : Int)) ⟨0, by omega, by simp, by simp⟩ (by simp only []; omega)
  exact ⟨r.1, r.2, hr, hp⟩
end
end Go.Proofs.YfwaawGreat
