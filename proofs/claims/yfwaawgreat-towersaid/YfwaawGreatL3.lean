/-
  Package slow, plain: shifts, digits, powers of five.
-/
import Derived.Test.YfwaawGreatL2
namespace Go.Proofs.YfwaawGreat
open Go.Aw
set_option linter.unusedVariables false
set_option linter.unusedSimpArgs false

/-! ### Shifts -/
/-- A limb of w moved up by s bits. -/
def sl (w : Nat → BitVec 64) (s j : Nat) : BitVec 64 := bif decide (0 < j) && decide (0 < s) then (w j <<< s) ||| (w (j - 1) >>> (64 - s)) else w j <<< s
/-- What goes out over j limbs. -/
def so (w : Nat → BitVec 64) (s j : Nat) : Nat := if j = 0 then 0 else (w (j - 1)).toNat / 2 ^ (64 - s)
theorem sl_ok {w : Nat → BitVec 64} {s : Nat} (hs : s < 64) (j : Nat) : (sl w s j).toNat + so w s (j + 1) * 18446744073709551616 = (w j).toNat * 2 ^ s + so w s j := by
  have hl := (w j).isLt
  have hp : 2 ^ s * 2 ^ (64 - s) = 18446744073709551616 := by rw [← p64, ← Nat.pow_add]; exact congrArg (fun t => 2 ^ t) (by omega)
  have ps := pow_pos2 s
  have pt := pow_pos2 (64 - s)
  -- the limb itself
  have e1 : (w j <<< s).toNat = (w j).toNat % 2 ^ (64 - s) * 2 ^ s := by
    rw [BitVec.toNat_shiftLeft, Nat.shiftLeft_eq, p64, ← hp, Nat.mul_comm (2 ^ s), Nat.mul_mod_mul_right]
  have hdm := Nat.div_add_mod (w j).toNat (2 ^ (64 - s))
  have e2 : (w j).toNat * 2 ^ s = (w j).toNat % 2 ^ (64 - s) * 2 ^ s + (w j).toNat / 2 ^ (64 - s) * 18446744073709551616 := by
    have : (w j).toNat * 2 ^ s = (2 ^ (64 - s) * ((w j).toNat / 2 ^ (64 - s)) + (w j).toNat % 2 ^ (64 - s)) * 2 ^ s := by rw [hdm]
    rw [this, ← hp]; grind
  have e3 : so w s (j + 1) = (w j).toNat / 2 ^ (64 - s) := by unfold so; rw [if_neg (Nat.succ_ne_zero j), Nat.add_sub_cancel]
  rw [e3]
  unfold sl
  by_cases hj : 0 < j
  · have e4 : so w s j = (w (j - 1)).toNat / 2 ^ (64 - s) := by unfold so; rw [if_neg (by omega)]
    by_cases h0 : 0 < s
    · rw [bt (by rw [decide_eq_true hj, decide_eq_true h0]; rfl)]
      have e5 : (w (j - 1) >>> (64 - s)).toNat = (w (j - 1)).toNat / 2 ^ (64 - s) := shr_nat _ _
      have hlt : (w (j - 1)).toNat / 2 ^ (64 - s) < 2 ^ s := by
        rw [Nat.div_lt_iff_lt_mul pt, hp]; exact (w (j - 1)).isLt
      rw [BitVec.or_comm, or_add _ _ s (by rw [e5]; exact hlt) (by rw [e1]; exact Nat.dvd_mul_left _ _), e1, e5, e4, e2]
      omega
    · have hs0 : s = 0 := by omega
      subst hs0
      rw [bf (by simp), e1, e4, e2]
      have : (w (j - 1)).toNat / 2 ^ (64 - 0) = 0 := Nat.div_eq_of_lt (w (j - 1)).isLt
      rw [this, Nat.add_zero]
  · have e4 : so w s j = 0 := by unfold so; rw [if_pos (by omega)]
    rw [bf (by simp; omega), e1, e4, e2, Nat.add_zero]
theorem vb_sl {w : Nat → BitVec 64} {s : Nat} (hs : s < 64) : ∀ j, vb j (sl w s) + so w s j * 2 ^ (64 * j) = vb j w * 2 ^ s
  | 0 => by simp [vb, so]
  | j + 1 => by
    have ih := vb_sl (w := w) hs j
    have h := sl_ok (w := w) hs j
    rw [vb, vb, p64s]
    generalize 2 ^ (64 * j) = B at *
    have e1 : ((sl w s j).toNat + so w s (j + 1) * 18446744073709551616) * B = ((w j).toNat * 2 ^ s + so w s j) * B := by rw [h]
    have e2 : so w s (j + 1) * (B * 18446744073709551616) = so w s (j + 1) * 18446744073709551616 * B := by grind
    have e3 : (vb j w + (w j).toNat * B) * 2 ^ s = vb j w * 2 ^ s + (w j).toNat * 2 ^ s * B := by grind
    rw [Nat.add_mul, Nat.add_mul] at e1
    rw [e2, e3, ← ih]
    omega
theorem vb_up {w w' : Nat → BitVec 64} {t : Nat} (h0 : ∀ i, i < t → w' i = 0#64) (h1 : ∀ i, w' (t + i) = w i) : ∀ j, vb (t + j) w' = vb j w * 2 ^ (64 * t)
  | 0 => by
    rw [vb, Nat.zero_mul, Nat.add_zero]
    have := vb_zero (w := w') (m := 0) (k := t) (Nat.zero_le _) (fun i _ hi => h0 i hi)
    rw [this]; rfl
  | j + 1 => by
    rw [← Nat.add_assoc, vb, vb, vb_up h0 h1 j, h1 j, Nat.mul_add 64 t j, Nat.pow_add]
    grind

theorem F365_ok {N : Nat} (hN : 60 ≤ N) {n : Int} {w : Nat → BitVec 64} {V : Nat} (h : Bg n w V) (hV : V ≠ 0) {k : Nat} (hk : k < 4000) (hb : V * 2 ^ k < LB) :
    ∃ n' w', F365 N n w (k : Int) = some (n', w') ∧ Bg n' w' (V * 2 ^ k) := by
  have hn0 := h.n0
  have hn52 := h.n52
  have hnp := h.pos hV
  obtain ⟨t, ht⟩ : ∃ t, t = k / 64 := ⟨_, rfl⟩
  obtain ⟨s, hs⟩ : ∃ s, s = k % 64 := ⟨_, rfl⟩
  have hs64 : s < 64 := by omega
  unfold F365 F365_1 F365_2 F365_7
  have e1 : (k : Int).tdiv 64 = (t : Int) := by rw [Int.tdiv_eq_ediv_of_nonneg (by omega)]; omega
  have e2 : (k : Int).tmod 64 = (s : Int) := by rw [Int.tmod_eq_emod_of_nonneg (by omega)]; omega
  have w1 : w64 (t : Int) = t := w64_id (by omega)
  have w2 : w64 (n + t) = n + t := w64_id (by omega)
  have w3 : w64 (n + t + 1) = n + t + 1 := w64_id (by omega)
  rw [e1, e2, w1, w2, w3]
  obtain ⟨n2, hn2⟩ : ∃ n2 : Int, n2 = min (n + t + 1) 52 := ⟨_, rfl⟩
  rw [← hn2]
  have w4 : w64 (n2 - 1) = n2 - 1 := w64_id (by omega)
  rw [w4]
  -- V * 2^k stays below, so n2 reaches over t
  have hk2 : 2 ^ k = 2 ^ s * 2 ^ (64 * t) := by rw [← Nat.pow_add]; exact congrArg (fun t => 2 ^ t) (by omega)
  have hge := h.ge hnp
  have ht52 : n + t ≤ 52 := by
    rcases Int.lt_or_le 52 (n + t) with c | c
    · exfalso
      have h5 : 2 ^ (64 * (n.toNat - 1)) * (1 * 2 ^ (64 * t)) ≤ V * (2 ^ s * 2 ^ (64 * t)) := Nat.mul_le_mul hge (Nat.mul_le_mul_right _ (pow_pos2 s))
      rw [Nat.one_mul, ← Nat.pow_add, ← hk2] at h5
      obtain ⟨q, hq⟩ : ∃ q : Nat, q = 52 := ⟨_, rfl⟩
      have h7 : LB ≤ 2 ^ (64 * (n.toNat - 1) + 64 * t) := by rw [← LB_of hq]; exact pow_le (by omega)
      omega
    · exact c
  -- the target limbs
  obtain ⟨W, hW⟩ : ∃ W : Nat → BitVec 64, W = fun i => if i < t then 0#64 else sl w s (i - t) := ⟨_, rfl⟩
  -- the descent
  have hloop : ∃ ww, iterL (F365_L8 N n (t : Int) (s : Int) n2) N (n2 - 1, w) = F365_3 N n n2 ww ∧ (∀ i : Nat, (i : Int) < n2 → ww i = W i) ∧ ∀ i : Nat, n2 ≤ i → ww i = 0#64 := by
    have key : ∀ (M : Nat) (v : Int) (ww : Nat → BitVec 64), -1 ≤ v → v < n2 → v + 1 < M → (∀ i : Nat, v < i → (i : Int) < n2 → ww i = W i) → (∀ i : Nat, (i : Int) ≤ v → ww i = w i) → (∀ i : Nat, n2 ≤ i → ww i = 0#64) →
        ∃ ww', iterL (F365_L8 N n (t : Int) (s : Int) n2) M (v, ww) = F365_3 N n n2 ww' ∧ (∀ i : Nat, (i : Int) < n2 → ww' i = W i) ∧ ∀ i : Nat, n2 ≤ i → ww' i = 0#64 := by
      intro M
      induction M with
      | zero => intro v ww h1 h2 h3; omega
      | succ M ih =>
        intro v ww h1 h2 h3 h4 h5 h6
        by_cases hv : 0 ≤ v
        · obtain ⟨i, rfl⟩ : ∃ i : Nat, v = i := ⟨v.toNat, by omega⟩
          have hstep : F365_L8 N n (t : Int) (s : Int) n2 ((i : Int), ww) = some (.inl ((i : Int) - 1, upd ww i (W i))) := by
            have w5 : w64 ((i : Int) - t) = i - t := w64_id (by omega)
            have hend : ∀ x, F365_11 N n (t : Int) (s : Int) n2 (i : Int) ww x = some (.inl ((i : Int) - 1, upd ww i x)) := by
              intro x
              unfold F365_11 F365_10
              rw [bt (in52 (by omega) (by omega)), Int.toNat_natCast, w64_id (by omega)]
            unfold F365_L8 F365_L8b F365_9 F365_12
            simp only []
            rw [bt (decide_eq_true (show (i : Int) ≥ 0 by omega)), w5]
            unfold F365_13
            by_cases hj : t ≤ i
            · obtain ⟨j, rfl⟩ : ∃ j, i = t + j := ⟨i - t, by omega⟩
              have ej : ((t + j : Nat) : Int) - t = j := by omega
              have hWj : W (t + j) = sl w s j := by rw [hW]; simp only []; rw [if_neg (by omega), Nat.add_sub_cancel_left]
              rw [ej, bt (decide_eq_true (show (j : Int) ≥ 0 by omega)), bt (in52 (by omega) (by omega)), bt (decide_eq_true (show (0 : Int) ≤ s by omega)), Int.toNat_natCast, Int.toNat_natCast, h5 j (by omega)]
              unfold F365_14 F365_15
              rw [hWj]
              unfold sl
              have hc : (decide ((j : Int) > 0) && decide ((s : Int) > 0)) = (decide (0 < j) && decide (0 < s)) := by
                congr 1
                · exact decide_eq_decide.2 (by omega)
                · exact decide_eq_decide.2 (by omega)
              rw [hc]
              by_cases hc2 : 0 < j ∧ 0 < s
              · have hb : (decide (0 < j) && decide (0 < s)) = true := by rw [decide_eq_true hc2.1, decide_eq_true hc2.2]; rfl
                have w6 : w64 ((j : Int) - 1) = ((j - 1 : Nat) : Int) := by rw [w64_id (by omega)]; omega
                have w7 : w64 (64 - (s : Int)) = ((64 - s : Nat) : Int) := by rw [w64_id (by omega)]; omega
                rw [hb, bt rfl, bt rfl, w6, w7, bt (in52 (by omega) (by omega)), bt (decide_eq_true (by omega)), hend, Int.toNat_natCast, Int.toNat_natCast, h5 (j - 1) (by omega)]
              · have hb : (decide (0 < j) && decide (0 < s)) = false := by
                  by_cases k1 : 0 < j
                  · rw [decide_eq_false (show ¬ 0 < s from fun k => hc2 ⟨k1, k⟩)]; simp
                  · rw [decide_eq_false k1]; rfl
                rw [hb, bf rfl, bf rfl, hend]
            · have hWi : W i = 0#64 := by rw [hW]; simp only []; rw [if_pos (by omega)]
              rw [bf (decide_eq_false (by omega)), hend, hWi]
          obtain ⟨ww', g1, g2, g3⟩ := ih ((i : Int) - 1) (upd ww i (W i)) (by omega) (by omega) (by omega)
            (fun j k1 k2 => by
              by_cases e : j = i
              · rw [e, upd_eq]
              · rw [upd_ne e]; exact h4 j (by omega) k2)
            (fun j k1 => by rw [upd_ne (by omega)]; exact h5 j (by omega))
            (fun j k1 => by rw [upd_ne (by omega)]; exact h6 j k1)
          exact ⟨ww', by rw [iterL, hstep]; exact g1, g2, g3⟩
        · have hstep : F365_L8 N n (t : Int) (s : Int) n2 (v, ww) = (F365_3 N n n2 ww).map Sum.inr := by
            unfold F365_L8 F365_L8b F365_9
            simp only []
            rw [bf (decide_eq_false (by omega))]
          refine ⟨ww, ?_, fun i hi => h4 i (by omega) hi, h6⟩
          rw [iterL, hstep]
          cases F365_3 N n n2 ww <;> rfl
    exact key N (n2 - 1) w (by omega) (by omega) (by omega) (fun i k1 k2 => by omega) (fun i _ => rfl) (fun i k1 => h.z i (by omega))
  obtain ⟨ww, g1, g2, g3⟩ := hloop
  rw [g1]
  -- the value
  have hval : vb n2.toNat ww = V * 2 ^ k := by
    have c1 : vb n2.toNat ww = vb n2.toNat W := vb_congr fun i hi => g2 i (by omega)
    obtain ⟨j, hj⟩ : ∃ j, n2.toNat = t + j := ⟨n2.toNat - t, by omega⟩
    have c2 := vb_up (w := sl w s) (w' := W) (t := t) (fun i hi => by rw [hW]; simp only []; rw [if_pos hi]) (fun i => by rw [hW]; simp only []; rw [if_neg (by omega), Nat.add_sub_cancel_left]) j
    have c3 := vb_sl (w := w) hs64 j
    have c4 : vb j w = V := h.all (by omega)
    rw [c4] at c3
    have c5 : so w s j = 0 := by
      rcases Nat.eq_zero_or_pos (so w s j) with q | q
      · exact q
      · exfalso
        by_cases hjn : n.toNat < j
        · -- the limb below is zero
          have : so w s j = 0 := by
            unfold so
            rw [if_neg (by omega), h.z (j - 1) (by omega)]
            exact Nat.zero_div _
          omega
        · -- all 52 limbs are used
          have h5 := Nat.mul_le_mul_right (2 ^ (64 * j)) (show 1 ≤ so w s j from q)
          have h6 : 2 ^ (64 * j) ≤ V * 2 ^ s := by omega
          have h7 := Nat.mul_le_mul_right (2 ^ (64 * t)) h6
          have h8 : 2 ^ (64 * j) * 2 ^ (64 * t) = LB := by
            rw [← Nat.pow_add, ← Nat.mul_add]
            exact LB_of (by omega)
          rw [h8, Nat.mul_assoc, ← hk2] at h7
          omega
    rw [c5, Nat.zero_mul, Nat.add_zero] at c3
    rw [c1, hj, c2, c3, Nat.mul_assoc, ← hk2]
  -- the trim
  unfold F365_3
  have hVk : V * 2 ^ k ≠ 0 := Nat.mul_ne_zero hV (pne k)
  obtain ⟨r, hr, hp⟩ := iter_inv (L := F365_L5 N n ww)
    (fun v : Int => 0 ≤ v ∧ v ≤ n2 ∧ ∀ i : Nat, v ≤ i → ww i = 0#64)
    (fun v => v.toNat)
    (fun r : Int × (Nat → BitVec 64) => Bg r.1 r.2 (V * 2 ^ k))
    (by
      rintro v ⟨h1, h2, h3⟩
      have hvv : vb v.toNat ww = V * 2 ^ k := by
        rw [← hval]; exact (vb_zero (by omega) (fun i k1 _ => h3 i (by omega))).symm
      have hv0 : 0 < v := by
        rcases Int.lt_or_le 0 v with c | c
        · exact c
        · have : v.toNat = 0 := by omega
          rw [this, vb] at hvv
          exact (hVk hvv.symm).elim
      unfold F365_L5 F365_L5b F365_6 F365_4
      have w8 : w64 (v - 1) = v - 1 := w64_id (by omega)
      rw [bt (decide_eq_true (show v > 0 from hv0)), w8, bt (in52 (by omega) (by omega)), eq_bv, show (0#64).toNat = 0 from rfl]
      by_cases hz : (ww (v - 1).toNat).toNat = 0
      · rw [bt (decide_eq_true hz)]
        refine .inl ⟨_, rfl, ⟨by omega, by omega, ?_⟩, by omega⟩
        intro i hi
        by_cases e : i = (v - 1).toNat
        · rw [e]; exact BitVec.eq_of_toNat_eq hz
        · exact h3 i (by omega)
      · rw [bf (decide_eq_false hz)]
        refine .inr ⟨_, rfl, ⟨h1, by omega, h3, ?_, hvv⟩⟩
        intro _
        simp only []
        rw [show v.toNat - 1 = (v - 1).toNat from by omega]
        exact hz)
    N n2 ⟨by omega, by omega, fun i hi => g3 i hi⟩ (by omega)
  exact ⟨r.1, r.2, hr, hp⟩
end Go.Proofs.YfwaawGreat
