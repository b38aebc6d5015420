/-
  Package slow, plain: the quotient.
-/
import Derived.Test.YfwaawGreatL4
namespace Go.Proofs.YfwaawGreat
open Go.Aw
set_option linter.unusedVariables false
set_option linter.unusedSimpArgs false

theorem lift_ok {b : Nat} (hb : b < 4000) : w64 ((BitVec.ofInt 64 (w64 (0 - (b : Int))) &&& BitVec.ofInt 64 63).toNat : Int) = (((64 - b % 64) % 64 : Nat) : Int) := by
  have w1 : w64 (0 - (b : Int)) = -(b : Int) := by rw [w64_id (by omega)]; omega
  have e1 : (BitVec.ofInt 64 (-(b : Int)) &&& BitVec.ofInt 64 63).toNat = (64 - b % 64) % 64 := by
    rw [BitVec.toNat_and, show (BitVec.ofInt 64 63).toNat = 2 ^ 6 - 1 from rfl, Nat.and_two_pow_sub_one_eq_mod, BitVec.toNat_ofInt]
    have : ((-(b : Int)) % ((2 ^ 64 : Nat) : Int)).toNat % 2 ^ 6 = (64 - b % 64) % 64 := by
      rw [show ((2 ^ 64 : Nat) : Int) = 18446744073709551616 from rfl, show (2 : Nat) ^ 6 = 64 from rfl]; omega
    exact this
  rw [w1, e1, w64_id (by omega)]

/-- The top of the number below y, as the estimate takes it. -/
theorem top_parts {n : Int} {w : Nat → BitVec 64} {X : Nat} (h : Bg n w X) {k : Nat} (hk : 0 < k) (hn : n.toNat ≤ k) :
    ∃ xl, X * 18446744073709551616 = ((w (k - 1)).toNat * 18446744073709551616 + (bif decide (1 < k) then (w (k - 2)).toNat else 0)) * 2 ^ (64 * (k - 1)) + xl ∧ xl < 2 ^ (64 * (k - 1)) := by
  have hv : vb k w = X := h.all hn
  obtain ⟨j, rfl⟩ : ∃ j, k = j + 1 := ⟨k - 1, by omega⟩
  rw [vb] at hv
  rw [Nat.add_sub_cancel]
  cases j with
  | zero =>
    rw [vb] at hv
    refine ⟨0, ?_, by simp⟩
    rw [← hv]
    simp
  | succ i =>
    rw [vb] at hv
    have hl := vb_lt (w := w) (k := i)
    refine ⟨vb i w * 18446744073709551616, ?_, ?_⟩
    · rw [← hv, show i + 1 + 1 - 2 = i from by omega, bt (decide_eq_true (by omega)), p64s]
      grind
    · rw [p64s]
      exact Nat.mul_lt_mul_of_pos_right hl (by decide)

theorem F280_no {N : Nat} {h l d : BitVec 64} (hd : d.toNat ≤ h.toNat) : F280 N h l d = some (0#64, 0#64, false) := by
  unfold F280 F280_1
  rw [bt (decide_eq_true hd)]

/-! The number of limbs kept as a letter: as 52 it makes the elaborator unfold. -/
theorem F369_K {N K : Nat} (hK : K = 52) (hN : 60 ≤ N) {n : Int} {w : Nat → BitVec 64} : F369 N n w = some (decide (vb K w = 0), n, w) := by subst hK; exact F369_ok hN
theorem F368_K {N K : Nat} (hK : K = 52) (hN : 60 ≤ N) {n n' : Int} {w w' : Nat → BitVec 64} : ∃ c w2, F368 N n w n' w' = some (c, n, w2, n', w') ∧ vb K w2 + (bif c then 1 else 0) * LB = vb K w + vb K w' := by subst hK; exact F368_ok hN
theorem F367_K {N K : Nat} (hK : K = 52) (hN : 60 ≤ N) {n n' : Int} {w w' : Nat → BitVec 64} {X Y : Nat} (h : Bg n w X) (h' : Bg n' w' Y) {q : BitVec 64} (hq : q.toNat * Y < LB) :
    ∃ w2, F367 N n w n' w' q = some (decide (X < q.toNat * Y), n, w2, n', w') ∧ vb K w2 + q.toNat * Y = X + (if X < q.toNat * Y then 1 else 0) * LB := by subst hK; exact F367_ok hN h h' hq
/-- The corrections. -/
theorem F269_loop {N K : Nat} (hK : K = 52) (hN : 60 ≤ N) {E : Int} {n n' : Int} {w' : Nat → BitVec 64} {X4 Y Q : Nat} (hy : Bg n' w' Y) (hY : Y ≠ 0) (hQ : Q = X4 / Y) (hX4 : X4 < LB) (hE : -5000 < E ∧ E < 5000)
    {q : BitVec 64} {w : Nat → BitVec 64} (h1 : Q ≤ q.toNat) (h2 : q.toNat ≤ Q + 2) (h3 : vb K w + q.toNat * Y = X4 + (if X4 < q.toNat * Y then 1 else 0) * LB) :
    ∃ s w2, F269_14 N E q (decide (X4 < q.toNat * Y)) n w n' w' = some (s, E - 64, n, w2, n', w') ∧ s.toNat = jm Q (decide (X4 % Y ≠ 0)) := by
  have hYp : 0 < Y := by omega
  have eY : vb K w' = Y := hy.all (by have := hy.n52; have := hy.n0; omega)
  unfold F269_14
  obtain ⟨r, hr, hp⟩ := iter_inv (L := F269_L15 N E)
    (fun v : BitVec 64 × Bool × Int × (Nat → BitVec 64) × Int × (Nat → BitVec 64) => Q ≤ v.1.toNat ∧ v.1.toNat ≤ Q + 2 ∧ v.2.1 = decide (X4 < v.1.toNat * Y) ∧ v.2.2.1 = n ∧ v.2.2.2.2.1 = n' ∧ v.2.2.2.2.2 = w' ∧ vb K v.2.2.2.1 + v.1.toNat * Y = X4 + (if X4 < v.1.toNat * Y then 1 else 0) * LB)
    (fun v => v.1.toNat - Q)
    (fun r : BitVec 64 × Int × Int × (Nat → BitVec 64) × Int × (Nat → BitVec 64) => ∃ s w2, r = (s, E - 64, n, w2, n', w') ∧ s.toNat = jm Q (decide (X4 % Y ≠ 0)))
    (by
      rintro ⟨s, bl, m, ww, m', mw⟩ ⟨k1, k2, k3, k4, k5, k6, k7⟩
      simp only at k1 k2 k3 k4 k5 k6 k7
      subst k4 k5 k6
      rw [k3]
      unfold F269_L15 F269_L15b
      simp only []
      by_cases hc : X4 < s.toNat * Y
      · rw [bt (decide_eq_true hc)]
        rw [if_pos hc] at k7
        obtain ⟨c, w2, f1, f2⟩ := F368_K (N := N) hK hN (n := m) (n' := m') (w := ww) (w' := mw)
        rw [f1]
        simp only [Option.bind_some, F269_16]
        rw [eY] at f2
        have hsl := s.isLt
        have hQs : Q < s.toNat := by
          rcases Nat.lt_or_ge Q s.toNat with q | q
          · exact q
          · have e : s.toNat = Q := by omega
            rw [e, hQ] at hc
            have := Nat.div_mul_le_self X4 Y
            omega
        have es : (s - 1#64).toNat = s.toNat - 1 := by
          rw [sub64, show (1#64).toNat = 1 from rfl]; omega
        obtain ⟨u, hu⟩ : ∃ u, s.toNat = u + 1 := ⟨s.toNat - 1, by omega⟩
        rw [hu, Nat.add_mul, Nat.one_mul] at k7 hc
        have hl2 : vb K w2 < LB := vb_LB hK
        have hb : (!c) = decide (X4 < u * Y) := by
          cases c with
          | true =>
            have : ¬ X4 < u * Y := by simp only [cond_true] at f2; omega
            rw [decide_eq_false this]; rfl
          | false =>
            have : X4 < u * Y := by simp only [cond_false] at f2; omega
            rw [decide_eq_true this]; rfl
        refine .inl ⟨_, rfl, ⟨by simp only []; omega, by simp only []; omega, ?_, rfl, rfl, rfl, ?_⟩, by simp only []; omega⟩
        · simp only []
          rw [es, hu, Nat.add_sub_cancel]; exact hb
        · simp only []
          rw [es, hu, Nat.add_sub_cancel]
          cases c with
          | true =>
            have hn : ¬ X4 < u * Y := fun q => by rw [decide_eq_true q] at hb; cases hb
            rw [if_neg hn]
            simp only [cond_true] at f2
            omega
          | false =>
            have hn : X4 < u * Y := by
              rcases Nat.lt_or_ge X4 (u * Y) with q | q
              · exact q
              · rw [decide_eq_false (by omega)] at hb; cases hb
            rw [if_pos hn]
            simp only [cond_false] at f2
            omega
      · rw [bf (decide_eq_false hc)]
        rw [if_neg hc, Nat.zero_mul, Nat.add_zero] at k7
        have hsQ : s.toNat = Q := by
          have : s.toNat ≤ Q := by rw [hQ]; exact (Nat.le_div_iff_mul_le hYp).2 (by omega)
          omega
        have hrem : vb K ww = X4 % Y := by
          have := Nat.div_add_mod X4 Y
          rw [hsQ, hQ] at k7
          rw [Nat.mul_comm] at this
          omega
        right
        unfold F269_11
        rw [F369_K hK hN]
        simp only [Option.bind_some, F269_13, F269_12]
        rw [hrem, w64_id (by omega)]
        by_cases hz : X4 % Y = 0
        · rw [decide_eq_true hz, Bool.not_true, bf rfl]
          refine ⟨_, rfl, s, ww, rfl, ?_⟩
          rw [decide_eq_false (by simpa using hz), hsQ]; rfl
        · rw [decide_eq_false hz, Bool.not_false, bt rfl]
          refine ⟨_, rfl, _, ww, rfl, ?_⟩
          rw [decide_eq_true hz, or_one64, hsQ]; rfl)
    N (q, decide (X4 < q.toNat * Y), n, w, n', w') ⟨h1, h2, rfl, rfl, rfl, rfl, h3⟩ (by simp only []; omega)
  obtain ⟨s, w2, e1, e2⟩ := hp
  exact ⟨s, w2, by rw [hr, e1], e2⟩

/-- From where y's top limb is full and y/2 ≤ x < y. -/
theorem F269_6_ok {N : Nat} (hN : 60 ≤ N) {E n n' : Int} {w w' : Nat → BitVec 64} {X Y k : Nat} (hx : Bg n w X) (hy : Bg n' w' Y) (hX : X ≠ 0) (hXY : X < Y) (hk : blen Y = 64 * k) (hk51 : k ≤ 51) (hE : -5000 < E ∧ E < 5000) :
    ∃ s n2 w2, F269_6 N E n w n' w' = some (s, E - 64, n2, w2, n', w') ∧ s.toNat = jm (X * 18446744073709551616 / Y) (decide (X * 18446744073709551616 % Y ≠ 0)) := by
  have hY : Y ≠ 0 := by omega
  have hn0 := hy.n0
  have hnp := hy.pos hY
  have hbl := hy.bl hnp
  have htop := blen_pos (hy.top hnp)
  have ht64 := blen64 (w' (n'.toNat - 1))
  have hnk : n'.toNat = k := by omega
  have hk0 : 0 < k := by omega
  rw [hnk] at hbl htop ht64
  have hyh : 9223372036854775808 ≤ (w' (k - 1)).toNat := by
    have hb64 : blen (w' (k - 1)).toNat = 64 := by omega
    have hne : (w' (k - 1)).toNat ≠ 0 := fun c => by rw [c, blen_zero] at hb64; omega
    have := blen_le hne
    rw [hb64] at this
    exact this
  have hxn : n.toNat ≤ k := by
    have hp := hx.pos hX
    have hb2 := hx.bl hp
    have htp := blen_pos (hx.top hp)
    have := blen_mono (Nat.le_of_lt hXY)
    omega
  obtain ⟨xl, hx1, hx2⟩ := top_parts hx hk0 hxn
  have hyv : ∃ yl, Y = (w' (k - 1)).toNat * 2 ^ (64 * (k - 1)) + yl ∧ yl < 2 ^ (64 * (k - 1)) := by
    have hv := hy.v
    rw [hnk] at hv
    obtain ⟨j, hj⟩ : ∃ j, k = j + 1 := ⟨k - 1, by omega⟩
    rw [hj, vb] at hv
    rw [hj, Nat.add_sub_cancel]
    exact ⟨vb j w', by omega, vb_lt⟩
  obtain ⟨yl, hy1, hy2⟩ := hyv
  -- the top limbs
  have hle : (w (k - 1)).toNat ≤ (w' (k - 1)).toNat := by
    rcases Nat.lt_or_ge (w' (k - 1)).toNat (w (k - 1)).toNat with c | c
    · have e1 : vb k w = X := hx.all hxn
      have e2 : vb k w' = Y := hy.all (by omega)
      have := vb_top (w := w') (w' := w) (t := k - 1) (k := k) (by omega) c (fun i h1 h2 => by omega)
      omega
    · exact c
  obtain ⟨nx, hnx⟩ : ∃ nx : BitVec 64, nx.toNat = (bif decide (1 < k) then (w (k - 2)).toNat else 0) ∧ F269_6 N E n w n' w' = F269_7 N E n w n' w' nx := by
    unfold F269_6 F269_18
    by_cases c : 1 < k
    · rw [bt (decide_eq_true (show n' > 1 by omega)), w64_id (by omega), bt (in52 (by omega) (by have := hy.n52; omega)), show (n' - 2).toNat = k - 2 from by omega]
      exact ⟨_, by rw [bt (decide_eq_true c)], rfl⟩
    · rw [bf (decide_eq_false (show ¬ n' > 1 by omega))]
      exact ⟨0#64, by rw [bf (decide_eq_false c)]; rfl, rfl⟩
  obtain ⟨hnx1, hnx2⟩ := hnx
  rw [hnx2]
  rw [← hnx1] at hx1
  have hnl := nx.isLt
  have hwl := (w' (k - 1)).isLt
  -- the first estimate
  have hest : ∃ q : BitVec 64, F269_7 N E n w n' w' nx = F269_9 N E n w n' w' q ∧ q.toNat * (w' (k - 1)).toNat ≤ (w (k - 1)).toNat * 18446744073709551616 + nx.toNat ∧
      (((w (k - 1)).toNat * 18446744073709551616 + nx.toNat) / (w' (k - 1)).toNat ≤ q.toNat ∨ q.toNat = 18446744073709551615) := by
    unfold F269_7
    have w1 : w64 (n' - 1) = n' - 1 := w64_id (by have := hy.n52; omega)
    have hin := in52 (i := n' - 1) (by omega) (by have := hy.n52; omega)
    rw [w1, hin, bt rfl, bt rfl, show (n' - 1).toNat = k - 1 from by omega]
    by_cases c : (w' (k - 1)).toNat ≤ (w (k - 1)).toNat
    · rw [F280_no c]
      simp only [Option.bind_some, F269_8, F269_17]
      refine ⟨18446744073709551615#64, rfl, ?_, .inr rfl⟩
      show 18446744073709551615 * (w' (k - 1)).toNat ≤ _
      omega
    · obtain ⟨q, r, g1, g2, g3⟩ := F280_ok (N := N) (by omega) (l := nx) (show (w (k - 1)).toNat < (w' (k - 1)).toNat by omega)
      rw [g1]
      simp only [Option.bind_some, F269_8, F269_17]
      unfold v2 at g2
      refine ⟨q, rfl, ?_, .inl (by rw [g2]; exact Nat.le_refl _)⟩
      rw [g2]; exact Nat.div_mul_le_self _ _
  obtain ⟨q, hq1, hq2, hq3⟩ := hest
  have hql := q.isLt
  have hXB : X * 18446744073709551616 / Y < 18446744073709551616 := by
    rw [Nat.div_lt_iff_lt_mul (by omega), Nat.mul_comm 18446744073709551616 Y]
    exact Nat.mul_lt_mul_of_pos_right hXY (by decide)
  have hQle : X * 18446744073709551616 / Y ≤ q.toNat := by
    rcases hq3 with c | c
    · exact q_ge (A := (w (k - 1)).toNat * 18446744073709551616 + nx.toNat) hy1 hx1 hx2 (by omega) c rfl
    · omega
  have hQge : q.toNat ≤ X * 18446744073709551616 / Y + 2 := q_est (B := 18446744073709551616) hy1 hy2 hx1 hx2 (by omega) hq2 (by omega) rfl
  rw [hq1]
  -- one limb up
  have hbX : blen X ≤ 64 * 51 := by
    have := blen_mono (Nat.le_of_lt hXY); omega
  have hb64 := blen_shl X 64
  rw [p64] at hb64
  have hX4 : X * 18446744073709551616 < LB := lt_LB (by omega)
  unfold F269_9
  obtain ⟨n2, w2, s1, s2⟩ := F365_ok (N := N) hN hx hX (k := 64) (by omega) hX4
  have s1 : F365 N n w 64 = some (n2, w2) := s1
  rw [s1]
  simp only [Option.bind_some, F269_10]
  have hqY : q.toNat * Y < LB := by
    have h5 := blen_mul q.toNat Y
    have h6 := blen64 q
    exact lt_LB (by omega)
  have s2 : Bg n2 w2 (X * 18446744073709551616) := s2
  obtain ⟨K, hK⟩ : ∃ K : Nat, K = 52 := ⟨_, rfl⟩
  obtain ⟨w3, t1, t2⟩ := F367_K (N := N) hK hN s2 hy (q := q) hqY
  rw [t1]
  simp only [Option.bind_some]
  obtain ⟨s, w4, u1, u2⟩ := F269_loop (N := N) hK hN (E := E) (n := n2) hy hY rfl hX4 hE hQle hQge t2
  exact ⟨s, n2, w4, u1, u2⟩
end Go.Proofs.YfwaawGreat
