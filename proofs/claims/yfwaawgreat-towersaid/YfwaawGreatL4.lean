/-
  Package slow, plain: reading digits, powers of five.
-/
import Derived.Test.YfwaawGreatL3
namespace Go.Proofs.YfwaawGreat
open Go.Aw
set_option linter.unusedVariables false
set_option linter.unusedSimpArgs false

theorem lt_LB {V : Nat} (h : blen V ≤ 3328) : V < LB := by
  obtain ⟨q, hq⟩ : ∃ q : Nat, q = 52 := ⟨_, rfl⟩
  rw [← LB_of hq]
  exact Nat.lt_of_lt_of_le (blen_lt V) (pow_le (by omega))
theorem blen_10' (j : Nat) : blen (10 ^ (3 * j)) ≤ 10 * j + 1 := by
  rw [blen_le_iff, Nat.pow_mul]
  have : (10 ^ 3) ^ j ≤ (2 ^ 10) ^ j := Nat.pow_le_pow_left (by decide) j
  rw [← Nat.pow_mul 2 10 j] at this
  exact Nat.lt_of_le_of_lt this (pow_lt (by omega))
theorem blen_5' (j : Nat) : blen (5 ^ (3 * j)) ≤ 7 * j + 1 := by
  rw [blen_le_iff, Nat.pow_mul]
  have : (5 ^ 3) ^ j ≤ (2 ^ 7) ^ j := Nat.pow_le_pow_left (by decide) j
  rw [← Nat.pow_mul 2 7 j] at this
  exact Nat.lt_of_le_of_lt this (pow_lt (by omega))
theorem blen_dval' {s : List UInt8} {j : Nat} (h : ∀ c ∈ s, isd c) (hl : s.length ≤ 3 * j) : blen (dval s) ≤ 10 * j + 1 := by
  have h6 := dval_lt h
  have h7 : 10 ^ s.length ≤ 10 ^ (3 * j) := pow_le10 hl
  exact Nat.le_trans (blen_mono (Nat.le_of_lt (Nat.lt_of_lt_of_le h6 h7))) (blen_10' j)

theorem F266_ok {N : Nat} {s : List UInt8} (hN : 802 ≤ N) (hs : ∀ c ∈ s, isd c) (hl : s.length ≤ 800) : ∃ n w, F266 N 0 (fun _ => 0#64) s = some (n, w) ∧ Bg n w (dval s) := by
  unfold F266
  obtain ⟨r, hr, hp⟩ := iter_inv (L := F266_L1 N s)
    (fun v : Int × Int × (Nat → BitVec 64) => ∃ i : Nat, v.1 = i ∧ i ≤ s.length ∧ Bg v.2.1 v.2.2 (dval (s.take i)))
    (fun v => s.length - v.1.toNat)
    (fun r : Int × (Nat → BitVec 64) => Bg r.1 r.2 (dval s))
    (by
      rintro ⟨v, n, w⟩ ⟨i, hv, hi, hn⟩
      simp only at hv hn
      subst hv
      unfold F266_L1 F266_L1b F266_2
      simp only []
      by_cases hc : i < s.length
      · rw [bt (decide_eq_true (by omega))]
        left
        obtain ⟨r, hr, hp⟩ := iter_inv (L := F266_L4 N s n w)
          (fun v : Int × BitVec 64 × BitVec 64 × Int => ∃ j : Nat, j ≤ 19 ∧ v.2.2.2 = j ∧ v.1 = ((i + j : Nat) : Int) ∧ i + j ≤ s.length ∧ v.2.1.toNat = dval ((s.drop i).take j) ∧ v.2.2.1.toNat = 10 ^ j)
          (fun v => 19 - v.2.2.2.toNat)
          (fun r : (Int × Int × (Nat → BitVec 64)) ⊕ (Int × (Nat → BitVec 64)) => ∃ (j : Nat) (n' : Int) (w' : Nat → BitVec 64), 0 < j ∧ i + j ≤ s.length ∧ r = .inl (((i + j : Nat) : Int), n', w') ∧ Bg n' w' (dval (s.take (i + j))))
          (by
            rintro ⟨x8, x9, x10, x11⟩ ⟨j, hj, h1, h2, h3, h4, h5⟩
            simp only at h1 h2 h4 h5
            subst h1 h2
            unfold F266_L4 F266_L4b F266_5
            simp only []
            have hd9 : dval ((s.drop i).take j) < 10 ^ j := by
              have := dval_lt (s := (s.drop i).take j) (fun c hc => hs c (List.mem_of_mem_drop (List.mem_of_mem_take hc)))
              rw [List.length_take, List.length_drop, Nat.min_eq_left (by omega)] at this
              exact this
            by_cases hc2 : j < 19 ∧ i + j < s.length
            · rw [bt (by rw [decide_eq_true (show (j : Int) < 19 by omega), decide_eq_true (show ((i + j : Nat) : Int) < s.length by omega)]; rfl), bt (by rw [decide_eq_true (show (0 : Int) ≤ ((i + j : Nat) : Int) by omega), decide_eq_true (show ((i + j : Nat) : Int) < s.length by omega)]; rfl)]
              unfold F266_7 F266_8 F266_6
              rw [Int.toNat_natCast, w64_id (by omega), w64_id (by omega)]
              have hdig := getD_isd hs (show i + j < s.length from hc2.2)
              have hdl := dg_le hdig
              have hp9 : 10 ^ j ≤ 10 ^ 18 := pow_le10 (by omega)
              have p18 : (10 : Nat) ^ 18 = 1000000000000000000 := rfl
              rw [p18] at hp9
              refine .inl ⟨_, rfl, ⟨j + 1, by omega, by simp only []; omega, by simp only []; omega, by omega, ?_, ?_⟩, by simp only []; omega⟩
              · simp only []
                rw [add64, mul64, digit_word hdig, show (10#64).toNat = 10 from rfl, h4]
                have e1 : dval ((s.drop i).take (j + 1)) = 10 * dval ((s.drop i).take j) + dg (s.getD (i + j) 0) := by
                  rw [dval_take (by rw [List.length_drop]; omega)]
                  congr 2
                  rw [List.getD_eq_getElem?_getD, List.getD_eq_getElem?_getD, List.getElem?_drop]
                rw [e1]
                omega
              · simp only []
                rw [mul64, h5, show (10#64).toNat = 10 from rfl, Nat.pow_succ]
                omega
            · rw [bf (by
                by_cases k : j < 19
                · rw [decide_eq_false (show ¬ ((i + j : Nat) : Int) < s.length by omega)]; simp
                · rw [decide_eq_false (show ¬ (j : Int) < 19 by omega)]; rfl)]
              have hj0 : 0 < j := by omega
              unfold F266_3
              have hsum : dval (s.take i) * x10.toNat + x9.toNat = dval (s.take (i + j)) := by rw [h4, h5, ← dval_drop_take h3]
              have hbl : blen (dval (s.take (i + j))) ≤ 10 * 267 + 1 := blen_dval' (fun c hc => hs c (List.mem_of_mem_take hc)) (by rw [List.length_take]; omega)
              obtain ⟨n', w', f1, f2⟩ := F267_ok (N := N) (by omega) hn (m := x10) (c := x9) (.inl (by rw [h5]; exact Nat.pow_pos (by decide))) (by rw [hsum]; exact lt_LB (by omega))
              rw [hsum] at f2
              rw [f1]
              exact .inr ⟨_, rfl, j, n', w', hj0, h3, rfl, f2⟩)
          N ((i : Int), 0#64, 1#64, 0) ⟨0, by omega, rfl, rfl, by omega, by simp [dval_nil], rfl⟩ (by show 19 - (0 : Int).toNat < N; omega)
        obtain ⟨j, n', w', hj0, hj1, hj2, hj3⟩ := hp
        rw [hr, hj2]
        exact ⟨_, rfl, ⟨i + j, rfl, hj1, hj3⟩, by simp only []; omega⟩
      · rw [bf (decide_eq_false (by omega))]
        right
        refine ⟨_, rfl, ?_⟩
        rw [List.take_of_length_le (by omega)] at hn
        exact hn)
    N (0, 0, fun _ => 0#64) ⟨0, rfl, by omega, by rw [List.take_zero, dval_nil]; exact bg_zero⟩ (by show s.length - (0 : Int).toNat < N; omega)
  exact ⟨r.1, r.2, hr, hp⟩

theorem F268_ok {N : Nat} (hN : 100 ≤ N) {n : Int} {w : Nat → BitVec 64} {V : Nat} (h : Bg n w V) {k : Nat} (hk : k ≤ 2000) (hb : V * 5 ^ k < LB) : ∃ n' w', F268 N n w (k : Int) = some (n', w') ∧ Bg n' w' (V * 5 ^ k) := by
  unfold F268
  have p27 : (5 : Nat) ^ 27 = 7450580596923828125 := rfl
  have mono : ∀ {i : Nat}, i ≤ k → V * 5 ^ i < LB := fun hi => Nat.lt_of_le_of_lt (Nat.mul_le_mul_left V (Nat.pow_le_pow_right (by decide) hi)) hb
  obtain ⟨r, hr, hp⟩ := iter_inv (L := F268_L6 N)
    (fun v : Int × Int × (Nat → BitVec 64) => ∃ i : Nat, 27 * i ≤ k ∧ v.1 = ((k - 27 * i : Nat) : Int) ∧ Bg v.2.1 v.2.2 (V * 5 ^ (27 * i)))
    (fun v => v.1.toNat / 27)
    (fun r : Int × (Nat → BitVec 64) => Bg r.1 r.2 (V * 5 ^ k))
    (by
      rintro ⟨v, n, w⟩ ⟨i, hi, hv, hn⟩
      simp only at hv hn
      subst hv
      unfold F268_L6 F268_L6b F268_7
      simp only []
      by_cases hc : 27 ≤ k - 27 * i
      · rw [bt (decide_eq_true (by omega))]
        have e1 : V * 5 ^ (27 * i) * (7450580596923828125#64).toNat + (0#64).toNat = V * 5 ^ (27 * (i + 1)) := by
          show V * 5 ^ (27 * i) * 7450580596923828125 + 0 = _
          rw [← p27, Nat.add_zero, Nat.mul_assoc, ← Nat.pow_add]
          exact congrArg (fun t => V * 5 ^ t) (by omega)
        obtain ⟨n', w', f1, f2⟩ := F267_ok (N := N) (by omega) hn (m := 7450580596923828125#64) (c := 0#64) (.inl (by decide)) (by rw [e1]; exact mono (by omega))
        rw [e1] at f2
        rw [f1]
        simp only [Option.bind_some, F268_8]
        rw [w64_id (by omega)]
        exact .inl ⟨_, rfl, ⟨i + 1, by omega, by simp only []; omega, f2⟩, by simp only []; omega⟩
      · rw [bf (decide_eq_false (by omega))]
        right
        unfold F268_1
        obtain ⟨r, hr, hp⟩ := iter_inv (L := F268_L3 N n w)
          (fun v : Int × BitVec 64 => ∃ j : Nat, j ≤ k - 27 * i ∧ v.1 = ((k - 27 * i - j : Nat) : Int) ∧ v.2.toNat = 5 ^ j)
          (fun v => v.1.toNat)
          (fun r : Int × (Nat → BitVec 64) => Bg r.1 r.2 (V * 5 ^ k))
          (by
            rintro ⟨x5, p⟩ ⟨j, hj, h1, h2⟩
            simp only at h1 h2
            subst h1
            unfold F268_L3 F268_L3b F268_4
            simp only []
            by_cases hc2 : j < k - 27 * i
            · rw [bt (decide_eq_true (by omega))]
              unfold F268_5
              rw [w64_id (by omega)]
              refine .inl ⟨_, rfl, ⟨j + 1, by omega, by simp only []; omega, ?_⟩, by simp only []; omega⟩
              simp only []
              rw [mul64, h2, show (5#64).toNat = 5 from rfl, ← Nat.pow_succ]
              refine Nat.mod_eq_of_lt (Nat.lt_of_le_of_lt (Nat.pow_le_pow_right (by decide) (show j.succ ≤ 27 by omega)) (by decide))
            · rw [bf (decide_eq_false (by omega))]
              unfold F268_2
              have e1 : V * 5 ^ (27 * i) * p.toNat + (0#64).toNat = V * 5 ^ k := by
                show V * 5 ^ (27 * i) * p.toNat + 0 = _
                rw [h2, Nat.add_zero, Nat.mul_assoc, ← Nat.pow_add]
                exact congrArg (fun t => V * 5 ^ t) (by omega)
              obtain ⟨n', w', f1, f2⟩ := F267_ok (N := N) (by omega) hn (m := p) (c := 0#64) (.inl (by rw [h2]; exact Nat.pow_pos (by decide))) (by rw [e1]; exact hb)
              rw [e1] at f2
              rw [f1]
              exact .inr ⟨_, rfl, f2⟩)
          N (((k - 27 * i : Nat) : Int), 1#64) ⟨0, by omega, by simp, rfl⟩ (by simp only []; omega)
        rw [hr]
        exact ⟨_, rfl, hp⟩)
    N ((k : Int), n, w) ⟨0, by omega, by simp, by simpa using h⟩ (by simp only []; omega)
  exact ⟨r.1, r.2, hr, hp⟩

/-! ### The estimate -/
theorem q_est {A B P yh yl xl X y Q q : Nat} (hy : y = yh * P + yl) (hyl : yl < P) (hX : X = A * P + xl) (hxl : xl < P) (hB : B ≤ 2 * yh) (hq : q * yh ≤ A) (hq2 : q ≤ B) (hQ : Q = X / y) : q ≤ Q + 2 := by
  have hP : 0 < P := by omega
  rcases Nat.lt_or_ge (Q + 2) q with c | c
  · exfalso
    have hy0 : 0 < y := by
      rw [hy]
      rcases Nat.eq_zero_or_pos yh with k | k
      · omega
      · have := Nat.mul_pos k hP; omega
    have h1 : X < (Q + 1) * y := by
      rw [hQ]
      exact Nat.lt_mul_of_div_lt (by omega) hy0
    obtain ⟨r, hr⟩ : ∃ r, q = r + 2 := ⟨q - 2, by omega⟩
    have h2 : (Q + 1) * y ≤ r * y := Nat.mul_le_mul_right _ (by omega)
    have h3 : r * y ≤ r * ((yh + 1) * P) := Nat.mul_le_mul_left _ (by rw [hy, Nat.add_mul, Nat.one_mul]; omega)
    have h4 : q * yh * P ≤ A * P := Nat.mul_le_mul_right _ hq
    have h5 : q * yh * P < r * (yh + 1) * P := by
      rw [Nat.mul_assoc r]
      omega
    have h6 := Nat.lt_of_mul_lt_mul_right h5
    rw [hr, Nat.add_mul, Nat.mul_add, Nat.mul_one] at h6
    omega
  · exact c
theorem q_ge {A P yh yl xl X y Q q : Nat} (hy : y = yh * P + yl) (hX : X = A * P + xl) (hxl : xl < P) (hyh : 0 < yh) (hq : A / yh ≤ q) (hQ : Q = X / y) : Q ≤ q := by
  have hP : 0 < P := by omega
  refine Nat.le_trans ?_ hq
  rw [hQ]
  have h1 : X / y ≤ X / (yh * P) := Nat.div_le_div_left (by omega) (Nat.mul_pos hyh hP)
  have h2 : X / (yh * P) = A / yh := by
    rw [Nat.mul_comm, ← Nat.div_div_eq_div_mul]
    congr 1
    rw [hX, Nat.add_comm, Nat.add_mul_div_right _ _ hP, Nat.div_eq_of_lt hxl, Nat.zero_add]
  omega
end Go.Proofs.YfwaawGreat
