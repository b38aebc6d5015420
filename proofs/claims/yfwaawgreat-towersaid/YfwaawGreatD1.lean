/-
  Decimals, plain: digits and what they spell, canonical decimals, exact.RoundDec.
-/
import Derived.Test.YfwaawGreatA3
import Derived.Test.YfwaawGreatG11
namespace Go.Proofs.YfwaawGreat
open Go.Aw
set_option linter.unusedVariables false
set_option linter.unusedSimpArgs false

/-! ### Digits -/
/-- A digit's value. -/
def dg (c : UInt8) : Nat := c.toNat - 48
def isd (c : UInt8) : Prop := 48 ≤ c.toNat ∧ c.toNat ≤ 57
instance (c : UInt8) : Decidable (isd c) := inferInstanceAs (Decidable (_ ∧ _))
/-- The number that digits spell. -/
def dval (s : List UInt8) : Nat := s.foldl (fun v c => 10 * v + dg c) 0
theorem dval_foldl (s : List UInt8) : ∀ v, s.foldl (fun v c => 10 * v + dg c) v = v * 10 ^ s.length + dval s := by
  unfold dval
  induction s with
  | nil => intro v; simp
  | cons c s ih =>
    intro v
    rw [List.foldl_cons, List.foldl_cons, ih, ih (10 * 0 + dg c), List.length_cons, Nat.pow_succ]
    grind
theorem dval_append (s t : List UInt8) : dval (s ++ t) = dval s * 10 ^ t.length + dval t := by
  have := dval_foldl t (dval s)
  unfold dval at *
  rw [List.foldl_append, this]
theorem dval_nil : dval [] = 0 := rfl
theorem dval_one (c : UInt8) : dval [c] = dg c := by unfold dval; simp
theorem dval_snoc (s : List UInt8) (c : UInt8) : dval (s ++ [c]) = 10 * dval s + dg c := by
  rw [dval_append, dval_one, List.length_singleton, Nat.pow_one]; omega
theorem dval_take {s : List UInt8} {i : Nat} (h : i < s.length) : dval (s.take (i + 1)) = 10 * dval (s.take i) + dg (s.getD i 0) := by
  rw [List.take_add_one, List.getElem?_eq_getElem h, Option.toList_some, dval_snoc, List.getD_eq_getElem?_getD, List.getElem?_eq_getElem h]
  rfl
theorem dg_le {c : UInt8} (h : isd c) : dg c ≤ 9 := by unfold dg; have := h.2; omega
theorem dval_lt {s : List UInt8} (h : ∀ c ∈ s, isd c) : dval s < 10 ^ s.length := by
  induction s with
  | nil => decide
  | cons c s ih =>
    have h1 := dval_append [c] s
    rw [List.singleton_append, dval_one] at h1
    have h2 := ih (fun x hx => h x (List.mem_cons_of_mem _ hx))
    have h3 := dg_le (h c List.mem_cons_self)
    have h4 := Nat.mul_le_mul_right (10 ^ s.length) h3
    rw [h1, List.length_cons, Nat.pow_succ]
    omega
theorem getD_isd {s : List UInt8} (h : ∀ c ∈ s, isd c) {i : Nat} (hi : i < s.length) : isd (s.getD i 0) := by
  rw [List.getD_eq_getElem?_getD, List.getElem?_eq_getElem hi]
  exact h _ (List.getElem_mem hi)
theorem u8bv (c : UInt8) : c.toBitVec.toNat = c.toNat := rfl

/-! ### Canonical decimals -/
structure CN (dig : List UInt8) (exp : Int) : Prop where
  d : ∀ c ∈ dig, isd c
  len : dig.length ≤ 800
  z : dig = [] → exp = 0
  first : dig ≠ [] → (dig.getD 0 0).toNat ≠ 48
  last : dig ≠ [] → (dig.getD (dig.length - 1) 0).toNat ≠ 48
  lo : -2000 ≤ exp
  hi : exp ≤ 2000

theorem F137_ok {N : Nat} (hN : 802 ≤ N) (neg : Bool) (dig : List UInt8) (exp : Int) : ∃ b, F137 N neg dig exp = some b ∧ (b = true ↔ CN dig exp) := by
  unfold F137 F137_1 F137_2
  by_cases h0 : dig.length = 0
  · have hnil : dig = [] := List.eq_nil_of_length_eq_zero h0
    subst hnil
    rw [bt (by simp)]
    refine ⟨_, rfl, ?_⟩
    constructor
    · intro h
      have h : exp = 0 := by simpa using h
      exact ⟨by simp, by simp, fun _ => h, fun k => (k rfl).elim, fun k => (k rfl).elim, by omega, by omega⟩
    · intro h
      have := h.z rfl
      simpa using this
  · rw [bf (by simp; exact fun k => h0 (by simp [k]))]
    have hne : dig ≠ [] := fun k => h0 (by simp [k])
    unfold F137_3
    by_cases h8 : dig.length > 800
    · rw [bt (by simp; omega)]
      exact ⟨_, rfl, by constructor; intro h; cases h; intro h; have := h.len; omega⟩
    · rw [bf (by simp; omega)]
      obtain ⟨r, hr, hp⟩ := iter_inv (L := F137_L4 N neg dig exp (dig.length : Int))
        (fun v : Int => 0 ≤ v ∧ v ≤ dig.length ∧ ∀ i, i < v.toNat → isd (dig.getD i 0))
        (fun v => dig.length - v.toNat)
        (fun b : Bool => b = true ↔ CN dig exp)
        (by
          rintro v ⟨h1, h2, h3⟩
          unfold F137_L4 F137_L4b F137_5
          by_cases hv : v < (dig.length : Int)
          · have hb : (decide (0 ≤ v) && decide (v < (dig.length : Int))) = true := by
              rw [decide_eq_true h1, decide_eq_true hv]; rfl
            rw [bt (decide_eq_true hv), hb, bt rfl, bt rfl, u8bv]
            simp only [show (48#8).toNat = 48 from rfl, show (57#8).toNat = 57 from rfl]
            have hbad : ¬ isd (dig.getD v.toNat 0) → (∃ y, (some false).map (Sum.inr : Bool → Int ⊕ Bool) = some (.inr y) ∧ (y = true ↔ CN dig exp)) := by
              intro hn
              refine ⟨false, rfl, ?_⟩
              constructor
              · intro k; cases k
              · intro k
                exact (hn (getD_isd k.d (by omega))).elim
            unfold F137_6
            by_cases c1 : (dig.getD v.toNat 0).toNat < 48
            · rw [bt (decide_eq_true c1), bt rfl]
              exact .inr (hbad (fun k => by have := k.1; omega))
            · rw [bf (decide_eq_false c1)]
              by_cases c2 : 57 < (dig.getD v.toNat 0).toNat
              · rw [bt (decide_eq_true c2)]
                exact .inr (hbad (fun k => by have := k.2; omega))
              · rw [bf (decide_eq_false c2), w64_id (by omega)]
                refine .inl ⟨_, rfl, ⟨by omega, by omega, ?_⟩, by omega⟩
                intro i hi
                by_cases k : i < v.toNat
                · exact h3 i k
                · have : i = v.toNat := by omega
                  rw [this]; exact ⟨by omega, by omega⟩
          · have hv' : v = dig.length := by omega
            have hall : ∀ c ∈ dig, isd c := by
              intro c hc
              obtain ⟨i, hi, rfl⟩ := List.getElem_of_mem hc
              have := h3 i (by omega)
              rw [List.getD_eq_getElem?_getD, List.getElem?_eq_getElem hi] at this
              exact this
            have w1 : w64 ((dig.length : Int) - 1) = dig.length - 1 := w64_id (by omega)
            have hlen : (0 : Int) < dig.length := by omega
            have b1 : (decide (0 ≤ (0 : Int)) && decide ((0 : Int) < (dig.length : Int))) = true := by rw [decide_eq_true hlen]; rfl
            have b2 : (decide (0 ≤ (dig.length : Int) - 1) && decide ((dig.length : Int) - 1 < (dig.length : Int))) = true := by
              rw [decide_eq_true (by omega), decide_eq_true (by omega)]; rfl
            rw [bf (decide_eq_false hv), w1, b1, b2, bt rfl, bt rfl, show ((dig.length : Int) - 1).toNat = dig.length - 1 from by omega, show (0 : Int).toNat = 0 from rfl]
            unfold F137_7
            simp only [ne_bv, u8bv, show (48#8).toNat = 48 from rfl]
            by_cases c1 : (dig.getD 0 0).toNat = 48
            · rw [bf (decide_eq_false (by simpa using c1))]
              refine .inr ⟨_, rfl, ?_⟩
              constructor
              · intro k; cases k
              · intro k; exact (k.first hne c1).elim
            · rw [bt (decide_eq_true c1)]
              refine .inr ⟨_, rfl, ?_⟩
              simp only [Bool.and_eq_true, decide_eq_true_eq]
              constructor
              · rintro ⟨⟨k1, k2⟩, k3⟩
                exact ⟨hall, by omega, fun k => (hne k).elim, fun _ => c1, fun _ => k1, k2, k3⟩
              · intro k
                exact ⟨⟨k.last hne, k.lo⟩, k.hi⟩)
        N 0 ⟨by omega, by omega, fun i hi => by simp at hi⟩ (by show dig.length - (0 : Int).toNat < N; omega)
      exact ⟨r, hr, hp⟩

/-! ### What the digits spell -/
theorem pow_le10 {a b : Nat} (h : a ≤ b) : 10 ^ a ≤ 10 ^ b := Nat.pow_le_pow_right (by decide) h
theorem blen_10 (k : Nat) : blen (10 ^ k) ≤ 4 * k + 1 := by
  rw [blen_le_iff]
  have : 10 ^ k ≤ 16 ^ k := Nat.pow_le_pow_left (by decide) k
  rw [show (16 : Nat) = 2 ^ 4 from rfl, ← Nat.pow_mul] at this
  exact Nat.lt_of_le_of_lt this (pow_lt (by omega))
theorem blen_dval {s : List UInt8} {k : Nat} (h : ∀ c ∈ s, isd c) (hl : s.length ≤ k) : blen (dval s) ≤ 4 * k + 1 := by
  have h6 := dval_lt h
  have h7 : 10 ^ s.length ≤ 10 ^ k := pow_le10 hl
  exact Nat.le_trans (blen_mono (Nat.le_of_lt (Nat.lt_of_lt_of_le h6 h7))) (blen_10 k)
theorem blen_5 (k : Nat) : blen (5 ^ k) ≤ 3 * k + 1 := by
  rw [blen_le_iff]
  have : 5 ^ k ≤ 8 ^ k := Nat.pow_le_pow_left (by decide) k
  rw [show (8 : Nat) = 2 ^ 3 from rfl, ← Nat.pow_mul] at this
  exact Nat.lt_of_le_of_lt this (pow_lt (by omega))
theorem digit_word {c : UInt8} (h : isd c) : (BitVec.ofInt 64 ((c.toBitVec - 48#8).toNat : Int)).toNat = dg c := by
  have h1 : (c.toBitVec - 48#8).toNat = dg c := by
    rw [sub8 (by show 48 ≤ c.toNat; exact h.1)]; rfl
  rw [h1, ofInt_nat, BitVec.toNat_ofNat]
  have := dg_le h
  exact Nat.mod_eq_of_lt (by omega)

theorem dval_drop_take {s : List UInt8} {i j : Nat} (h : i + j ≤ s.length) : dval (s.take (i + j)) = dval (s.take i) * 10 ^ j + dval ((s.drop i).take j) := by
  rw [List.take_add, dval_append, List.length_take, List.length_drop, Nat.min_eq_left (by omega)]

theorem F138_ok {N : Nat} {s : List UInt8} (hN : 802 ≤ N) (hs : ∀ c ∈ s, isd c) (hl : s.length ≤ 800) : F138 N s = some (dval s) := by
  unfold F138
  obtain ⟨r, hr, hp⟩ := iter_inv (L := F138_L2 N s)
    (fun v : Nat × Int => ∃ i : Nat, v.2 = i ∧ i ≤ s.length ∧ v.1 = dval (s.take i))
    (fun v => s.length - v.2.toNat)
    (fun r : Nat => r = dval s)
    (by
      rintro ⟨n, v⟩ ⟨i, hv, hi, hn⟩
      simp only at hv hn
      subst hv hn
      unfold F138_L2 F138_L2b F138_3
      simp only []
      by_cases hc : i < s.length
      · rw [bt (decide_eq_true (by omega))]
        left
        -- the nine
        obtain ⟨r, hr, hp⟩ := iter_inv (L := F138_L5 N s (dval (s.take i)))
          (fun w : Int × BitVec 64 × BitVec 64 × Int => ∃ j : Nat, j ≤ 9 ∧ w.2.2.2 = j ∧ w.1 = ((i + j : Nat) : Int) ∧ i + j ≤ s.length ∧ w.2.1.toNat = dval ((s.drop i).take j) ∧ w.2.2.1.toNat = 10 ^ j)
          (fun w => 9 - w.2.2.2.toNat)
          (fun r : (Nat × Int) ⊕ Nat => ∃ j : Nat, 0 < j ∧ i + j ≤ s.length ∧ r = .inl (dval (s.take (i + j)), ((i + j : Nat) : Int)))
          (by
            rintro ⟨x8, x9, x10, x11⟩ ⟨j, hj, h1, h2, h3, h4, h5⟩
            simp only at h1 h2 h4 h5
            subst h1 h2
            unfold F138_L5 F138_L5b F138_6
            simp only []
            have hd9 : dval ((s.drop i).take j) < 10 ^ j := by
              have := dval_lt (s := (s.drop i).take j) (fun c hc => hs c (List.mem_of_mem_drop (List.mem_of_mem_take hc)))
              rw [List.length_take, List.length_drop, Nat.min_eq_left (by omega)] at this
              exact this
            have hp9 : 10 ^ j ≤ 10 ^ 9 := pow_le10 hj
            by_cases hc2 : j < 9 ∧ i + j < s.length
            · rw [bt (by rw [decide_eq_true (show (j : Int) < 9 by omega), decide_eq_true (show ((i + j : Nat) : Int) < s.length by omega)]; rfl), bt (by rw [decide_eq_true (show (0 : Int) ≤ ((i + j : Nat) : Int) by omega), decide_eq_true (show ((i + j : Nat) : Int) < s.length by omega)]; rfl)]
              unfold F138_8 F138_9 F138_7
              rw [Int.toNat_natCast, w64_id (by omega), w64_id (by omega)]
              have hdig := getD_isd hs (show i + j < s.length from hc2.2)
              have hdl := dg_le hdig
              refine .inl ⟨_, rfl, ⟨j + 1, by omega, by simp only []; omega, by simp only []; omega, by omega, ?_, ?_⟩, by simp only []; omega⟩
              · simp only []
                rw [add64, mul64, digit_word hdig, show (10#64).toNat = 10 from rfl, h4]
                have e1 : dval ((s.drop i).take (j + 1)) = 10 * dval ((s.drop i).take j) + dg (s.getD (i + j) 0) := by
                  rw [dval_take (by rw [List.length_drop]; omega)]
                  congr 2
                  rw [List.getD_eq_getElem?_getD, List.getD_eq_getElem?_getD, List.getElem?_drop]
                rw [e1]
                omega
              · simp only []
                rw [mul64, h5, show (10#64).toNat = 10 from rfl, ← Nat.pow_succ]
                exact Nat.mod_eq_of_lt (Nat.lt_of_le_of_lt (pow_le10 (show j + 1 ≤ 9 by omega)) (by decide))
            · rw [bf (by
                by_cases k : j < 9
                · rw [decide_eq_false (show ¬ ((i + j : Nat) : Int) < s.length by omega)]; simp
                · rw [decide_eq_false (show ¬ (j : Int) < 9 by omega)]; rfl)]
              have hj0 : 0 < j := by omega
              unfold F138_4
              have z1 : blen (dval (s.take i)) ≤ 4 * 800 + 1 := by
                exact blen_dval (fun c hc => hs c (List.mem_of_mem_take hc)) (by rw [List.length_take]; omega)
              have z2 := blen64 x10
              have z3 := blen64 x9
              have z4 := blen_mul (dval (s.take i)) x10.toNat
              rw [bt (limand (by omega) (by omega)), bt (limand (by omega) (by omega))]
              refine .inr ⟨_, rfl, j, hj0, h3, ?_⟩
              rw [h4, h5, ← dval_drop_take h3])
          N ((i : Int), 0#64, 1#64, 0) ⟨0, by omega, rfl, rfl, by omega, by simp [dval_nil], rfl⟩ (by show 9 - (0 : Int).toNat < N; omega)
        obtain ⟨j, hj0, hj1, hj2⟩ := hp
        rw [hr, hj2]
        exact ⟨_, rfl, ⟨i + j, rfl, hj1, rfl⟩, by simp only []; omega⟩
      · rw [bf (decide_eq_false (by omega))]
        right
        refine ⟨_, rfl, ?_⟩
        rw [List.take_of_length_le (by omega)])
    N (0, 0) ⟨0, rfl, by omega, by rw [List.take_zero, dval_nil]⟩ (by show s.length - (0 : Int).toNat < N; omega)
  rw [hr, hp]

theorem ten_eq (k : Nat) : 5 ^ k * 2 ^ k = 10 ^ k := by rw [← Nat.mul_pow]
theorem F139_ok {N k : Nat} (hk : k ≤ 5000) : F139 N (k : Int) = some (10 ^ k) := by
  unfold F139
  have h1 : (BitVec.ofInt 16 (k : Int)).toNat = k := by rw [u16_of (by omega), Int.toNat_natCast]
  have h2 := blen_5 k
  rw [h1, bt (lim_blen (by omega)), ten_eq]

/-- A decimal rounded. -/
def RD (e m mode : BitVec 8) (neg : Bool) (dig : List UInt8) (exp : Int) : BitVec 64 × BitVec 8 :=
  if dval dig = 0 then (F251 e m neg, 0#8) else RQ e m mode neg (dval dig * 10 ^ exp.toNat) (10 ^ (-exp).toNat)
section
variable {e m mode : BitVec 8} {neg : Bool} {dig : List UInt8} {exp : Int}
theorem CN.blen (h : CN dig exp) : blen (dval dig) ≤ 3201 := blen_dval (k := 800) h.d h.len
theorem F79_ok {N : Nat} (hN : 802 ≤ N) (h : CN dig exp) : F79 N neg dig exp = some (neg, dval dig * 10 ^ exp.toNat, 10 ^ (-exp).toNat) := by
  obtain ⟨b, h1, h2⟩ := F137_ok hN neg dig exp
  have hb := h2.2 h
  have hlo := h.lo
  have hhi := h.hi
  have hbl := h.blen
  unfold F79
  rw [h1, hb]
  simp only [Option.bind_some]
  unfold F79_1 F79_2 F79_3
  rw [Bool.not_true, bf rfl, F138_ok hN h.d h.len]
  simp only [Option.bind_some]
  by_cases c : exp < 0
  · rw [bt (decide_eq_true c)]
    have w1 : w64 exp = exp := w64_id (by omega)
    have w2 : w64 (0 - exp) = (((-exp).toNat : Nat) : Int) := by rw [w64_id (by omega)]; omega
    rw [w1, w2, F139_ok (by omega), show exp.toNat = 0 from by omega]
    simp
  · rw [bf (decide_eq_false c)]
    have w1 : w64 exp = ((exp.toNat : Nat) : Int) := by rw [w64_id (by omega)]; omega
    have h10 := blen_10 exp.toNat
    rw [w1, F139_ok (by omega)]
    simp only [Option.bind_some]
    rw [bt (limand (by omega) (by omega)), show (-exp).toNat = 0 from by omega]
    rfl
theorem F135_ok {N : Nat} (hN : 802 ≤ N) (hf : Fm e m) (h : CN dig exp) : F135 N e m mode neg dig exp = some (RD e m mode neg dig exp) := by
  obtain ⟨b, h1, h2⟩ := F137_ok hN neg dig exp
  have hb := h2.2 h
  have hlo := h.lo
  have hhi := h.hi
  have hbl := h.blen
  have e1 := blen_10 exp.toNat
  have e2 := blen_10 (-exp).toNat
  have e3 := blen_mul (dval dig) (10 ^ exp.toNat)
  have hp : 10 ^ (-exp).toNat ≠ 0 := by have := Nat.pow_pos (n := (-exp).toNat) (show 0 < 10 by decide); omega
  have hp' : 10 ^ exp.toNat ≠ 0 := by have := Nat.pow_pos (n := exp.toNat) (show 0 < 10 by decide); omega
  unfold F135
  rw [h1, hb]
  simp only [Option.bind_some]
  unfold F135_1 RD
  rw [Bool.not_true, bf rfl, F79_ok hN h]
  simp only [Option.bind_some]
  by_cases c : dval dig = 0
  · rw [c, Nat.zero_mul, F136_zero hf hp (by omega), if_pos rfl]
    rfl
  · rw [F136_RQ hf (Nat.mul_ne_zero c hp') hp (by omega) (by omega), if_neg c]
    rfl
theorem F135_no {N : Nat} (hN : 802 ≤ N) (h : ¬ CN dig exp) : F135 N e m mode neg dig exp = some (0#64, 0#8) := by
  obtain ⟨b, h1, h2⟩ := F137_ok hN neg dig exp
  have hb : b = false := by cases b with | false => rfl | true => exact (h (h2.1 rfl)).elim
  unfold F135
  rw [h1, hb]
  rfl
theorem dval_pos (h : CN dig exp) (hne : dig ≠ []) : dval dig ≠ 0 := by
  cases dig with
  | nil => exact (hne rfl).elim
  | cons c s =>
    have h1 := dval_append [c] s
    rw [List.singleton_append, dval_one] at h1
    have h2 := h.first hne
    have h3 := (h.d c List.mem_cons_self).1
    have h4 : 0 < dg c := by
      have : (c :: s).getD 0 0 = c := rfl
      rw [this] at h2
      unfold dg; omega
    have h5 := Nat.mul_pos h4 (Nat.pow_pos (n := s.length) (show 0 < 10 by decide))
    omega
end
end Go.Proofs.YfwaawGreat
