/-
  The printers end.
-/
import Derived.Test.YfwaawGreatD2
namespace Go.Proofs.YfwaawGreat
open Go.Aw
set_option linter.unusedVariables false
set_option linter.unusedSimpArgs false

theorem itoa_ends {N : Nat} (hN : 30 ≤ N) {a : Int} (ha : -9223372036854775808 ≤ a ∧ a < 9223372036854775808) : ∃ s, F170 N a = some s ∧ s.length ≤ 20 := by
  obtain ⟨s, t, h1, h2, h3, h4⟩ := F170_ok hN ha
  refine ⟨s, h1, ?_⟩
  rw [h4]
  split
  · rw [List.length_cons]; omega
  · omega
theorem w64_range (n : Int) : -9223372036854775808 ≤ w64 n ∧ w64 n < 9223372036854775808 := by
  simp only [w64, IntKind.wrap, IntKind.bits, IntKind.signed]
  simp
  split <;> omega
/-- The exponent's part. -/
theorem F293_7_ends {N : Nat} (hN : 30 ≤ N) {x5 x8 : List UInt8} {x : Int} (hx : -9223372036854775808 ≤ x ∧ x < 9223372036854775808) (h5 : x5.length ≤ 1000000) (h8 : x8.length ≤ 10) : ∃ s, F293_7 N x5 x x8 = some s := by
  obtain ⟨s, h1, h2⟩ := itoa_ends hN hx
  have key : ∀ y8 : List UInt8, y8.length ≤ 20 → ∃ s, F293_8 N x5 x y8 = some s := by
    intro y8 hy
    unfold F293_8
    rw [bt (decide_eq_true (by omega)), h1]
    simp only [Option.bind_some]
    rw [bt (decide_eq_true (by rw [List.length_append]; omega))]
    exact ⟨_, rfl⟩
  unfold F293_7 F293_9
  cases decide (x < 10) with
  | true =>
    rw [bt rfl, bt (decide_eq_true (by simp; omega))]
    exact key _ (by rw [List.length_append]; simp; omega)
  | false => exact key _ (by omega)
theorem F379_6_eq : F379_6 = F293_7 := rfl
theorem text_ends {N : Nat} (hN : 802 ≤ N) (neg : Bool) (dig : List UInt8) (exp : Int) : ∃ s, F293 N neg dig exp = some s := by
  obtain ⟨b, h1, h2⟩ := F137_ok hN neg dig exp
  unfold F293
  rw [h1]
  simp only [Option.bind_some]
  cases b with
  | false => exact ⟨_, rfl⟩
  | true =>
    have h := h2.1 rfl
    have hlen := h.len
    have hlo := h.lo
    have hhi := h.hi
    unfold F293_1
    rw [Bool.not_true, bf rfl]
    have h5 : ∀ x5 : List UInt8, x5.length ≤ 2000 → ∃ s, F293_5 N neg dig exp x5 = some s := by
      intro x5 hx
      unfold F293_5 F293_6 F293_10
      cases decide (w64 (w64 (w64 exp + ↑dig.length) - 1) < 0) with
      | true => exact F293_7_ends (by omega) (w64_range _) (by omega) (by decide)
      | false => exact F293_7_ends (by omega) (w64_range _) (by omega) (by decide)
    have h3 : ∀ x2 : List UInt8, x2.length ≤ 1 → ∃ s, F293_2 N neg dig exp x2 = some s := by
      intro x2 hx
      unfold F293_2 F293_3
      by_cases hne : dig = []
      · rw [bt (by rw [hne]; rfl), bt (decide_eq_true (by simp; omega))]
        exact ⟨_, rfl⟩
      · have hl : 0 < dig.length := List.length_pos_iff.2 hne
        rw [bf (by simpa using hne), bt (by rw [decide_eq_true (show (1 : Int) ≤ dig.length by omega)]; rfl), bt (decide_eq_true (by rw [List.length_take]; omega))]
        unfold F293_4 F293_11
        by_cases hc : (dig.length : Int) > 1
        · rw [bt (decide_eq_true hc), bt (by rw [decide_eq_true (show (1 : Int) ≤ dig.length by omega), decide_eq_true (show (dig.length : Int) ≤ dig.length by omega)]; rfl)]
          rw [bt (decide_eq_true (by simp only [List.length_take, List.length_drop, List.length_cons, List.length_nil]; omega)), bt (decide_eq_true (by simp only [List.length_append, List.length_take, List.length_drop, List.length_cons, List.length_nil]; omega))]
          exact h5 _ (by simp only [List.length_append, List.length_take, List.length_drop, List.length_cons, List.length_nil]; omega)
        · rw [bf (decide_eq_false hc)]
          exact h5 _ (by simp only [List.length_append, List.length_take, List.length_drop]; omega)
    cases neg with
    | true => exact h3 _ (by decide)
    | false => exact h3 _ (by decide)

theorem textE_ends {N : Nat} (hN : 30 ≤ N) (neg : Bool) {dig : List UInt8} (exp : Int) (hl : dig.length ≤ 100000) : ∃ s, F379 N neg dig exp = some s := by
  unfold F379 F379_1
  by_cases hne : dig = []
  · rw [bt (by rw [hne]; rfl)]
    exact ⟨_, rfl⟩
  · have hlp : 0 < dig.length := List.length_pos_iff.2 hne
    rw [bf (by simpa using hne), bt (by rw [decide_eq_true (show (1 : Int) ≤ dig.length by omega)]; rfl)]
    have h5 : ∀ x5 : List UInt8, x5.length ≤ 200000 → ∃ s, F379_4 N exp x5 = some s := by
      intro x5 hx
      unfold F379_4 F379_5 F379_9
      rw [F379_6_eq]
      cases decide (w64 exp < 0) with
      | true => exact F293_7_ends hN (w64_range _) (by omega) (by decide)
      | false => exact F293_7_ends hN (w64_range _) (by omega) (by decide)
    have h3 : ∀ x2 : List UInt8, x2.length ≤ 2 → ∃ s, F379_3 N dig exp x2 = some s := by
      intro x2 hx
      unfold F379_3 F379_10
      by_cases hc : (dig.length : Int) > 1
      · rw [bt (decide_eq_true hc), bt (by rw [decide_eq_true (show (1 : Int) ≤ dig.length by omega), decide_eq_true (show (dig.length : Int) ≤ dig.length by omega)]; rfl)]
        rw [bt (decide_eq_true (by simp only [List.length_take, List.length_drop, List.length_cons, List.length_nil]; omega)), bt (decide_eq_true (by simp only [List.length_append, List.length_take, List.length_drop, List.length_cons, List.length_nil]; omega))]
        exact h5 _ (by simp only [List.length_append, List.length_take, List.length_drop, List.length_cons, List.length_nil]; omega)
      · rw [bf (decide_eq_false hc)]
        exact h5 _ (by omega)
    unfold F379_2
    have ht : ((dig.drop ((0 : Int)).toNat).take (((1 : Int)).toNat - ((0 : Int)).toNat)).length ≤ 1 := by
      rw [List.length_take]
      have : ((1 : Int)).toNat - ((0 : Int)).toNat = 1 := rfl
      omega
    cases neg with
    | true =>
      rw [bt rfl, bt (decide_eq_true (by simp only [List.length_cons, List.length_nil]; omega))]
      exact h3 _ (by rw [List.length_append]; simp only [List.length_cons, List.length_nil]; omega)
    | false => exact h3 _ (by omega)

theorem textF_ends {N : Nat} (neg : Bool) {dig : List UInt8} (prec : BitVec 16) (hl : dig.length ≤ 100000) (hN : 110000 ≤ N) : ∃ s, F378 N neg dig prec = some s := by
  have hp := prec.isLt
  unfold F378 F378_1
  by_cases hc : ((dig == ([] : List UInt8)) || (decide ((2000#16).toNat < prec.toNat))) = true
  · rw [bt hc]; exact ⟨_, rfl⟩
  · have hc : ((dig == ([] : List UInt8)) || (decide ((2000#16).toNat < prec.toNat))) = false := by simpa using hc
    rw [bf hc]
    rw [Bool.or_eq_false_iff] at hc
    have hp2 : prec.toNat ≤ 2000 := by
      have := of_decide_eq_false hc.2
      have h2 : (2000#16).toNat = 2000 := rfl
      omega
    have w0 : w64 (prec.toNat : Int) = prec.toNat := w64_id (by omega)
    have w1 : w64 ((prec.toNat : Int) + 1) = prec.toNat + 1 := w64_id (by omega)
    have w2 : w64 ((prec.toNat : Int) + 1 - dig.length) = prec.toNat + 1 - dig.length := w64_id (by omega)
    unfold F378_2
    rw [w0, w1, w2]
    obtain ⟨pad, hpad⟩ : ∃ pad : Int, pad = max 0 ((prec.toNat : Int) + 1 - dig.length) := ⟨_, rfl⟩
    rw [← hpad]
    unfold F378_3 F378_4
    have w3 : w64 ((dig.length : Int) + pad) = dig.length + pad := w64_id (by omega)
    have w4 : w64 ((dig.length : Int) + pad + 2) = dig.length + pad + 2 := w64_id (by omega)
    rw [w3, w4, bt (by rw [decide_eq_true (show (0 : Int) ≤ dig.length + pad + 2 by omega), decide_eq_true (show (dig.length : Int) + pad + 2 ≤ 1099511627776 by omega)]; rfl)]
    have key : ∀ x6 : NS (BitVec 8), x6.2.1 ≤ 1 → ∃ s, F378_6 N dig pad (w64 ((dig.length : Int) + pad - prec.toNat)) x6 = some s := by
      intro x6 hx
      unfold F378_6 F378_8
      obtain ⟨r, hr, _⟩ := iter_inv (L := F378_L9 N dig pad (w64 ((dig.length : Int) + pad - prec.toNat)))
        (fun v : Int × NS (BitVec 8) => 0 ≤ v.1 ∧ v.1 ≤ dig.length + pad ∧ (v.2.2.1 : Int) ≤ 2 * v.1 + 1)
        (fun v => (dig.length + pad - v.1).toNat)
        (fun _ => True)
        (by
          rintro ⟨i, x⟩ ⟨h1, h2, h3⟩
          simp only at h1 h2 h3
          unfold F378_L9 F378_L9b F378_15
          simp only []
          rw [w3]
          by_cases hi : i < dig.length + pad
          · rw [bt (decide_eq_true hi)]
            left
            have hlast : ∀ y : NS (BitVec 8), (y.2.1 : Int) ≤ 2 * i + 2 → ∃ x', F378_12 N dig pad (w64 ((dig.length : Int) + pad - prec.toNat)) i y = some (.inl x') ∧ (0 ≤ x'.1 ∧ x'.1 ≤ dig.length + pad ∧ (x'.2.2.1 : Int) ≤ 2 * x'.1 + 1) ∧ (dig.length + pad - x'.1).toNat < (dig.length + pad - i).toNat := by
              intro y hy
              unfold F378_12 F378_13
              by_cases hp : i < pad
              · rw [bt (decide_eq_true hp), bt (decide_eq_true (by omega))]
                unfold F378_11
                rw [w64_id (by omega)]
                refine ⟨_, rfl, ⟨by simp only []; omega, by simp only []; omega, ?_⟩, by simp only []; omega⟩
                show ((y.2.1 + 1 : Nat) : Int) ≤ 2 * (i + 1) + 1
                omega
              · have w5 : w64 (i - pad) = i - pad := w64_id (by omega)
                rw [bf (decide_eq_false hp), w5, bt (by rw [decide_eq_true (show (0 : Int) ≤ i - pad by omega), decide_eq_true (show i - pad < dig.length by omega)]; rfl), bt (decide_eq_true (by omega))]
                unfold F378_11
                rw [w64_id (by omega)]
                refine ⟨_, rfl, ⟨by simp only []; omega, by simp only []; omega, ?_⟩, by simp only []; omega⟩
                show ((y.2.1 + 1 : Nat) : Int) ≤ 2 * (i + 1) + 1
                omega
            unfold F378_10 F378_14
            cases i == w64 ((dig.length : Int) + pad - prec.toNat) with
            | true =>
              rw [bt rfl, bt (decide_eq_true (by omega))]
              refine hlast _ ?_
              show ((x.2.1 + 1 : Nat) : Int) ≤ 2 * i + 2
              omega
            | false => exact hlast _ (by omega)
          · rw [bf (decide_eq_false hi)]
            exact .inr ⟨_, rfl, trivial⟩)
        N (0, x6) ⟨by simp, by simp only []; omega, by simp only []; omega⟩ (by simp only []; omega)
      exact ⟨r, hr⟩
    unfold F378_5 F378_16
    cases neg with
    | true =>
      rw [bt rfl, bt (by decide)]
      exact key _ (by show 0 + 1 ≤ 1; omega)
    | false => exact key _ (by show 0 ≤ 1; omega)

theorem flagText_ends {N : Nat} (hN : 10 ≤ N) (a : BitVec 8) : ∃ s, F301 N a = some s := by
  unfold F301
  obtain ⟨r, hr, _⟩ := iter_inv (L := F301_L3 N a)
    (fun v : List UInt8 × Int => 0 ≤ v.2 ∧ v.2 ≤ 5 ∧ (v.1.length : Int) ≤ 10 * v.2)
    (fun v => (5 - v.2).toNat)
    (fun _ => True)
    (by
      rintro ⟨s, i⟩ ⟨h1, h2, h3⟩
      simp only at h1 h2 h3
      unfold F301_L3 F301_L3b F301_4
      simp only []
      by_cases hi : i < 5
      · rw [bt (decide_eq_true hi), bt (by rw [decide_eq_true h1, decide_eq_true hi]; rfl)]
        left
        have hlen : (ba346f i.toNat).length ≤ 10 := by
          have hk : i.toNat = 0 ∨ i.toNat = 1 ∨ i.toNat = 2 ∨ i.toNat = 3 ∨ i.toNat = 4 := by omega
          rcases hk with k | k | k | k | k <;> rw [k] <;> decide
        unfold F301_6 F301_7
        rw [bt (decide_eq_true h1)]
        cases ((a >>> i.toNat) &&& 1#8) == 1#8 with
        | true =>
          rw [bt rfl, bt (decide_eq_true (by omega))]
          unfold F301_5
          rw [w64_id (by omega)]
          exact ⟨_, rfl, ⟨by simp only []; omega, by simp only []; omega, by simp only [List.length_append]; omega⟩, by simp only []; omega⟩
        | false =>
          rw [bf rfl]
          unfold F301_5
          rw [w64_id (by omega)]
          exact ⟨_, rfl, ⟨by simp only []; omega, by simp only []; omega, by simp only []; omega⟩, by simp only []; omega⟩
      · rw [bf (decide_eq_false hi)]
        right
        unfold F301_1 F301_2
        cases s == ([] : List UInt8) with
        | true => exact ⟨_, rfl, trivial⟩
        | false => exact ⟨_, rfl, trivial⟩)
    N (([] : List UInt8), 0) ⟨by simp, by simp, by simp⟩ (by show (5 - (0 : Int)).toNat < N; have : (5 - (0 : Int)).toNat = 5 := rfl; omega)
  exact ⟨r, hr⟩
end Go.Proofs.YfwaawGreat
