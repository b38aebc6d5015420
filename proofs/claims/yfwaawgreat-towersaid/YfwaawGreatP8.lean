/-
  expand = exact: the digits.
-/
import Derived.Test.YfwaawGreatP7
namespace Go.Proofs.YfwaawGreat
open Go.Aw
set_option linter.unusedVariables false
set_option linter.unusedSimpArgs false

section
variable {N : Nat} {top sig prec : Int} {dig : Nat → BitVec 8}
theorem sub_isd {n' a b : Nat} (hd : ∀ x ∈ bys n' dig, isd x) (h : a + b ≤ n') : ∀ x ∈ bys b (fun i => dig (a + i)), isd x := by
  intro x hx
  unfold bys at hx
  obtain ⟨j, hj, he⟩ := List.mem_map.1 hx
  rw [← he]
  exact bys_isd hd (by have := List.mem_range.1 hj; omega)
/-- round, for digits in plenty. -/
theorem round_cut (hN : 5000 ≤ N) {n' q : Nat} (hn : n' ≤ 1440) (hq : q < n') (hd : ∀ x ∈ bys n' dig, isd x) (hf : q ≠ 0 → 10 ^ (q - 1) ≤ dval (bys q dig)) :
    ∃ s, F202 N dig (n' : Int) top sig prec (q : Int) = some (s, dig, (n' : Int), top, sig, prec) ∧
      Sp s (dval (bys q dig) + (if upB (dval (bys q dig)) (dg (UInt8.ofBitVec (dig q))) (dval (bys (n' - q - 1) (fun i => dig (q + 1 + i)))) then 1 else 0)) := by
  obtain ⟨o, ho⟩ : ∃ o, o = cpyA (upd (fun _ => 0#8) 0 (48#8)) 1 (Nat.min q (1442 - 1)) dig := ⟨_, rfl⟩
  have hmin : Nat.min q (1442 - 1) = q := Nat.min_eq_left (by omega)
  have ho0 : o 0 = 48#8 := by
    rw [ho]; unfold cpyA
    rw [bf (by rfl), upd_eq]
  have hoi : ∀ i, i < q → o (i + 1) = dig i := by
    intro i hi
    rw [ho, hmin]; unfold cpyA
    rw [bt (by simp [Nat.ble_eq, Nat.blt_eq]; omega), Nat.add_sub_cancel]
  have hbo : bys (q + 1) o = 48 :: bys q dig := by
    rw [bys_succ, ho0]
    congr 1
    exact bys_congr fun i hi => hoi i hi
  have hdq : ∀ x ∈ bys q dig, isd x := by
    have := sub_isd (a := 0) (b := q) hd (by omega)
    rwa [show (fun i => dig (0 + i)) = dig from by funext i; rw [Nat.zero_add]] at this
  have hdo : ∀ x ∈ bys (q + 1) o, isd x := by
    rw [hbo]
    intro x hx
    rcases List.mem_cons.1 hx with c | c
    · rw [c]; decide
    · exact hdq x c
  have hvo : dval (bys (q + 1) o) = dval (bys q dig) := by
    rw [hbo, dval_cons, show dg 48 = 0 from by decide, Nat.zero_mul, Nat.zero_add]
  have hodd : ((o q &&& 1#8) == 1#8) = decide (dval (bys q dig) % 2 = 1) := by
    have h1 : (o q &&& 1#8).toNat = (o q).toNat % 2 := by
      rw [BitVec.toNat_and, show (1#8).toNat = 2 ^ 1 - 1 from rfl, Nat.and_two_pow_sub_one_eq_mod]
    rw [eq_bv, h1, show (1#8).toNat = 1 from rfl]
    refine decide_eq_decide.2 ?_
    cases q with
    | zero => rw [ho0]; simp [bys, dval]
    | succ u =>
      rw [hoi u (by omega), bys_s, dval_snoc]
      have h2 := (bys_isd hdq (show u < u + 1 by omega)).1
      unfold dg
      have h3 : (UInt8.ofBitVec (dig u)).toNat = (dig u).toNat := rfl
      omega
  -- the digits behind
  have hL : ∀ (M i : Nat) (b : Bool), n' - i < M → q < i → i ≤ n' → b = decide (∀ j, j < i → q < j → dig j = 48#8) →
      iterL (F202_L19 N dig (n' : Int) top sig prec (q : Int) (q : Int) o) M (b, (i : Int)) = F202_16 N dig (n' : Int) top sig prec (q : Int) (q : Int) o (decide (∀ j, j < n' → q < j → dig j = 48#8)) := by
    intro M
    induction M with
    | zero => intro i b h; omega
    | succ M ih =>
      intro i b hM h1 h2 h3
      by_cases hin : i = n'
      · have hstep : F202_L19 N dig (n' : Int) top sig prec (q : Int) (q : Int) o (b, (i : Int)) = (F202_16 N dig (n' : Int) top sig prec (q : Int) (q : Int) o b).map Sum.inr := by
          unfold F202_L19 F202_L19b F202_20
          simp only []
          rw [bf (decide_eq_false (by omega))]
        rw [iterL, hstep, h3, hin]
        cases F202_16 N dig (n' : Int) top sig prec (q : Int) (q : Int) o (decide (∀ j, j < n' → q < j → dig j = 48#8)) <;> rfl
      · have hstep : F202_L19 N dig (n' : Int) top sig prec (q : Int) (q : Int) o (b, (i : Int)) = some (.inl (decide (∀ j, j < i + 1 → q < j → dig j = 48#8), ((i + 1 : Nat) : Int))) := by
          have hnew : decide (∀ j, j < i + 1 → q < j → dig j = 48#8) = (b && (dig i == 48#8)) := by
            rw [h3]
            by_cases hc : dig i = 48#8
            · rw [hc, show ((48#8 : BitVec 8) == 48#8) = true from rfl, Bool.and_true]
              refine decide_eq_decide.2 ⟨fun h j a b => h j (by omega) b, fun h j a b => ?_⟩
              by_cases hji : j = i
              · rw [hji]; exact hc
              · exact h j (by omega) b
            · rw [beq_eq_false_iff_ne.2 hc, Bool.and_false]
              exact decide_eq_false fun h => hc (h i (by omega) h1)
          unfold F202_L19 F202_L19b F202_20
          simp only []
          rw [bt (decide_eq_true (by omega)), hnew]
          cases b with
          | true =>
            rw [bt rfl, bt (by simp; omega), Int.toNat_natCast]
            unfold F202_21
            rw [w64_id (by omega), Bool.true_and]
            rfl
          | false =>
            rw [bf rfl]
            unfold F202_21
            rw [w64_id (by omega), Bool.false_and]
            rfl
        rw [iterL, hstep]
        exact ih (i + 1) _ (by omega) (by omega) (by omega) rfl
  have hE : ∀ x ∈ bys (n' - q - 1) (fun i => dig (q + 1 + i)), isd x := sub_isd hd (by omega)
  have hEz : decide (∀ j, j < n' → q < j → dig j = 48#8) = decide (dval (bys (n' - q - 1) (fun i => dig (q + 1 + i))) = 0) := by
    refine decide_eq_decide.2 ?_
    rw [dval_zero hE]
    constructor
    · intro h x hx
      unfold bys at hx
      obtain ⟨j, hj, he⟩ := List.mem_map.1 hx
      have := List.mem_range.1 hj
      rw [← he]
      show UInt8.ofBitVec (dig (q + 1 + j)) = 48
      rw [h (q + 1 + j) (by omega) (by omega)]
      rfl
    · intro h j h1 h2
      have := h (UInt8.ofBitVec (dig j)) (by
        unfold bys
        exact List.mem_map.2 ⟨j - q - 1, List.mem_range.2 (by omega), by show UInt8.ofBitVec (dig (q + 1 + (j - q - 1))) = _; rw [show q + 1 + (j - q - 1) = j from by omega]⟩)
      exact congrArg UInt8.toBitVec this
  unfold F202 F202_1
  rw [bf (decide_eq_false (by omega))]
  unfold F202_2 F202_3 F202_4
  rw [show min (q : Int) (n' : Int) = (q : Int) from by omega, bt (by decide), bt (by decide), bt (by simp; omega), bt (by decide), Int.toNat_natCast, bt (decide_eq_true (by omega)), ← ho]
  unfold F202_5 F202_15
  rw [bt (decide_eq_true (by omega))]
  unfold F202_18
  rw [w64_id (by omega), show (q : Int) + 1 = ((q + 1 : Nat) : Int) from by omega, hL N (q + 1) true (by omega) (by omega) (by omega) (by
    symm; exact decide_eq_true fun j h1 h2 => by omega), hEz]
  unfold F202_16
  rw [bt (by simp; omega), Int.toNat_natCast]
  have hqd := bys_isd hd hq
  -- which way
  have hup : F202_17 N dig (n' : Int) top sig prec (q : Int) (q : Int) o (decide (dval (bys (n' - q - 1) (fun i => dig (q + 1 + i))) = 0)) (dig q) = F202_6 N dig (n' : Int) top sig prec (q : Int) (q : Int) o (upB (dval (bys q dig)) (dg (UInt8.ofBitVec (dig q))) (dval (bys (n' - q - 1) (fun i => dig (q + 1 + i))))) := by
    have h1 := hqd.1
    have h2 := hqd.2
    have h3 : (UInt8.ofBitVec (dig q)).toNat = (dig q).toNat := rfl
    unfold F202_17 upB dg
    rw [h3] at h1 h2 ⊢
    rw [show (53#8).toNat = 53 from rfl, Int.toNat_natCast]
    by_cases c1 : 53 < (dig q).toNat
    · rw [bt (decide_eq_true c1), decide_eq_true (show 5 < (dig q).toNat - 48 by omega), Bool.true_or]
    · rw [bf (decide_eq_false c1), decide_eq_false (show ¬ 5 < (dig q).toNat - 48 by omega), Bool.false_or]
      by_cases c2 : (dig q).toNat = 53
      · rw [bt (by rw [eq_bv]; exact decide_eq_true c2), decide_eq_true (show (dig q).toNat - 48 = 5 by omega), Bool.true_and]
        by_cases c3 : dval (bys (n' - q - 1) (fun i => dig (q + 1 + i))) = 0
        · rw [decide_eq_true c3, Bool.not_true, bf rfl, bt (by simp; omega), decide_eq_false (show ¬ dval (bys (n' - q - 1) (fun i => dig (q + 1 + i))) ≠ 0 by omega), Bool.false_or, hodd]
        · rw [decide_eq_false c3, Bool.not_false, bt rfl, decide_eq_true (show dval (bys (n' - q - 1) (fun i => dig (q + 1 + i))) ≠ 0 from c3), Bool.true_or]
      · rw [bf (by rw [eq_bv]; exact decide_eq_false c2), decide_eq_false (show ¬ (dig q).toNat - 48 = 5 by omega), Bool.false_and]
  rw [hup]
  generalize upB (dval (bys q dig)) (dg (UInt8.ofBitVec (dig q))) (dval (bys (n' - q - 1) (fun i => dig (q + 1 + i)))) = up
  obtain ⟨o', p1, p2, p3⟩ := F202_6_ok (N := N) (top := top) (sig := sig) (prec := prec) (dig := dig) (n' := (n' : Int)) (q := (q : Int)) (k := q) (out := o) (up := up) (by omega) (by omega) hdo ho0
  rw [hvo] at p3
  obtain ⟨s, s1, s2⟩ := F202_7_ok (N := N) (top := top) (sig := sig) (prec := prec) (dig := dig) (n' := (n' : Int)) (q := (q : Int)) (k := q) (out := o') hN (by omega) (by omega) (by omega) p2 p3 (fun hq0 => Nat.le_trans (hf hq0) (by split <;> omega)) (by omega)
  refine ⟨s, by rw [p1, s1], ?_⟩
  rw [show ((q : Int) - (n' : Int)).toNat = 0 from by omega, Nat.pow_zero, Nat.mul_one] at s2
  exact s2
/-- round, where all digits are kept. -/
theorem round_all (hN : 5000 ≤ N) {n' q : Nat} (hn : n' ≤ 1440) (hn0 : n' ≠ 0) (hq : n' ≤ q) (hq2 : q ≤ 4096) (hd : ∀ x ∈ bys n' dig, isd x) (hf : 10 ^ (n' - 1) ≤ dval (bys n' dig)) :
    ∃ s, F202 N dig (n' : Int) top sig prec (q : Int) = some (s, dig, (n' : Int), top, sig, prec) ∧ Sp s (dval (bys n' dig) * 10 ^ (q - n')) := by
  obtain ⟨o, ho⟩ : ∃ o, o = cpyA (upd (fun _ => 0#8) 0 (48#8)) 1 (Nat.min n' (1442 - 1)) dig := ⟨_, rfl⟩
  have hmin : Nat.min n' (1442 - 1) = n' := Nat.min_eq_left (by omega)
  have ho0 : o 0 = 48#8 := by
    rw [ho]; unfold cpyA
    rw [bf (by rfl), upd_eq]
  have hoi : ∀ i, i < n' → o (i + 1) = dig i := by
    intro i hi
    rw [ho, hmin]; unfold cpyA
    rw [bt (by simp [Nat.ble_eq, Nat.blt_eq]; omega), Nat.add_sub_cancel]
  have hbo : bys (n' + 1) o = 48 :: bys n' dig := by
    rw [bys_succ, ho0]
    congr 1
    exact bys_congr fun i hi => hoi i hi
  have hdo : ∀ x ∈ bys (n' + 1) o, isd x := by
    rw [hbo]
    intro x hx
    rcases List.mem_cons.1 hx with c | c
    · rw [c]; decide
    · exact hd x c
  have hvo : dval (bys (n' + 1) o) = dval (bys n' dig) := by
    rw [hbo, dval_cons, show dg 48 = 0 from by decide, Nat.zero_mul, Nat.zero_add]
  unfold F202 F202_1
  rw [bf (decide_eq_false (by omega))]
  unfold F202_2 F202_3 F202_4
  rw [show min (q : Int) (n' : Int) = (n' : Int) from by omega, bt (by decide), bt (by decide), bt (by simp; omega), bt (by decide), Int.toNat_natCast, bt (decide_eq_true (by omega)), ← ho]
  unfold F202_5 F202_15
  rw [bf (decide_eq_false (by omega))]
  obtain ⟨o', p1, p2, p3⟩ := F202_6_ok (N := N) (top := top) (sig := sig) (prec := prec) (dig := dig) (n' := (n' : Int)) (q := (q : Int)) (k := n') (out := o) (up := false) (by omega) (by omega) hdo ho0
  rw [hvo] at p3
  have p3 : dval (bys (n' + 1) o') = dval (bys n' dig) := by simpa using p3
  obtain ⟨s, s1, s2⟩ := F202_7_ok (N := N) (top := top) (sig := sig) (prec := prec) (dig := dig) (n' := (n' : Int)) (q := (q : Int)) (k := n') (out := o') hN (by omega) (by omega) (by omega) p2 p3 (fun _ => hf) (fun _ => hn0)
  refine ⟨s, by rw [p1, s1], ?_⟩
  rw [show ((q : Int) - (n' : Int)).toNat = q - n' from by omega] at s2
  exact s2
end

/-! ### The rounding is the same -/
theorem rne_even (z : Nat) : rne (2 * z) false = z := by
  unfold rne
  rw [decide_eq_false (show ¬ 2 * z % 2 = 1 by omega)]
  simp
/-- Digits cut behind H, with c the next and E the rest, and δ/den left. -/
theorem rne_digits {H c E P den δ : Nat} (hc : c ≤ 9) (hE : E < P) (hδ : δ < den) :
    rne (2 * ((H * (10 * P) + c * P + E) * den + δ) / (den * (10 * P))) (decide (2 * ((H * (10 * P) + c * P + E) * den + δ) % (den * (10 * P)) ≠ 0)) = H + (if upB H c (if δ = 0 then E else 1) then 1 else 0) := by
  have hP : 0 < P := by omega
  have hden : 0 < den := by omega
  have hY : 0 < den * (10 * P) := Nat.mul_pos hden (by omega)
  -- the units
  have e0 : 2 * ((H * (10 * P) + c * P + E) * den + δ) = den * (10 * P) * (2 * H) + (2 * ((c * P + E) * den) + 2 * δ) := by grind
  by_cases h5 : c < 5
  · have hr : 2 * ((c * P + E) * den) + 2 * δ < den * (10 * P) := by
      have h1 : c * P ≤ 4 * P := Nat.mul_le_mul_right _ (by omega)
      have h2 : (c * P + E + 1) * den ≤ (5 * P) * den := Nat.mul_le_mul_right _ (by omega)
      have h3 : den * (10 * P) = 2 * ((5 * P) * den) := by grind
      rw [Nat.add_mul (c * P + E) 1, Nat.one_mul] at h2
      omega
    rw [e0, Nat.mul_add_div hY, Nat.div_eq_of_lt hr, Nat.add_zero]
    unfold rne upB
    rw [decide_eq_false (show ¬ 2 * H % 2 = 1 by omega), decide_eq_false (show ¬ 5 < c by omega), decide_eq_false (show ¬ c = 5 by omega)]
    simp
  · have hr : 2 * (((c - 5) * P + E) * den) + 2 * δ < den * (10 * P) := by
      have h1 : (c - 5) * P ≤ 4 * P := Nat.mul_le_mul_right _ (by omega)
      have h2 : ((c - 5) * P + E + 1) * den ≤ (5 * P) * den := Nat.mul_le_mul_right _ (by omega)
      have h3 : den * (10 * P) = 2 * ((5 * P) * den) := by grind
      rw [Nat.add_mul ((c - 5) * P + E) 1, Nat.one_mul] at h2
      omega
    obtain ⟨c', rfl⟩ : ∃ c', c = c' + 5 := ⟨c - 5, by omega⟩
    rw [Nat.add_sub_cancel] at hr
    have e1 : 2 * ((H * (10 * P) + (c' + 5) * P + E) * den + δ) = den * (10 * P) * (2 * H + 1) + (2 * ((c' * P + E) * den) + 2 * δ) := by grind
    rw [e1, Nat.mul_add_div hY, Nat.mul_add_mod, Nat.div_eq_of_lt hr, Nat.mod_eq_of_lt hr, Nat.add_zero]
    unfold rne upB
    rw [decide_eq_true (show (2 * H + 1) % 2 = 1 by omega), show (2 * H + 1) / 2 = H from by omega, Bool.true_and]
    have hs : (decide (2 * ((c' * P + E) * den) + 2 * δ ≠ 0)) = (decide (5 < c' + 5) || decide ((if δ = 0 then E else 1) ≠ 0)) := by
      rw [← Bool.decide_or]
      refine decide_eq_decide.2 ?_
      by_cases hδ0 : δ = 0
      · rw [if_pos hδ0, hδ0]
        constructor
        · intro h
          by_cases hc0 : c' = 0
          · subst hc0
            right
            intro h0
            rw [h0] at h
            simp at h
          · left; omega
        · intro h
          have : 0 < (c' * P + E) := by
            rcases h with k | k
            · have := Nat.mul_pos (show 0 < c' by omega) hP
              omega
            · omega
          have := Nat.mul_pos this hden
          omega
      · rw [if_neg hδ0]
        constructor
        · intro _; right; decide
        · intro _; omega
    rw [hs]
    by_cases hc0 : c' = 0
    · subst hc0
      rw [decide_eq_false (show ¬ 5 < 0 + 5 by omega), decide_eq_true (show 0 + 5 = 5 by omega), Bool.false_or, Bool.false_or, Bool.true_and]
      cases (decide ((if δ = 0 then E else 1) ≠ 0) || decide (H % 2 = 1)) <;> rfl
    · rw [decide_eq_true (show 5 < c' + 5 by omega), Bool.true_or, Bool.true_or, Bool.true_or]
      rfl
end Go.Proofs.YfwaawGreat
