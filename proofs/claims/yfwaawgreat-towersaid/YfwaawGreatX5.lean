/-
  hexa.Scan = hmodel.Scan.
-/
import Derived.Test.YfwaawGreatX4
namespace Go.Proofs.YfwaawGreat
open Go.Aw
set_option linter.unusedVariables false
set_option linter.unusedSimpArgs false

section
variable {N : Nat} {t : List UInt8}
theorem F304_3_ok {neg : Bool} {p : Nat} {S : List UInt8} (st : Int) (hst : st = 0 ∨ st = 1) (hN : 1100 ≤ N) (ht : t.length ≤ 1024) (hS : t.drop p = S) (hp : p ≤ t.length) (hp1 : p ≤ 1)
    (hsg : st = 0 → ∀ c R, S = c :: R → sgB c = false) :
    F304_3 N t (p : Int) neg = hgo N t ⟨neg, false, 0, 0, st, []⟩ p S := by
  have hSl : S.length + p = t.length := by rw [← hS, List.length_drop]; omega
  have hwr : ∀ q : Nat, q ≤ t.length → (F380 N t (q : Int)).bind (fun y => some (y.1, y.2.1, y.2.2.1, y.2.2.2.1, y.2.2.2.2.1, y.2.2.2.2.2)) = some (wrg t q) := fun q hq => by
    rw [F380_ok (by omega) hq, bnd]
  unfold F304_3 F304_4
  cases S with
  | nil =>
    have hpl := drop_nil hS hp
    rw [bt (by rw [hpl]; simp), bt rfl, hwr _ hp, hgo]
    unfold hend
    rw [bt (by rcases hst with rfl | rfl <;> rfl), hpl]
  | cons c R =>
    obtain ⟨hpl, hg, hR', hc⟩ := drop_cons hS
    rw [bf (by rw [beq_eq_false_iff_ne]; omega), bt (by simp; omega)]
    simp only [Int.toNat_natCast, hg]
    have e48 : (c.toBitVec != 48#8) = !(c.toNat == 48) := by rw [← u8_beq c 48 (by decide)]; rfl
    rw [e48]
    have hs0 : (st == 0 && sgB c) = false := by
      rcases hst with rfl | rfl
      · rw [hsg rfl c R rfl]; rfl
      · rfl
    cases h48 : c.toNat == 48 with
    | false =>
      have hno : hstep ⟨neg, false, 0, 0, st, []⟩ c = none := by
        unfold hstep; rw [h48, hs0]
        rcases hst with rfl | rfl <;> simp
      rw [bt (by rfl), hwr _ hp, hgo, hno]
    | true =>
      have hstp : hstep ⟨neg, false, 0, 0, st, []⟩ c = some ⟨neg, false, 0, 0, 2, []⟩ := by
        unfold hstep; rw [h48, hs0]
        rcases hst with rfl | rfl <;> simp
      rw [bf (by rfl), hgo, hstp, w64_id (n := (p : Int) + 1) (by omega), show (p : Int) + 1 = ((p + 1 : Nat) : Int) from by omega]
      simp only []
      unfold F304_5
      rw [w64_id (n := (p : Int) + 1) (by omega), show (p : Int) + 1 = ((p + 1 : Nat) : Int) from by omega]
      cases R with
      | nil =>
        have hpl' := drop_nil hR' (by omega)
        rw [bt (by rw [hpl']; simp), bt rfl, hwr _ (by omega), hgo]
        unfold hend
        rw [bt (by rfl), hpl']
      | cons c2 R2 =>
        obtain ⟨hpl2, hg2, hR2, hc2⟩ := drop_cons hR'
        rw [bf (by rw [beq_eq_false_iff_ne]; omega), bt (by simp; omega)]
        simp only [Int.toNat_natCast, hg2]
        have e120 : ((c2.toBitVec ||| 32#8) != 120#8) = !((c2 ||| 32).toNat == 120) := by rw [← u8_beq (c2 ||| 32) 120 (by decide)]; rfl
        rw [e120]
        cases hx : (c2 ||| 32).toNat == 120 with
        | false =>
          have hno : hstep ⟨neg, false, 0, 0, 2, []⟩ c2 = none := by
            unfold hstep; rw [hx]; simp
          rw [bt (by rfl), hwr _ (by omega), hgo, hno]
        | true =>
          have hstp2 : hstep ⟨neg, false, 0, 0, 2, []⟩ c2 = some ⟨neg, false, 0, 0, 3, []⟩ := by
            unfold hstep; rw [hx]; simp
          rw [bf (by rfl), hgo, hstp2, w64_id (by omega), show (p : Int) + 2 = ((p + 1 + 1 : Nat) : Int) from by omega]
          exact F304_6_ok hN ht hR2 (by omega)
theorem F304_2_0 : F304_2 N t 0 = F304_3 N t 0 false := by
  unfold F304_2
  exact bf (by decide)
theorem F304_2_1 {c : UInt8} {R : List UInt8} : F304_2 N (c :: R) 1 = F304_3 N (c :: R) 1 (c.toNat == 45) := by
  have e1 : (c.toBitVec == 45#8) = (c.toNat == 45) := u8_beq c 45 (by decide)
  unfold F304_2
  rw [← e1]
  refine (bt (by decide)).trans (bt ?_)
  rw [List.length_cons]; simp <;> omega
theorem F304_28_c {c : UInt8} {R : List UInt8} {S : Option Scd} (h1 : sgB c = true → F304_3 N (c :: R) 1 (c.toNat == 45) = S) (h0 : sgB c = false → F304_3 N (c :: R) 0 false = S) : F304_1 N (c :: R) false = S := by
  have e1 : (c.toBitVec == 45#8) = (c.toNat == 45) := u8_beq c 45 (by decide)
  have e2 : (c.toBitVec == 43#8) = (c.toNat == 43) := u8_beq c 43 (by decide)
  have hcl : ((c :: R).length : Int) = (R.length : Int) + 1 := by simp
  have hc1 : (decide ((0 : Int) ≤ 0) && decide ((0 : Int) < ((c :: R).length : Int))) = true := by rw [hcl]; simp <;> omega
  unfold F304_1
  refine (bf rfl).trans ((bt rfl).trans ((bt hc1).trans ?_))
  have hs : F304_28 N (c :: R) (sgB c) = S := by
    unfold F304_28
    cases hb : sgB c with
    | true => exact (bt rfl).trans (F304_2_1.trans (h1 hb))
    | false => exact (bf rfl).trans (F304_2_0.trans (h0 hb))
  rw [← hs]
  show (bif c.toBitVec == 43#8 then _ else _) = _
  unfold sgB
  rw [e2]
  cases h43 : c.toNat == 43 with
  | true => exact bt rfl
  | false =>
    refine (bf rfl).trans ((bt hc1).trans ?_)
    rw [← e1]
    rfl
theorem F304_ok (hN : 1100 ≤ N) (ht : t.length ≤ 1024) : F304 N t = hgo N t ⟨false, false, 0, 0, 0, []⟩ 0 t := by
  have z0 : ((0 : Nat) : Int) = 0 := rfl
  have z1 : ((1 : Nat) : Int) = 1 := rfl
  unfold F304
  rw [decide_eq_false (by omega)]
  cases t with
  | nil =>
    have h9 := F304_3_ok (N := N) (t := []) (neg := false) (p := 0) 0 (Or.inl rfl) hN ht (S := []) rfl (by omega) (by omega) (fun _ c R h => by cases h)
    rw [z0] at h9
    rw [← h9, ← F304_2_0]
    rfl
  | cons c R =>
    refine F304_28_c ?_ ?_
    · intro hs
      have hstp : hstep ⟨false, false, 0, 0, 0, []⟩ c = some ⟨c.toNat == 45, false, 0, 0, 1, []⟩ := by
        unfold hstep; rw [hs]; simp
      rw [hgo, hstp]
      have h9 := F304_3_ok (N := N) (t := c :: R) (neg := c.toNat == 45) (p := 1) 1 (Or.inr rfl) hN ht (S := R) rfl (by rw [List.length_cons]; omega) (by omega) (fun h => by cases h)
      rw [z1] at h9
      exact h9
    · intro hs
      have h9 := F304_3_ok (N := N) (t := c :: R) (neg := false) (p := 0) 0 (Or.inl rfl) hN ht (S := c :: R) rfl (by omega) (by omega) (fun _ c' R' h => by
          injection h with h1 h2
          rw [← h1]; exact hs)
      rw [z0] at h9
      exact h9
/-- hexa.Scan = hmodel.Scan. -/
theorem hexScan_eq (hN : 1100 ≤ N) (t : List UInt8) : F323 N t = F304 N t := by
  by_cases ht : t.length ≤ 1024
  · rw [F323_ok hN ht, F304_ok hN ht]
  · unfold F323 F323_1 F304 F304_1
    rw [bt (decide_eq_true (by omega)), bt (decide_eq_true (by omega))]
end
end Go.Proofs.YfwaawGreat
