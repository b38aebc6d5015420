/-
  dec.Scan = dmodel.Scan.
-/
import Derived.Test.YfwaawGreatY3
namespace Go.Proofs.YfwaawGreat
open Go.Aw
set_option linter.unusedVariables false
set_option linter.unusedSimpArgs false

def isE (c : UInt8) : Bool := (c.toNat == 101) || (c.toNat == 69)
theorem isE_low (c : UInt8) : ((c ||| 32).toNat == 101) = isE c := by
  have key : ∀ d : Fin 256, ((UInt8.ofNat d.val ||| 32).toNat == 101) = (((UInt8.ofNat d.val).toNat == 101) || ((UInt8.ofNat d.val).toNat == 69)) := by decide +kernel
  have := key ⟨c.toNat, c.toNat_lt⟩
  unfold isE
  simpa using this
theorem dg_ne {c : UInt8} (h : dgB c = true) : isE c = false ∧ isDot c = false := by
  unfold dgB at h; unfold isE isDot
  simp only [Bool.and_eq_true, decide_eq_true_eq] at h
  simp; omega
theorem cutB_len1 (q : UInt8 → Bool) (s : List UInt8) : (cutB q s).1.length ≤ s.length := by
  rcases cutB_eq q s with ⟨c', v, k1, k2, k3, k4⟩ | ⟨k1, k2, k3⟩
  · have := congrArg List.length k3
    rw [List.length_append] at this
    omega
  · rw [k2]; exact Nat.le_refl _
section
variable {N : Nat} {t : List UInt8}
/-- Pieces of a number, whatever it is cut into. -/
theorem F377_5_ok {neg : Bool} {p : Nat} (hN : 1100 ≤ N) (ht : t.length ≤ 1024) {mant exp ip fp : List UInt8} {has : Bool} (n : Nat) :
    F377_5 N t (p : Int) neg mant exp has ip fp (n : Int) = F377_6 N t (p : Int) neg mant exp has ip fp (n : Int) (decide (n < fp.length)) := by
  unfold F377_5
  congr 1
  exact decide_eq_decide.2 (by omega)
theorem F377_1_ok {neg : Bool} {p : Nat} {mant exp : List UInt8} {has : Bool} (hN : 1100 ≤ N) (hm : mant.length ≤ 1024) :
    F377_1 N t (p : Int) neg mant exp has = F377_2 N t (p : Int) neg mant exp has (cutB isDot mant).1 ((cutB isDot mant).2.getD []) := by
  unfold F377_1
  have c2 : F402 N mant (46#8) (46#8) = some (bif (cutB isDot mant).2.isSome then ((cutB isDot mant).1.length : Int) else -1) := F402_ok (a := 46) (b := 46) (by decide) (by decide) (by omega) hm
  rcases cutB_eq isDot mant with ⟨c', v, k1, k2, k3, k4⟩ | ⟨k1, k2, k3⟩
  · rw [k2] at c2 ⊢
    generalize hu : (cutB isDot mant).1 = u
    rw [hu] at k3 c2
    have c2 : F402 N mant _ _ = some (u.length : Int) := c2
    rw [c2, bnd]
    unfold F377_22 F377_23
    simp only [Option.isSome_some, Option.getD_some]
    have hl : mant.length = u.length + v.length + 1 := by rw [k3, List.length_append, List.length_cons]; omega
    rw [bt (decide_eq_true (by omega)), w64_id (by omega), bt (by simp; omega), bt (by simp; omega), show ((u.length : Int) + 1).toNat = u.length + 1 from by omega]
    simp only [Int.toNat_natCast, Int.toNat_zero, List.drop_zero, Nat.sub_zero, tk_all]
    have e1 : mant.take u.length = u := by rw [k3, List.take_left]
    have e2 : mant.drop (u.length + 1) = v := by rw [k3, List.drop_append]; simp
    rw [e1, e2]
  · rw [k1, k2] at c2 ⊢
    have c2 : F402 N mant _ _ = some (-1) := c2
    rw [c2, bnd]
    unfold F377_22 F377_23
    exact bf (by rfl)
theorem F377_cut {neg : Bool} {p : Nat} {body : List UInt8} (hN : 1100 ≤ N) (hm : body.length ≤ 1024) :
    F377 N t body (p : Int) neg = F377_1 N t (p : Int) neg (cutB isE body).1 ((cutB isE body).2.getD []) (cutB isE body).2.isSome := by
  unfold F377
  have c2 : F402 N body (101#8) (69#8) = some (bif (cutB isE body).2.isSome then ((cutB isE body).1.length : Int) else -1) := F402_ok (a := 101) (b := 69) (by decide) (by decide) (by omega) hm
  rcases cutB_eq isE body with ⟨c', v, k1, k2, k3, k4⟩ | ⟨k1, k2, k3⟩
  · rw [k2] at c2 ⊢
    generalize hu : (cutB isE body).1 = u
    rw [hu] at k3 c2
    have c2 : F402 N body _ _ = some (u.length : Int) := c2
    rw [c2, bnd]
    unfold F377_24 F377_25
    simp only [Option.isSome_some, Option.getD_some]
    have hl : body.length = u.length + v.length + 1 := by rw [k3, List.length_append, List.length_cons]; omega
    rw [bt (decide_eq_true (by omega)), w64_id (by omega), bt (by simp; omega), bt (by simp; omega), show ((u.length : Int) + 1).toNat = u.length + 1 from by omega]
    simp only [Int.toNat_natCast, Int.toNat_zero, List.drop_zero, Nat.sub_zero, tk_all]
    have e1 : body.take u.length = u := by rw [k3, List.take_left]
    have e2 : body.drop (u.length + 1) = v := by rw [k3, List.drop_append]; simp
    rw [e1, e2]
  · rw [k1, k2] at c2 ⊢
    have c2 : F402 N body _ _ = some (-1) := c2
    rw [c2, bnd]
    unfold F377_24 F377_25
    exact bf (by rfl)
/-- A number. -/
theorem F377_ok {neg : Bool} {p : Nat} {S : List UInt8} {st : Int} (hst0 : st = 0 ∨ st = 1) (hN : 1100 ≤ N) (ht : t.length ≤ 1024) (hS : t.drop p = S) (hp : p ≤ t.length)
    (hh : ∀ c R, S = c :: R → (st = 0 → sgB c = false) ∧ ((c ||| 32).toNat == 105) = false ∧ ((c ||| 32).toNat == 110) = false) :
    F377 N t S (p : Int) neg = dgo N t ⟨st, [], 0, neg, false, [], 0, 0⟩ p S := by
  have hSl : S.length + p = t.length := by rw [← hS, List.length_drop]; omega
  have hwr : ∀ q : Nat, q ≤ t.length → (F376 N t (w64 (q : Int))).bind (fun y => some (y.1, y.2.1, y.2.2.1, y.2.2.2.1, y.2.2.2.2.1, y.2.2.2.2.2)) = some (wrg t q) := fun q hq => dwrong (by omega) hq ht
  have c3 : ∀ s : List UInt8, s.length ≤ 1024 → F403 N s = some (rnl dgB s : Int) := fun s hs => F403_ok (by omega) hs
  obtain ⟨D, R, h1, h2, h3⟩ := spn dgB S
  have hpR := drop_app (hS.trans h1)
  have hSD : S.length = D.length + R.length := by rw [h1, List.length_append]
  have hDE : ∀ c ∈ D, isE c = false := fun c hc => (dg_ne (h2 c hc)).1
  have hDd : ∀ c ∈ D, isDot c = false := fun c hc => (dg_ne (h2 c hc)).2
  obtain ⟨s1, hs1, hgoD⟩ : ∃ s1 : Int, ((s1 = st ∧ D = []) ∨ (s1 = 2 ∧ D ≠ [])) ∧ dgo N t ⟨st, [], 0, neg, false, [], 0, 0⟩ p S = dgo N t ⟨s1, [], 0, neg, false, D, 0, 0⟩ (p + D.length) R := by
    by_cases hz : D = []
    · exact ⟨st, Or.inl ⟨rfl, hz⟩, by rw [h1, hz]; rfl⟩
    · exact ⟨2, Or.inr ⟨rfl, hz⟩, by rw [h1, dgo01 hst0 hz h2]; rfl⟩
  have hm1 := cutB_len1 isE S
  rw [hgoD, F377_cut hN (by omega), F377_1_ok hN (by omega)]
  have hcut1 : cutB isE S = (D ++ (cutB isE R).1, (cutB isE R).2) := by rw [h1, cutB_app hDE]
  rw [hcut1]
  simp only []
  rw [cutB_app hDd]
  simp only []
  unfold F377_2
  rcases h3 with hR | ⟨c, R', hR, hq⟩
  · -- nothing behind the digits
    subst hR
    simp only [cutB_nil, List.append_nil, Option.getD_none, Option.isSome_none]
    rw [c3 D (by omega), bnd]
    unfold F377_3 F377_4
    rw [rnl_all h2, bf (decide_eq_false (by omega)), c3 [] (by simp), bnd]
    unfold F377_5 F377_6
    rw [bf (decide_eq_false (by simp [rnl]))]
    unfold F377_7
    rw [List.length_nil] at hSD
    rcases hs1 with ⟨rfl, hz⟩ | ⟨rfl, hz⟩
    · rw [bt (by rw [hz]; rfl), show (p : Int) + (D.length : Int) = ((p + D.length : Nat) : Int) from by omega, hwr _ (by omega), dgo]
      unfold dend
      rw [show p + D.length = t.length from by omega]
      rcases hst0 with rfl | rfl <;> rfl
    · have hne : (D == ([] : List UInt8)) = false := by rw [beq_eq_false_iff_ne]; exact hz
      rw [bf (by rw [hne]; rfl), bf rfl, F377_8_ok (by simp; omega), dgo, List.append_nil]
      rfl
  · have hRl : R.length = R'.length + 1 := by rw [hR]; rfl
    cases hdot : isDot c with
    | true =>
      have hc46 : c.toNat = 46 := by unfold isDot at hdot; simpa using hdot
      have hnp : isE c = false := by unfold isE; simp; omega
      have hns : sgB c = false := by unfold sgB; simp; omega
      obtain ⟨st2, hst2, hgo2⟩ : ∃ st2 : Int, ((st2 = 4 ∧ D = []) ∨ (st2 = 3 ∧ D ≠ [])) ∧ dgo N t ⟨s1, [], 0, neg, false, D, 0, 0⟩ (p + D.length) R = dgo N t ⟨st2, [], 0, neg, false, D, 0, 0⟩ (p + D.length + 1) R' := by
        rcases hs1 with ⟨rfl, hz⟩ | ⟨rfl, hz⟩
        · refine ⟨4, Or.inl ⟨rfl, hz⟩, ?_⟩
          have : dstep ⟨s1, [], 0, neg, false, D, 0, 0⟩ c = some ⟨4, [], 0, neg, false, D, 0, 0⟩ := by
            unfold dstep; rw [hq, hns, hc46]
            rcases hst0 with rfl | rfl <;> simp
          rw [hR, dgo, this]
        · refine ⟨3, Or.inr ⟨rfl, hz⟩, ?_⟩
          have : dstep ⟨2, [], 0, neg, false, D, 0, 0⟩ c = some ⟨3, [], 0, neg, false, D, 0, 0⟩ := by unfold dstep; rw [hq, hc46]; simp
          rw [hR, dgo, this]
      rw [hgo2, hR, cutB_pass hnp]
      simp only []
      rw [cutB_hit hdot]
      simp only [List.append_nil, Option.getD_some]
      rw [c3 D (by omega), bnd]
      unfold F377_3 F377_4
      rw [rnl_all h2, bf (decide_eq_false (by omega))]
      obtain ⟨D2, R2, g1, g2, g3⟩ := spn dgB R'
      have hR2 : R'.length = D2.length + R2.length := by rw [g1, List.length_append]
      have hD2P : ∀ c ∈ D2, isE c = false := fun c hc => (dg_ne (g2 c hc)).1
      have hcut2 : cutB isE R' = (D2 ++ (cutB isE R2).1, (cutB isE R2).2) := by rw [g1, cutB_app hD2P]
      have hfl : (D2 ++ (cutB isE R2).1).length ≤ 1024 := by
        have := cutB_len1 isE R2
        rw [List.length_append]; omega
      rw [hcut2]
      simp only []
      have hpos2 : t.drop (p + D.length + 1 + D2.length) = R2 := by
        have : t.drop (p + D.length + 1) = R' := (drop_cons (hpR.trans hR)).2.2.1
        exact drop_app (this.trans g1)
      obtain ⟨st3, hst3, hgo3'⟩ : ∃ st3 : Int, ((st3 = 4 ∧ D = [] ∧ D2 = []) ∨ (st3 = 3 ∧ D ≠ [] ∧ D2 = []) ∨ (st3 = 5 ∧ D2 ≠ [])) ∧ dgo N t ⟨st2, [], 0, neg, false, D, 0, 0⟩ (p + D.length + 1) R' = dgo N t ⟨st3, [], 0, neg, false, D ++ D2, (D2.length : Int), 0⟩ (p + D.length + 1 + D2.length) R2 := by
        by_cases hz2 : D2 = []
        · rw [g1, hz2, List.nil_append, List.append_nil]
          rcases hst2 with ⟨rfl, hz⟩ | ⟨rfl, hz⟩
          · exact ⟨4, Or.inl ⟨rfl, hz, rfl⟩, rfl⟩
          · exact ⟨3, Or.inr (Or.inl ⟨rfl, hz, rfl⟩), rfl⟩
        · refine ⟨5, Or.inr (Or.inr ⟨rfl, hz2⟩), ?_⟩
          rw [g1, dgo34 (by rcases hst2 with ⟨rfl, _⟩ | ⟨rfl, _⟩ <;> simp) hz2 g2 (by omega)]
      rw [hgo3', c3 _ hfl, bnd]
      unfold F377_5 F377_6
      rcases g3 with hRz | ⟨c2', R2', hRc, hq2⟩
      · subst hRz
        rw [List.length_nil] at hR2
        simp only [cutB_nil, List.append_nil, Option.getD_none, Option.isSome_none]
        rw [rnl_all g2, bf (decide_eq_false (by omega))]
        unfold F377_7
        have hml : ((D ++ c :: D2).length : Int) = ((D.length + 1 + D2.length : Nat) : Int) := by rw [List.length_append, List.length_cons]; omega
        rw [hml, dgo]
        by_cases hz : D = [] ∧ D2 = []
        · rw [bt (by rw [hz.1, hz.2]; rfl), show (p : Int) + ((D.length + 1 + D2.length : Nat) : Int) = ((p + D.length + 1 + D2.length : Nat) : Int) from by omega, hwr _ (by omega)]
          have hs4 : st3 = 4 := by
            rcases hst3 with ⟨h, _⟩ | ⟨_, h, _⟩ | ⟨_, h⟩
            · exact h
            · exact (h hz.1).elim
            · exact (h hz.2).elim
          unfold dend
          rw [hs4, show p + D.length + 1 + D2.length = t.length from by omega]
          rfl
        · have hne : ((D == ([] : List UInt8)) && (D2 == ([] : List UInt8))) = false := by
            rw [Bool.eq_false_iff]; intro k; rw [Bool.and_eq_true, beq_iff_eq, beq_iff_eq] at k; exact hz k
          rw [bf hne, bf rfl, F377_8_ok (by omega)]
          unfold dend
          rcases hst3 with ⟨rfl, h, h'⟩ | ⟨rfl, _⟩ | ⟨rfl, _⟩
          · exact (hz ⟨h, h'⟩).elim
          · rfl
          · rfl
      · have hR2l : R2.length = R2'.length + 1 := by rw [hRc]; rfl
        cases hp2 : isE c2' with
        | true =>
          rw [hRc, cutB_hit hp2]
          simp only [List.append_nil, Option.getD_some, Option.isSome_some]
          rw [rnl_all g2, bf (decide_eq_false (by omega))]
          unfold F377_7
          have hml : ((D ++ c :: D2).length : Int) = ((D.length + 1 + D2.length : Nat) : Int) := by rw [List.length_append, List.length_cons]; omega
          rw [hml]
          have hlow : ((c2' ||| 32).toNat == 101) = true := by rw [isE_low, hp2]
          have hfacts : (c2'.toNat == 46) = false ∧ sgB c2' = false ∧ ((c2' ||| 32).toNat == 105) = false ∧ ((c2' ||| 32).toNat == 110) = false := by
            rw [beq_iff_eq] at hlow
            refine ⟨?_, ?_, by rw [beq_eq_false_iff_ne]; omega, by rw [beq_eq_false_iff_ne]; omega⟩
            · unfold isE at hp2
              simp at hp2 ⊢; omega
            · unfold isE at hp2; unfold sgB
              simp at hp2 ⊢; omega
          by_cases hz : D = [] ∧ D2 = []
          · rw [bt (by rw [hz.1, hz.2]; rfl), show (p : Int) + ((D.length + 1 + D2.length : Nat) : Int) = ((p + D.length + 1 + D2.length : Nat) : Int) from by omega, hwr _ (by omega)]
            have hs4 : st3 = 4 := by
              rcases hst3 with ⟨h, _⟩ | ⟨_, h, _⟩ | ⟨_, h⟩
              · exact h
              · exact (h hz.1).elim
              · exact (h hz.2).elim
            have hno : dstep ⟨4, [], 0, neg, false, D ++ D2, (D2.length : Int), 0⟩ c2' = none := by
              unfold dstep; rw [hq2]; simp
            rw [hs4, dgo, hno]
          · have hne : ((D == ([] : List UInt8)) && (D2 == ([] : List UInt8))) = false := by
              rw [Bool.eq_false_iff]; intro k; rw [Bool.and_eq_true, beq_iff_eq, beq_iff_eq] at k; exact hz k
            rw [bf hne, bt rfl]
            have hstp : dstep ⟨st3, [], 0, neg, false, D ++ D2, (D2.length : Int), 0⟩ c2' = some ⟨6, [], 0, neg, false, D ++ D2, (D2.length : Int), 0⟩ := by
              unfold dstep; rw [hq2, hlow, hfacts.1, hfacts.2.1, hfacts.2.2.1, hfacts.2.2.2]
              rcases hst3 with ⟨rfl, h, h'⟩ | ⟨rfl, _⟩ | ⟨rfl, _⟩
              · exact (hz ⟨h, h'⟩).elim
              · simp
              · simp
            rw [dgo, hstp]
            simp only []
            rw [w64_id (n := (t.length : Int) - (R2'.length : Int)) (by omega), show (t.length : Int) - (R2'.length : Int) = ((p + D.length + 1 + D2.length + 1 : Nat) : Int) from by omega]
            exact F377_11_ok hN ht (drop_cons (hpos2.trans hRc)).2.2.1 (by omega) (by omega)
        | false =>
          rw [hRc, cutB_pass hp2]
          simp only []
          rw [rnl_app g2, rnl_stop hq2, bt (decide_eq_true (by rw [List.length_append, List.length_cons]; omega))]
          rw [w64_id (n := (p : Int) + (D.length : Int)) (by omega), w64_id (n := (p : Int) + (D.length : Int) + 1) (by omega), show (p : Int) + (D.length : Int) + 1 + ((D2.length + 0 : Nat) : Int) = ((p + D.length + 1 + D2.length : Nat) : Int) from by omega, hwr _ (by omega)]
          have hno : dstep ⟨st3, [], 0, neg, false, D ++ D2, (D2.length : Int), 0⟩ c2' = none := by
            unfold dstep; rw [hq2, isE_low, hp2]
            rcases hst3 with ⟨rfl, _⟩ | ⟨rfl, _⟩ | ⟨rfl, _⟩ <;> simp
          rw [dgo, hno]
    | false =>
      have hnd : (c.toNat == 46) = false := by unfold isDot at hdot; simpa using hdot
      cases hpc : isE c with
      | true =>
        rw [hR, cutB_hit hpc]
        simp only [cutB_nil, List.append_nil, Option.getD_none, Option.getD_some, Option.isSome_some]
        rw [c3 D (by omega), bnd]
        unfold F377_3 F377_4
        rw [rnl_all h2, bf (decide_eq_false (by omega)), c3 [] (by simp), bnd]
        unfold F377_5 F377_6
        rw [bf (decide_eq_false (by simp [rnl]))]
        unfold F377_7
        have hlow : ((c ||| 32).toNat == 101) = true := by rw [isE_low, hpc]
        have hfacts : sgB c = false ∧ ((c ||| 32).toNat == 105) = false ∧ ((c ||| 32).toNat == 110) = false := by
          rw [beq_iff_eq] at hlow
          refine ⟨?_, by rw [beq_eq_false_iff_ne]; omega, by rw [beq_eq_false_iff_ne]; omega⟩
          unfold isE at hpc; unfold sgB
          simp at hpc ⊢; omega
        rcases hs1 with ⟨rfl, hz⟩ | ⟨rfl, hz⟩
        · rw [bt (by rw [hz]; rfl), show (p : Int) + (D.length : Int) = ((p + D.length : Nat) : Int) from by omega, hwr _ (by omega)]
          have hno : dstep ⟨s1, [], 0, neg, false, D, 0, 0⟩ c = none := by
            unfold dstep; rw [hq, hnd, hfacts.1, hfacts.2.1, hfacts.2.2]
            rcases hst0 with rfl | rfl <;> simp
          rw [dgo, hno]
        · have hne : (D == ([] : List UInt8)) = false := by rw [beq_eq_false_iff_ne]; exact hz
          rw [bf (by rw [hne]; rfl), bt rfl]
          have hstp : dstep ⟨2, [], 0, neg, false, D, 0, 0⟩ c = some ⟨6, [], 0, neg, false, D, 0, 0⟩ := by
            unfold dstep; rw [hq, hlow, hnd]; simp
          rw [dgo, hstp]
          simp only []
          rw [w64_id (n := (t.length : Int) - (R'.length : Int)) (by omega), show (t.length : Int) - (R'.length : Int) = ((p + D.length + 1 : Nat) : Int) from by omega]
          have := F377_11_ok (N := N) (t := t) (neg := neg) (D1 := D) (D2 := []) (w := []) (a := 0) (p := p + D.length + 1) (E := R') hN ht (drop_cons (hpR.trans hR)).2.2.1 (by omega) (by simp; omega)
          rw [this, List.append_nil]
          rfl
      | false =>
        rw [hR, cutB_pass hpc]
        simp only []
        rw [cutB_pass hdot]
        simp only []
        have hfl : (D ++ c :: (cutB isDot (cutB isE R').1).1).length ≤ 1024 := by
          have a1 := cutB_len1 isE R'
          have a2 := cutB_len1 isDot (cutB isE R').1
          rw [List.length_append, List.length_cons]; omega
        rw [c3 _ hfl, bnd]
        unfold F377_3 F377_4
        rw [rnl_app h2, rnl_stop hq, bt (decide_eq_true (by rw [List.length_append, List.length_cons]; omega))]
        rw [show (p : Int) + ((D.length + 0 : Nat) : Int) = ((p + D.length : Nat) : Int) from by omega, hwr _ (by omega)]
        have hno : dstep ⟨s1, [], 0, neg, false, D, 0, 0⟩ c = none := by
          unfold dstep; rw [hq, hnd, isE_low, hpc]
          rcases hs1 with ⟨rfl, hz⟩ | ⟨rfl, hz⟩
          · obtain ⟨x1, x2, x3⟩ := hh c R' (by rw [h1, hz, hR]; rfl)
            rw [x2, x3]
            rcases hst0 with rfl | rfl
            · rw [x1 rfl]; simp
            · simp
          · simp
        rw [dgo, hno]
end
end Go.Proofs.YfwaawGreat
