/-
  dec.Scan = dmodel.Scan.
-/
import Derived.Test.YfwaawGreatY4
namespace Go.Proofs.YfwaawGreat
open Go.Aw
set_option linter.unusedVariables false
set_option linter.unusedSimpArgs false

section
variable {N : Nat} {t : List UInt8}
theorem mt_one (c : UInt8) (R : List UInt8) (d : UInt8) : mt (c :: R) [d] = bif (c ||| 32).toNat == d.toNat then 1 else 0 := by
  rw [mt, mt_nil]
/-- A word. -/
theorem dword {neg : Bool} {p : Nat} {c : UInt8} {R w : List UInt8} {st : Int} (hst0 : st = 0 ∨ st = 1) (hw : w = wInf ∨ w = wNan) (hd0 : w.getD 0 0 = if w = wInf then 105 else 110)
    (hc : ((c ||| 32).toNat == (w.getD 0 0).toNat) = true) :
    dgo N t ⟨st, [], 0, neg, false, [], 0, 0⟩ p (c :: R) = if mt (c :: R) w = (c :: R).length then dend N t ⟨9, w, (((c :: R).length : Nat) : Int), neg, false, [], 0, 0⟩ else some (wrg t (p + mt (c :: R) w)) := by
  have hlow : (c ||| 32).toNat = (w.getD 0 0).toNat := by rwa [beq_iff_eq] at hc
  have key : ∀ d : Fin 256, ((UInt8.ofNat d.val ||| 32).toNat = 105 ∨ (UInt8.ofNat d.val ||| 32).toNat = 110) → (UInt8.ofNat d.val).toNat = 105 ∨ (UInt8.ofNat d.val).toNat = 110 ∨ (UInt8.ofNat d.val).toNat = 73 ∨ (UInt8.ofNat d.val).toNat = 78 := by decide +kernel
  have hcase : c.toNat = 105 ∨ c.toNat = 110 ∨ c.toNat = 73 ∨ c.toNat = 78 := by
    have h2 := key ⟨c.toNat, c.toNat_lt⟩
    have e : UInt8.ofNat c.toNat = c := by simp
    simp only [e] at h2
    refine h2 ?_
    rw [hlow, hd0]
    split
    · exact Or.inl rfl
    · exact Or.inr rfl
  have hdg : dgB c = false := by unfold dgB; simp; omega
  have hsg : sgB c = false := by unfold sgB; simp; omega
  have hdt : (c.toNat == 46) = false := by simp; omega
  have h1 : dstep ⟨st, [], 0, neg, false, [], 0, 0⟩ c = some ⟨9, w, ((1 : Nat) : Int), neg, false, [], 0, 0⟩ := by
    unfold dstep
    rw [hdg, hsg, hdt, hlow]
    rcases hw with rfl | rfl
    · rw [if_pos rfl] at hd0
      rw [hd0]
      rcases hst0 with rfl | rfl <;> simp
    · rw [if_neg (by decide)] at hd0
      rw [hd0]
      rcases hst0 with rfl | rfl <;> simp
  have hwl : ∀ d ∈ w, 97 ≤ d.toNat := by
    rcases hw with rfl | rfl <;> decide
  have hwn : w.length ≤ 20 := by rcases hw with rfl | rfl <;> decide
  have hpos : 1 ≤ w.length := by rcases hw with rfl | rfl <;> decide
  have hwd := getD_cons w 0 (by omega)
  rw [List.drop_zero] at hwd
  have hmt : mt (c :: R) w = mt R (w.drop 1) + 1 := by
    rw [show mt (c :: R) w = mt (c :: R) (w.getD 0 0 :: w.drop (0 + 1)) from by rw [← hwd], mt, hc]
    rfl
  rw [dgo, h1]
  simp only []
  rw [dgo9 hwl hwn hpos, hmt, List.length_cons, show 1 + R.length = R.length + 1 from by omega, show p + 1 + mt R (w.drop 1) = p + (mt R (w.drop 1) + 1) from by omega]
  simp only [Nat.add_right_cancel_iff]
theorem F291_4_ok {neg : Bool} {p : Nat} {S : List UInt8} (st : Int) (hst0 : st = 0 ∨ st = 1) (hN : 1100 ≤ N) (ht : t.length ≤ 1024) (hS : t.drop p = S) (hp : p ≤ t.length)
    (hsg : st = 0 → ∀ c R, S = c :: R → sgB c = false) :
    F291_4 N t (p : Int) neg S = dgo N t ⟨st, [], 0, neg, false, [], 0, 0⟩ p S := by
  have hSl : S.length + p = t.length := by rw [← hS, List.length_drop]; omega
  have m1 : ∀ w : List UInt8, w.length ≤ 8 → F375 N S w = some (mt S w : Int) := fun w hw => F375_ok (by omega) (by omega) (by omega)
  unfold F291_4
  rw [m1 _ (by decide), bnd]
  unfold F291_5
  cases hi : ((mt S [105] : Int) == 1) with
  | true =>
    cases S with
    | nil => cases hi
    | cons c R =>
      have hc : ((c ||| 32).toNat == (105 : UInt8).toNat) = true := by
        rw [mt_one] at hi
        cases hx : ((c ||| 32).toNat == (105 : UInt8).toNat) with
        | true => rfl
        | false => rw [hx] at hi; cases hi
      rw [bt rfl, m1 _ (by decide), bnd, dword hst0 (Or.inl rfl) rfl hc]
      unfold F291_6 F291_7
      have hle := mt_le (c :: R) wInf
      show (bif (((mt (c :: R) wInf : Nat) : Int) == ((c :: R).length : Int)) && ((((mt (c :: R) wInf : Nat) : Int) == 3) || (((mt (c :: R) wInf : Nat) : Int) == 8)) then _ else (F376 N t (w64 ((p : Int) + ((mt (c :: R) wInf : Nat) : Int)))).bind _) = _
      generalize mt (c :: R) wInf = n at hle
      rw [show (p : Int) + (n : Int) = ((p + n : Nat) : Int) from by omega, dwrong (by omega) (by omega) ht]
      by_cases hn : n = (c :: R).length
      · rw [if_pos hn]
        unfold dend
        have e1 : (((n : Int)) == ((c :: R).length : Int)) = true := by rw [hn]; exact beq_self_eq_true _
        rw [e1, ← hn, Bool.true_and]
        have hpn : p + n = t.length := by omega
        rw [hpn]
        show _ = bif ((n : Int) == 3) || ((n : Int) == 8) then _ else _
        rfl
      · rw [if_neg hn]
        have e1 : (((n : Int)) == ((c :: R).length : Int)) = false := by rw [beq_eq_false_iff_ne]; omega
        rw [e1, Bool.false_and]
        rfl
  | false =>
    rw [bf rfl, m1 _ (by decide), bnd]
    unfold F291_8
    cases hnn : ((mt S [110] : Int) == 1) with
    | true =>
      cases S with
      | nil => cases hnn
      | cons c R =>
        have hc : ((c ||| 32).toNat == (110 : UInt8).toNat) = true := by
          rw [mt_one] at hnn
          cases hx : ((c ||| 32).toNat == (110 : UInt8).toNat) with
          | true => rfl
          | false => rw [hx] at hnn; cases hnn
        rw [bt rfl, m1 _ (by decide), bnd, dword hst0 (Or.inr rfl) rfl hc]
        unfold F291_9 F291_10
        have hle := mt_le (c :: R) wNan
        show (bif (((mt (c :: R) wNan : Nat) : Int) == ((c :: R).length : Int)) && (((mt (c :: R) wNan : Nat) : Int) == 3) then _ else (F376 N t (w64 ((p : Int) + ((mt (c :: R) wNan : Nat) : Int)))).bind _) = _
        generalize mt (c :: R) wNan = n at hle
        rw [show (p : Int) + (n : Int) = ((p + n : Nat) : Int) from by omega, dwrong (by omega) (by omega) ht]
        by_cases hn : n = (c :: R).length
        · rw [if_pos hn]
          unfold dend
          have e1 : (((n : Int)) == ((c :: R).length : Int)) = true := by rw [hn]; exact beq_self_eq_true _
          rw [e1, ← hn, Bool.true_and]
          have hpn : p + n = t.length := by omega
          rw [hpn]
          show _ = bif ((n : Int) == 3) then _ else _
          rfl
        · rw [if_neg hn]
          have e1 : (((n : Int)) == ((c :: R).length : Int)) = false := by rw [beq_eq_false_iff_ne]; omega
          rw [e1, Bool.false_and]
          rfl
    | false =>
      rw [bf rfl, F377_ok hst0 hN ht hS hp]
      · cases dgo N t ⟨st, [], 0, neg, false, [], 0, 0⟩ p S <;> rfl
      · intro c R hcR
        rw [hcR, mt_one] at hi hnn
        refine ⟨fun h => hsg h c R hcR, ?_, ?_⟩
        · cases hx : ((c ||| 32).toNat == 105) with
          | false => rfl
          | true => rw [show ((c ||| 32).toNat == (105 : UInt8).toNat) = true from hx] at hi; cases hi
        · cases hx : ((c ||| 32).toNat == 110) with
          | false => rfl
          | true => rw [show ((c ||| 32).toNat == (110 : UInt8).toNat) = true from hx] at hnn; cases hnn
theorem F291_3_ok {neg : Bool} {p : Nat} (hp : p ≤ t.length) : F291_3 N t (p : Int) neg = F291_4 N t (p : Int) neg (t.drop p) := by
  unfold F291_3
  rw [bt (by simp; omega)]
  simp only [Int.toNat_natCast, tk_all]
theorem F291_2_0 : F291_2 N t 0 = F291_3 N t 0 false := by
  unfold F291_2
  exact bf (by decide)
theorem F291_2_1 {c : UInt8} {R : List UInt8} : F291_2 N (c :: R) 1 = F291_3 N (c :: R) 1 (c.toNat == 45) := by
  have e1 : (c.toBitVec == 45#8) = (c.toNat == 45) := u8_beq c 45 (by decide)
  unfold F291_2
  rw [← e1]
  refine (bt (by decide)).trans (bt ?_)
  rw [List.length_cons]; simp <;> omega
theorem F291_11_c {c : UInt8} {R : List UInt8} {S : Option Scd} (h1 : sgB c = true → F291_3 N (c :: R) 1 (c.toNat == 45) = S) (h0 : sgB c = false → F291_3 N (c :: R) 0 false = S) : F291_1 N (c :: R) false = S := by
  have e1 : (c.toBitVec == 45#8) = (c.toNat == 45) := u8_beq c 45 (by decide)
  have e2 : (c.toBitVec == 43#8) = (c.toNat == 43) := u8_beq c 43 (by decide)
  have hcl : ((c :: R).length : Int) = (R.length : Int) + 1 := by simp
  have hc1 : (decide ((0 : Int) ≤ 0) && decide ((0 : Int) < ((c :: R).length : Int))) = true := by rw [hcl]; simp <;> omega
  unfold F291_1
  refine (bf rfl).trans ((bt rfl).trans ((bt hc1).trans ?_))
  have hs : F291_11 N (c :: R) (sgB c) = S := by
    unfold F291_11
    cases hb : sgB c with
    | true => exact (bt rfl).trans (F291_2_1.trans (h1 hb))
    | false => exact (bf rfl).trans (F291_2_0.trans (h0 hb))
  rw [← hs]
  show (bif c.toBitVec == 43#8 then _ else _) = _
  unfold sgB
  rw [e2]
  cases h43 : c.toNat == 43 with
  | true => exact bt rfl
  | false =>
    refine (bf rfl).trans ((bt hc1).trans ?_)
    rw [← e1]
    rfl
theorem F291_ok (hN : 1100 ≤ N) (ht : t.length ≤ 1024) : F291 N t = dgo N t ⟨0, [], 0, false, false, [], 0, 0⟩ 0 t := by
  have z0 : ((0 : Nat) : Int) = 0 := rfl
  have z1 : ((1 : Nat) : Int) = 1 := rfl
  unfold F291
  rw [decide_eq_false (by omega)]
  cases t with
  | nil =>
    have h9 := F291_4_ok (N := N) (t := []) (neg := false) (p := 0) 0 (Or.inl rfl) hN ht (S := []) rfl (by omega) (fun _ c R h => by cases h)
    have h8 := F291_3_ok (N := N) (t := []) (neg := false) (p := 0) (by omega)
    rw [z0] at h8 h9
    rw [← h9, List.drop_zero] at *
    rw [← h8, ← F291_2_0]
    rfl
  | cons c R =>
    refine F291_11_c ?_ ?_
    · intro hs
      have hnd : dgB c = false := by
        cases hd : dgB c with
        | false => rfl
        | true => have := dg_ns hd; rw [hs] at this; cases this
      have hstp : dstep ⟨0, [], 0, false, false, [], 0, 0⟩ c = some ⟨1, [], 0, c.toNat == 45, false, [], 0, 0⟩ := by
        unfold dstep; rw [hs, hnd]; simp
      rw [dgo, hstp]
      have h9 := F291_4_ok (N := N) (t := c :: R) (neg := c.toNat == 45) (p := 1) 1 (Or.inr rfl) hN ht (S := R) rfl (by rw [List.length_cons]; omega) (fun h => by cases h)
      have h8 := F291_3_ok (N := N) (t := c :: R) (neg := c.toNat == 45) (p := 1) (by rw [List.length_cons]; omega)
      rw [z1] at h8 h9
      exact h8.trans h9
    · intro hs
      have h9 := F291_4_ok (N := N) (t := c :: R) (neg := false) (p := 0) 0 (Or.inl rfl) hN ht (S := c :: R) rfl (by omega) (fun _ c' R' h => by
          injection h with h1 h2
          rw [← h1]; exact hs)
      have h8 := F291_3_ok (N := N) (t := c :: R) (neg := false) (p := 0) (by omega)
      rw [z0] at h8 h9
      exact h8.trans h9
/-- dec.Scan = dmodel.Scan. -/
theorem decScan_eq (hN : 1100 ≤ N) (t : List UInt8) : F311 N t = F291 N t := by
  by_cases ht : t.length ≤ 1024
  · rw [F311_ok hN ht, F291_ok hN ht]
  · unfold F311 F311_1 F291 F291_1
    rw [bt (decide_eq_true (by omega)), bt (decide_eq_true (by omega))]
end
end Go.Proofs.YfwaawGreat
