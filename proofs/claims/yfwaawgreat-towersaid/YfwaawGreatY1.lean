/-
  dec.Scan: the scanner's loop.
-/
import Derived.Test.YfwaawGreatX5
import Derived.Test.YfwaawGreatG33
namespace Go.Proofs.YfwaawGreat
open Go.Aw
set_option linter.unusedVariables false
set_option linter.unusedSimpArgs false

structure DS where
  st : Int
  word : List UInt8
  at' : Int
  neg : Bool
  en : Bool
  dig : List UInt8
  fr : Int
  ex : Int
def wInf : List UInt8 := [105, 110, 102, 105, 110, 105, 116, 121]
def wNan : List UInt8 := [110, 97, 110]
def dstep (s : DS) (c : UInt8) : Option DS :=
  bif dgB c then
    bif ((s.st == 6) || (s.st == 7)) || (s.st == 8) then some { s with ex := min (w64 (w64 (10 * s.ex) + dgv c)) 1000000, st := 8 }
    else bif ((s.st == 3) || (s.st == 4)) || (s.st == 5) then some { s with fr := w64 (s.fr + 1), st := 5, dig := s.dig ++ [c] }
    else bif (s.st == 0) || (s.st == 1) then some { s with st := 2, dig := s.dig ++ [c] }
    else bif s.st == 2 then some { s with dig := s.dig ++ [c] }
    else none
  else bif (s.st == 0) && sgB c then some { s with neg := c.toNat == 45, st := 1 }
  else bif (s.st == 6) && sgB c then some { s with en := c.toNat == 45, st := 7 }
  else bif (s.st == 2) && (c.toNat == 46) then some { s with st := 3 }
  else bif decide (s.st ≤ 1) && (c.toNat == 46) then some { s with st := 4 }
  else bif decide (s.st ≤ 1) && ((c ||| 32).toNat == 105) then some { s with st := 9, word := wInf, at' := 1 }
  else bif decide (s.st ≤ 1) && ((c ||| 32).toNat == 110) then some { s with st := 9, word := wNan, at' := 1 }
  else bif ((s.st == 9) && decide (s.at' < (s.word.length : Int))) && ((c ||| 32).toNat == (s.word.getD s.at'.toNat 0).toNat) then some { s with at' := w64 (s.at' + 1) }
  else bif (((s.st == 2) || (s.st == 3)) || (s.st == 5)) && ((c ||| 32).toNat == 101) then some { s with st := 6 }
  else none
def dfin (N : Nat) (neg : Bool) (d : List UInt8) (e : Int) : Option Scd :=
  (F39 N neg d e).bind fun y => bif !y.2.2.2 then some (4#8, false, [], 0, 0, 0) else some (0#8, y.1, y.2.1, y.2.2.1, 0, 0)
def dend (N : Nat) (t : List UInt8) (s : DS) : Option Scd :=
  bif (((s.st == 2) || (s.st == 3)) || (s.st == 5)) || (s.st == 8) then dfin N s.neg s.dig (w64 ((bif s.en then w64 (0 - s.ex) else s.ex) - s.fr))
  else bif s.st == 9 then
    bif (s.word == wNan) && (s.at' == 3) then some (2#8, false, [], 0, 0, 0)
    else bif (s.word == wInf) && ((s.at' == 3) || (s.at' == 8)) then some (1#8, s.neg, [], 0, 0, 0)
    else some (wrg t t.length)
  else some (wrg t t.length)
def dgo (N : Nat) (t : List UInt8) : DS → Nat → List UInt8 → Option Scd
  | s, _, [] => dend N t s
  | s, p, c :: R => match dstep s c with
    | some s' => dgo N t s' (p + 1) R
    | none => some (wrg t p)
/-- The word is of lower letters. -/
structure DW (s : DS) : Prop where
  w : ∀ c ∈ s.word, c.toNat < 128
  a : 0 ≤ s.at'
  m : s.at' ≤ 2000
theorem dstep_ascii {s s' : DS} {c : UInt8} (hw : DW s) (h : dstep s c = some s') : c.toNat < 128 := by
  rcases Nat.lt_or_ge c.toNat 128 with k | k
  · exact k
  · exfalso
    have a1 : sgB c = false := by unfold sgB; simp; omega
    have a2 : dgB c = false := by unfold dgB; simp; omega
    have a3 : 128 ≤ (c ||| 32).toNat := by
      rw [UInt8.toNat_or]
      have : c.toNat ≤ c.toNat ||| (32 : UInt8).toNat := Nat.left_le_or
      omega
    have a4 : (decide (s.at' < (s.word.length : Int)) && ((c ||| 32).toNat == (s.word.getD s.at'.toNat 0).toNat)) = false := by
      by_cases hl : s.at' < (s.word.length : Int)
      · have h0 := hw.a
        have hl' : s.at'.toNat < s.word.length := by omega
        have hm : s.word.getD s.at'.toNat 0 ∈ s.word := by
          rw [List.getD_eq_getElem?_getD, List.getElem?_eq_getElem hl']; exact List.getElem_mem ..
        have := hw.w _ hm
        rw [beq_eq_false_iff_ne.2 (by omega)]; simp
      · rw [decide_eq_false hl]; rfl
    unfold dstep at h
    rw [Bool.and_assoc (s.st == 9), a4, a1, a2, beq_eq_false_iff_ne.2 (show c.toNat ≠ 46 by omega), beq_eq_false_iff_ne.2 (show (c ||| 32).toNat ≠ 105 by omega), beq_eq_false_iff_ne.2 (show (c ||| 32).toNat ≠ 110 by omega), beq_eq_false_iff_ne.2 (show (c ||| 32).toNat ≠ 101 by omega)] at h
    simp only [Bool.and_false, cond_false] at h
    cases h
theorem dstep_w {s s' : DS} {c : UInt8} (hw : DW s) (h : dstep s c = some s') : (∀ c ∈ s'.word, c.toNat < 128) ∧ 0 ≤ s'.at' ∧ (s'.at' ≤ s.at' + 1 ∨ s'.at' ≤ 1) := by
  have hi : ∀ c ∈ wInf, c.toNat < 128 := by decide
  have hn : ∀ c ∈ wNan, c.toNat < 128 := by decide
  have h0 := hw.a
  have hm := hw.m
  have ho : (∀ c ∈ s.word, c.toNat < 128) ∧ 0 ≤ s.at' ∧ (s.at' ≤ s.at' + 1 ∨ s.at' ≤ 1) := ⟨hw.w, hw.a, Or.inl (by omega)⟩
  unfold dstep at h
  simp only [cond_eq_ite] at h
  repeat' split at h
  all_goals first
    | (cases h; exact ho)
    | (cases h; exact ⟨hi, (by decide : (0 : Int) ≤ 1), Or.inr (by decide : (1 : Int) ≤ 1)⟩)
    | (cases h; exact ⟨hn, (by decide : (0 : Int) ≤ 1), Or.inr (by decide : (1 : Int) ≤ 1)⟩)
    | (cases h; exact ⟨hw.w, by simp only []; rw [w64_id (by omega)]; omega, Or.inl (by simp only []; rw [w64_id (by omega)]; omega)⟩)
    | cases h

/-- The scanner's loop. -/
theorem dloop {N : Nat} {t : List UInt8} (ht : t.length ≤ 1024) : ∀ (R : List UInt8) (M p : Nat) (s : DS) (dg : NS (BitVec 8)), R.length < M → t.drop p = R → p ≤ t.length → dg.2.1 ≤ p → bys dg.2.1 dg.2.2 = s.dig → DW s → s.at' ≤ p + 1 →
    iterL (F311_L5 N t) M (s.st, s.word, s.at', s.neg, s.en, dg, s.fr, s.ex, p) = dgo N t s p R := by
  intro R
  induction R with
  | nil =>
    intro M p s dg hM hR hp hdl hd hw hat
    obtain ⟨M, rfl⟩ : ∃ K, M = K + 1 := ⟨M - 1, by omega⟩
    have hpl := drop_nil hR hp
    have hstep : F311_L5 N t (s.st, s.word, s.at', s.neg, s.en, dg, s.fr, s.ex, p) = (dend N t s).map Sum.inr := by
      unfold F311_L5 F311_L5b F311_6 F311_4
      simp only []
      rw [show Nat.blt p t.length = false from by rw [hpl, Bool.eq_false_iff]; intro k; rw [Nat.blt_eq] at k; omega]
      simp only [cond_false]
      congr 1
      have hsw : F383 N s.neg s.en dg s.fr s.ex s.st s.word s.at' (t.length : Int) = F383_2 N s.neg s.en dg s.fr s.ex s.st s.word s.at' (t.length : Int) ((((s.st == 2) || (s.st == 3)) || (s.st == 5)) || (s.st == 8)) := by
        unfold F383 F383_9 F383_10 F383_11
        generalize (s.st == 2) = b5
        generalize (s.st == 3) = b6
        generalize (s.st == 5) = b7
        cases b5 <;> cases b6 <;> cases b7 <;> rfl
      rw [hsw]
      unfold dend F383_2 F383_6 F383_7 F383_8 F383_3 F383_4 F383_5 F383_1 dfin wrg
      rw [hd, if_neg (by omega)]
      have hwn : (s.word == ([110, 97, 110] : List UInt8)) = (s.word == wNan) := rfl
      have hwi : (s.word == ([105, 110, 102, 105, 110, 105, 116, 121] : List UInt8)) = (s.word == wInf) := rfl
      rw [hwn, hwi]
      have hx : ∀ z : Int, ((F39 N s.neg s.dig z).bind fun y4 => bif !y4.2.2.2 then some ((4#8, false, ([] : List UInt8), 0, 0, 0) : Scd) else some (0#8, y4.1, y4.2.1, y4.2.2.1, 0, 0)) = dfin N s.neg s.dig z := fun z => rfl
      simp only [hx]
      generalize ((((s.st == 2) || (s.st == 3)) || (s.st == 5)) || (s.st == 8)) = b5
      cases b5 with
      | true =>
        simp only [cond_true]
        cases s.en <;> simp only [cond_true, cond_false] <;> (cases dfin N s.neg s.dig _ <;> rfl)
      | false =>
        simp only [cond_false]
        generalize (s.st == 9) = b9
        generalize ((s.word == wNan) && (s.at' == 3)) = b1
        generalize ((s.word == wInf) && ((s.at' == 3) || (s.at' == 8))) = b2
        cases b9 <;> cases b1 <;> cases b2 <;> rfl
    rw [iterL, hstep, dgo]
    cases dend N t s <;> rfl
  | cons c R ih =>
    intro M p s dg hM hR hp hdl hd hw hat
    obtain ⟨M, rfl⟩ : ∃ K, M = K + 1 := ⟨M - 1, by omega⟩
    obtain ⟨hpl, hg, hR', hc⟩ := drop_cons hR
    have hrc := rune_rc hc
    obtain ⟨r, hr⟩ : ∃ r, runeAt t p = r := ⟨_, rfl⟩
    rw [hr] at hrc
    have hbl : Nat.blt p t.length = true := by simpa [Nat.blt_eq] using hpl
    have hlim : decide (dg.2.1 < 4294967296) = true := decide_eq_true (by omega)
    have e43 := hrc.beq 43 (by decide)
    have e45 := hrc.beq 45 (by decide)
    have e46 := hrc.beq 46 (by decide)
    have l48 := hrc.le 48 (by decide)
    have l57 := hrc.ge 57 (by decide)
    have e105 := hrc.low.beq 105 (by decide)
    have e110 := hrc.low.beq 110 (by decide)
    have e101 := hrc.low.beq 101 (by decide)
    simp only [Int.cast_ofNat_Int] at e43 e45 e46 l48 l57 e105 e110 e101
    have key : match dstep s c with
        | some s' => ∃ dg' : NS (BitVec 8), F311_L5 N t (s.st, s.word, s.at', s.neg, s.en, dg, s.fr, s.ex, p) = some (.inl (s'.st, s'.word, s'.at', s'.neg, s'.en, dg', s'.fr, s'.ex, nxt t p)) ∧ dg'.2.1 ≤ p + 1 ∧ (c.toNat < 128 → bys dg'.2.1 dg'.2.2 = s'.dig)
        | none => F311_L5 N t (s.st, s.word, s.at', s.neg, s.en, dg, s.fr, s.ex, p) = some (.inr (wrg t p)) := by
      have ha : c.toNat < 128 → bys (app dg (BitVec.ofInt 8 r)).2.1 (app dg (BitVec.ofInt 8 r)).2.2 = s.dig ++ [c] := by
        intro h
        show bys (dg.2.1 + 1) (upd dg.2.2 dg.2.1 (BitVec.ofInt 8 r)) = _
        rw [bys_snoc, hd, ofi8 hrc h]
      have hal : (app dg (BitVec.ofInt 8 r)).2.1 ≤ p + 1 := by show dg.2.1 + 1 ≤ p + 1; omega
      have hdl' : dg.2.1 ≤ p + 1 := by omega
      have hwr : F311_8 N (p : Int) r = some (.inr (wrg t p)) := by
        unfold F311_8 wrg
        rw [if_pos hpl, hr]; rfl
      unfold F311_L5 F311_L5b F311_6 F311_7
      simp only [hbl, cond_true, hr]
      rw [l48, l57]
      unfold F311_9
      cases hdg : (decide (48 ≤ c.toNat) && decide (c.toNat ≤ 57)) with
      | true =>
        simp only [cond_true]
        have hdc : dgB c = true := hdg
        have hdv : w64 (w32 (r - 48)) = dgv c := by
          have : r = c.toNat := by
            simp only [Bool.and_eq_true, decide_eq_true_eq] at hdg
            rcases hrc with ⟨h1, h2⟩ | ⟨h1, h2, h3⟩ <;> omega
          rw [this]; rfl
        have h22 : F311_22 N t s.st s.word s.at' s.neg s.en dg s.fr s.ex (nxt t p) (p : Int) r (s.st == 6) = F311_12 N t s.st s.word s.at' s.neg s.en dg s.fr s.ex (nxt t p) (p : Int) r (((s.st == 6) || (s.st == 7)) || (s.st == 8)) := by
          unfold F311_22 F311_23
          generalize (s.st == 6) = b1
          generalize (s.st == 7) = b2
          cases b1 <;> cases b2 <;> rfl
        have h20 : F311_20 N t s.st s.word s.at' s.neg s.en dg s.fr s.ex (nxt t p) (p : Int) r (s.st == 3) = F311_14 N t s.st s.word s.at' s.neg s.en dg s.fr s.ex (nxt t p) (p : Int) r (((s.st == 3) || (s.st == 4)) || (s.st == 5)) := by
          unfold F311_20 F311_21
          generalize (s.st == 3) = b1
          generalize (s.st == 4) = b2
          cases b1 <;> cases b2 <;> rfl
        have h19 : F311_19 N t s.st s.word s.at' s.neg s.en dg s.fr s.ex (nxt t p) (p : Int) r (s.st == 0) = F311_17 N t s.st s.word s.at' s.neg s.en dg s.fr s.ex (nxt t p) (p : Int) r ((s.st == 0) || (s.st == 1)) := by
          unfold F311_19
          generalize (s.st == 0) = b1
          cases b1 <;> rfl
        rw [h22]
        unfold F311_12
        rw [h20]
        unfold F311_14
        rw [h19]
        unfold F311_17 F311_18 dstep
        rw [hdc, hdv]
        simp only [cond_true]
        generalize (((s.st == 6) || (s.st == 7)) || (s.st == 8)) = b1
        cases b1 with
        | true => exact ⟨dg, rfl, hdl', fun _ => hd⟩
        | false =>
        simp only [cond_false]
        generalize (((s.st == 3) || (s.st == 4)) || (s.st == 5)) = b2
        unfold F311_15 F311_16 F311_10 F311_11
        rw [hlim]
        cases b2 with
        | true => exact ⟨_, rfl, hal, ha⟩
        | false =>
        simp only [cond_false]
        generalize ((s.st == 0) || (s.st == 1)) = b3
        cases b3 with
        | true => exact ⟨_, rfl, hal, ha⟩
        | false =>
        simp only [cond_false]
        generalize (s.st == 2) = b4
        cases b4 with
        | true => exact ⟨_, rfl, hal, ha⟩
        | false => exact hwr
      | false =>
        simp only [cond_false]
        have hdc : dgB c = false := hdg
        have hword : ∀ {α : Type} (A B : Bool → α) (Z : α), (∀ x, A x = B x) → ((bif (s.st == 9) && (decide (s.at' < (s.word.length : Int))) then bif (decide (0 ≤ s.at') && decide (s.at' < (s.word.length : Int))) then A ((w32 ((BitVec.ofInt 32 r ||| BitVec.ofInt 32 32).toNat : Int)) == (w32 (((s.word.getD (s.at').toNat 0).toBitVec).toNat : Int))) else Z else A false) = B (((s.st == 9) && decide (s.at' < (s.word.length : Int))) && ((c ||| 32).toNat == (s.word.getD s.at'.toNat 0).toNat))) := by
          intro α A B Z hAB
          have h0 := hw.a
          cases h9 : ((s.st == 9) && decide (s.at' < (s.word.length : Int))) with
          | false => rw [bf rfl]; exact hAB _
          | true =>
            have hl : s.at' < (s.word.length : Int) := by
              rw [Bool.and_eq_true] at h9; exact of_decide_eq_true h9.2
            have hl' : s.at'.toNat < s.word.length := by omega
            have hm : s.word.getD s.at'.toNat 0 ∈ s.word := by
              rw [List.getD_eq_getElem?_getD, List.getElem?_eq_getElem hl']; exact List.getElem_mem ..
            have hk := hw.w _ hm
            rw [bt rfl, bt (by rw [decide_eq_true h0, decide_eq_true hl]; rfl), w32_id (n := ((s.word.getD s.at'.toNat 0).toBitVec.toNat : Int)) (by
              have : (s.word.getD s.at'.toNat 0).toBitVec.toNat = (s.word.getD s.at'.toNat 0).toNat := rfl
              omega)]
            rw [show ((s.word.getD s.at'.toNat 0).toBitVec.toNat : Int) = ((s.word.getD s.at'.toNat 0).toNat : Int) from rfl, hrc.low.beq _ hk, hAB]
            rfl
        unfold F311_24 F311_25 F311_26 F311_27 F311_28 F311_29 F311_30 F311_31 dstep
        rw [hword _ (fun b => F311_32 N t s.st s.word s.at' s.neg s.en dg s.fr s.ex (nxt t p) (p : Int) r b) _ (fun _ => rfl)]
        unfold F311_32 F311_33 F311_34
        rw [hdc, hwr]
        simp only [e43, e45, e46, e105, e110, e101, cond_false]
        unfold sgB
        generalize ((s.st == 0) && ((c.toNat == 43) || (c.toNat == 45))) = b1
        cases b1 with
        | true => exact ⟨dg, rfl, hdl', fun _ => hd⟩
        | false =>
        simp only [cond_false]
        generalize ((s.st == 6) && ((c.toNat == 43) || (c.toNat == 45))) = b2
        cases b2 with
        | true => exact ⟨dg, rfl, hdl', fun _ => hd⟩
        | false =>
        simp only [cond_false]
        generalize ((s.st == 2) && (c.toNat == 46)) = b3
        cases b3 with
        | true => exact ⟨dg, rfl, hdl', fun _ => hd⟩
        | false =>
        simp only [cond_false]
        generalize (decide (s.st ≤ 1) && (c.toNat == 46)) = b4
        cases b4 with
        | true => exact ⟨dg, rfl, hdl', fun _ => hd⟩
        | false =>
        simp only [cond_false]
        generalize (decide (s.st ≤ 1) && ((c ||| 32).toNat == 105)) = b5
        cases b5 with
        | true => exact ⟨dg, rfl, hdl', fun _ => hd⟩
        | false =>
        simp only [cond_false]
        generalize (decide (s.st ≤ 1) && ((c ||| 32).toNat == 110)) = b6
        cases b6 with
        | true => exact ⟨dg, rfl, hdl', fun _ => hd⟩
        | false =>
        simp only [cond_false]
        generalize (((s.st == 9) && decide (s.at' < (s.word.length : Int))) && ((c ||| 32).toNat == (s.word.getD s.at'.toNat 0).toNat)) = b7
        cases b7 with
        | true => exact ⟨dg, rfl, hdl', fun _ => hd⟩
        | false =>
        simp only [cond_false]
        generalize ((((s.st == 2) || (s.st == 3)) || (s.st == 5)) && ((c ||| 32).toNat == 101)) = b8
        cases b8 with
        | true => exact ⟨dg, rfl, hdl', fun _ => hd⟩
        | false => rfl
    cases hs : dstep s c with
    | none =>
      rw [hs] at key
      rw [iterL, key, dgo, hs]
    | some s' =>
      rw [hs] at key
      obtain ⟨dg', k1, k2, k3⟩ := key
      have hasc := dstep_ascii hw hs
      obtain ⟨w1, w2, w3⟩ := dstep_w hw hs
      rw [iterL, k1, dgo, hs]
      simp only []
      rw [nxt_ascii hc hasc]
      exact ih M (p + 1) s' dg' (by rw [List.length_cons] at hM; omega) hR' (by omega) k2 (k3 hasc) ⟨w1, w2, by omega⟩ (by omega)
theorem F311_ok {N : Nat} {t : List UInt8} (hN : 1100 ≤ N) (ht : t.length ≤ 1024) : F311 N t = dgo N t ⟨0, [], 0, false, false, [], 0, 0⟩ 0 t := by
  unfold F311 F311_1
  rw [bf (decide_eq_false (by omega))]
  unfold F311_2 F311_3
  rw [bt (by decide)]
  exact dloop ht t N 0 ⟨0, [], 0, false, false, [], 0, 0⟩ (false, 0, fun _ => 0#8) (by omega) rfl (by omega) (Nat.le_refl _) rfl ⟨(fun c h => by cases h), by decide, by decide⟩ (by decide)
end Go.Proofs.YfwaawGreat
