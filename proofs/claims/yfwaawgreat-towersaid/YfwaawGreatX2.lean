/-
  hexa.Scan = hmodel.Scan.
-/
import Derived.Test.YfwaawGreatX1
namespace Go.Proofs.YfwaawGreat
open Go.Aw
set_option linter.unusedVariables false
set_option linter.unusedSimpArgs false

abbrev Scd := BitVec 8 × Bool × List UInt8 × Int × Int × Int
/-- A byte that is a hexadecimal digit. -/
def hxB (c : UInt8) : Bool := (decide (48 ≤ c.toNat) && decide (c.toNat ≤ 57)) || (decide (97 ≤ c.toNat) && decide (c.toNat ≤ 102)) || (decide (65 ≤ c.toNat) && decide (c.toNat ≤ 70))
def dgB (c : UInt8) : Bool := decide (48 ≤ c.toNat) && decide (c.toNat ≤ 57)
def sgB (c : UInt8) : Bool := (c.toNat == 43) || (c.toNat == 45)
theorem hexR {r : Int} {c : UInt8} (h : RC r c.toNat) : decide (F285 r ≥ 0) = hxB c := by
  unfold F285 F285_1 F285_2 F285_3 hxB
  have e1 := h.le 48 (by decide)
  have e2 := h.ge 57 (by decide)
  have e3 := h.le 97 (by decide)
  have e4 := h.ge 102 (by decide)
  have e5 := h.le 65 (by decide)
  have e6 := h.ge 70 (by decide)
  simp only [Int.cast_ofNat_Int] at e1 e2 e3 e4 e5 e6
  rw [e1, e2, e3, e4, e5, e6]
  rcases h with ⟨h1, h2⟩ | ⟨h1, h2, h3⟩
  · by_cases a1 : 48 ≤ c.toNat ∧ c.toNat ≤ 57
    · rw [decide_eq_true a1.1, decide_eq_true a1.2, h2, w32_id (by omega), w64_id (by omega)]; simp; omega
    · rw [show (decide (48 ≤ c.toNat) && decide (c.toNat ≤ 57)) = false from by simp; omega]
      by_cases a2 : 97 ≤ c.toNat ∧ c.toNat ≤ 102
      · rw [decide_eq_true a2.1, decide_eq_true a2.2, h2]; simp only [Bool.and_self, cond_true, cond_false, Bool.and_false, Bool.false_and]; rw [w32_id (by omega), w64_id (n := _ - _) (by omega), w64_id (by omega)]; simp; omega
      · rw [show (decide (97 ≤ c.toNat) && decide (c.toNat ≤ 102)) = false from by simp; omega]
        by_cases a3 : 65 ≤ c.toNat ∧ c.toNat ≤ 70
        · rw [decide_eq_true a3.1, decide_eq_true a3.2, h2]; simp only [Bool.and_self, cond_true, cond_false, Bool.and_false, Bool.false_and]; rw [w32_id (by omega), w64_id (n := _ - _) (by omega), w64_id (by omega)]; simp; omega
        · rw [show (decide (65 ≤ c.toNat) && decide (c.toNat ≤ 70)) = false from by simp; omega]; rfl
  · rw [decide_eq_false (show ¬ c.toNat ≤ 57 by omega), decide_eq_false (show ¬ c.toNat ≤ 102 by omega), decide_eq_false (show ¬ c.toNat ≤ 70 by omega)]; simp

structure HS where
  neg : Bool
  en : Bool
  fr : Int
  ex : Int
  st : Int
  dig : List UInt8
def dgv (c : UInt8) : Int := w64 (w32 ((c.toNat : Int) - 48))
def hstep (s : HS) (c : UInt8) : Option HS :=
  bif (s.st == 0) && sgB c then some { s with neg := c.toNat == 45, st := 1 }
  else bif decide (s.st ≤ 1) && (c.toNat == 48) then some { s with st := 2 }
  else bif (s.st == 2) && ((c ||| 32).toNat == 120) then some { s with st := 3 }
  else bif ((s.st == 3) || (s.st == 4)) && hxB c then some { s with st := 4, dig := s.dig ++ [c] }
  else bif (decide (s.st ≥ 5) && decide (s.st ≤ 7)) && hxB c then some { s with st := 7, dig := s.dig ++ [c], fr := w64 (s.fr + 1) }
  else bif (s.st == 3) && (c.toNat == 46) then some { s with st := 6 }
  else bif (s.st == 4) && (c.toNat == 46) then some { s with st := 5 }
  else bif ((s.st == 4) || (s.st == 5) || (s.st == 7)) && ((c ||| 32).toNat == 112) then some { s with st := 8 }
  else bif (s.st == 8) && sgB c then some { s with en := c.toNat == 45, st := 9 }
  else bif (decide (s.st ≥ 8) && decide (48 ≤ c.toNat)) && decide (c.toNat ≤ 57) then some { s with ex := min (w64 (w64 (10 * s.ex) + dgv c)) 1000000, st := 10 }
  else none
def hfin (N : Nat) (neg : Bool) (d : List UInt8) (e : Int) : Option Scd :=
  (F284 N neg d e).bind fun y => bif !y.2.2.2 then some (4#8, false, [], 0, 0, 0) else some (0#8, y.1, y.2.1, y.2.2.1, 0, 0)
def hend (N : Nat) (t : List UInt8) (s : HS) : Option Scd :=
  bif s.st != 10 then some (wrg t t.length) else hfin N s.neg s.dig (w64 ((bif s.en then w64 (0 - s.ex) else s.ex) - w64 (4 * s.fr)))
def hgo (N : Nat) (t : List UInt8) : HS → Nat → List UInt8 → Option Scd
  | s, _, [] => hend N t s
  | s, p, c :: R => match hstep s c with
    | some s' => hgo N t s' (p + 1) R
    | none => some (wrg t p)
theorem hstep_ascii {s s' : HS} {c : UInt8} (h : hstep s c = some s') : c.toNat < 128 := by
  rcases Nat.lt_or_ge c.toNat 128 with k | k
  · exact k
  · exfalso
    have a1 : sgB c = false := by unfold sgB; simp; omega
    have a2 : hxB c = false := by unfold hxB; simp; omega
    have a3 : 128 ≤ (c ||| 32).toNat := by
      rw [UInt8.toNat_or]
      have : c.toNat ≤ c.toNat ||| (32 : UInt8).toNat := Nat.left_le_or
      omega
    unfold hstep at h
    rw [a1, a2, beq_eq_false_iff_ne.2 (show c.toNat ≠ 48 by omega), beq_eq_false_iff_ne.2 (show c.toNat ≠ 46 by omega), beq_eq_false_iff_ne.2 (show (c ||| 32).toNat ≠ 120 by omega), beq_eq_false_iff_ne.2 (show (c ||| 32).toNat ≠ 112 by omega), decide_eq_false (show ¬ c.toNat ≤ 57 by omega)] at h
    simp only [Bool.and_false, cond_false] at h
    cases h

theorem ofi8 {r : Int} {c : UInt8} (h : RC r c.toNat) (hc : c.toNat < 128) : UInt8.ofBitVec (BitVec.ofInt 8 r) = c := by
  have : r = c.toNat := by rcases h with ⟨h1, h2⟩ | ⟨h1, h2, h3⟩ <;> omega
  rw [this]
  apply UInt8.toNat_inj.1
  show (BitVec.ofInt 8 (c.toNat : Int)).toNat = _
  rw [BitVec.toNat_ofInt]; omega

/-- The scanner's loop. -/
theorem hloop {N : Nat} {t : List UInt8} (ht : t.length ≤ 1024) : ∀ (R : List UInt8) (M p : Nat) (s : HS) (dg : NS (BitVec 8)), R.length < M → t.drop p = R → p ≤ t.length → dg.2.1 ≤ p → bys dg.2.1 dg.2.2 = s.dig →
    iterL (F323_L13 N t) M (s.neg, s.en, s.fr, s.ex, s.st, dg, p) = hgo N t s p R := by
  intro R
  induction R with
  | nil =>
    intro M p s dg hM hR hp hdl hd
    obtain ⟨M, rfl⟩ : ∃ K, M = K + 1 := ⟨M - 1, by omega⟩
    have hpl : p = t.length := by
      have := congrArg List.length hR
      rw [List.length_drop, List.length_nil] at this; omega
    have hstep : F323_L13 N t (s.neg, s.en, s.fr, s.ex, s.st, dg, p) = (hend N t s).map Sum.inr := by
      unfold F323_L13 F323_L13b F323_14 F323_5 F323_11
      simp only []
      rw [show Nat.blt p t.length = false from by rw [hpl, Bool.eq_false_iff]; intro k; rw [Nat.blt_eq] at k; omega]
      simp only [cond_false]
      congr 1
      unfold hend F323_6 F323_10 F323_7 F323_8 F323_9 hfin wrg
      cases s.st != 10 with
      | true => simp only [cond_true]; rw [if_neg (by omega)]
      | false =>
        simp only [cond_false]
        rw [hd]
        cases s.en <;> rfl
    rw [iterL, hstep, hgo]
    cases hend N t s <;> rfl
  | cons c R ih =>
    intro M p s dg hM hR hp hdl hd
    obtain ⟨M, rfl⟩ : ∃ K, M = K + 1 := ⟨M - 1, by omega⟩
    have hpl : p < t.length := by
      have := congrArg List.length hR
      rw [List.length_drop, List.length_cons] at this; omega
    have hc : t[p]? = some c := by
      have := congrArg (fun l => l[0]?) hR
      simpa using this
    have hR' : t.drop (p + 1) = R := by
      have := congrArg List.tail hR
      rw [List.tail_drop] at this
      exact this
    have hrc := rune_rc hc
    obtain ⟨r, hr⟩ : ∃ r, runeAt t p = r := ⟨_, rfl⟩
    rw [hr] at hrc
    have hbl : Nat.blt p t.length = true := by simpa [Nat.blt_eq] using hpl
    have hlim : decide (dg.2.1 < 4294967296) = true := decide_eq_true (by omega)
    have e43 := hrc.beq 43 (by decide)
    have e45 := hrc.beq 45 (by decide)
    have e48 := hrc.beq 48 (by decide)
    have e46 := hrc.beq 46 (by decide)
    have l48 := hrc.le 48 (by decide)
    have l57 := hrc.ge 57 (by decide)
    have e120 := hrc.low.beq 120 (by decide)
    have e112 := hrc.low.beq 112 (by decide)
    simp only [Int.cast_ofNat_Int] at e43 e45 e48 e46 l48 l57 e120 e112
    have ehx := hexR hrc
    have key : match hstep s c with
        | some s' => ∃ dg' : NS (BitVec 8), F323_L13 N t (s.neg, s.en, s.fr, s.ex, s.st, dg, p) = some (.inl (s'.neg, s'.en, s'.fr, s'.ex, s'.st, dg', nxt t p)) ∧ dg'.2.1 ≤ p + 1 ∧ (c.toNat < 128 → bys dg'.2.1 dg'.2.2 = s'.dig)
        | none => F323_L13 N t (s.neg, s.en, s.fr, s.ex, s.st, dg, p) = some (.inr (wrg t p)) := by
      unfold F323_L13 F323_L13b F323_14 F323_15 F323_16 F323_17 F323_18 F323_19 lt
      simp only [hbl, cond_true, hr]
      unfold F323_20 F323_21 F323_22 F323_23 F323_24 F323_25 F323_26 F323_27 F323_28 F323_29 F323_30 F323_31 F323_32 F323_33 F323_34 F323_35 F323_36 F323_37 F323_38 F323_39
      unfold hstep sgB wrg
      rw [if_pos hpl, hr, hlim]
      simp only [e43, e45, e48, e46, l48, l57, e120, e112, ehx, cond_true]
      have ha : c.toNat < 128 → bys (app dg (BitVec.ofInt 8 r)).2.1 (app dg (BitVec.ofInt 8 r)).2.2 = s.dig ++ [c] := by
        intro h
        show bys (dg.2.1 + 1) (upd dg.2.2 dg.2.1 (BitVec.ofInt 8 r)) = _
        rw [bys_snoc, hd, ofi8 hrc h]
      have hal : (app dg (BitVec.ofInt 8 r)).2.1 ≤ p + 1 := by show dg.2.1 + 1 ≤ p + 1; omega
      have hdl' : dg.2.1 ≤ p + 1 := by omega
      generalize hb1 : ((s.st == 0) && ((c.toNat == 43) || (c.toNat == 45))) = b1
      cases b1 with
      | true => exact ⟨dg, rfl, hdl', fun _ => hd⟩
      | false =>
      simp only [cond_false]
      generalize (decide (s.st ≤ 1) && (c.toNat == 48)) = b2
      cases b2 with
      | true => exact ⟨dg, rfl, hdl', fun _ => hd⟩
      | false =>
      simp only [cond_false]
      generalize ((s.st == 2) && ((c ||| 32).toNat == 120)) = b3
      cases b3 with
      | true => exact ⟨dg, rfl, hdl', fun _ => hd⟩
      | false =>
      simp only [cond_false]
      generalize (((s.st == 3) || (s.st == 4)) && hxB c) = b4
      cases b4 with
      | true => exact ⟨_, rfl, hal, ha⟩
      | false =>
      simp only [cond_false]
      generalize ((decide (s.st ≥ 5) && decide (s.st ≤ 7)) && hxB c) = b5
      cases b5 with
      | true => exact ⟨_, rfl, hal, ha⟩
      | false =>
      simp only [cond_false]
      generalize ((s.st == 3) && (c.toNat == 46)) = b6
      cases b6 with
      | true => exact ⟨dg, rfl, hdl', fun _ => hd⟩
      | false =>
      simp only [cond_false]
      generalize ((s.st == 4) && (c.toNat == 46)) = b7
      cases b7 with
      | true => exact ⟨dg, rfl, hdl', fun _ => hd⟩
      | false =>
      simp only [cond_false]
      generalize (((s.st == 4) || (s.st == 5) || (s.st == 7)) && ((c ||| 32).toNat == 112)) = b8
      cases b8 with
      | true => exact ⟨dg, rfl, hdl', fun _ => hd⟩
      | false =>
      simp only [cond_false]
      generalize ((s.st == 8) && ((c.toNat == 43) || (c.toNat == 45))) = b9
      cases b9 with
      | true => exact ⟨dg, rfl, hdl', fun _ => hd⟩
      | false =>
      simp only [cond_false]
      cases b10 : ((decide (s.st ≥ 8) && decide (48 ≤ c.toNat)) && decide (c.toNat ≤ 57)) with
      | true =>
        refine ⟨dg, ?_, hdl', fun _ => hd⟩
        have : r = c.toNat := by
          have : c.toNat ≤ 57 := by simp only [Bool.and_eq_true, decide_eq_true_eq] at b10; exact b10.2
          rcases hrc with ⟨h1, h2⟩ | ⟨h1, h2, h3⟩ <;> omega
        unfold dgv
        rw [this]
        rfl
      | false => rfl
    cases hs : hstep s c with
    | none =>
      rw [hs] at key
      rw [iterL, key, hgo, hs]
    | some s' =>
      rw [hs] at key
      obtain ⟨dg', k1, k2, k3⟩ := key
      have hasc := hstep_ascii hs
      rw [iterL, k1, hgo, hs]
      simp only []
      rw [nxt_ascii hc hasc]
      exact ih M (p + 1) s' dg' (by rw [List.length_cons] at hM; omega) hR' (by omega) k2 (k3 hasc)
theorem F323_ok {N : Nat} {t : List UInt8} (hN : 1100 ≤ N) (ht : t.length ≤ 1024) : F323 N t = hgo N t ⟨false, false, 0, 0, 0, []⟩ 0 t := by
  unfold F323 F323_1
  rw [bf (decide_eq_false (by omega))]
  unfold F323_2 F323_3 F323_4 F323_12
  exact hloop ht t N 0 ⟨false, false, 0, 0, 0, []⟩ (true, 0, fun _ => 0#8) (by omega) rfl (by omega) (Nat.le_refl _) rfl
end Go.Proofs.YfwaawGreat
