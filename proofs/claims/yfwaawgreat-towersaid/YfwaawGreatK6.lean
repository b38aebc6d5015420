/-
  dec.Make of a spelled number; exact's candidates.
-/
import Derived.Test.YfwaawGreatK3
import Derived.Test.YfwaawGreatK5
import Derived.Test.YfwaawGreatPA
namespace Go.Proofs.YfwaawGreat
open Go.Aw
set_option linter.unusedVariables false
set_option linter.unusedSimpArgs false

theorem dval_tz {s : List UInt8} {en : Nat} : ∀ n : Nat, en + n ≤ s.length → (∀ j, en ≤ j → j < en + n → (s.getD j 0).toNat = 48) → dval (s.take (en + n)) = dval (s.take en) * 10 ^ n
  | 0, _, _ => by rw [Nat.pow_zero, Nat.mul_one]; rfl
  | n + 1, h, hz => by
    have ih := dval_tz n (by omega) (fun j h1 h2 => hz j h1 (by omega))
    rw [← Nat.add_assoc, dval_take (by omega), ih, Nat.pow_succ]
    have := hz (en + n) (by omega) (by omega)
    rw [show dg (s.getD (en + n) 0) = 0 by unfold dg; omega]
    generalize 10 ^ n = p
    generalize dval (List.take en s) = q
    rw [Nat.add_zero, Nat.mul_comm p 10, Nat.mul_left_comm]
theorem getD_drop_take {s : List UInt8} {i n j : Nat} (h : j < n) (h2 : i + n ≤ s.length) : ((s.drop i).take n).getD j 0 = s.getD (i + j) 0 := by
  rw [List.getD_eq_getElem?_getD, List.getD_eq_getElem?_getD, List.getElem?_take_of_lt h, List.getElem?_drop]
theorem F39_ok {N : Nat} {neg : Bool} {s : List UInt8} {a : Int} (hN : s.length < N) (hl : s.length ≤ 100) (hd : ∀ c ∈ s, isd c) (hv : dval s ≠ 0) (ha : -1000 ≤ a ∧ a ≤ 1000) :
    ∃ dig exp k, F39 N neg s a = some (neg, dig, exp, true) ∧ CN dig exp ∧ dig ≠ [] ∧ exp = a + (k : Nat) ∧ dval dig * 10 ^ k = dval s := by
  have key : ∀ (M i : Nat) (first en : Nat), s.length - i < M → i ≤ s.length →
      ((en = 0 ∧ first = s.length ∧ ∀ j, j < i → (s.getD j 0).toNat = 48) ∨ (first < en ∧ en ≤ i ∧ (∀ j, j < first → (s.getD j 0).toNat = 48) ∧ (∀ j, en ≤ j → j < i → (s.getD j 0).toNat = 48) ∧ (s.getD first 0).toNat ≠ 48 ∧ (s.getD (en - 1) 0).toNat ≠ 48)) →
      ∃ dig exp k, iterL (F39_L6 N neg s a) M ((first : Int), (en : Int), (i : Int)) = some (neg, dig, exp, true) ∧ CN dig exp ∧ dig ≠ [] ∧ exp = a + (k : Nat) ∧ dval dig * 10 ^ k = dval s := by
    intro M
    induction M with
    | zero => intro i first en hM; omega
    | succ M ih =>
      intro i first en hM hi hI
      by_cases hil : i = s.length
      · rcases hI with ⟨k1, k2, k3⟩ | ⟨k1, k2, k3, k4, k5, k6⟩
        · exfalso
          apply hv
          have := dval_tz (s := s) (en := 0) s.length (by omega) (fun j _ h2 => k3 j (by omega))
          rw [Nat.zero_add, List.take_length, List.take_zero, dval_nil, Nat.zero_mul] at this
          exact this
        · have hstep : F39_L6 N neg s a ((first : Int), (en : Int), (i : Int)) = some (.inr (neg, (s.drop first).take (en - first), a + ((s.length - en : Nat) : Int), true)) := by
            unfold F39_L6 F39_L6b F39_7
            simp only []
            rw [bf (decide_eq_false (by omega))]
            unfold F39_2 F39_3 F39_4
            rw [bf (by rw [beq_eq_false_iff_ne]; omega)]
            have w1 : w64 ((s.length : Int) - en) = ((s.length - en : Nat) : Int) := by rw [w64_id (by omega)]; omega
            have w2 : w64 ((en : Int) - first) = (en : Int) - first := w64_id (by omega)
            have w3 : w64 (a + ((s.length - en : Nat) : Int)) = a + ((s.length - en : Nat) : Int) := w64_id (by omega)
            rw [w1, w2, w3, decide_eq_false (show ¬ (en : Int) - first > 800 by omega), decide_eq_false (show ¬ a > 2000 by omega), decide_eq_false (show ¬ a + ((s.length - en : Nat) : Int) > 2000 by omega), decide_eq_false (show ¬ a + ((s.length - en : Nat) : Int) < -2000 by omega)]
            unfold F39_5
            rw [show (((false || false) || false) || false) = false from rfl, bf rfl, bt (by simp; omega), w3, w16_id (by omega), Int.toNat_natCast, Int.toNat_natCast]
            rfl
          rw [iterL, hstep]
          have hlen : ((s.drop first).take (en - first)).length = en - first := by
            rw [List.length_take, List.length_drop]; omega
          refine ⟨_, _, s.length - en, rfl, ⟨?_, by omega, ?_, ?_, ?_, by omega, by omega⟩, ?_, rfl, ?_⟩
          · intro c hc
            exact hd c (List.mem_of_mem_drop (List.mem_of_mem_take hc))
          · intro h0; rw [h0] at hlen; simp at hlen; omega
          · intro _
            rw [getD_drop_take (by omega) (by omega)]; exact k5
          · intro _
            rw [hlen, getD_drop_take (by omega) (by omega), show first + (en - first - 1) = en - 1 by omega]; exact k6
          · intro h0; rw [h0] at hlen; simp at hlen; omega
          · have e1 := dval_tz (s := s) (en := en) (s.length - en) (by omega) (fun j h1 h2 => k4 j h1 (by omega))
            rw [show en + (s.length - en) = s.length by omega, List.take_length] at e1
            have e2 := dval_drop_take (s := s) (i := first) (j := en - first) (by omega)
            have e3 := dval_tz (s := s) (en := 0) first (by omega) (fun j _ h2 => k3 j (by omega))
            rw [Nat.zero_add, List.take_zero, dval_nil, Nat.zero_mul] at e3
            rw [e3, Nat.zero_mul, Nat.zero_add, show first + (en - first) = en by omega] at e2
            rw [e1, e2]
      · have hc := getD_isd hd (i := i) (by omega)
        have hc1 := hc.1
        have hc2 := hc.2
        have hstep : F39_L6 N neg s a ((first : Int), (en : Int), (i : Int)) = some (.inl (if (s.getD i 0).toNat = 48 then ((first : Int), (en : Int), ((i + 1 : Nat) : Int)) else (((min first i : Nat) : Int), ((i + 1 : Nat) : Int), ((i + 1 : Nat) : Int)))) := by
          unfold F39_L6 F39_L6b F39_7
          simp only []
          rw [bt (decide_eq_true (by omega)), bt (by simp; omega)]
          unfold F39_9 F39_10
          rw [Int.toNat_natCast, u8bv, decide_eq_false (show ¬ (s.getD i 0).toNat < (48#8).toNat by rw [show (48#8).toNat = 48 from rfl]; omega), decide_eq_false (show ¬ (57#8).toNat < (s.getD i 0).toNat by rw [show (57#8).toNat = 57 from rfl]; omega), Bool.or_self, bf rfl]
          unfold F39_11 F39_12 F39_8
          have w1 : w64 ((i : Int) + 1) = ((i + 1 : Nat) : Int) := by rw [w64_id (by omega)]; omega
          rw [w1, ne_bv, u8bv, show (48#8).toNat = 48 from rfl]
          by_cases k : (s.getD i 0).toNat = 48
          · rw [decide_eq_false (by omega), if_pos k]; rfl
          · rw [decide_eq_true k, if_neg k]
            show some (Sum.inl (min (first : Int) (i : Int), _, _)) = _
            rw [show min (first : Int) (i : Int) = ((min first i : Nat) : Int) by omega]
        rw [iterL, hstep]
        by_cases k : (s.getD i 0).toNat = 48
        · rw [if_pos k]
          refine ih (i + 1) first en (by omega) (by omega) ?_
          rcases hI with ⟨k1, k2, k3⟩ | ⟨k1, k2, k3, k4, k5, k6⟩
          · refine Or.inl ⟨k1, k2, fun j hj => ?_⟩
            by_cases hji : j = i
            · rw [hji]; exact k
            · exact k3 j (by omega)
          · refine Or.inr ⟨k1, by omega, k3, fun j h1 h2 => ?_, k5, k6⟩
            by_cases hji : j = i
            · rw [hji]; exact k
            · exact k4 j h1 (by omega)
        · rw [if_neg k]
          refine ih (i + 1) (min first i) (i + 1) (by omega) (by omega) (Or.inr ?_)
          rcases hI with ⟨k1, k2, k3⟩ | ⟨k1, k2, k3, k4, k5, k6⟩
          · rw [show min first i = i by omega]
            exact ⟨by omega, by omega, fun j hj => k3 j hj, fun j h1 h2 => by omega, k, k⟩
          · rw [show min first i = first by omega]
            exact ⟨by omega, by omega, k3, fun j h1 h2 => by omega, k5, k⟩
  unfold F39 F39_1
  exact key N 0 s.length 0 (by omega) (by omega) (Or.inl ⟨rfl, rfl, fun j hj => by omega⟩)

/-- The decimal n * 10^k. -/
def mkD (N : Nat) (neg : Bool) (n k : Int) : Option (Bool × List UInt8 × Int) :=
  (F170 N n).bind fun s => (F39 N neg s k).bind fun y => some (y.1, y.2.1, y.2.2.1)
theorem mkD_ok {N : Nat} (hN : 30 ≤ N) {neg : Bool} {n : Nat} (h0 : n ≠ 0) (hn : n < 9223372036854775808) {k : Int} (hk : -1000 ≤ k ∧ k ≤ 1000) :
    ∃ s dig exp j, F170 N (n : Int) = some s ∧ F39 N neg s k = some (neg, dig, exp, true) ∧ mkD N neg n k = some (neg, dig, exp) ∧ CN dig exp ∧ dig ≠ [] ∧ exp = k + (j : Nat) ∧ dval dig * 10 ^ j = n := by
  obtain ⟨s, t, h1, h2, h3, h4⟩ := F170_ok hN (a := (n : Int)) (by omega)
  rw [if_neg (by omega)] at h4
  subst h4
  rw [show (n : Int).natAbs = n by omega] at h2
  obtain ⟨dig, exp, j, g1, g2, g3, g4, g5⟩ := F39_ok (N := N) (neg := neg) (s := s) (a := k) (by omega) (by omega) h2.d (by rw [h2.v]; exact h0) hk
  rw [h2.v] at g5
  refine ⟨s, dig, exp, j, h1, g1, ?_, g2, g3, g4, g5⟩
  unfold mkD
  rw [h1, Option.bind_some, g1, Option.bind_some]

/-- The fraction a/b in units of ten. -/
theorem lev {X Y : Nat} {K q : Int} {j : Nat} (hK : K = q + j) : (X * 10 ^ (-K).toNat < Y * 10 ^ K.toNat ↔ X * 10 ^ (-q).toNat < Y * (10 ^ q.toNat * 10 ^ j)) ∧ (X * 10 ^ (-K).toNat = Y * 10 ^ K.toNat ↔ X * 10 ^ (-q).toNat = Y * (10 ^ q.toNat * 10 ^ j)) ∧ (Y * 10 ^ K.toNat < X * 10 ^ (-K).toNat ↔ Y * (10 ^ q.toNat * 10 ^ j) < X * 10 ^ (-q).toNat) := by
  have e : 10 ^ (-q).toNat * 10 ^ K.toNat = 10 ^ q.toNat * 10 ^ j * 10 ^ (-K).toNat := by
    rw [← Nat.pow_add, ← Nat.pow_add, ← Nat.pow_add]; exact congrArg (fun t => 10 ^ t) (by omega)
  have p1 := pt_pos (-q).toNat
  have p2 := pt_pos (-K).toNat
  have e1 : X * 10 ^ (-K).toNat * 10 ^ (-q).toNat = X * 10 ^ (-q).toNat * 10 ^ (-K).toNat := Nat.mul_right_comm _ _ _
  have e2 : Y * 10 ^ K.toNat * 10 ^ (-q).toNat = Y * (10 ^ q.toNat * 10 ^ j) * 10 ^ (-K).toNat := by
    rw [Nat.mul_assoc, Nat.mul_comm (10 ^ K.toNat), e, ← Nat.mul_assoc]
  generalize X * 10 ^ (-K).toNat = a at *
  generalize Y * 10 ^ K.toNat = b at *
  generalize X * 10 ^ (-q).toNat = c at *
  generalize Y * (10 ^ q.toNat * 10 ^ j) = d at *
  generalize 10 ^ (-q).toNat = p at *
  generalize 10 ^ (-K).toNat = r at *
  refine ⟨⟨fun h => ?_, fun h => ?_⟩, ⟨fun h => ?_, fun h => ?_⟩, ⟨fun h => ?_, fun h => ?_⟩⟩
  · have := Nat.mul_lt_mul_of_pos_right h p1
    rw [e1, e2] at this
    exact Nat.lt_of_mul_lt_mul_right this
  · have := Nat.mul_lt_mul_of_pos_right h p2
    rw [← e1, ← e2] at this
    exact Nat.lt_of_mul_lt_mul_right this
  · rw [h, e2] at e1
    exact (Nat.mul_right_cancel p2 e1).symm
  · rw [h, ← e2] at e1
    exact Nat.mul_right_cancel p1 e1
  · have := Nat.mul_lt_mul_of_pos_right h p1
    rw [e1, e2] at this
    exact Nat.lt_of_mul_lt_mul_right this
  · have := Nat.mul_lt_mul_of_pos_right h p2
    rw [← e1, ← e2] at this
    exact Nat.lt_of_mul_lt_mul_right this
/-- n * 10^j lies between the ends. -/
structure Rd (l h A B : Nat) (ev : Prop) (n : Nat) : Prop where
  lo : l * A < n * B ∨ (l * A = n * B ∧ ev)
  hi : n * B < h * A ∨ (h * A = n * B ∧ ev)
end Go.Proofs.YfwaawGreat
