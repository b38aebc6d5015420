/-
  soft = exact: least, greatest, neighbours.
-/
import Derived.Test.YfwaawGreatC1
import Derived.Test.YfwaawGreatG16
import Derived.Test.YfwaawGreatG46
import Derived.Test.YfwaawGreatG47
namespace Go.Proofs.YfwaawGreat
open Go.Aw
set_option linter.unusedVariables false
set_option linter.unusedSimpArgs false
section
variable {e m mode : BitVec 8} {neg : Bool}
variable {a b c : BitVec 64} {na nb nc : Bool} {ca cb cc ea eb ec : Int} {ma mb mc : BitVec 64} {pa pb pc : Nat}

theorem F88_nan (h : Fm e m) (hn : (F65 e m a).2.1 = 4 ∨ (F65 e m b).2.1 = 4) : F88 e m a b = 2 := by
  unfold F88 F88_1 F88_2 F88_3 F88_4 F88_5 F88_6
  simp only [lt]
  rw [h.ok]
  have : (((F65 e m a).2.1 == 4) || ((F65 e m b).2.1 == 4)) = true := by
    rcases hn with k | k <;> rw [k] <;> simp
  rw [this]
  rfl
theorem cm_cases (na : Bool) (P : Nat) (nb : Bool) (Q : Nat) : cm na P nb Q = 0 ∨ cm na P nb Q = -1 ∨ cm na P nb Q = 1 := by
  unfold cm
  split
  · exact .inl rfl
  · cases na && !nb || (na == nb && (decide (P < Q) != na))
    · exact .inr (.inr rfl)
    · exact .inr (.inl rfl)
theorem F276_ok (h : Fm e m) {x y : BitVec 64} {P Q : Nat} (hx : x.toNat = P + sgn e.toNat m.toNat na) (hy : y.toNat = Q + sgn e.toNat m.toNat nb) (hP : P ≤ infP e.toNat m.toNat) (hQ : Q ≤ infP e.toNat m.toNat) :
    F276 e m x y = bif na != nb then na else bif na then decide (Q < P) else decide (P < Q) := by
  unfold F276 F276_1 F276_2
  simp only [lt]
  rw [sign_bit h hx hP, sign_bit h hy hQ, hx, hy]
  cases na <;> cases nb
  · exact decide_eq_decide.2 (by omega)
  · rfl
  · rfl
  · exact decide_eq_decide.2 (by omega)

theorem max_eq (h : Fm e m) (a b : BitVec 64) {N : Nat} : F184 N e m a b = some (F176 e m a b) := by
  unfold F184 F184_1 F176
  simp only [lt]
  rw [h.ok, Bool.not_true, bf rfl]
  rcases opr h a with ⟨ga, ha, ha'⟩ | ⟨na, P, ca, ea, ma, va, an, ad, ha, a4, ha', xa, alta⟩
  · have hc := F88_nan h (a := a) (b := b) (.inl (by rw [ha]))
    rcases opr h b with ⟨gb, hb, hb'⟩ | ⟨nb, Q, cb, eb, mb, vb, bn, bd, hb, b4, hb', xb, altb⟩ <;> rw [ha', hb'] <;> simp only [Option.bind_some, F184_2] <;> rw [cmp_ok h, hc] <;> rfl
  rcases opr h b with ⟨gb, hb, hb'⟩ | ⟨nb, Q, cb, eb, mb, vb, bn, bd, hb, b4, hb', xb, altb⟩
  · have hc := F88_nan h (a := a) (b := b) (.inr (by rw [hb]))
    rw [ha', hb']; simp only [Option.bind_some, F184_2]; rw [cmp_ok h, hc]; rfl
  have hPi : P ≤ infP e.toNat m.toNat := by rcases alta with k | k <;> omega
  have hQi : Q ≤ infP e.toNat m.toNat := by rcases altb with k | k <;> omega
  have hc := F88_ok h ha hb a4 b4 xa xb hPi hQi
  rw [ha', hb']; simp only [Option.bind_some, F184_2]; rw [cmp_ok h, hc]
  simp only [Option.bind_some, F184_4, F184_5, F184_6, F184_7, F184_3, F176_1, F176_2, F176_3, F176_4, lt]
  have hcc := cm_cases na P nb Q
  have h2 : (cm na P nb Q == 2) = false := by rcases hcc with k | k | k <;> rw [k] <;> rfl
  rw [h2, bf rfl, bf rfl, F276_ok h xa xb hPi hQi]
  have hxy : na = nb → P = Q → a &&& F69 e m = b &&& F69 e m := fun k1 k2 => BitVec.eq_of_toNat_eq (by rw [xa, xb, k1, k2])
  unfold cm
  by_cases c1 : (P = 0 ∧ Q = 0) ∨ (na = nb ∧ P = Q)
  · rw [if_pos c1]
    have hpq : P = Q := by omega
    have e1 : decide (Q < P) = false := decide_eq_false (by omega)
    have e2 : decide (P < Q) = false := decide_eq_false (by omega)
    rw [e1, e2]
    cases na <;> cases nb
    · rfl
    · rfl
    · rfl
    · rw [hxy rfl hpq]; rfl
  · rw [if_neg c1]
    cases na <;> cases nb
    · have hpq : P ≠ Q := fun k => c1 (.inr ⟨rfl, k⟩)
      by_cases c2 : P < Q
      · rw [decide_eq_true c2]; rfl
      · rw [decide_eq_false c2]; rfl
    · rfl
    · rfl
    · have hpq : P ≠ Q := fun k => c1 (.inr ⟨rfl, k⟩)
      by_cases c2 : P < Q
      · rw [decide_eq_true c2, decide_eq_false (show ¬ Q < P by omega)]; rfl
      · rw [decide_eq_false c2, decide_eq_true (show Q < P by omega)]; rfl

theorem min_eq (h : Fm e m) (a b : BitVec 64) {N : Nat} : F183 N e m a b = some (F175 e m a b) := by
  unfold F183 F183_1 F175
  simp only [lt]
  rw [h.ok, Bool.not_true, bf rfl]
  rcases opr h a with ⟨ga, ha, ha'⟩ | ⟨na, P, ca, ea, ma, va, an, ad, ha, a4, ha', xa, alta⟩
  · have hc := F88_nan h (a := a) (b := b) (.inl (by rw [ha]))
    rcases opr h b with ⟨gb, hb, hb'⟩ | ⟨nb, Q, cb, eb, mb, vb, bn, bd, hb, b4, hb', xb, altb⟩ <;> rw [ha', hb'] <;> simp only [Option.bind_some, F183_2] <;> rw [cmp_ok h, hc] <;> rfl
  rcases opr h b with ⟨gb, hb, hb'⟩ | ⟨nb, Q, cb, eb, mb, vb, bn, bd, hb, b4, hb', xb, altb⟩
  · have hc := F88_nan h (a := a) (b := b) (.inr (by rw [hb]))
    rw [ha', hb']; simp only [Option.bind_some, F183_2]; rw [cmp_ok h, hc]; rfl
  have hPi : P ≤ infP e.toNat m.toNat := by rcases alta with k | k <;> omega
  have hQi : Q ≤ infP e.toNat m.toNat := by rcases altb with k | k <;> omega
  have hc := F88_ok h ha hb a4 b4 xa xb hPi hQi
  rw [ha', hb']; simp only [Option.bind_some, F183_2]; rw [cmp_ok h, hc]
  simp only [Option.bind_some, F183_4, F183_5, F183_6, F183_7, F183_8, F183_3, F175_1, F175_2, F175_3, F175_4, lt]
  have hcc := cm_cases na P nb Q
  have h2 : (cm na P nb Q == 2) = false := by rcases hcc with k | k | k <;> rw [k] <;> rfl
  rw [h2, bf rfl, bf rfl, F276_ok h xa xb hPi hQi]
  have hxy : na = nb → P = Q → a &&& F69 e m = b &&& F69 e m := fun k1 k2 => BitVec.eq_of_toNat_eq (by rw [xa, xb, k1, k2])
  unfold cm
  by_cases c1 : (P = 0 ∧ Q = 0) ∨ (na = nb ∧ P = Q)
  · rw [if_pos c1]
    have hpq : P = Q := by omega
    have e1 : decide (Q < P) = false := decide_eq_false (by omega)
    have e2 : decide (P < Q) = false := decide_eq_false (by omega)
    rw [e1, e2]
    cases na <;> cases nb
    · rw [hxy rfl hpq]; rfl
    · rfl
    · rfl
    · rw [hxy rfl hpq]; rfl
  · rw [if_neg c1]
    cases na <;> cases nb
    · have hpq : P ≠ Q := fun k => c1 (.inr ⟨rfl, k⟩)
      by_cases c2 : P < Q
      · rw [decide_eq_true c2]; rfl
      · rw [decide_eq_false c2]; rfl
    · rfl
    · rfl
    · have hpq : P ≠ Q := fun k => c1 (.inr ⟨rfl, k⟩)
      by_cases c2 : P < Q
      · rw [decide_eq_true c2, decide_eq_false (show ¬ Q < P by omega)]; rfl
      · rw [decide_eq_false c2, decide_eq_true (show Q < P by omega)]; rfl
end
end Go.Proofs.YfwaawGreat
