/-
  soft = exact: comparison, least and greatest.
-/
import Derived.Test.YfwaawGreatA3
import Derived.Test.YfwaawGreatG15
namespace Go.Proofs.YfwaawGreat
open Go.Aw
set_option linter.unusedVariables false
set_option linter.unusedSimpArgs false
section
variable {e m mode : BitVec 8} {neg : Bool}
variable {a b c : BitVec 64} {na nb nc : Bool} {ca cb cc ea eb ec : Int} {ma mb mc : BitVec 64} {pa pb pc : Nat}

/-! ### Sizes grow with patterns -/
theorem uv_succ (M P : Nat) : uv M P < uv M (P + 1) := by
  have hp := pow_pos2 M
  have hdm := Nat.div_add_mod P (2 ^ M)
  have hml := Nat.mod_lt P hp
  by_cases c : P % 2 ^ M + 1 < 2 ^ M
  · have h1 : (P + 1) / 2 ^ M = P / 2 ^ M := by
      refine Nat.div_eq_of_lt_le ?_ ?_
      · rw [Nat.mul_comm]; omega
      · rw [Nat.add_mul, Nat.one_mul, Nat.mul_comm]; omega
    have h2 : (P + 1) % 2 ^ M = P % 2 ^ M + 1 := by
      have := Nat.div_add_mod (P + 1) (2 ^ M)
      rw [h1] at this; omega
    unfold uv
    rw [h1, h2]
    split
    · omega
    · refine Nat.mul_lt_mul_of_pos_right ?_ (pow_pos2 _)
      omega
  · have h0 : P % 2 ^ M + 1 = 2 ^ M := by omega
    have hP1 : P + 1 = (P / 2 ^ M + 1) * 2 ^ M := by rw [Nat.add_mul, Nat.one_mul, Nat.mul_comm]; omega
    have h1 : (P + 1) / 2 ^ M = P / 2 ^ M + 1 := by rw [hP1, Nat.mul_div_cancel _ hp]
    have h2 : (P + 1) % 2 ^ M = 0 := by rw [hP1, Nat.mul_mod_left]
    unfold uv
    rw [h1, h2, if_neg (Nat.succ_ne_zero (P / 2 ^ M)), Nat.zero_add, Nat.add_sub_cancel]
    split
    · rename_i hz
      rw [hz, Nat.pow_zero, Nat.mul_one]
      rw [hz] at hP1
      omega
    · rename_i hz
      obtain ⟨T, hT⟩ := Nat.exists_eq_succ_of_ne_zero hz
      rw [hT, Nat.succ_eq_add_one, Nat.add_sub_cancel, Nat.pow_succ]
      have : 2 ^ M * (2 ^ T * 2) = 2 * 2 ^ M * 2 ^ T := by grind
      rw [this]
      refine Nat.mul_lt_mul_of_pos_right ?_ (pow_pos2 _)
      omega
theorem uv_lt {M P Q : Nat} (h : P < Q) : uv M P < uv M Q := by
  obtain ⟨k, rfl⟩ : ∃ k, Q = P + 1 + k := ⟨Q - P - 1, by omega⟩
  induction k with
  | zero => exact uv_succ M P
  | succ k ih => exact Nat.lt_trans (ih (by omega)) (uv_succ M (P + 1 + k))
theorem uv_lt_iff {M P Q : Nat} : uv M P < uv M Q ↔ P < Q := by
  refine ⟨fun h => ?_, uv_lt⟩
  rcases Nat.lt_or_ge P Q with c | c
  · exact c
  · rcases Nat.eq_or_lt_of_le c with k | k
    · rw [k] at h; omega
    · have := uv_lt (M := M) k; omega
theorem uv_eq_iff {M P Q : Nat} : uv M P = uv M Q ↔ P = Q := by
  have h1 := uv_lt_iff (M := M) (P := P) (Q := Q)
  have h2 := uv_lt_iff (M := M) (P := Q) (Q := P)
  omega
theorem uv_zero (M : Nat) : uv M 0 = 0 := by unfold uv; rw [Nat.zero_div, if_pos rfl]

theorem FinP.least (h : Fm e m) (f : FinP e m a na ca ea ma pa) : ma.toNat * 2 ^ ea.toNat * 2 ^ (bia e.toNat + m.toNat - 1) = uv m.toNat pa * 2 ^ (-ea).toNat := by
  have hb := bia_ge h.e2
  have hx := f.exl
  refine Nat.mul_right_cancel (pow_pos2 m.toNat) ?_
  have e1 : 2 ^ ea.toNat * 2 ^ (bia e.toNat + m.toNat - 1) * 2 ^ m.toNat = 2 ^ (ea + bia e.toNat + 2 * m.toNat - 1).toNat * 2 ^ (-ea).toNat := by
    simp only [← Nat.pow_add]
    exact congrArg (fun t => 2 ^ t) (by omega)
  have e2 : ma.toNat * 2 ^ ea.toNat * 2 ^ (bia e.toNat + m.toNat - 1) * 2 ^ m.toNat = ma.toNat * (2 ^ ea.toNat * 2 ^ (bia e.toNat + m.toNat - 1) * 2 ^ m.toNat) := by grind
  rw [e2, e1, ← Nat.mul_assoc, f.val]
  grind

/-- An operand: NaN, or a sign and a pattern. -/
theorem opr (h : Fm e m) (x : BitVec 64) :
    (∃ ng, F65 e m x = (false, 4, 0, 0#64) ∧ ∀ N, F144 N e m x = some (x &&& F69 e m, ng, 4, false, 0, 1)) ∨
    (∃ (neg : Bool) (P : Nat) (c ex : Int) (man : BitVec 64) (vn : Bool) (num den : Nat), F65 e m x = (neg, c, ex, man) ∧ (c == 4) = false ∧
      (∀ N, F144 N e m x = some (x &&& F69 e m, neg, c, vn, num, den)) ∧ (x &&& F69 e m).toNat = P + sgn e.toNat m.toNat neg ∧
      (((c == 3) = true ∧ P = infP e.toNat m.toNat) ∨
       ((c == 3) = false ∧ vn = neg ∧ P < infP e.toNat m.toNat ∧ den ≠ 0 ∧ blen num ≤ 2000 ∧ blen den ≤ 2000 ∧ num * 2 ^ (bia e.toNat + m.toNat - 1) = uv m.toNat P * den))) := by
  rcases opn h x with ⟨na, ha, xa, ha'⟩ | ⟨na, ha, xa, ha'⟩ | ⟨na, ha, xa, ha'⟩ | ⟨na, ca, ea, ma, pa, fa⟩
  · exact .inl ⟨na, ha, ha'⟩
  · refine .inr ⟨na, infP e.toNat m.toNat, 3, 0, 0#64, false, 0, 1, ha, rfl, ?_, ?_, .inl ⟨rfl, rfl⟩⟩
    · rw [xa]; exact ha'
    · rw [xa, F67_ok h]
  · refine .inr ⟨na, 0, 0, 0, 0#64, na, 0, 1, ha, rfl, ?_, ?_, .inr ⟨rfl, rfl, ?_, by decide, by decide, by decide, ?_⟩⟩
    · rw [xa]; exact ha'
    · rw [xa, F251_ok h, Nat.zero_add]
    · have := infP_pos h
      have := pow_pos2 m.toNat
      omega
    · rw [uv_zero, Nat.zero_mul, Nat.zero_mul]
  · exact .inr ⟨na, pa, ca, ea, ma, na, _, _, fa.f65, fa.cls.1, fa.f144, fa.xm, .inr ⟨fa.cls.2.1, rfl, fa.pi, pne _, fa.bnum h, fa.bden h, fa.least h⟩⟩

/-- How two numbers stand: by sign and size. -/
def cm (na : Bool) (A : Nat) (nb : Bool) (B : Nat) : Int :=
  if (A = 0 ∧ B = 0) ∨ (na = nb ∧ A = B) then 0 else bif na && !nb || (na == nb && (decide (A < B) != na)) then -1 else 1

theorem size_mask (h : Fm e m) {x : BitVec 64} {P : Nat} (hx : (x &&& F69 e m).toNat = P + sgn e.toNat m.toNat neg) (hP : P ≤ infP e.toNat m.toNat) : (x &&& (F70 e m - 1#64)).toNat = P := by
  have h2 := h.e11
  have h4 := h.m52
  have hi := infP_lt' e.toNat m.toNat
  rw [F70_eq h, and_mask64 _ (by omega)]
  rw [BitVec.toNat_and, F69_ok h, Nat.and_two_pow_sub_one_eq_mod] at hx
  have : x.toNat % 2 ^ (e.toNat + m.toNat) = x.toNat % 2 ^ (e.toNat + m.toNat + 1) % 2 ^ (e.toNat + m.toNat) := (Nat.mod_mod_of_dvd _ (Nat.pow_dvd_pow 2 (by omega))).symm
  rw [this, hx]
  unfold sgn
  cases neg with
  | false => exact Nat.mod_eq_of_lt (by simp only [cond_false]; omega)
  | true => simp only [cond_true]; rw [Nat.add_mod_right]; exact Nat.mod_eq_of_lt (by omega)
theorem sign_bit (h : Fm e m) {x : BitVec 64} {P : Nat} (hx : x.toNat = P + sgn e.toNat m.toNat neg) (hP : P ≤ infP e.toNat m.toNat) : ((x &&& F70 e m) != 0#64) = neg := by
  have h2 := h.e11
  have h4 := h.m52
  have hi := infP_lt' e.toNat m.toNat
  have hp := pow_pos2 (e.toNat + m.toNat)
  have hv : (x &&& F70 e m).toNat = bif neg then 2 ^ (e.toNat + m.toNat) else 0 := by
    rw [F70_eq h, bit_and _ _ (by omega), hx]
    unfold sgn
    cases neg with
    | false =>
      simp only [cond_false]
      rw [Nat.add_zero, Nat.div_eq_of_lt (by omega), Nat.zero_mod, Nat.zero_mul]
    | true =>
      simp only [cond_true]
      rw [Nat.add_div_right _ hp, Nat.div_eq_of_lt (by omega)]
      simp
  rw [ne_bv, show (0#64).toNat = 0 from rfl, hv]
  cases neg with
  | false => rfl
  | true => exact decide_eq_true (by simp only [cond_true]; omega)

theorem F88_ok (h : Fm e m) {P Q : Nat} (ha : F65 e m a = (na, ca, ea, ma)) (hb : F65 e m b = (nb, cb, eb, mb)) (a4 : (ca == 4) = false) (b4 : (cb == 4) = false)
    (xa : (a &&& F69 e m).toNat = P + sgn e.toNat m.toNat na) (xb : (b &&& F69 e m).toNat = Q + sgn e.toNat m.toNat nb) (hP : P ≤ infP e.toNat m.toNat) (hQ : Q ≤ infP e.toNat m.toNat) :
    F88 e m a b = cm na P nb Q := by
  have s1 := size_mask h xa hP
  have s2 := size_mask h xb hQ
  unfold F88 F88_1 F88_2 F88_3 F88_4 F88_5 F88_6 F88_10 F88_7 F88_9 F88_8
  simp only [lt]
  rw [h.ok, ha, hb]
  simp only [a4, b4, Bool.not_true, Bool.or_self, cond_false]
  generalize a &&& (F70 e m - 1#64) = x at *
  generalize b &&& (F70 e m - 1#64) = y at *
  have hz : (x ||| y == 0#64) = decide (P = 0 ∧ Q = 0) := by
    rw [eq_bv, BitVec.toNat_or, show (0#64).toNat = 0 from rfl, s1, s2]
    refine decide_eq_decide.2 ?_
    have h1 : P ≤ P ||| Q := Nat.left_le_or
    have h2 : Q ≤ P ||| Q := Nat.right_le_or
    constructor
    · intro k; rw [k] at h1 h2; omega
    · rintro ⟨k1, k2⟩; rw [k1, k2]; rfl
  rw [hz, eq_bv, s1, s2]
  unfold cm
  by_cases c1 : P = 0 ∧ Q = 0
  · rw [if_pos (.inl c1), decide_eq_true c1]; rfl
  · rw [decide_eq_false c1]
    by_cases c2 : na = nb ∧ P = Q
    · obtain ⟨c2, c3⟩ := c2
      rw [if_pos (.inr ⟨c2, c3⟩), decide_eq_true c3, c2]
      cases nb <;> rfl
    · rw [if_neg (fun k => by rcases k with k | k; exact c1 k; exact c2 k)]
      by_cases c3 : P = Q
      · have c4 : na ≠ nb := fun k => c2 ⟨k, c3⟩
        rw [decide_eq_true c3]
        cases na <;> cases nb <;> first | exact (c4 rfl).elim | rfl
      · rw [decide_eq_false c3]
        cases na <;> cases nb <;> cases decide (P < Q) <;> rfl

/-- exact's comparison of finite numbers. -/
theorem F81_fin {N : Nat} {x2 x8 : BitVec 64} {x3 x9 : Bool} {x4 x10 : Int} {an ad bn bd P Q L M : Nat} (ha : an * 2 ^ L = uv M P * ad) (hb : bn * 2 ^ L = uv M Q * bd) (had : ad ≠ 0) (hbd : bd ≠ 0)
    (b1 : blen an ≤ 2000) (b2 : blen ad ≤ 2000) (b3 : blen bn ≤ 2000) (b4 : blen bd ≤ 2000) :
    F81_8 N x2 x3 x4 na an ad x8 x9 x10 bn bd (!nb) = some (cm na P nb Q) := by
  obtain ⟨ng, num, den, h1, h2, h3, h4, h5⟩ := F146_ok (N := N) (na := na) (nb := !nb) ha hb (pow_pos2 L) (by omega) (by omega) (by omega) (by omega) (by omega) (by omega)
  unfold F81_8 F81_9 F81_10
  rw [h1]
  simp only [Option.bind_some]
  have u1 := uv_lt_iff (M := M) (P := P) (Q := Q)
  have u2 := uv_eq_iff (M := M) (P := P) (Q := Q)
  have u3 := uv_eq_iff (M := M) (P := P) (Q := 0)
  have u4 := uv_eq_iff (M := M) (P := Q) (Q := 0)
  rw [uv_zero] at u3 u4
  have hpl := pow_pos2 L
  have hz : ∀ V, num * 2 ^ L = V * den → (num = 0 ↔ V = 0) := by
    intro V hV
    constructor
    · intro k
      rw [k, Nat.zero_mul] at hV
      rcases Nat.mul_eq_zero.1 hV.symm with k | k
      · exact k
      · exact (h2 k).elim
    · intro k
      rw [k, Nat.zero_mul] at hV
      rcases Nat.mul_eq_zero.1 hV with k | k
      · exact k
      · omega
  unfold cm
  rcases h5 with ⟨g1, g2, g3⟩ | ⟨g1, g2, g3, g4⟩ | ⟨g1, g2, g3, g4⟩
  · have hz := hz _ g3
    have hn : na ≠ nb := by rw [g1]; cases nb <;> decide
    by_cases c : P = 0 ∧ Q = 0
    · rw [if_pos (.inl c), bt (by simp; omega)]
    · rw [if_neg (fun k => by rcases k with k | k; exact c k; exact hn k.1), bf (by simp; omega), g2]
      cases na <;> cases nb <;> first | exact (hn rfl).elim | rfl
  · have hz := hz _ g4
    have hn : na = nb := by cases na <;> cases nb <;> first | rfl | exact (g1 rfl).elim
    by_cases c : P = Q
    · rw [if_pos (.inr ⟨hn, c⟩), bt (by simp; omega)]
    · rw [if_neg (fun k => by rcases k with k | k; omega; exact c k.2), bf (by simp; omega), g3, ← hn, decide_eq_false (show ¬ P < Q by omega)]
      cases na <;> rfl
  · have hz := hz _ g4
    have hn : na = nb := by cases na <;> cases nb <;> first | rfl | exact (g1 rfl).elim
    rw [if_neg (fun k => by rcases k with k | k; omega; omega), bf (by simp; omega), g3, ← hn, decide_eq_true (show P < Q by omega)]
    cases na <;> rfl

theorem cmp_ok (h : Fm e m) (a b : BitVec 64) {N : Nat} : F81 N e m a b = some (F88 e m a b) := by
  rcases opr h a with ⟨ga, ha, ha'⟩ | ⟨na, P, ca, ea, ma, va, an, ad, ha, a4, ha', xa, alta⟩
  · unfold F81 F81_1 F88 F88_1
    simp only [lt]
    rw [h.ok, ha, ha']
    rcases opr h b with ⟨gb, hb, hb'⟩ | ⟨nb, Q, cb, eb, mb, vb, bn, bd, hb, b4, hb', xb, altb⟩ <;> rw [hb, hb'] <;> rfl
  rcases opr h b with ⟨gb, hb, hb'⟩ | ⟨nb, Q, cb, eb, mb, vb, bn, bd, hb, b4, hb', xb, altb⟩
  · unfold F81 F81_1 F88 F88_1 F88_2 F88_3 F88_4 F88_5 F88_6
    simp only [lt]
    rw [h.ok, ha, ha', hb, hb']
    simp only [Option.bind_some, F81_2, F81_3, a4, klit, cond_true, cond_false]
  have hPi : P ≤ infP e.toNat m.toNat := by rcases alta with k | k <;> omega
  have hQi : Q ≤ infP e.toNat m.toNat := by rcases altb with k | k <;> omega
  rw [F88_ok h ha hb a4 b4 xa xb hPi hQi]
  unfold F81 F81_1
  simp only [lt]
  rw [h.ok, ha', hb']
  simp only [Option.bind_some, F81_2, F81_3, F81_4, F81_5, F145, F145_1, lt, a4, b4, klit, cond_true, cond_false]
  have hip := infP_pos h
  have hpm := pow_pos2 m.toNat
  rcases alta with ⟨a3, hP⟩ | ⟨a3, hvn, hP, had, b1, b2, hv⟩ <;> rcases altb with ⟨b3, hQ⟩ | ⟨b3, hvn', hQ, hbd, b1', b2', hv'⟩ <;> simp only [bne, a3, b3, klit, cond_true, cond_false]
  · unfold cm
    rw [hP, hQ]
    cases na <;> cases nb <;> simp [F81_6, F81_7] <;> omega
  · unfold cm
    have d1 : decide (P < Q) = false := decide_eq_false (by omega)
    rw [if_neg (by omega), d1]
    cases na <;> cases nb <;> simp [F81_6, F81_7]
  · unfold cm
    have d1 : decide (P < Q) = true := decide_eq_true (by omega)
    rw [if_neg (by omega), d1]
    cases na <;> cases nb <;> simp [F81_6, F81_7]
  · subst hvn hvn'
    exact F81_fin hv hv' had hbd b1 b2 b1' b2'
end
end Go.Proofs.YfwaawGreat
