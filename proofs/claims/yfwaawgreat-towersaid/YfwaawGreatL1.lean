/-
  Package slow, plain: its rounding.
-/
import Derived.Test.YfwaawGreatD1
import Derived.Test.YfwaawGreatG37
namespace Go.Proofs.YfwaawGreat
open Go.Aw
set_option linter.unusedVariables false
set_option linter.unusedSimpArgs false
section
variable {e m mode : BitVec 8} {neg : Bool}

/-- What lies behind a cut by one bit at least. -/
theorem rest_ok (s : BitVec 64) (k : Nat) (hk : 1 ≤ k) (hs : s.toNat ≠ 0) : ∃ n rest : BitVec 64, (bif decide (k ≤ 64) then (s >>> k, s <<< (64 - k)) else (0#64, 1#64)) = (n, rest) ∧ n.toNat = s.toNat / 2 ^ k ∧ Rest rest (s.toNat % 2 ^ k) (2 ^ k) := by
  have hsl := s.isLt
  by_cases h1 : k ≤ 64
  · rw [bt (decide_eq_true h1)]
    refine ⟨_, _, rfl, shr_nat _ _, ?_⟩
    have hp : 2 ^ 64 = 2 ^ k * 2 ^ (64 - k) := by rw [← Nat.pow_add]; congr 1; omega
    have e2 : (s <<< (64 - k)).toNat = s.toNat % 2 ^ k * 2 ^ (64 - k) := by
      rw [BitVec.toNat_shiftLeft, Nat.shiftLeft_eq, hp, Nat.mul_mod_mul_right]
    have p2 := pow_pos2 (64 - k)
    rw [p64] at hp
    generalize s.toNat % 2 ^ k = r at *
    generalize 2 ^ k = K at *
    generalize 2 ^ (64 - k) = L at *
    have e3 : 2 * (r * L) = 2 * r * L := by grind
    refine ⟨?_, ?_, ?_⟩
    · rw [e2]
      constructor
      · intro h
        refine Nat.le_of_mul_le_mul_right (c := L) ?_ p2
        omega
      · intro h
        have := Nat.mul_le_mul_right L h
        omega
    · rw [e2]
      constructor
      · intro h
        refine Nat.lt_of_mul_lt_mul_right (a := L) ?_
        omega
      · intro h
        have := Nat.mul_lt_mul_of_pos_right h p2
        omega
    · rw [e2, Nat.mul_eq_zero]; omega
  · rw [bf (decide_eq_false h1)]
    have hK : 2 ^ 65 ≤ 2 ^ k := pow_le (by omega)
    have h65 : 2 ^ 65 = 36893488147419103232 := rfl
    rw [h65] at hK
    rw [p64] at hsl
    have e4 : s.toNat % 2 ^ k = s.toNat := Nat.mod_eq_of_lt (by omega)
    have e5 : s.toNat / 2 ^ k = 0 := Nat.div_eq_of_lt (by omega)
    refine ⟨_, _, rfl, by rw [e5]; rfl, ?_, ?_, ?_⟩ <;> rw [e4] <;> simp <;> omega

theorem F363_ok {N : Nat} (s : BitVec 64) (hs : s.toNat ≠ 0) (j : Nat) (hj : j < 100000) : ∃ n, F363 N mode neg s ((j + 1 : Nat) : Int) = some (n, decide (s.toNat / 2 ^ j % 2 = 1) || decide (s.toNat % 2 ^ j ≠ 0)) ∧
    n.toNat = rn mode neg (s.toNat / 2 ^ j) (decide (s.toNat % 2 ^ j ≠ 0)) := by
  obtain ⟨n, rest, h1, h2, h3⟩ := rest_ok s (j + 1) (by omega) hs
  have hsl := s.isLt
  have ht := two_shift s.toNat j
  have hf := F258_ok (mode := mode) (neg := neg) (pow_pos2 _) h2 h3
  rw [ht.1, decide_eq_decide.2 ht.2] at hf
  have hn2 : n.toNat = s.toNat / 2 ^ j / 2 := by rw [h2, Nat.pow_succ, Nat.div_div_eq_div_mul]
  have hinex : (rest != 0#64) = (decide (s.toNat / 2 ^ j % 2 = 1) || decide (s.toNat % 2 ^ j ≠ 0)) := by
    have hz := h3.z
    have hm : s.toNat % 2 ^ (j + 1) = s.toNat % 2 ^ j + 2 ^ j * (s.toNat / 2 ^ j % 2) := by rw [Nat.pow_succ, Nat.mod_mul]
    rw [hm] at hz
    rw [ne_bv, show (0#64).toNat = 0 from rfl]
    have hp := pow_pos2 j
    clear hm hf h2 h3 ht h1 hn2
    generalize s.toNat % 2 ^ j = r at *
    generalize s.toNat / 2 ^ j = q at *
    rcases Nat.mod_two_eq_zero_or_one q with h | h <;> rw [h] at hz ⊢
    · by_cases hr : r = 0
      · have : rest.toNat = 0 := hz.2 (by rw [hr, Nat.mul_zero])
        simp [hr, this]
      · have : rest.toNat ≠ 0 := fun c => hr (by have := hz.1 c; omega)
        simp [hr, this]
    · have : rest.toNat ≠ 0 := fun c => by have := hz.1 c; omega
      simp [this]
  have hw : F363 N mode neg s ((j + 1 : Nat) : Int) = F363_1 N mode neg n rest := by
    unfold F363 F363_8
    by_cases c : j + 1 ≤ 64
    · rw [bt (decide_eq_true c)] at h1
      obtain ⟨k1, k2⟩ := Prod.mk.inj h1
      have w1 : w64 (64 - ((j + 1 : Nat) : Int)) = ((64 - (j + 1) : Nat) : Int) := by rw [w64_id (by omega)]; omega
      rw [bt (decide_eq_true (by omega)), bt (decide_eq_true (by omega)), w1, bt (decide_eq_true (by omega)), Int.toNat_natCast, Int.toNat_natCast, k1, k2]
    · rw [bf (decide_eq_false c)] at h1
      obtain ⟨k1, k2⟩ := Prod.mk.inj h1
      rw [bf (decide_eq_false (by omega)), k1, k2]
  have hrule : F363_1 N mode neg n rest = some (bif F258 mode neg n rest then n + 1#64 else n, rest != 0#64) := by
    have h63 : ((rest >>> 63) == 1#64) = decide (9223372036854775808 ≤ rest.toNat) := by
      rw [eq_bv, shr_nat, show (1#64).toNat = 1 from rfl, show (2 : Nat) ^ 63 = 9223372036854775808 from rfl]
      have := rest.isLt
      exact decide_eq_decide.2 (by omega)
    unfold F363_1 F363_4 F363_5 F363_6 F363_7 F363_2 F363_3 F258 F258_1 F258_2 F258_3 F258_4
    rw [h63]
    simp only [show (9223372036854775808#64).toNat = 9223372036854775808 from rfl]
    cases mode == 1#8
    · cases mode == 2#8
      · cases mode == 3#8
        · cases mode == 4#8
          · simp only [cond_false]
            generalize (decide (9223372036854775808 < rest.toNat) || rest == 9223372036854775808#64 && n &&& 1#64 == 1#64) = b
            cases b <;> rfl
          · simp only [cond_false, cond_true]
            generalize ((rest != 0#64) && neg) = b
            cases b <;> rfl
        · simp only [cond_false, cond_true]
          generalize ((rest != 0#64) && !neg) = b
          cases b <;> rfl
      · rfl
    · simp only [cond_true]
      generalize decide (9223372036854775808 ≤ rest.toNat) = b
      cases b <;> rfl
  rw [hw, hrule, hinex]
  refine ⟨_, rfl, ?_⟩
  rw [hf]
  exact raise_rn hn2 (Nat.lt_of_le_of_lt (Nat.div_le_self _ _) hsl)

theorem pk_t {X : Nat} {i t t' : Bool} (h : t = t') : some (pk e m mode neg X i t) = some (pk e m mode neg X i t') := by rw [h]
/-- The end of slow's round. -/
theorem F265_8_ok {N : Nat} (h : Fm e m) {x1 x : BitVec 64} {X : Nat} {inex tiny : Bool} (h1 : x1.toNat = sgn e.toNat m.toNat neg) (hx : x.toNat = X) :
    F265_8 N e m mode neg x1 inex tiny x = some (pk e m mode neg X inex tiny) := by
  have hil := infP_lt' e.toNat m.toNat
  have hfl : F265_13 N e m mode neg (mode == 2#8) = some (F252 e m mode neg) := by
    unfold F265_13 F265_14 F265_12 F252 F252_2 F252_3 F252_1
    simp only [lt]
    cases mode == 2#8
    · cases mode == 3#8
      · cases mode == 4#8 <;> cases neg <;> rfl
      · cases mode == 4#8 <;> cases neg <;> rfl
    · rfl
  unfold F265_8 F265_9 F265_10 F265_11 pk
  simp only [lt]
  rw [F67_ok h, show sgn e.toNat m.toNat false = 0 from rfl, Nat.add_zero, hx, hfl]
  by_cases ho : infP e.toNat m.toNat ≤ X
  · rw [decide_eq_false (show ¬ X < infP e.toNat m.toNat by omega), if_pos ho]
    rfl
  · rw [decide_eq_true (show X < infP e.toNat m.toNat by omega), if_neg ho, or_sgn h (by omega) h1, hx]
    cases inex <;> cases tiny <;> rfl

theorem F265_ok {N : Nat} (h : Fm e m) {x : Int} {s : BitVec 64} (hs : 2 ^ 63 ≤ s.toNat) (hx : -5000 < x ∧ x ≤ 2000) :
    F265 N e m mode neg s x = some (RQ e m mode neg (s.toNat * 2 ^ x.toNat) (2 ^ (-x).toNat)) := by
  have h2 := h.e11
  have h3 := h.m2
  have h4 := h.m52
  have hb := bia_le h.e11
  have hbp := bia_ge h.e2
  have hsl := s.isLt
  have hs' : 9223372036854775808 ≤ s.toNat := hs
  have hs0 : s.toNat ≠ 0 := by omega
  have hbs : blen s.toNat = 64 := by
    have u1 := blen64 s
    have u2 : 63 + 1 ≤ blen s.toNat := by
      rcases Nat.lt_or_ge (blen s.toNat) 64 with c | c
      · have := blen_le_iff.1 (show blen s.toNat ≤ 63 by omega); omega
      · exact c
    omega
  unfold RQ
  rw [lg_pow hs0, hbs, RS_pk]
  obtain ⟨real, hreal⟩ : ∃ real : Int, real = ((64 : Nat) : Int) - 1 + x := ⟨_, rfl⟩
  rw [← hreal]
  -- the sign
  obtain ⟨x1, hx1, hw⟩ : ∃ x1 : BitVec 64, x1.toNat = sgn e.toNat m.toNat neg ∧ F265 N e m mode neg s x = F265_1 N e m mode neg s x x1 := by
    unfold F265
    cases neg with
    | true => exact ⟨_, F70_ok h, rfl⟩
    | false => exact ⟨0#64, rfl, rfl⟩
  rw [hw]
  unfold F265_1 F265_2
  rw [eq_bv, bf (by exact decide_eq_false hs0)]
  simp only [lt]
  rw [F71_ok h]
  have w0 : w64 (bia e.toNat : Int) = bia e.toNat := w64_id (by omega)
  have w1 : w64 (1 - (bia e.toNat : Int)) = 1 - bia e.toNat := w64_id (by omega)
  have w2 : w64 (x + 63) = real := by rw [w64_id (by omega)]; omega
  rw [w0, w1]
  unfold F265_3
  rw [w2]
  obtain ⟨ex, hex⟩ : ∃ ex : Int, ex = max real (1 - (bia e.toNat : Int)) := ⟨_, rfl⟩
  rw [← hex]
  have w3 : w64 (m.toNat : Int) = m.toNat := w64_id (by omega)
  have w4 : w64 (ex - x) = ex - x := w64_id (by omega)
  obtain ⟨j, hj⟩ : ∃ j : Nat, ex - m.toNat - 1 = x + j := ⟨(ex - m.toNat - 1 - x).toNat, by omega⟩
  have w5 : w64 (ex - x - m.toNat) = ((j + 1 : Nat) : Int) := by rw [w64_id (by omega)]; omega
  unfold F265_4
  rw [w3, w4, w5]
  obtain ⟨n, f1, f2⟩ := F363_ok (N := N) (mode := mode) (neg := neg) s hs0 j (by omega)
  rw [f1]
  simp only [Option.bind_some, F265_5, F265_6]
  rw [w2]
  have w6 : w64 (1 - (bia e.toNat : Int) - 1) = 1 - bia e.toNat - 1 := w64_id (by omega)
  rw [w6]
  have hn2 : s.toNat / 2 ^ j < 2 ^ (m.toNat + 2) := by
    rw [Nat.div_lt_iff_lt_mul (pow_pos2 _), ← Nat.pow_add]
    exact Nat.lt_of_lt_of_le hsl (pow_le (by omega))
  have hrn := rn_bound (mode := mode) (neg := neg) (s := decide (s.toNat % 2 ^ j ≠ 0)) hn2
  rw [hj, (fq_pow s.toNat x j).1, (fq_pow s.toNat x j).2]
  -- the pattern
  have hX : ((BitVec.ofInt 64 (w64 (ex - (1 - (bia e.toNat : Int))))) <<< m.toNat + n).toNat = (ex - (1 - (bia e.toNat : Int))).toNat * 2 ^ m.toNat + rn mode neg (s.toNat / 2 ^ j) (decide (s.toNat % 2 ^ j ≠ 0)) := by
    obtain ⟨k, hk⟩ : ∃ k : Nat, ex - (1 - (bia e.toNat : Int)) = k := ⟨(ex - (1 - (bia e.toNat : Int))).toNat, by omega⟩
    have wk : w64 (k : Int) = k := w64_id (by omega)
    have hkl : k ≤ 4000 := by omega
    have hs1 := Nat.pow_succ 2 m.toNat
    have hpm : 2 ^ m.toNat ≤ 2 ^ 52 := pow_le (by omega)
    have hkm : k * 2 ^ m.toNat ≤ 4000 * 2 ^ 52 := Nat.mul_le_mul hkl hpm
    have p52 : (2 : Nat) ^ 52 = 4503599627370496 := rfl
    rw [p52] at hkm hpm
    rw [hk, wk, ofInt_nat, Int.toNat_natCast, add64, BitVec.toNat_shiftLeft, Nat.shiftLeft_eq, BitVec.toNat_ofNat, f2, p64, Nat.mod_eq_of_lt (a := k) (by omega), Nat.mod_eq_of_lt (a := k * 2 ^ m.toNat) (by omega), Nat.mod_eq_of_lt (by omega)]
  have hfin : ∀ tiny, F265_7 N e m mode neg x1 (1 - (bia e.toNat : Int)) ex n (decide (s.toNat / 2 ^ j % 2 = 1) || decide (s.toNat % 2 ^ j ≠ 0)) tiny = some (pk e m mode neg ((ex - (1 - (bia e.toNat : Int))).toNat * 2 ^ m.toNat + rn mode neg (s.toNat / 2 ^ j) (decide (s.toNat % 2 ^ j ≠ 0))) (decide (s.toNat / 2 ^ j % 2 = 1) || decide (s.toNat % 2 ^ j ≠ 0)) tiny) := by
    intro tiny
    unfold F265_7
    exact F265_8_ok h hx1 hX
  have hgo : F265_15 N e m mode neg s x1 (1 - (bia e.toNat : Int)) ex n (decide (s.toNat / 2 ^ j % 2 = 1) || decide (s.toNat % 2 ^ j ≠ 0)) (decide (real < 1 - (bia e.toNat : Int))) (real == 1 - (bia e.toNat : Int) - 1) =
      some (pk e m mode neg ((ex - (1 - (bia e.toNat : Int))).toNat * 2 ^ m.toNat + rn mode neg (s.toNat / 2 ^ j) (decide (s.toNat % 2 ^ j ≠ 0))) (decide (s.toNat / 2 ^ j % 2 = 1) || decide (s.toNat % 2 ^ j ≠ 0))
        (decide (real < 1 - bia e.toNat ∧ (real = 1 - bia e.toNat - 1 → rn mode neg (fq (s.toNat * 2 ^ x.toNat) (2 ^ (-x).toNat) (real - m.toNat - 1)) (eq (s.toNat * 2 ^ x.toNat) (2 ^ (-x).toNat) (real - m.toNat - 1)) < 2 ^ (m.toNat + 1))))) := by
    unfold F265_15
    by_cases hr1 : real = 1 - (bia e.toNat : Int) - 1
    · rw [bt (by simpa using hr1)]
      obtain ⟨i, hi⟩ : ∃ i : Nat, real - m.toNat - 1 = x + i := ⟨(real - m.toNat - 1 - x).toNat, by omega⟩
      have w7 : w64 (63 - (m.toNat : Int)) = ((i + 1 : Nat) : Int) := by rw [w64_id (by omega)]; omega
      rw [w3, w7]
      obtain ⟨n', g1, g2⟩ := F363_ok (N := N) (mode := mode) (neg := neg) s hs0 i (by omega)
      rw [g1]
      simp only [Option.bind_some, F265_16]
      rw [hfin, hi, (fq_pow s.toNat x i).1, (fq_pow s.toNat x i).2, ← g2]
      refine pk_t ?_
      have em : (m + 1#8).toNat = m.toNat + 1 := by rw [BitVec.toNat_add, show (1#8).toNat = 1 from rfl]; omega
      rw [eq_bv, em, shr_nat, show (0#64).toNat = 0 from rfl]
      refine decide_eq_decide.2 ?_
      rw [Nat.div_eq_zero_iff]
      have := pow_pos2 (m.toNat + 1)
      omega
    · rw [bf (by simpa using hr1), hfin]
      refine pk_t ?_
      refine decide_eq_decide.2 ?_
      omega
  rw [hgo]
  by_cases ho : (bia e.toNat : Int) < ex
  · rw [if_pos ho]
    unfold pk
    rw [if_pos]
    have hEp := pow_E h.e2
    have h5 : (2 ^ e.toNat - 2) * 2 ^ m.toNat ≤ (ex - (1 - (bia e.toNat : Int))).toNat * 2 ^ m.toNat := Nat.mul_le_mul_right _ (by omega)
    have h6 : 2 ^ (m.toNat + 1) ≤ s.toNat / 2 ^ j := by
      rw [Nat.le_div_iff_mul_le (pow_pos2 _), ← Nat.pow_add]
      exact Nat.le_trans (pow_le (by omega)) hs
    have h7 : 2 ^ m.toNat ≤ rn mode neg (s.toNat / 2 ^ j) (decide (s.toNat % 2 ^ j ≠ 0)) := by
      rw [Nat.pow_succ] at h6
      unfold rn
      generalize s.toNat / 2 ^ j = q at *
      omega
    have h8 : infP e.toNat m.toNat = (2 ^ e.toNat - 2) * 2 ^ m.toNat + 2 ^ m.toNat := by
      unfold infP
      rw [show 2 ^ e.toNat - 1 = 2 ^ e.toNat - 2 + 1 from by omega, Nat.add_mul, Nat.one_mul]
    omega
  · rw [if_neg ho]
end
end Go.Proofs.YfwaawGreat
