/-
  native: to a whole number.
-/
import Derived.Test.YfwaawGreatII
namespace Go.Proofs.YfwaawGreat
open Go.Aw
set_option linter.unusedVariables false
set_option linter.unusedSimpArgs false

section
variable {e m e' m' mode : BitVec 8} {f f' : Ieee.Format} {neg na nb : Bool} {x : BitVec 64} {N : Nat}
theorem rn_bl (mode : BitVec 8) (s : Bool) (a b : Nat) (t : Bool) : rn mode s (2 * a / b) t ≤ 2 * a + 1 := by
  have h := rn_le mode s (2 * a / b) t
  have := Nat.div_le_self (2 * a) b
  omega
/-- exact.RoundInt. -/
theorem nRound (k : Kd e m f) (hbm : m.toNat ≤ bia e.toNat) (mode : BitVec 8) (a : BitVec 64) : ∃ z, F182 N e m mode a = some z ∧
    (((∃ s t, f.read (wd e m a) = .nan s t) ∧ z.1 = F66 e m) ∨ (∃ s, f.read (wd e m a) = .infinity s ∧ z.1 = F67 e m s) ∨
     (∃ s mag place, f.read (wd e m a) = .number s mag place ∧ z.1 = can e m (some (f.write (.number s (wh mode s mag place) 0))) ∧ (mag = 0 ∨ ∃ P, 0 < P ∧ P < infP e.toNat m.toNat ∧ wd e m a = P + sgn e.toNat m.toNat s ∧ Nu f e m P mag place))) := by
  have z1 := bl1
  unfold F182 F182_1
  simp only [lt]
  rw [k.fm.ok, Bool.not_true, bf rfl]
  rcases k.opn a with ⟨ng, s, t, h1, h2, h3⟩ | ⟨neg, h1, h2, h3, h4⟩ | ⟨neg, h1, h2, h3, h4⟩ | ⟨neg, c, ex, man, P, mag, place, h1, h2, h3⟩
  · rw [h3]
    exact ⟨_, rfl, Or.inl ⟨⟨s, t, h1⟩, rfl⟩⟩
  · rw [h4]
    exact ⟨_, rfl, Or.inr (Or.inl ⟨neg, h1, rfl⟩)⟩
  · rw [h4]
    simp only [Option.bind_some, F182_2, F182_3, F182_4, klit, cond_false]
    rw [F245_ok (by decide) (by decide) (by decide), Option.bind_some]
    simp only [F182_5, F129, lt]
    have hz : rn mode neg (2 * 0 / 1) (decide (2 * 0 % 1 ≠ 0)) = 0 := by rw [rn_exact (by decide) (by decide)]
    rw [hz, show (1#64).toNat = 1 from rfl, F136_zero k.fm (by decide) (by decide), Option.bind_some]
    refine ⟨_, rfl, Or.inr (Or.inr ⟨neg, 0, f.leastPlace, h1, ?_, Or.inl rfl⟩)⟩
    have hw : wh mode neg 0 f.leastPlace = 0 := by
      unfold wh
      rw [Nat.zero_mul, Nat.mul_zero, Nat.zero_div, Nat.zero_mod, rn_exact (by decide) (by decide)]
    rw [hw]
    exact (can_zero k 0).symm
  · obtain ⟨c4, c3, c0⟩ := h2.cls
    have n1 := h2.bnum k.fm
    have d1 := h2.bden k.fm
    rw [h2.f144]
    simp only [Option.bind_some, F182_2, F182_3, F182_4, c4, c3, cond_false]
    rw [F245_ok (pow_pos2 _) (by omega) (by omega), Option.bind_some]
    simp only [F182_5, F129, lt]
    have hcr : 2 * (man.toNat * 2 ^ ex.toNat) * 2 ^ (-place).toNat = 2 * (mag * 2 ^ place.toNat) * 2 ^ (-ex).toNat := by
      rw [Nat.mul_assoc, h3.cross k h2, ← Nat.mul_assoc]
    have hdc := div_cross (pow_pos2 (-ex).toNat) (pow_pos2 (-place).toNat) hcr
    have hw : rn mode neg (2 * (man.toNat * 2 ^ ex.toNat) / 2 ^ (-ex).toNat) (decide (2 * (man.toNat * 2 ^ ex.toNat) % 2 ^ (-ex).toNat ≠ 0)) = wh mode neg mag place := by
      unfold wh
      rw [hdc.1, decide_eq_decide.2 (not_congr hdc.2)]
    have hle := rn_bl mode neg (man.toNat * 2 ^ ex.toNat) (2 ^ (-ex).toNat) (decide (2 * (man.toNat * 2 ^ ex.toNat) % 2 ^ (-ex).toNat ≠ 0))
    rw [hw] at hle ⊢
    have hbl : blen (wh mode neg mag place) ≤ 3000 := by
      have b1 := blen_mono hle
      have b2 : 2 * (man.toNat * 2 ^ ex.toNat) + 1 ≤ 4 * (man.toNat * 2 ^ ex.toNat) := by
        have := Nat.pos_of_ne_zero h2.nne
        omega
      have b3 := blen_mono b2
      have b4 := blen_mul 4 (man.toNat * 2 ^ ex.toNat)
      have b5 : blen 4 = 3 := by decide
      omega
    rw [show (1#64).toNat = 1 from rfl]
    refine ⟨(can e m (some (f.write (.number neg (wh mode neg mag place) 0))), bif (man.toNat * 2 ^ ex.toNat % 2 ^ (-ex).toNat != 0) then (if wh mode neg mag place = 0 then 0#8 else (RQ e m mode neg (wh mode neg mag place) 1).2) ||| 16#8 else (if wh mode neg mag place = 0 then 0#8 else (RQ e m mode neg (wh mode neg mag place) 1).2)), ?_, Or.inr (Or.inr ⟨neg, mag, place, h1, rfl, Or.inr ⟨P, h2.p0, h2.pi, h2.xm, h3⟩⟩)⟩
    by_cases hz : wh mode neg mag place = 0
    · rw [hz, F136_zero k.fm (by decide) (by omega), Option.bind_some, can_zero k]
      simp only [F182_6, F182_7]
      rw [if_pos trivial]
      cases (man.toNat * 2 ^ ex.toNat % 2 ^ (-ex).toNat != 0) <;> rfl
    · obtain ⟨Q, q1, q2, q3⟩ := wh_rung k hbm mode neg h3 h2.pi hz
      rw [F136_RQ k.fm hz (by decide) (by omega) (by omega), Option.bind_some, can_num k ne_zero hz]
      have hmd := RQ_mode (mode := mode) (s := neg) k q1 q2 (show (1 : Nat) ≠ 0 by decide) (by rw [q3, Nat.mul_one])
      simp only [F182_6, F182_7]
      rw [if_neg hz, show (0 : Int).toNat = 0 from rfl, show (-(0 : Int)).toNat = 0 from rfl, Nat.pow_zero, Nat.mul_one, ← hmd]
      cases (man.toNat * 2 ^ ex.toNat % 2 ^ (-ex).toNat != 0) <;> rfl
/-- The model's ways are the modes. -/
theorem half2 (n : Nat) {d : Nat} (hd : 1 ≤ d) : 2 * n / 2 ^ d = n / 2 ^ (d - 1) ∧ (2 * n % 2 ^ d ≠ 0 ↔ n % 2 ^ (d - 1) ≠ 0) := by
  obtain ⟨i, rfl⟩ : ∃ i, d = i + 1 := ⟨d - 1, by omega⟩
  rw [Nat.add_sub_cancel, Nat.pow_succ, Nat.mul_comm (2 ^ i), Nat.mul_div_mul_left _ _ (by decide), Nat.mul_mod_mul_left]
  exact ⟨rfl, by omega⟩
theorem cut_rest {n d : Nat} (hn : n ≠ 0) : n / 2 ^ min d (n.log2 + 2) = n / 2 ^ d ∧ (n % 2 ^ min d (n.log2 + 2) != 0) = decide (n % 2 ^ d ≠ 0) := by
  have hl : n < 2 ^ (n.log2 + 1) := Nat.lt_log2_self
  have h1 : 2 ^ (n.log2 + 1) ≤ 2 ^ (n.log2 + 2) := pow_le (by omega)
  rcases Nat.lt_or_ge (n.log2 + 2) d with c | c
  · have h2 : 2 ^ (n.log2 + 2) ≤ 2 ^ d := pow_le (by omega)
    rw [Nat.min_eq_right (by omega), Nat.div_eq_of_lt (by omega), Nat.div_eq_of_lt (by omega), Nat.mod_eq_of_lt (by omega), Nat.mod_eq_of_lt (by omega)]
    exact ⟨rfl, by rw [Bool.eq_iff_iff, bne_iff_ne, decide_eq_true_eq]⟩
  · rw [Nat.min_eq_left c]
    exact ⟨rfl, by rw [Bool.eq_iff_iff, bne_iff_ne, decide_eq_true_eq]⟩
theorem wh_neg (mode : BitVec 8) (s : Bool) {mag : Nat} {place : Int} (hp : place < 0) : wh mode s mag place = rn mode s (mag / 2 ^ ((-place).toNat - 1)) (decide (mag % 2 ^ ((-place).toNat - 1) ≠ 0)) := by
  unfold wh
  have h := half2 mag (d := (-place).toNat) (by omega)
  rw [show place.toNat = 0 by omega, Nat.pow_zero, Nat.mul_one, h.1, decide_eq_decide.2 h.2]
theorem odd_or {n d : Nat} (hd : 1 ≤ d) : (decide (n / 2 ^ (d - 1) % 2 = 1) || decide (n % 2 ^ (d - 1) ≠ 0)) = decide (n % 2 ^ d ≠ 0) := by
  obtain ⟨i, rfl⟩ : ∃ i, d = i + 1 := ⟨d - 1, by omega⟩
  rw [Nat.add_sub_cancel, Nat.pow_succ, Nat.mod_mul]
  have hp := pow_pos2 i
  generalize 2 ^ i = p at *
  rw [Bool.eq_iff_iff, Bool.or_eq_true, decide_eq_true_eq, decide_eq_true_eq, decide_eq_true_eq]
  rcases Nat.mod_two_eq_zero_or_one (n / p) with g | g
  · rw [g, Nat.mul_zero]; omega
  · rw [g, Nat.mul_one]; omega
theorem low_half (n : Nat) {d : Nat} (hd : 1 ≤ d) : n / 2 ^ (d - 1) / 2 = n / 2 ^ d := by
  obtain ⟨i, rfl⟩ : ∃ i, d = i + 1 := ⟨d - 1, by omega⟩
  rw [Nat.add_sub_cancel, Nat.pow_succ, Nat.div_div_eq_div_mul]
def wayOf (mode : BitVec 8) : Ieee.Toward := if mode = 2#8 then .zero else if mode = 3#8 then .up else if mode = 4#8 then .down else .even
theorem cut_wh (mode : BitVec 8) (h1 : mode ≠ 1#8) (s : Bool) (mag : Nat) (place : Int) : (wayOf mode).cut s (mag <<< place.toNat) (-place).toNat = wh mode s mag place := by
  rw [Nat.shiftLeft_eq]
  by_cases hz : mag = 0
  · subst hz
    rw [Nat.zero_mul]
    have hw : wh mode s 0 place = 0 := by
      unfold wh
      rw [Nat.zero_mul, Nat.mul_zero, Nat.zero_div, Nat.zero_mod, rn_exact (by decide) (by decide)]
    rw [hw]
    unfold Ieee.Toward.cut
    simp only [Nat.zero_div, Nat.zero_mod, Nat.one_shiftLeft]
    have hp := pow_pos2 (min (-place).toNat (Nat.log2 0 + 2))
    generalize 2 ^ min (-place).toNat (Nat.log2 0 + 2) = g at *
    cases wayOf mode
    · show 0 + (decide (g < 2 * 0) || (g == 2 * 0) && (0 % 2 == 1)).toNat = 0
      rw [decide_eq_false (by omega), show (g == 2 * 0) = false from by rw [beq_eq_false_iff_ne]; omega]; rfl
    · show 0 + (s && ((0 : Nat) != 0)).toNat = 0
      cases s <;> rfl
    · show 0 + (!s && ((0 : Nat) != 0)).toNat = 0
      cases s <;> rfl
    · rfl
  · rcases Int.lt_or_le place 0 with c | c
    · rw [show place.toNat = 0 by omega, Nat.pow_zero, Nat.mul_one, wh_neg mode s c]
      obtain ⟨d, hd⟩ : ∃ d, d = (-place).toNat := ⟨_, rfl⟩
      have hd1 : 1 ≤ d := by omega
      rw [← hd]
      have hcr := cut_rest (d := d) hz
      unfold wayOf
      by_cases c2 : mode = 2#8
      · rw [if_pos c2, c2, cut_zero, rn_zero, low_half _ hd1]
      · rw [if_neg c2]
        have m1 : (mode == 1#8) = false := by rw [beq_eq_false_iff_ne]; exact h1
        have m2 : (mode == 2#8) = false := by rw [beq_eq_false_iff_ne]; exact c2
        by_cases c3 : mode = 3#8
        · rw [if_pos c3]
          unfold Ieee.Toward.cut
          simp only [Nat.one_shiftLeft]
          rw [hcr.1, hcr.2]
          unfold rn rz
          rw [m1, m2, c3, show ((3#8 : BitVec 8) == 3#8) = true from rfl, low_half _ hd1, cond_false, cond_false, cond_true, odd_or hd1]
          cases s <;> cases decide (mag % 2 ^ d ≠ 0) <;> rfl
        · rw [if_neg c3]
          have m3 : (mode == 3#8) = false := by rw [beq_eq_false_iff_ne]; exact c3
          by_cases c4 : mode = 4#8
          · rw [if_pos c4]
            unfold Ieee.Toward.cut
            simp only [Nat.one_shiftLeft]
            rw [hcr.1, hcr.2]
            unfold rn rz
            rw [m1, m2, m3, c4, show ((4#8 : BitVec 8) == 4#8) = true from rfl, low_half _ hd1, cond_false, cond_false, cond_false, cond_true, odd_or hd1]
            cases s <;> cases decide (mag % 2 ^ d ≠ 0) <;> rfl
          · rw [if_neg c4, cut_even hz hd1]
            have m4 : (mode == 4#8) = false := by rw [beq_eq_false_iff_ne]; exact c4
            exact (rn_ne ⟨m1, m2, m3, m4⟩ _ _).symm
    · rw [wh_whole mode s c, show (-place).toNat = 0 by omega]
      unfold Ieee.Toward.cut
      simp only [Nat.one_shiftLeft]
      rw [Nat.zero_min, Nat.pow_zero, Nat.div_one, Nat.mod_one]
      generalize mag * 2 ^ place.toNat = z
      cases wayOf mode
      · rfl
      · show z + (s && ((0 : Nat) != 0)).toNat = z
        cases s <;> rfl
      · show z + (!s && ((0 : Nat) != 0)).toNat = z
        cases s <;> rfl
      · rfl
/-- native.RoundInt64, but for the mode away from zero. -/
theorem F393_way (mode : BitVec 8) (h1 : mode ≠ 1#8) (a : BitVec 64) : F393 N mode a = some (put 11#8 52#8 Ieee.double (fint (wayOf mode) (some a.toNat))) := by
  unfold F393 F393_1 F393_2 F393_3 F393_4 F393_5 F384 F412 F413 F414 F415 F424 F425 F426
  simp only [lt, F385_ok]
  rw [bf (by rw [beq_eq_false_iff_ne]; exact h1)]
  unfold wayOf
  by_cases c2 : mode = 2#8
  · rw [if_pos c2, bt (by rw [beq_iff_eq]; exact c2)]; rfl
  · rw [if_neg c2, bf (by rw [beq_eq_false_iff_ne]; exact c2)]
    by_cases c3 : mode = 3#8
    · rw [if_pos c3, bt (by rw [beq_iff_eq]; exact c3)]; rfl
    · rw [if_neg c3, bf (by rw [beq_eq_false_iff_ne]; exact c3)]
      by_cases c4 : mode = 4#8
      · rw [if_pos c4, bt (by rw [beq_iff_eq]; exact c4)]; rfl
      · rw [if_neg c4, bf (by rw [beq_eq_false_iff_ne]; exact c4)]; rfl
theorem fint_val (way : Ieee.Toward) (X : Nat) : fint way (some X) = match Ieee.double.read X with | .nan _ _ => none | .infinity s => some (Ieee.double.write (.infinity s)) | .number s n p => some (Ieee.double.write (.number s (way.cut s (n <<< p.toNat) (-p).toNat) 0)) := by
  show (if isN .f64 X then none else some (FloatKind.f64.encode ((FloatKind.f64.decode X).integral way))) = _
  unfold isN FloatKind.decode FloatKind.encode
  simp only [show FloatKind.f64.format = Ieee.double from rfl]
  cases Ieee.double.read X <;> rfl
end
end Go.Proofs.YfwaawGreat
