/-
  soft = exact: product, conversions, scaling.
-/
import Derived.Test.YfwaawGreatO1
import Derived.Test.YfwaawGreatG5
import Derived.Test.YfwaawGreatG7
import Derived.Test.YfwaawGreatG8
import Derived.Test.YfwaawGreatG22
import Derived.Test.YfwaawGreatG31
import Derived.Test.YfwaawGreatG32
import Derived.Test.YfwaawGreatG55
namespace Go.Proofs.YfwaawGreat
open Go.Aw
set_option linter.unusedVariables false
set_option linter.unusedSimpArgs false
/-- The classes, told apart. -/
theorem klit : (((0 : Int) == 4) = false ∧ ((0 : Int) == 3) = false ∧ ((0 : Int) == 0) = true ∧ ((3 : Int) == 4) = false ∧ ((3 : Int) == 3) = true ∧ ((3 : Int) == 0) = false) ∧
    (((4 : Int) == 4) = true ∧ ((4 : Int) == 3) = false ∧ ((4 : Int) == 0) = false) ∧ ((!false) = true ∧ (!true) = false ∧ (∀ b, (true || b) = true) ∧ (∀ b, (false || b) = b) ∧ (∀ b, (b || false) = b) ∧ (∀ b, (b || true) = true)) ∧
    ((∀ b, (true && b) = b) ∧ (∀ b, (false && b) = false) ∧ (∀ b, (b && false) = false) ∧ (∀ b, (b && true) = b)) := by
  refine ⟨by decide, by decide, by decide, by decide⟩
/-- Two runs end, and alike. -/
def Bo {α : Type} (x y : Option α) : Prop := ∃ r, x = some r ∧ y = some r
section
variable {e m mode : BitVec 8} {neg : Bool}
theorem limand {x y : Nat} (hx : blen x ≤ 1048575) (hy : blen y ≤ 1048575) : (lim x && lim y) = true := by rw [lim_blen hx, lim_blen hy]; rfl
theorem bl0 : blen 0 = 0 := rfl
theorem bl1 : blen 1 = 1 := rfl
theorem F136_zero {N den : Nat} (h : Fm e m) (hd : den ≠ 0) (bd : blen den ≤ 1000000) : F136 N e m mode neg 0 den = some (F251 e m neg, 0#8) := by
  unfold F136
  simp only [lt]
  rw [h.ok]
  unfold F136_1
  rw [Bool.not_true, bf rfl]
  unfold F250 F250_2 F250_1
  rw [bt (lim_blen (by omega)), bf (by simpa using hd), bt (lim_blen (by decide))]
  simp only [Option.bind_some, F136_2, F136_3, lt]
  rw [bt (by rfl)]
theorem F215_zero {N : Nat} {x : Int} : F215 N e m mode neg x 0#64 = some (F251 e m neg, 0#8) := rfl

variable {a b : BitVec 64} {na nb : Bool} {ca cb ea eb : Int} {ma mb : BitVec 64} {pa pb : Nat}
theorem FinP.ne (f : FinP e m a na ca ea ma pa) : ma.toNat ≠ 0 := by
  have := f.lo
  have := pow_pos2 m.toNat
  omega
theorem FinP.cls (f : FinP e m a na ca ea ma pa) : (ca == (4 : Int)) = false ∧ (ca == (3 : Int)) = false ∧ (ca == (0 : Int)) = false := by
  rcases f.c12 with rfl | rfl <;> decide
theorem FinP.nne (f : FinP e m a na ca ea ma pa) : ma.toNat * 2 ^ ea.toNat ≠ 0 := Nat.mul_ne_zero f.ne (by have := pow_pos2 ea.toNat; omega)
theorem blen_pow2 (k : Nat) : blen (2 ^ k) = k + 1 := by
  have a : blen (2 ^ k) ≤ k + 1 := blen_le_iff.2 (pow_lt (by omega))
  have b : ¬ blen (2 ^ k) ≤ k := fun c => by have := blen_le_iff.1 c; omega
  omega
theorem FinP.range (h : Fm e m) (f : FinP e m a na ca ea ma pa) : -1200 < ea ∧ ea < 1100 := by
  have := bia_le h.e11
  have := h.m52
  have := f.exl
  have := f.exh
  omega
theorem FinP.bman (h : Fm e m) (f : FinP e m a na ca ea ma pa) : blen ma.toNat ≤ 53 := by
  have h4 := h.m52
  have : blen ma.toNat ≤ m.toNat + 1 := blen_le_iff.2 f.hi
  omega
theorem FinP.bnum (h : Fm e m) (f : FinP e m a na ca ea ma pa) : blen (ma.toNat * 2 ^ ea.toNat) ≤ 2000 := by
  have := f.range h
  have := f.bman h
  have := blen_shl ma.toNat ea.toNat
  omega
theorem FinP.bden (h : Fm e m) (f : FinP e m a na ca ea ma pa) : blen (2 ^ (-ea).toNat) ≤ 2000 := by
  have := f.range h
  rw [blen_pow2]
  omega

theorem mul_eq (h : Fm e m) (a b : BitVec 64) {N : Nat} : Bo (F190 N e m mode a b) (F194 N e m mode a b) := by
  have z0 := bl0
  have z1 := bl1
  unfold F190 F190_1 F194 F194_1
  simp only [lt]
  rw [h.ok, Bool.not_true, bf rfl, bf rfl]
  rcases opn h a with ⟨na, ha, xa, ha'⟩ | ⟨na, ha, xa, ha'⟩ | ⟨na, ha, xa, ha'⟩ | ⟨na, ca, ea, ma, pa, fa⟩ <;>
  rcases opn h b with ⟨nb, hb, xb, hb'⟩ | ⟨nb, hb, xb, hb'⟩ | ⟨nb, hb, xb, hb'⟩ | ⟨nb, cb, eb, mb, pb, fb⟩
  case inr.inr.inr.inr.inr.inr =>
    have ha := fa.cls
    have hb := fb.cls
    rw [fa.f65, fb.f65, fa.f144, fb.f144]
    simp only [Option.bind_some, F190_2, F190_3, F190_4, F190_9, F190_5, F190_6, F190_7, F190_8, F194_2, F194_3, F194_4, F194_5, F194_6, F194_7, lt, ha.1, ha.2.1, ha.2.2, hb.1, hb.2.1, hb.2.2, Bool.or_self, Bool.and_self, cond_false]
    have r1 := fa.range h
    have r2 := fb.range h
    have n1 := fa.bnum h
    have n2 := fb.bnum h
    have d1 := fa.bden h
    have d2 := fb.bden h
    have hp := F165_ok ma mb
    generalize F165 ma mb = r at *
    have hne : v2 r.1 r.2 ≠ 0 := by rw [hp]; exact Nat.mul_ne_zero fa.ne fb.ne
    have w1 : w16 (ea + eb) = ea + eb := w16_id (by omega)
    rw [w1, jam_round h (by omega) hne, bt (limand (by omega) (by omega)), bt (limand (by omega) (by omega))]
    have b1 := blen_mul (ma.toNat * 2 ^ ea.toNat) (mb.toNat * 2 ^ eb.toNat)
    have b2 := blen_mul (2 ^ (-ea).toNat) (2 ^ (-eb).toNat)
    rw [F136_RQ h (Nat.mul_ne_zero fa.nne fb.nne) (Nat.mul_ne_zero (pne _) (pne _)) (by omega) (by omega)]
    refine ⟨_, rfl, ?_⟩
    simp only [Option.bind_some]
    congr 1
    show RQ e m mode (na != nb) _ _ = _
    refine RQ_cross (Nat.mul_ne_zero fa.nne fb.nne) (Nat.mul_ne_zero (pne _) (pne _)) (pne _) ?_
    rw [hp]
    have : 2 ^ ea.toNat * 2 ^ eb.toNat * 2 ^ (-(ea + eb)).toNat = 2 ^ (ea + eb).toNat * (2 ^ (-ea).toNat * 2 ^ (-eb).toNat) := by
      simp only [← Nat.pow_add]; congr 1; omega
    grind
  case inr.inr.inr.inr.inr.inl => 
    obtain ⟨a4, a3, a0⟩ := fa.cls
    rw [fa.f65, hb, fa.f144, hb']
    simp only [Option.bind_some, F190_2, F190_3, F190_4, F190_9, F190_5, F190_6, F190_7, F190_8, F194_2, F194_3, F194_4, F194_5, F194_6, F194_7, lt, a4, a3, a0, klit, cond_true, cond_false]
    have n1 := fa.bnum h
    have d1 := fa.bden h
    rw [Nat.mul_zero, Nat.mul_one, bt (limand (by omega) (by omega)), bt (limand (by omega) (by omega)), F136_zero h (pne _) (by omega)]
    exact ⟨_, rfl, rfl⟩
  case inr.inr.inl.inr.inr.inr => 
    obtain ⟨b4, b3, b0⟩ := fb.cls
    rw [fb.f65, ha, fb.f144, ha']
    simp only [Option.bind_some, F190_2, F190_3, F190_4, F190_9, F190_5, F190_6, F190_7, F190_8, F194_2, F194_3, F194_4, F194_5, F194_6, F194_7, lt, b4, b3, b0, klit, cond_true, cond_false]
    have n1 := fb.bnum h
    have d1 := fb.bden h
    rw [Nat.zero_mul, Nat.one_mul, bt (limand (by omega) (by omega)), bt (limand (by omega) (by omega)), F136_zero h (pne _) (by omega)]
    exact ⟨_, rfl, rfl⟩
  case inr.inr.inl.inr.inr.inl => 
    rw [hb, ha, hb', ha']
    simp only [Option.bind_some, F190_2, F190_3, F190_4, F190_9, F190_5, F190_6, F190_7, F190_8, F194_2, F194_3, F194_4, F194_5, F194_6, F194_7, lt, klit, cond_true, cond_false]
    rw [Nat.zero_mul, Nat.one_mul, bt (limand (by omega) (by omega)), bt (limand (by omega) (by omega)), F136_zero h (by decide) (by decide)]
    exact ⟨_, rfl, rfl⟩
  all_goals first
    | rw [ha, ha', hb, hb']; exact ⟨_, rfl, rfl⟩
    | rw [fa.f65, hb, fa.f144, hb']; rcases fa.c12 with rfl | rfl <;> exact ⟨_, rfl, rfl⟩
    | rw [fb.f65, ha, fb.f144, ha']; rcases fb.c12 with rfl | rfl <;> exact ⟨_, rfl, rfl⟩

theorem round_eq (h : Fm e m) (f : FinP e m a na ca ea ma pa) {e' m' : BitVec 8} (h' : Fm e' m') {N : Nat} :
    F215 N e' m' mode na ea ma = some (RQ e' m' mode na (ma.toNat * 2 ^ ea.toNat) (2 ^ (-ea).toNat)) ∧ F136 N e' m' mode na (ma.toNat * 2 ^ ea.toNat) (2 ^ (-ea).toNat) = some (RQ e' m' mode na (ma.toNat * 2 ^ ea.toNat) (2 ^ (-ea).toNat)) := by
  have r := f.range h
  have n1 := f.bnum h
  have d1 := f.bden h
  exact ⟨F215_ok h' f.ne (by omega), F136_RQ h' f.nne (pne _) (by omega) (by omega)⟩

theorem convert_eq (h : Fm e m) {e' m' : BitVec 8} (h' : Fm e' m') (a : BitVec 64) {N : Nat} : Bo (F115 N e m e' m' mode a) (F114 N e m e' m' mode a) := by
  unfold F115 F115_1 F114 F114_1
  simp only [lt]
  rw [h.ok, h'.ok, Bool.not_true, Bool.or_self, bf rfl, bf rfl]
  rcases opn h a with ⟨na, ha, xa, ha'⟩ | ⟨na, ha, xa, ha'⟩ | ⟨na, ha, xa, ha'⟩ | ⟨na, ca, ea, ma, pa, fa⟩
  case inr.inr.inr =>
    obtain ⟨a4, a3, a0⟩ := fa.cls
    rw [fa.f65, fa.f144]
    simp only [Option.bind_some, F115_2, F115_3, F115_4, F114_2, F114_3, F114_4, lt, a4, a3, a0, klit, cond_true, cond_false]
    rw [(round_eq h fa h').1, (round_eq h fa h').2]
    exact ⟨_, rfl, rfl⟩
  case inr.inr.inl =>
    rw [ha, ha']
    simp only [Option.bind_some, F115_2, F115_3, F115_4, F114_2, F114_3, F114_4, lt, klit, cond_true, cond_false]
    rw [F136_zero h' (by decide) (by decide), F215_zero]
    exact ⟨_, rfl, rfl⟩
  all_goals rw [ha, ha']; exact ⟨_, rfl, rfl⟩

theorem whole_eq (h : Fm e m) (s : BitVec 64) {N : Nat} : ∃ r, F215 N e m mode neg 0 s = some r ∧ F136 N e m mode neg s.toNat 1 = some r := by
  by_cases hs : s.toNat = 0
  · have : s = 0#64 := BitVec.eq_of_toNat_eq hs
    rw [this, F215_zero]
    exact ⟨_, rfl, F136_zero h (by decide) (by decide)⟩
  · have hb := blen64 s
    rw [F215_ok h hs (by decide), F136_RQ h hs (by decide) (by omega) (by decide)]
    refine ⟨_, rfl, ?_⟩
    congr 1
    exact RQ_cross hs (by decide) (by decide) (by simp)

theorem fromI_eq (h : Fm e m) (i : Int) {N : Nat} : Bo (F153 N e m mode i) (F133 N e m mode i) := by
  unfold F153 F153_1 F153_2 F133 F133_1 F129
  simp only [lt]
  rw [h.ok, Bool.not_true, bf rfl]
  show Bo _ (bif decide (i < 0) then (F136 N e m mode true (-BitVec.ofInt 64 i).toNat 1).bind fun y8 => some (y8.1, y8.2) else (F136 N e m mode false (BitVec.ofInt 64 i).toNat 1).bind fun y12 => some (y12.1, y12.2))
  cases decide (i < 0) with
  | true =>
    obtain ⟨r, h1, h2⟩ := whole_eq (mode := mode) (neg := true) h (-BitVec.ofInt 64 i) (N := N)
    simp only [cond_true]
    rw [h1, h2]
    exact ⟨_, rfl, rfl⟩
  | false =>
    obtain ⟨r, h1, h2⟩ := whole_eq (mode := mode) (neg := false) h (BitVec.ofInt 64 i) (N := N)
    simp only [cond_false]
    rw [h1, h2]
    exact ⟨_, rfl, rfl⟩
theorem fromU_eq (h : Fm e m) (u : BitVec 64) {N : Nat} : Bo (F154 N e m mode u) (F134 N e m mode u) := by
  unfold F154 F154_1 F134 F129
  simp only [lt]
  rw [h.ok, Bool.not_true, bf rfl]
  obtain ⟨r, h1, h2⟩ := whole_eq (mode := mode) (neg := false) h u (N := N)
  show Bo _ ((F136 N e m mode false u.toNat 1).bind fun y8 => some (y8.1, y8.2))
  rw [h1, h2]
  exact ⟨_, rfl, rfl⟩

theorem scaleB_eq (h : Fm e m) (a : BitVec 64) (n : Int) {N : Nat} : Bo (F110 N e m mode a n) (F111 N e m mode a n) := by
  unfold F110 F110_1 F111 F111_1
  simp only [lt]
  rw [h.ok, Bool.not_true, bf rfl, bf rfl]
  obtain ⟨k, hk⟩ : ∃ k, k = min (max n (-5000)) 5000 := ⟨_, rfl⟩
  have w1 : w16 k = k := w16_id (by omega)
  rcases opn h a with ⟨na, ha, xa, ha'⟩ | ⟨na, ha, xa, ha'⟩ | ⟨na, ha, xa, ha'⟩ | ⟨na, ca, ea, ma, pa, fa⟩
  case inr.inr.inr =>
    obtain ⟨a4, a3, a0⟩ := fa.cls
    rw [fa.f65, fa.f144]
    simp only [Option.bind_some, F110_2, F110_3, F110_4, F111_2, F111_3, F111_4, F111_5, lt, a4, a3, a0, klit, cond_true, cond_false]
    rw [← hk, w1]
    have r := fa.range h
    have n1 := fa.bnum h
    have d1 := fa.bden h
    have w2 : w16 (ea + k) = ea + k := w16_id (by omega)
    have s1 := blen_shl (ma.toNat * 2 ^ ea.toNat) k.toNat
    have s2 := blen_shl (2 ^ (-ea).toNat) (-k).toNat
    rw [w2, F208_ok (by omega) (by omega) (by omega)]
    simp only [Option.bind_some]
    rw [F215_ok h fa.ne (by omega), F136_RQ h (Nat.mul_ne_zero fa.nne (pne _)) (Nat.mul_ne_zero (pne _) (pne _)) (by omega) (by omega)]
    refine ⟨_, rfl, ?_⟩
    simp only [Option.bind_some]
    congr 1
    refine RQ_cross (Nat.mul_ne_zero fa.nne (pne _)) (Nat.mul_ne_zero (pne _) (pne _)) (pne _) ?_
    have : 2 ^ ea.toNat * 2 ^ k.toNat * 2 ^ (-(ea + k)).toNat = 2 ^ (ea + k).toNat * (2 ^ (-ea).toNat * 2 ^ (-k).toNat) := by
      simp only [← Nat.pow_add]; congr 1; omega
    grind
  case inr.inr.inl =>
    rw [ha, ha']
    simp only [Option.bind_some, F110_2, F110_3, F110_4, F111_2, F111_3, F111_4, F111_5, lt, klit, cond_true, cond_false]
    have z0 := bl0
    have z1 := bl1
    have s2 := blen_shl 1 (-k).toNat
    rw [← hk, F208_ok (by omega) (by omega) (by omega)]
    simp only [Option.bind_some]
    rw [Nat.zero_mul, Nat.one_mul] at *
    rw [F136_zero h (pne _) (by omega), F215_zero]
    exact ⟨_, rfl, rfl⟩
  all_goals rw [ha, ha']; exact ⟨_, rfl, rfl⟩
end
end Go.Proofs.YfwaawGreat
