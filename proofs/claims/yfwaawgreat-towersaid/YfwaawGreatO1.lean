/-
  Operands: what a pattern is to soft and to exact.
-/
import Derived.Test.YfwaawGreatW1
namespace Go.Proofs.YfwaawGreat
open Go.Aw
set_option linter.unusedVariables false
set_option linter.unusedSimpArgs false
section
variable {e m mode : BitVec 8} {neg : Bool}

theorem F130_ok {N : Nat} {neg : Bool} {n : Nat} {k : Int} (hk : -60000 < k ∧ k < 60000) (hn : blen n ≤ 1048575) : F130 N neg n k = some (neg, n * 2 ^ k.toNat, 2 ^ (-k).toNat) := by
  unfold F130 F130_1
  by_cases h : k < 0
  · rw [bt (by simpa using h), bt (lim_blen (by decide)), w64_id (by omega), u16_of (by omega), show k.toNat = 0 from by omega, show 0 - k = -k from by omega, show (1#64).toNat = 1 from rfl]
    simp
  · rw [bf (by simpa using h), bt (lim_blen hn), u16_of (by omega), show (-k).toNat = 0 from by omega]
    rfl

theorem F72_2_fin {N : Nat} {S : Bool} {c ex : Int} {man : BitVec 64} (h4 : (c == 4) = false) (h3 : (c == 3) = false) (hx : -2000 < ex ∧ ex < 2000) : F72_2 N S c ex man = some (S, man.toNat * 2 ^ ex.toNat, 2 ^ (-ex).toNat, c) := by
  have := blen64 man
  unfold F72_2 F72_3
  rw [h4, h3, Bool.or_self, bf rfl, w64_id (by omega), F130_ok (by omega) (by omega)]
  rfl

/-- A number's size in units of the least, from its pattern without sign. -/
def uv (M P : Nat) : Nat := if P / 2 ^ M = 0 then P else (P % 2 ^ M + 2 ^ M) * 2 ^ (P / 2 ^ M - 1)

/-- A finite number, not zero. -/
structure FinP (e m : BitVec 8) (x : BitVec 64) (neg : Bool) (c ex : Int) (man : BitVec 64) (P : Nat) : Prop where
  f65 : F65 e m x = (neg, c, ex, man)
  c12 : c = 1 ∨ c = 2
  lo : 2 ^ m.toNat ≤ man.toNat
  hi : man.toNat < 2 ^ (m.toNat + 1)
  exl : 1 - (bia e.toNat : Int) - 2 * m.toNat ≤ ex
  exh : ex ≤ (bia e.toNat : Int) - m.toNat
  p0 : 0 < P
  pi : P < infP e.toNat m.toNat
  xm : (x &&& F69 e m).toNat = P + sgn e.toNat m.toNat neg
  val : man.toNat * 2 ^ (ex + bia e.toNat + 2 * m.toNat - 1).toNat = uv m.toNat P * 2 ^ m.toNat
  f144 : ∀ N, F144 N e m x = some (x &&& F69 e m, neg, c, neg, man.toNat * 2 ^ ex.toNat, 2 ^ (-ex).toNat)

theorem upk_mod (h : Fm e m) (X : Nat) : upk e.toNat m.toNat (X % 2 ^ (e.toNat + m.toNat + 1)) = upk e.toNat m.toNat X := by
  have e1 : X % 2 ^ (e.toNat + m.toNat + 1) % 2 ^ m.toNat = X % 2 ^ m.toNat := Nat.mod_mod_of_dvd _ (Nat.pow_dvd_pow 2 (by omega))
  have e2 : X % 2 ^ (e.toNat + m.toNat + 1) / 2 ^ m.toNat % 2 ^ e.toNat = X / 2 ^ m.toNat % 2 ^ e.toNat := by
    rw [show e.toNat + m.toNat + 1 = m.toNat + (e.toNat + 1) from by omega, Nat.pow_add, Nat.mod_mul_right_div_self]
    exact Nat.mod_mod_of_dvd _ (Nat.pow_dvd_pow 2 (by omega))
  have e3 : X % 2 ^ (e.toNat + m.toNat + 1) / 2 ^ (e.toNat + m.toNat) % 2 = X / 2 ^ (e.toNat + m.toNat) % 2 := by
    rw [Nat.pow_succ, Nat.mod_mul_right_div_self, Nat.mod_mod]
  unfold upk
  rw [e1, e2, e3]
theorem mod_parts (E M X : Nat) : X % 2 ^ (E + M + 1) = X / 2 ^ M % 2 ^ E * 2 ^ M + X % 2 ^ M + sgn E M (decide (X / 2 ^ (E + M) % 2 = 1)) := by
  have h1 : X % 2 ^ (E + M + 1) = X % 2 ^ M + 2 ^ M * (X / 2 ^ M % 2 ^ E + 2 ^ E * (X / 2 ^ M / 2 ^ E % 2)) := by
    rw [show E + M + 1 = M + (E + 1) from by omega, Nat.pow_add, Nat.mod_mul, Nat.pow_succ, Nat.mod_mul]
  have h2 : X / 2 ^ M / 2 ^ E = X / 2 ^ (E + M) := by rw [Nat.div_div_eq_div_mul, ← Nat.pow_add, Nat.add_comm M E]
  rw [h1, h2, Nat.mul_add, ← Nat.mul_assoc, ← Nat.pow_add, Nat.add_comm M E]
  unfold sgn
  rcases Nat.mod_two_eq_zero_or_one (X / 2 ^ (E + M)) with h | h <;> rw [h]
  · simp; grind
  · simp; grind

theorem opn (h : Fm e m) (x : BitVec 64) :
    (∃ ng, F65 e m x = (false, 4, 0, 0#64) ∧ infP e.toNat m.toNat < (x &&& F69 e m).toNat % 2 ^ (e.toNat + m.toNat) ∧ ∀ N, F144 N e m x = some (x &&& F69 e m, ng, 4, false, 0, 1)) ∨
    (∃ neg, F65 e m x = (neg, 3, 0, 0#64) ∧ x &&& F69 e m = F67 e m neg ∧ ∀ N, F144 N e m x = some (F67 e m neg, neg, 3, false, 0, 1)) ∨
    (∃ neg, F65 e m x = (neg, 0, 0, 0#64) ∧ x &&& F69 e m = F251 e m neg ∧ ∀ N, F144 N e m x = some (F251 e m neg, neg, 0, neg, 0, 1)) ∨
    (∃ neg c ex man P, FinP e m x neg c ex man P) := by
  have h1 := h.e2
  have h2 := h.e11
  have h3 := h.m2
  have h4 := h.m52
  have hbi := bia_le h2
  have hbg := bia_ge h1
  have hpE := pow_E h1
  have hxm : (x &&& F69 e m).toNat = x.toNat % 2 ^ (e.toNat + m.toNat + 1) := by
    rw [BitVec.toNat_and, F69_ok h, Nat.and_two_pow_sub_one_eq_mod]
  have h65 := F65_ok h x
  have h65' := F65_ok h (x &&& F69 e m)
  rw [hxm, upk_mod h, ← h65] at h65'
  have hmp := mod_parts e.toNat m.toNat x.toNat
  have hneg : (((x &&& F69 e m) &&& F70 e m) != 0#64) = decide (x.toNat / 2 ^ (e.toNat + m.toNat) % 2 = 1) := by
    rw [ne_bv, F70_eq h, bit_and _ _ (by omega), hxm, Nat.pow_succ, Nat.mod_mul_right_div_self, Nat.mod_mod]
    have hp := pow_pos2 (e.toNat + m.toNat)
    rcases Nat.mod_two_eq_zero_or_one (x.toNat / 2 ^ (e.toNat + m.toNat)) with hh | hh <;> rw [hh]
    · simp
    · simp
  have h144 : ∀ N, F144 N e m x = (F72_2 N (F65 e m x).1 (F65 e m x).2.1 (F65 e m x).2.2.1 (F65 e m x).2.2.2).bind fun y5 => some (x &&& F69 e m, decide (x.toNat / 2 ^ (e.toNat + m.toNat) % 2 = 1), y5.2.2.2, y5.1, y5.2.1, y5.2.2.1) := by
    intro N
    unfold F144 F144_1 F144_2 F72 F72_1
    simp only [lt]
    rw [h.ok, Bool.not_true, bf rfl, h65', hneg]
  generalize hS : decide (x.toNat / 2 ^ (e.toNat + m.toNat) % 2 = 1) = S at *
  have hpm := pow_pos2 m.toNat
  have hs1 := Nat.pow_succ 2 m.toNat
  have hFl : x.toNat % 2 ^ m.toNat < 2 ^ m.toNat := Nat.mod_lt _ hpm
  have hTl : x.toNat / 2 ^ m.toNat % 2 ^ e.toNat < 2 ^ e.toNat := Nat.mod_lt _ (pow_pos2 _)
  have hinf := infP_lt e.toNat m.toNat
  unfold upk at h65
  rw [hS] at h65
  rw [hmp] at hxm
  by_cases c1 : x.toNat / 2 ^ m.toNat % 2 ^ e.toNat = 2 ^ e.toNat - 1
  · by_cases c2 : x.toNat % 2 ^ m.toNat = 0
    · right; left
      rw [if_pos c1, if_pos c2] at h65
      simp only [] at h65
      have hx67 : x &&& F69 e m = F67 e m S := by
        refine BitVec.eq_of_toNat_eq ?_
        rw [hxm, F67_ok h, c1, c2]; rfl
      refine ⟨S, h65, hx67, fun N => ?_⟩
      rw [h144, h65, hx67]
      rfl
    · left
      rw [if_pos c1, if_neg c2] at h65
      simp only [] at h65
      refine ⟨S, h65, ?_, fun N => ?_⟩
      · rw [hxm, c1]
        unfold sgn
        have : (2 ^ e.toNat - 1) * 2 ^ m.toNat = infP e.toNat m.toNat := rfl
        rw [this]
        cases S with
        | false => simp only [cond_false]; rw [Nat.mod_eq_of_lt (by omega)]; omega
        | true => simp only [cond_true]; rw [Nat.add_mod_right, Nat.mod_eq_of_lt (by omega)]; omega
      · rw [h144, h65]
        rfl
  · rw [if_neg c1] at h65
    have hPdiv : (x.toNat / 2 ^ m.toNat % 2 ^ e.toNat * 2 ^ m.toNat + x.toNat % 2 ^ m.toNat) / 2 ^ m.toNat = x.toNat / 2 ^ m.toNat % 2 ^ e.toNat := by
      rw [Nat.add_comm, Nat.add_mul_div_right _ _ hpm, Nat.div_eq_of_lt hFl, Nat.zero_add]
    have hPmod : (x.toNat / 2 ^ m.toNat % 2 ^ e.toNat * 2 ^ m.toNat + x.toNat % 2 ^ m.toNat) % 2 ^ m.toNat = x.toNat % 2 ^ m.toNat := by
      rw [Nat.add_comm, Nat.add_mul_mod_self_right, Nat.mod_eq_of_lt hFl]
    have hPi : x.toNat / 2 ^ m.toNat % 2 ^ e.toNat * 2 ^ m.toNat + x.toNat % 2 ^ m.toNat < infP e.toNat m.toNat := by
      have : (x.toNat / 2 ^ m.toNat % 2 ^ e.toNat + 1) * 2 ^ m.toNat ≤ (2 ^ e.toNat - 1) * 2 ^ m.toNat := Nat.mul_le_mul_right _ (by omega)
      rw [Nat.add_mul, Nat.one_mul] at this
      unfold infP; omega
    by_cases c3 : x.toNat / 2 ^ m.toNat % 2 ^ e.toNat = 0
    · rw [if_pos c3] at h65
      by_cases c2 : x.toNat % 2 ^ m.toNat = 0
      · right; right; left
        rw [if_pos c2] at h65
        simp only [] at h65
        have hx251 : x &&& F69 e m = F251 e m S := by
          refine BitVec.eq_of_toNat_eq ?_
          rw [hxm, F251_ok h, c2, c3]; omega
        refine ⟨S, h65, hx251, fun N => ?_⟩
        rw [h144, h65, hx251]
        simp only []
        rw [F72_2_fin rfl rfl (by decide)]
        rfl
      · right; right; right
        rw [if_neg c2] at h65
        simp only [] at h65
        have hb : blen (x.toNat % 2 ^ m.toNat) ≤ m.toNat := blen_le_iff.2 hFl
        have hbp := blen_pos c2
        have hlo := blen_le c2
        have hhi := blen_lt (x.toNat % 2 ^ m.toNat)
        have hml : x.toNat % 2 ^ m.toNat * 2 ^ (m.toNat + 1 - blen (x.toNat % 2 ^ m.toNat)) < 2 ^ (m.toNat + 1) := by
          have h2 := Nat.mul_lt_mul_of_pos_right hhi (pow_pos2 (m.toNat + 1 - blen (x.toNat % 2 ^ m.toNat)))
          rw [← Nat.pow_add, show blen (x.toNat % 2 ^ m.toNat) + (m.toNat + 1 - blen (x.toNat % 2 ^ m.toNat)) = m.toNat + 1 from by omega] at h2
          exact h2
        have hmg : 2 ^ m.toNat ≤ x.toNat % 2 ^ m.toNat * 2 ^ (m.toNat + 1 - blen (x.toNat % 2 ^ m.toNat)) := by
          have h2 := Nat.mul_le_mul_right (2 ^ (m.toNat + 1 - blen (x.toNat % 2 ^ m.toNat))) hlo
          rw [← Nat.pow_add, show blen (x.toNat % 2 ^ m.toNat) - 1 + (m.toNat + 1 - blen (x.toNat % 2 ^ m.toNat)) = m.toNat from by omega] at h2
          exact h2
        have h53 : 2 ^ (m.toNat + 1) ≤ 2 ^ 53 := pow_le (by omega)
        have hman : (BitVec.ofNat 64 (x.toNat % 2 ^ m.toNat * 2 ^ (m.toNat + 1 - blen (x.toNat % 2 ^ m.toNat)))).toNat = x.toNat % 2 ^ m.toNat * 2 ^ (m.toNat + 1 - blen (x.toNat % 2 ^ m.toNat)) := by
          rw [BitVec.toNat_ofNat]; exact Nat.mod_eq_of_lt (by omega)
        generalize hmv : BitVec.ofNat 64 (x.toNat % 2 ^ m.toNat * 2 ^ (m.toNat + 1 - blen (x.toNat % 2 ^ m.toNat))) = man at *
        generalize hexv : 1 - (bia e.toNat : Int) - m.toNat - ((m.toNat : Int) + 1 - blen (x.toNat % 2 ^ m.toNat)) = ex at *
        refine ⟨S, 1, ex, man, x.toNat % 2 ^ m.toNat, ⟨h65, .inl rfl, by omega, by omega, by omega, by omega, by omega, ?_, ?_, ?_, fun N => ?_⟩⟩
        · rw [c3] at hPi; omega
        · rw [hxm, c3]; omega
        · unfold uv
          rw [Nat.div_eq_of_lt hFl, if_pos rfl, hman, Nat.mul_assoc, ← Nat.pow_add]
          congr 2; omega
        · rw [h144, h65]
          simp only []
          rw [F72_2_fin rfl rfl (by omega)]
          rfl
    · right; right; right
      rw [if_neg c3] at h65
      simp only [] at h65
      have h53 : 2 ^ (m.toNat + 1) ≤ 2 ^ 53 := pow_le (by omega)
      have hman : (BitVec.ofNat 64 (x.toNat % 2 ^ m.toNat + 2 ^ m.toNat)).toNat = x.toNat % 2 ^ m.toNat + 2 ^ m.toNat := by
        rw [BitVec.toNat_ofNat]; exact Nat.mod_eq_of_lt (by omega)
      have hPpos : 0 < x.toNat / 2 ^ m.toNat % 2 ^ e.toNat * 2 ^ m.toNat := Nat.mul_pos (by omega) hpm
      generalize hmv : BitVec.ofNat 64 (x.toNat % 2 ^ m.toNat + 2 ^ m.toNat) = man at *
      generalize hexv : ((x.toNat / 2 ^ m.toNat % 2 ^ e.toNat : Nat) : Int) - bia e.toNat - m.toNat = ex at *
      refine ⟨S, 2, ex, man, x.toNat / 2 ^ m.toNat % 2 ^ e.toNat * 2 ^ m.toNat + x.toNat % 2 ^ m.toNat, ⟨h65, .inr rfl, by omega, by omega, by omega, by omega, by omega, hPi, hxm, ?_, fun N => ?_⟩⟩
      · unfold uv
        rw [hPdiv, if_neg c3, hPmod, hman, Nat.mul_assoc, ← Nat.pow_add]
        congr 2; omega
      · rw [h144, h65]
        simp only []
        rw [F72_2_fin rfl rfl (by omega)]
        rfl
theorem heard_eq : F214 = F216 := rfl
end
end Go.Proofs.YfwaawGreat
