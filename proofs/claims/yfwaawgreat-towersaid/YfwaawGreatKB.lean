/-
  ryu.Shortest = exact.Shortest.
-/
import Derived.Test.YfwaawGreatKA
namespace Go.Proofs.YfwaawGreat
open Go.Aw
set_option linter.unusedVariables false
set_option linter.unusedSimpArgs false

section
variable {N : Nat} {e m : BitVec 8} {x : BitVec 64} {neg : Bool} {num den sig ex : Nat} {a : Int}
/-- A finite pattern's parts. -/
theorem FinP.nb (hf : Fm e m) {c ex' : Int} {man : BitVec 64} {P : Nat} (h : FinP e m x neg c ex' man P) (hs : sig < 2 ^ (m.toNat + 1)) (hn : ex = 0 ∨ 2 ^ m.toNat ≤ sig) (hp : 1 ≤ sig) (hP : P = ex * 2 ^ m.toNat + sig) (ha : a = (ex : Int) - bia e.toNat - m.toNat - 1) :
    NB e m x neg (man.toNat * 2 ^ ex'.toNat) (2 ^ (-ex').toNat) sig ex a := by
  have huv : uv m.toNat P = sig * 2 ^ ex := by
    have hpm := pow_pos2 m.toNat
    have hs2 := hs
    rw [Nat.pow_succ] at hs2
    unfold uv
    by_cases c1 : sig < 2 ^ m.toNat
    · have : ex = 0 := by omega
      subst this
      rw [hP, Nat.zero_mul, Nat.zero_add, if_pos (Nat.div_eq_of_lt c1), Nat.pow_zero, Nat.mul_one]
    · have e1 : P = 2 ^ m.toNat * (ex + 1) + (sig - 2 ^ m.toNat) := by
        rw [hP, Nat.mul_add, Nat.mul_one, Nat.mul_comm]; omega
      have e2 : P / 2 ^ m.toNat = ex + 1 := by
        rw [e1, Nat.mul_add_div hpm, Nat.div_eq_of_lt (by omega), Nat.add_zero]
      have e3 : P % 2 ^ m.toNat = sig - 2 ^ m.toNat := by
        rw [e1, Nat.mul_add_mod, Nat.mod_eq_of_lt (by omega)]
      rw [e2, e3, if_neg (by omega), Nat.add_sub_cancel]
      exact congrArg (fun t => t * 2 ^ ex) (by omega)
  have hv := h.val
  rw [huv] at hv
  refine ⟨hf, hs, hn, hp, by rw [← hP]; exact h.pi, ha, by rw [h.xm, hP], ⟨c, h.c12, h.f144⟩, ?_, h.fb hf⟩
  have hexl := h.exl
  obtain ⟨W, hW⟩ : ∃ W, W = (ex' + bia e.toNat + 2 * m.toNat - 1).toNat := ⟨_, rfl⟩
  rw [← hW] at hv
  refine Nat.mul_right_cancel (pow_pos2 W) ?_
  have e1 : man.toNat * 2 ^ ex'.toNat * 2 ^ (-a).toNat * 2 ^ W = man.toNat * 2 ^ W * (2 ^ ex'.toNat * 2 ^ (-a).toNat) := by
    rw [Nat.mul_right_comm, Nat.mul_right_comm man.toNat, Nat.mul_assoc (man.toNat * 2 ^ W)]
  rw [e1, hv]
  have e2 : 4 * sig * 2 ^ a.toNat * 2 ^ (-ex').toNat * 2 ^ W = sig * (2 ^ 2 * 2 ^ a.toNat * 2 ^ (-ex').toNat * 2 ^ W) := by
    rw [Nat.mul_comm 4, show (4 : Nat) = 2 ^ 2 from rfl]
    simp only [Nat.mul_assoc]
  rw [e2]
  simp only [Nat.mul_assoc]
  rw [← Nat.pow_add, ← Nat.pow_add, ← Nat.pow_add, ← Nat.pow_add, ← Nat.pow_add, ← Nat.pow_add]
  exact congrArg (fun t => sig * 2 ^ t) (by omega)
theorem NB.plc (h : NB e m x neg num den sig ex a) (j : Nat) : tle (rq a + j) num den ↔ 1 ≤ 4 * sig * sA a / (sB a * 10 ^ j) := by
  have hc := h.cross (k := rq a + j) (j := j) (i := 0) (by omega)
  rw [Nat.pow_zero, Nat.mul_one] at hc
  have hU : 0 < sB a * 10 ^ j := Nat.mul_pos (sB_pos a) (pt_pos j)
  have hp : 0 < den * 10 ^ (rq a + (j : Int)).toNat := Nat.mul_pos (by have := h.fb.d0; omega) (pt_pos _)
  have hr : 0 < num * 10 ^ (-(rq a + (j : Int))).toNat := Nat.mul_pos (by have := h.fb.n0; omega) (pt_pos _)
  rw [Nat.le_div_iff_mul_le hU, Nat.one_mul]
  unfold Go.Proofs.YfwaawGreat.tle
  generalize den * 10 ^ (rq a + (j : Int)).toNat = p at *
  generalize num * 10 ^ (-(rq a + (j : Int))).toNat = r at *
  generalize sB a * 10 ^ j = u at *
  generalize 4 * sig * sA a = w at *
  constructor
  · intro k
    have := Nat.mul_le_mul_left w k
    rw [← hc, Nat.mul_comm w] at this
    exact Nat.le_of_mul_le_mul_left this hr
  · intro k
    have := Nat.mul_le_mul_left r k
    rw [hc, Nat.mul_comm r] at this
    have hw : 0 < w := by
      rcases Nat.eq_zero_or_pos w with z | z
      · omega
      · exact z
    exact Nat.le_of_mul_le_mul_left this hw
theorem tle_mono {num den : Nat} {k : Int} : ∀ n : Nat, tle (k + n) num den → tle k num den
  | 0, h => by simpa using h
  | n + 1, h => tle_mono n (tle_step (by rw [show k + (n : Int) + 1 = k + ((n + 1 : Nat) : Int) by omega]; exact h))
/-- The place of the first digit. -/
theorem NB.top (h : NB e m x neg num den sig ex a) (hN : 20 ≤ N) : ∃ jt : Nat, L10 num den (rq a + jt) ∧ (∀ j, 1 ≤ 4 * sig * sA a / (sB a * 10 ^ j) ↔ j ≤ jt) ∧ jt ≤ 30 := by
  obtain ⟨top, ht1, ht2, ht3, ht4⟩ := F147_ok (N := N) hN (nn := neg) h.fb.n0 h.fb.d0 ⟨h.fb.b1, h.fb.b2⟩ (by have := h.fb.bn; omega) (by have := h.fb.bd; omega)
  have hab := h.ab
  have hs := sAB hab.1 hab.2
  have h4 := h.f.m52
  have hsig : sig < 9007199254740992 := by
    have := h.hs
    have k : 2 ^ (m.toNat + 1) ≤ 2 ^ 53 := pow_le (by omega)
    rw [show (2 : Nat) ^ 53 = 9007199254740992 from rfl] at k
    omega
  have h0 : tle (rq a + ((0 : Nat) : Int)) num den := by
    rw [h.plc, Nat.le_div_iff_mul_le (Nat.mul_pos (sB_pos a) (pt_pos 0)), Nat.pow_zero, Nat.mul_one, Nat.one_mul]
    have := Nat.mul_le_mul_right (sA a) (show 1 ≤ 4 * sig from by have := h.hp; omega)
    omega
  have hge : rq a ≤ top := by
    rcases Int.lt_or_le top (rq a) with c | c
    · exfalso
      refine ht2.hi (tle_mono (rq a - (top + 1)).toNat ?_)
      rw [show top + 1 + ((rq a - (top + 1)).toNat : Int) = rq a + ((0 : Nat) : Int) by omega]
      exact h0
    · exact c
  obtain ⟨jt, hjt⟩ : ∃ jt : Nat, top = rq a + jt := ⟨(top - rq a).toNat, by omega⟩
  subst hjt
  have hiff : ∀ j, 1 ≤ 4 * sig * sA a / (sB a * 10 ^ j) ↔ j ≤ jt := by
    intro j
    rw [← h.plc]
    constructor
    · intro k
      rcases Nat.lt_or_ge jt j with c | c
      · exfalso
        refine ht2.hi (tle_mono (j - (jt + 1)) ?_)
        rw [show rq a + (jt : Int) + 1 + ((j - (jt + 1) : Nat) : Int) = rq a + (j : Int) by omega]
        exact k
      · exact c
    · intro k
      refine tle_mono (jt - j) ?_
      rw [show rq a + (j : Int) + ((jt - j : Nat) : Int) = rq a + (jt : Int) by omega]
      exact ht2.lo
  refine ⟨jt, ht2, hiff, ?_⟩
  have k1 := (hiff jt).2 (Nat.le_refl _)
  rw [Nat.le_div_iff_mul_le (Nat.mul_pos (sB_pos a) (pt_pos jt)), Nat.one_mul] at k1
  have k2 : 4 * sig * sA a ≤ 36028797018963968 * (100 * sB a) := Nat.mul_le_mul (by omega) (by omega)
  have k3 : sB a * 10 ^ jt ≤ sB a * 3602879701896396800 := by omega
  have k4 := Nat.le_of_mul_le_mul_left k3 (sB_pos a)
  have k5 : 10 ^ jt < 10 ^ 30 := Nat.lt_of_le_of_lt k4 (by decide)
  have := p10_lt k5
  omega
/-- The ends. -/
theorem NB.ends (h : NB e m x neg num den sig ex a) {HH : Nat} (hH : HH = bif decide (sB a ∣ (4 * sig + 2) * sA a) && !decide (sig % 2 = 0) then (4 * sig + 2) * sA a / sB a - 1 else (4 * sig + 2) * sA a / sB a) :
    Ends (4 * sig - bel m.toNat ex sig) (4 * sig) (4 * sig + 2) (sA a) (sB a) HH (sig % 2 = 0) := by
  have hab := h.ab
  have hs := sAB hab.1 hab.2
  have hp := h.hp
  have hB := sB_pos a
  have hbel : bel m.toNat ex sig = 1 ∨ bel m.toNat ex sig = 2 := by unfold bel; split <;> omega
  refine ⟨hs.1, hB, by omega, by omega, by omega, by omega, rfl, ?_, ?_⟩
  · intro n
    have hC0 : 0 < (4 * sig + 2) * sA a := Nat.mul_pos (by omega) (sA_pos a)
    generalize (4 * sig + 2) * sA a = C at *
    have hV : n ≤ C / sB a ↔ n * sB a ≤ C := Nat.le_div_iff_mul_le hB
    rw [hH]
    by_cases ev : sig % 2 = 0
    · rw [decide_eq_true ev, Bool.not_true, Bool.and_false]
      show n ≤ C / sB a ↔ _
      rw [hV]
      constructor
      · intro k
        rcases Nat.eq_or_lt_of_le k with q | q
        · exact Or.inr ⟨q.symm, ev⟩
        · exact Or.inl q
      · rintro (k | k)
        · omega
        · omega
    · rw [decide_eq_false ev, Bool.not_false, Bool.and_true]
      by_cases w : sB a ∣ C
      · rw [decide_eq_true w]
        show n ≤ C / sB a - 1 ↔ _
        have hC := Nat.div_mul_cancel w
        have hpos : 1 ≤ C / sB a := by
          rw [Nat.le_div_iff_mul_le hB, Nat.one_mul]
          exact Nat.le_of_dvd hC0 w
        constructor
        · intro k
          left
          have : (n + 1) * sB a ≤ C / sB a * sB a := Nat.mul_le_mul_right _ (by omega)
          rw [Nat.add_mul, Nat.one_mul, hC] at this
          omega
        · rintro (k | k)
          · rw [← hC] at k
            have := Nat.lt_of_mul_lt_mul_right k
            omega
          · exact (ev k.2).elim
      · rw [decide_eq_false w]
        show n ≤ C / sB a ↔ _
        rw [hV]
        constructor
        · intro k
          rcases Nat.eq_or_lt_of_le k with q | q
          · exact (w ⟨n, by rw [← q, Nat.mul_comm]⟩).elim
          · exact Or.inl q
        · rintro (k | k)
          · omega
          · omega
  · have h4 := h.f.m52
    have hsl := h.hs
    have k : 2 ^ m.toNat ≤ 2 ^ 52 := pow_le h4
    rw [show (2 : Nat) ^ 52 = 4503599627370496 from rfl] at k
    rw [Nat.pow_succ] at hsl
    have hbd : bel m.toNat ex sig = 2 ∨ (bel m.toNat ex sig = 1 ∧ sig = 2 ^ m.toNat) := by
      unfold bel
      by_cases q : sig = 2 ^ m.toNat ∧ 1 ≤ ex
      · rw [if_pos q]; exact Or.inr ⟨rfl, q.1⟩
      · rw [if_neg q]; exact Or.inl rfl
    have h2p : 2 ≤ 4 * sig := by omega
    rcases hbd with q | q
    · rw [q, show 4 * sig + 2 - (4 * sig - 2) = 4 by omega]; omega
    · rw [q.1, show 4 * sig + 2 - (4 * sig - 1) = 3 by omega]; omega
end
end Go.Proofs.YfwaawGreat
