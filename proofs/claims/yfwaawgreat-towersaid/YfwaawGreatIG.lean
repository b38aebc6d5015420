/-
  native: neighbours.
-/
import Derived.Test.YfwaawGreatIF
namespace Go.Proofs.YfwaawGreat
open Go.Aw
set_option linter.unusedVariables false
set_option linter.unusedSimpArgs false

section
variable {e m e' m' mode : BitVec 8} {f f' : Ieee.Format} {neg na nb : Bool} {x : BitVec 64} {N : Nat}
theorem nb64 : infP (11#8).toNat (52#8).toNat < (F66 11#8 52#8).toNat % 2 ^ ((11#8).toNat + (52#8).toNat) := by decide +kernel
theorem nb32 : infP (8#8).toNat (23#8).toNat < (F66 8#8 23#8).toNat % 2 ^ ((8#8).toNat + (23#8).toNat) := by decide +kernel
/-- What exact answers for the neighbour. -/
theorem next_spec (k : Kd e m f) (hb : infP e.toNat m.toNat < (F66 e m).toNat % 2 ^ (e.toNat + m.toNat)) (d : Bool) (a : BitVec 64) :
    ((∃ s t, f.read (wd e m a) = .nan s t) ∧ (bif d then F178 e m a else F177 e m a).1 = F66 e m) ∨
    (∃ P s, P ≤ infP e.toNat m.toNat ∧ wd e m a = P + sgn e.toNat m.toNat s ∧ ((bif d then F178 e m a else F177 e m a).1).toNat = nxw e.toNat m.toNat d s P) := by
  rcases k.cls a with ⟨h1, h2⟩ | ⟨P, s, hP, hw, h4, hs, hn, _⟩
  · refine Or.inl ⟨h1, ?_⟩
    cases d
    · exact nextU_nan k a h2
    · exact nextD_nan k a h2
  · refine Or.inr ⟨P, s, hP, hw, ?_⟩
    cases d
    · exact nextU_ok k a hP hw h4
    · exact nextD_ok k hb a hP hw h4
theorem nxw_le (k : Kd e m f) (d s : Bool) {P : Nat} (hP : P ≤ infP e.toNat m.toNat) : ∃ Q t, Q ≤ infP e.toNat m.toNat ∧ nxw e.toNat m.toNat d s P = Q + sgn e.toNat m.toNat t := by
  have hip := infP_pos k.fm
  have hpm := pow_pos2 m.toNat
  rcases nx_cases k d s hP with ⟨h1, h2, h3⟩ | ⟨h1, h3⟩ | ⟨h1, h2, h3⟩
  · exact ⟨P, s, hP, h3⟩
  · exact ⟨1, d, by omega, h3⟩
  · refine ⟨_, s, ?_, h3⟩
    split
    · have : P ≠ infP e.toNat m.toNat := fun g => h2 ⟨‹_›, g⟩
      omega
    · omega
/-- The put of a rung. -/
theorem put_rung (k : Kd e m f) {Q : Nat} {t : Bool} (hQ : Q ≤ infP e.toNat m.toNat) : (put e m f (some (Q + sgn e.toNat m.toNat t))).toNat = Q + sgn e.toNat m.toNat t := by
  have hil := infP_lt' e.toNat m.toNat
  have hn : (f.read (Q + sgn e.toNat m.toNat t)).isNaN = false := by
    rw [k.read (by omega)]
    split
    · rfl
    · split
      · rfl
      · rw [if_pos (by omega)]; rfl
  unfold put
  simp only [hn, cond_false]
  rw [BitVec.toNat_ofNat]
  refine Nat.mod_eq_of_lt ?_
  have h2 := k.fm.e11
  have h4 := k.fm.m52
  have hs : sgn e.toNat m.toNat t ≤ 2 ^ (e.toNat + m.toNat) := by unfold sgn; cases t <;> simp
  have hl : 2 ^ (e.toNat + m.toNat) * 2 ≤ 2 ^ 64 := by rw [← Nat.pow_succ]; exact pow_le (by omega)
  omega
/-- math.Nextafter towards an infinity. -/
theorem F432_ok (d : Bool) (a : BitVec 64) : ∃ o, F432 N (some (wd 11#8 52#8 a)) (some (infP (11#8).toNat (52#8).toNat + sgn (11#8).toNat (52#8).toNat d)) = some o ∧ put 11#8 52#8 Ieee.double o = (bif d then F178 11#8 52#8 a else F177 11#8 52#8 a).1 := by
  have hI : (infP (11#8).toNat (52#8).toNat + sgn (11#8).toNat (52#8).toNat d) = bif d then 18442240474082181120 else 9218868437227405312 := by cases d <;> decide +kernel
  have hIn : (Ieee.double.read (infP (11#8).toNat (52#8).toNat + sgn (11#8).toNat (52#8).toNat d)).isNaN = false := by rw [kd64.rinf]; rfl
  have hinf : infP (11#8).toNat (52#8).toNat = 9218868437227405312 := by decide +kernel
  have hsg : ∀ t, sgn (11#8).toNat (52#8).toNat t = bif t then 9223372036854775808 else 0 := by intro t; cases t <;> decide +kernel
  unfold F432 F429
  simp only [lt]
  rw [fneq_self, fneq_self]
  simp only [show FloatKind.f64.format = Ieee.double from rfl]
  rw [hIn, Bool.or_false]
  unfold F432_2
  rcases next_spec kd64 nb64 d a with ⟨⟨s, t, h1⟩, h2⟩ | ⟨P, s, hP, hw, h2⟩
  · rw [h1, h2]
    refine ⟨_, rfl, ?_⟩
    have : Ieee.double.read (9221120237041090561#64).toNat = .nan false 2251799813685249 := by decide +kernel
    show (bif (Ieee.double.read (9221120237041090561#64).toNat).isNaN then F66 11#8 52#8 else BitVec.ofNat 64 (9221120237041090561#64).toNat) = _
    rw [this]; rfl
  · have hn : (Ieee.double.read (wd 11#8 52#8 a)).isNaN = false := by
      have := put_rung kd64 (t := s) hP
      have hil := infP_lt' (11#8).toNat (52#8).toNat
      rw [hw, kd64.read (by omega)]
      split
      · rfl
      · split
        · rfl
        · rw [if_pos (by omega)]; rfl
    rw [hn, bf rfl]
    have o1 := ord_cm kd64 (na := s) (nb := d) hP (Nat.le_refl (infP (11#8).toNat (52#8).toNat))
    have o2 := ord_cm kd64 (na := s) (nb := false) hP (Nat.zero_le (infP (11#8).toNat (52#8).toNat))
    have o3 := ord_cm kd64 (na := d) (nb := s) (Nat.le_refl (infP (11#8).toNat (52#8).toNat)) hP
    rw [show (0 : Nat) + sgn (11#8).toNat (52#8).toNat false = 0 from rfl, ← hw] at o2
    rw [← hw] at o1 o3
    have e1 : ∀ Y, fcmp .eql .f64 (some (wd 11#8 52#8 a)) (some Y) = (Ieee.double.order (wd 11#8 52#8 a) Y == some .eq) := fun Y => rfl
    have e2 : ∀ Y, fcmp .gtr .f64 (some (wd 11#8 52#8 a)) (some Y) = (Ieee.double.order (wd 11#8 52#8 a) Y == some .gt) := fun Y => rfl
    have e3 : ∀ Y, fcmp .gtr .f64 (some Y) (some (wd 11#8 52#8 a)) = (Ieee.double.order Y (wd 11#8 52#8 a) == some .gt) := fun Y => rfl
    unfold F432_3 F432_4 F432_5 F432_1
    rw [e1, e1, e2, e3, o1, o2, o3]
    have fin : ∀ o, o = some (nxw (11#8).toNat (52#8).toNat d s P) → put 11#8 52#8 Ieee.double o = (bif d then F178 11#8 52#8 a else F177 11#8 52#8 a).1 := by
      intro o ho
      obtain ⟨Q, t, hQ, hq⟩ := nxw_le kd64 d s hP
      rw [ho]
      refine BitVec.eq_of_toNat_eq ?_
      rw [h2, hq, put_rung kd64 hQ]
    rcases nx_cases kd64 d s hP with ⟨h3, h4, h5⟩ | ⟨h3, h5⟩ | ⟨h3, h4, h5⟩
    · refine ⟨_, ?_, fin _ (by rw [h5, ← hw])⟩
      rw [h3, cm_same h4]
      rfl
    · have hne : oc (cm s P d (infP (11#8).toNat (52#8).toNat)) ≠ .eq := by
        rw [h3, hinf]
        cases s <;> cases d <;> decide
      rw [bf (by rw [beq_eq_false_iff_ne]; intro g; exact hne (Option.some.inj g)), h3, cm_zero ⟨rfl, rfl⟩, bt (by rfl)]
      refine ⟨_, ?_, fin _ rfl⟩
      rw [h5, hI, hsg]
      unfold F447
      cases d <;> rfl
    · have hne : oc (cm s P d (infP (11#8).toNat (52#8).toNat)) ≠ .eq := by
        intro g
        rcases Nat.lt_or_ge P (infP (11#8).toNat (52#8).toNat) with c | c
        · cases s <;> cases d
          · rw [cm_flt c] at g; exact absurd g (by decide)
          · rw [cm_ft (by omega)] at g; exact absurd g (by decide)
          · rw [cm_tf (by omega)] at g; exact absurd g (by decide)
          · rw [cm_tlt c] at g; exact absurd g (by decide)
        · have hPe : P = infP (11#8).toNat (52#8).toNat := by omega
          cases s <;> cases d
          · exact h4 ⟨rfl, hPe⟩
          · rw [cm_ft (by omega)] at g; exact absurd g (by decide)
          · rw [cm_tf (by omega)] at g; exact absurd g (by decide)
          · exact h4 ⟨rfl, hPe⟩
      have hne0 : oc (cm s P false 0) ≠ .eq := by
        intro g
        cases s
        · rw [cm_fgt (by omega)] at g; exact absurd g (by decide)
        · rw [cm_tf (by omega)] at g; exact absurd g (by decide)
      rw [bf (by rw [beq_eq_false_iff_ne]; intro g; exact hne (Option.some.inj g)), bf (by rw [beq_eq_false_iff_ne]; intro g; exact hne0 (Option.some.inj g))]
      have hgt : ((some (oc (cm d (infP (11#8).toNat (52#8).toNat) s P)) == some Ordering.gt) == (some (oc (cm s P false 0)) == some Ordering.gt)) = decide (s = d) := by
        rcases Nat.lt_or_ge P (infP (11#8).toNat (52#8).toNat) with c | c
        · cases s <;> cases d
          · rw [cm_fgt c, cm_fgt (by omega)]; decide
          · rw [cm_tf (by omega), cm_fgt (by omega)]; decide
          · rw [cm_ft (by omega), cm_tf (by omega)]; decide
          · rw [cm_tgt c, cm_tf (by omega)]; decide
        · have hPe : P = infP (11#8).toNat (52#8).toNat := by omega
          cases s <;> cases d
          · exact (h4 ⟨rfl, hPe⟩).elim
          · rw [cm_tf (by omega), cm_fgt (by omega)]; decide
          · rw [cm_ft (by omega), cm_tf (by omega)]; decide
          · exact (h4 ⟨rfl, hPe⟩).elim
      rw [hgt]
      have hX : wd 11#8 52#8 a < 18446744073709551615 := by
        rw [hw, hsg]
        rw [hinf] at hP
        cases s <;> simp <;> omega
      have hX0 : 0 < wd 11#8 52#8 a := by rw [hw]; omega
      have hb : (BitVec.ofNat 64 ((some (wd 11#8 52#8 a)).getD 0)).toNat = wd 11#8 52#8 a := by
        show (BitVec.ofNat 64 (wd 11#8 52#8 a)).toNat = _
        rw [BitVec.toNat_ofNat]; exact Nat.mod_eq_of_lt (by omega)
      by_cases c : s = d
      · rw [decide_eq_true c, bt rfl]
        refine ⟨_, rfl, fin _ ?_⟩
        rw [h5, if_pos c, BitVec.toNat_add, hb, show (1#64).toNat = 1 from rfl, p64, Nat.mod_eq_of_lt (by omega), hw]
        exact congrArg some (by omega)
      · rw [decide_eq_false c, bf rfl]
        refine ⟨_, rfl, fin _ ?_⟩
        rw [h5, if_neg c, BitVec.toNat_sub_of_le (by rw [BitVec.le_def, hb]; exact hX0), hb, show (1#64).toNat = 1 from rfl, hw]
        exact congrArg some (by omega)
theorem next64 (d : Bool) (a : BitVec 64) : F355 N true a (F67 11#8 52#8 d) = some (bif d then F178 11#8 52#8 a else F177 11#8 52#8 a).1 := by
  obtain ⟨o, h1, h2⟩ := F432_ok (N := N) d a
  unfold F355 F400 F384 F418
  simp only [lt]
  rw [F67_ok kd64.fm, ← wd64 a, bt rfl, h1]
  simp only [Option.bind_some, F385_ok]
  rw [h2]
end
end Go.Proofs.YfwaawGreat
