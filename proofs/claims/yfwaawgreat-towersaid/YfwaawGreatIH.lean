/-
  native: neighbours in binary32.
-/
import Derived.Test.YfwaawGreatIG
namespace Go.Proofs.YfwaawGreat
open Go.Aw
set_option linter.unusedVariables false
set_option linter.unusedSimpArgs false

section
variable {N : Nat}
theorem cv_nn (X : Nat) : fcmp .neq .f64 (cv Ieee.single Ieee.double X) (cv Ieee.single Ieee.double X) = (Ieee.single.read X).isNaN := by
  rw [fneq_self]
  cases hr : Ieee.single.read X with
  | nan s t => rw [cv_nan hr]; rfl
  | infinity s => rw [cv_inf hr]; exact write_nn kd64 rfl
  | number s n p => rw [cv_num hr]; exact write_nn kd64 rfl
/-- math.Nextafter towards an infinity. -/
theorem F433_ok (d : Bool) (a : BitVec 64) : ∃ o, F433 N (some (wd 8#8 23#8 a)) (some (infP (8#8).toNat (23#8).toNat + sgn (8#8).toNat (23#8).toNat d)) = some o ∧ put 8#8 23#8 Ieee.single o = (bif d then F178 8#8 23#8 a else F177 8#8 23#8 a).1 ∧ ∀ r, o = some r → r < 4294967296 := by
  have hI : (infP (8#8).toNat (23#8).toNat + sgn (8#8).toNat (23#8).toNat d) = bif d then 4286578688 else 2139095040 := by cases d <;> decide +kernel
  have hIn : (Ieee.single.read (infP (8#8).toNat (23#8).toNat + sgn (8#8).toNat (23#8).toNat d)).isNaN = false := by rw [kd32.rinf]; rfl
  have hinf : infP (8#8).toNat (23#8).toNat = 2139095040 := by decide +kernel
  have hsg : ∀ t, sgn (8#8).toNat (23#8).toNat t = bif t then 2147483648 else 0 := by intro t; cases t <;> decide +kernel
  have ha : ∃ y : BitVec 32, y.toNat = wd 8#8 23#8 a := ⟨BitVec.ofInt 32 (a.toNat : Int), wd32 a⟩
  obtain ⟨ya, hya⟩ := ha
  have hok1 : fcOk .f32 .f64 (some (wd 8#8 23#8 a)) = true := by rw [← hya]; exact ok3264 ya
  have hok2 : fcOk .f32 .f64 (some (infP (8#8).toNat (23#8).toNat + sgn (8#8).toNat (23#8).toNat d)) = true := by
    rw [hI]
    cases d
    · exact ok3264 2139095040#32
    · exact ok3264 4286578688#32
  unfold F433 F429
  simp only [lt]
  rw [hok1, hok2, fcVal_eq (by decide) hok1, fcVal_eq (by decide) hok2]
  simp only [show FloatKind.f32.format = Ieee.single from rfl, show FloatKind.f64.format = Ieee.double from rfl]
  rw [cv_nn, cv_nn, hIn, bt rfl]
  have hnanc : ∃ o, F433_2 N (some (wd 8#8 23#8 a)) (some (infP (8#8).toNat (23#8).toNat + sgn (8#8).toNat (23#8).toNat d)) true = some o ∧ put 8#8 23#8 Ieee.single o = F66 8#8 23#8 ∧ ∀ r, o = some r → r < 4294967296 := by
    have hr : Ieee.double.read (9221120237041090561#64).toNat = .nan false 2251799813685249 := by decide +kernel
    have hok : fcOk .f64 .f32 (some (9221120237041090561#64).toNat) = true := by
      rw [fcOk_some, if_neg (by decide)]
      simp only [show FloatKind.f64.format = Ieee.double from rfl]
      rw [hr]
    refine ⟨none, ?_, rfl, fun r hr => by cases hr⟩
    unfold F433_2 F433_1 F446
    rw [bt rfl]
    simp only [lt]
    rw [hok, fcVal_eq (by decide) hok]
    simp only [show FloatKind.f64.format = Ieee.double from rfl]
    rw [cv_nan hr]
    rfl
  rcases next_spec kd32 nb32 d a with ⟨⟨s, t, h1⟩, h2⟩ | ⟨P, s, hP, hw, h2⟩
  · rw [h1, h2]
    obtain ⟨o, q1, q2⟩ := hnanc
    exact ⟨o, q1, q2⟩
  · have hn : (Ieee.single.read (wd 8#8 23#8 a)).isNaN = false := by
      have hil := infP_lt' (8#8).toNat (23#8).toNat
      rw [hw, kd32.read (by omega)]
      split
      · rfl
      · split
        · rfl
        · rw [if_pos (by omega)]; rfl
    rw [hn, bf rfl, bt rfl]
    unfold F433_2
    rw [bf rfl]
    have o1 := ord_cm kd32 (na := s) (nb := d) hP (Nat.le_refl (infP (8#8).toNat (23#8).toNat))
    have o2 := ord_cm kd32 (na := s) (nb := false) hP (Nat.zero_le (infP (8#8).toNat (23#8).toNat))
    have o3 := ord_cm kd32 (na := d) (nb := s) (Nat.le_refl (infP (8#8).toNat (23#8).toNat)) hP
    rw [show (0 : Nat) + sgn (8#8).toNat (23#8).toNat false = 0 from rfl, ← hw] at o2
    rw [← hw] at o1 o3
    have e1 : ∀ Y, fcmp .eql .f32 (some (wd 8#8 23#8 a)) (some Y) = (Ieee.single.order (wd 8#8 23#8 a) Y == some .eq) := fun Y => rfl
    have e2 : ∀ Y, fcmp .gtr .f32 (some (wd 8#8 23#8 a)) (some Y) = (Ieee.single.order (wd 8#8 23#8 a) Y == some .gt) := fun Y => rfl
    have e3 : ∀ Y, fcmp .gtr .f32 (some Y) (some (wd 8#8 23#8 a)) = (Ieee.single.order Y (wd 8#8 23#8 a) == some .gt) := fun Y => rfl
    unfold F433_3 F433_4 F433_5 F433_1
    rw [e1, e1, e2, e3, o1, o2, o3]
    have fin : ∀ o, o = some (nxw (8#8).toNat (23#8).toNat d s P) → put 8#8 23#8 Ieee.single o = (bif d then F178 8#8 23#8 a else F177 8#8 23#8 a).1 ∧ ∀ r, o = some r → r < 4294967296 := by
      intro o ho
      obtain ⟨Q, t, hQ, hq⟩ := nxw_le kd32 d s hP
      rw [ho]
      refine ⟨BitVec.eq_of_toNat_eq (by rw [h2, hq, put_rung kd32 hQ]), fun r hr => ?_⟩
      cases hr
      rw [hq, hsg]
      rw [hinf] at hQ
      cases t <;> simp <;> omega
    rcases nx_cases kd32 d s hP with ⟨h3, h4, h5⟩ | ⟨h3, h5⟩ | ⟨h3, h4, h5⟩
    · refine ⟨_, ?_, fin _ (by rw [h5, ← hw])⟩
      rw [h3, cm_same h4]
      rfl
    · have hne : oc (cm s P d (infP (8#8).toNat (23#8).toNat)) ≠ .eq := by
        rw [h3, hinf]
        cases s <;> cases d <;> decide
      rw [bf (by rw [beq_eq_false_iff_ne]; intro g; exact hne (Option.some.inj g)), h3, cm_zero ⟨rfl, rfl⟩, bt (by rfl)]
      refine ⟨_, ?_, fin _ rfl⟩
      rw [h5, hok2, hI, hsg]
      have hone : fcOk .f32 .f64 (some (1#32).toNat) = true := ok3264 1#32
      rw [hone, bt rfl, bt rfl]
      unfold F447
      cases d
      · decide +kernel
      · decide +kernel
    · have hne : oc (cm s P d (infP (8#8).toNat (23#8).toNat)) ≠ .eq := by
        intro g
        rcases Nat.lt_or_ge P (infP (8#8).toNat (23#8).toNat) with c | c
        · cases s <;> cases d
          · rw [cm_flt c] at g; exact absurd g (by decide)
          · rw [cm_ft (by omega)] at g; exact absurd g (by decide)
          · rw [cm_tf (by omega)] at g; exact absurd g (by decide)
          · rw [cm_tlt c] at g; exact absurd g (by decide)
        · have hPe : P = infP (8#8).toNat (23#8).toNat := by omega
          cases s <;> cases d
          · exact h4 ⟨rfl, hPe⟩
          · rw [cm_ft (by omega)] at g; exact absurd g (by decide)
          · rw [cm_tf (by omega)] at g; exact absurd g (by decide)
          · exact h4 ⟨rfl, hPe⟩
      have hne0 : oc (cm s P false 0) ≠ .eq := by
        intro g
        cases s
        · rw [cm_fgt (by omega)] at g; exact absurd g (by decide)
        · rw [cm_tf (by omega)] at g; exact absurd g (by decide)
      rw [bf (by rw [beq_eq_false_iff_ne]; intro g; exact hne (Option.some.inj g)), bf (by rw [beq_eq_false_iff_ne]; intro g; exact hne0 (Option.some.inj g))]
      have hgt : ((some (oc (cm d (infP (8#8).toNat (23#8).toNat) s P)) == some Ordering.gt) == (some (oc (cm s P false 0)) == some Ordering.gt)) = decide (s = d) := by
        rcases Nat.lt_or_ge P (infP (8#8).toNat (23#8).toNat) with c | c
        · cases s <;> cases d
          · rw [cm_fgt c, cm_fgt (by omega)]; decide
          · rw [cm_tf (by omega), cm_fgt (by omega)]; decide
          · rw [cm_ft (by omega), cm_tf (by omega)]; decide
          · rw [cm_tgt c, cm_tf (by omega)]; decide
        · have hPe : P = infP (8#8).toNat (23#8).toNat := by omega
          cases s <;> cases d
          · exact (h4 ⟨rfl, hPe⟩).elim
          · rw [cm_tf (by omega), cm_fgt (by omega)]; decide
          · rw [cm_ft (by omega), cm_tf (by omega)]; decide
          · exact (h4 ⟨rfl, hPe⟩).elim
      rw [hgt]
      have hX : wd 8#8 23#8 a < 4294967295 := by
        rw [hw, hsg]
        rw [hinf] at hP
        cases s <;> simp <;> omega
      have hX0 : 0 < wd 8#8 23#8 a := by rw [hw]; omega
      have hb : (BitVec.ofNat 32 ((some (wd 8#8 23#8 a)).getD 0)).toNat = wd 8#8 23#8 a := by
        show (BitVec.ofNat 32 (wd 8#8 23#8 a)).toNat = _
        rw [BitVec.toNat_ofNat]; exact Nat.mod_eq_of_lt (by omega)
      by_cases c : s = d
      · rw [decide_eq_true c, bt rfl]
        refine ⟨_, rfl, fin _ ?_⟩
        rw [h5, if_pos c, BitVec.toNat_add, hb, show (1#32).toNat = 1 from rfl, show 2 ^ 32 = 4294967296 from rfl, Nat.mod_eq_of_lt (by omega), hw]
        exact congrArg some (by omega)
      · rw [decide_eq_false c, bf rfl]
        refine ⟨_, rfl, fin _ ?_⟩
        rw [h5, if_neg c, BitVec.toNat_sub_of_le (by rw [BitVec.le_def, hb]; exact hX0), hb, show (1#32).toNat = 1 from rfl, hw]
        exact congrArg some (by omega)
theorem next32 (d : Bool) (a : BitVec 64) : F355 N false a (F67 8#8 23#8 d) = some (bif d then F178 8#8 23#8 a else F177 8#8 23#8 a).1 := by
  obtain ⟨o, h1, h2, h3⟩ := F433_ok (N := N) d a
  unfold F355 F401 F386 F419
  simp only [lt]
  rw [bf rfl, wd32, wd32]
  have hI : wd 8#8 23#8 (F67 8#8 23#8 d) = infP (8#8).toNat (23#8).toNat + sgn (8#8).toNat (23#8).toNat d := by cases d <;> decide +kernel
  rw [hI, h1]
  simp only [Option.bind_some]
  obtain ⟨y, y1, y2, y3⟩ := F387_ok (N := N) o h3
  rw [y1]
  simp only [Option.bind_some]
  rw [y2, h2]
end
end Go.Proofs.YfwaawGreat
