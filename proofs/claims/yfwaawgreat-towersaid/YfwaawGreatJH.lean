/-
  native.Sqrt32.
-/
import Derived.Test.YfwaawGreatJG
namespace Go.Proofs.YfwaawGreat
open Go.Aw
set_option linter.unusedVariables false
set_option linter.unusedSimpArgs false

section
variable {X Y V W N : Nat} {s t : Bool} {i : Int} {e m mode : BitVec 8} {f : Ieee.Format}
theorem RS_ne (h : Fm e m) (hm : NE mode) {num den : Nat} {k : Int} {J : Nat} {h' : Int} {φ : Int → Nat} {ε : Int → Bool} (h1 : RS e m mode false h' φ ε = RQ e m mode false num den) (h2 : RS e m 0#8 false h' φ ε = RQ e m 0#8 false num den) (hn : num ≠ 0) (hd : den ≠ 0) : (RS e m mode false h' φ ε).1 = (RS e m 0#8 false h' φ ε).1 := by
  rw [h1, h2]
  exact BitVec.eq_of_toNat_eq (by rw [RQ_ne h hm hn hd, RQ_ne h ne_zero hn hd])
/-- What is done with the wide root. -/
theorem sq_tail (o : Option Nat) (hok : fcOk .f64 .f32 o = true) : ∃ y, (bif fcOk .f64 .f32 o then (F387 N (fcVal .f64 .f32 o)).bind fun y6 => some y6 else none) = some y ∧ BitVec.ofInt 64 (y.toNat : Int) = put 8#8 23#8 Ieee.single (fcVal .f64 .f32 o) := by
  have hlt : ∀ r, fcVal .f64 .f32 o = some r → r < 4294967296 := by
    intro r hr
    cases o with
    | none => cases hr
    | some X =>
      rw [fcVal_eq (by decide) hok] at hr
      exact cv_lt hr
  obtain ⟨y, y1, y2, y3⟩ := F387_ok (N := N) (fcVal .f64 .f32 o) hlt
  rw [hok, bt rfl, y1]
  exact ⟨y, rfl, y2⟩
theorem sqrt32 (hm : NE mode) (a : BitVec 64) : ∃ z, F132 N 8#8 23#8 mode a = some z ∧ ∃ y, F333 N (BitVec.ofInt 32 (a.toNat : Int)) = some y ∧ BitVec.ofInt 64 (y.toNat : Int) = z.1 := by
  obtain ⟨D, hD⟩ : ∃ D : Nat, D = 1074 := ⟨_, rfl⟩
  obtain ⟨K, hK⟩ : ∃ K : Nat, K = 925 := ⟨_, rfl⟩
  obtain ⟨z, z1, z2⟩ := nsqrt (N := N) kd32 hm a
  refine ⟨z, z1, ?_⟩
  have ha : ∃ y : BitVec 32, y.toNat = wd 8#8 23#8 a := ⟨BitVec.ofInt 32 (a.toNat : Int), wd32 a⟩
  obtain ⟨ya, hya⟩ := ha
  have hok1 : fcOk .f32 .f64 (some (wd 8#8 23#8 a)) = true := by rw [← hya]; exact ok3264 ya
  unfold F333 F386 F388 F408
  simp only [lt]
  rw [wd32, hok1, bt rfl, fcVal_eq (by decide) hok1]
  simp only [show FloatKind.f32.format = Ieee.single from rfl, show FloatKind.f64.format = Ieee.double from rfl]
  suffices hs : fcOk .f64 .f32 (fsqrt (cv Ieee.single Ieee.double (wd 8#8 23#8 a))) = true ∧ put 8#8 23#8 Ieee.single (fcVal .f64 .f32 (fsqrt (cv Ieee.single Ieee.double (wd 8#8 23#8 a)))) = z.1 by
    obtain ⟨y, y1, y2⟩ := sq_tail (N := N) _ hs.1
    exact ⟨y, y1, by rw [y2, hs.2]⟩
  rw [z2]
  have hsome : ∀ S : Nat, fcOk .f64 .f32 (some S) = true → put 8#8 23#8 Ieee.single (fcVal .f64 .f32 (some S)) = can 8#8 23#8 (cv Ieee.double Ieee.single S) := by
    intro S hS
    rw [fcVal_eq (by decide) hS]
    exact put_cv kd32 S
  rcases cls32 a with ⟨⟨_, _, ar⟩, ac, aw⟩ | ⟨s, ar, ac, aw, am⟩ | ⟨s, ar, av, ac, am⟩ | ⟨s, ca, ea, ma, P, mag, place, ar, an, av, fa⟩
  · rw [cv_nan ar]
    refine ⟨rfl, ?_⟩
    have : Ieee.single.sqrt (wd 8#8 23#8 a) = none := by
      unfold Ieee.Format.sqrt; rw [ar]; rfl
    rw [this]; rfl
  · rw [cv_inf ar]
    have hw : Ieee.double.read (Ieee.double.write (.infinity s)) = .infinity s := by cases s <;> decide +kernel
    have h1 : fsqrt (some (Ieee.double.write (.infinity s))) = Ieee.double.sqrt (Ieee.double.write (.infinity s)) := rfl
    rw [h1, sqrt_inf kd64 hw, sqrt_inf kd32 ar]
    cases s
    · have hok : fcOk .f64 .f32 (some (Ieee.double.write (.infinity false))) = true := by decide +kernel
      refine ⟨hok, ?_⟩
      rw [if_neg (by decide), if_neg (by decide), hsome _ hok, cv_inf hw]
    · exact ⟨rfl, rfl⟩
  · rw [cv_num ar]
    have hw : Ieee.double.write (.number s 0 (-149)) = s64 s := by rw [wr_zero kd64, sgn64]
    have hrd : Ieee.double.read (s64 s) = .number s 0 (-1074) := by cases s <;> decide +kernel
    have h1 : fsqrt (some (Ieee.double.write (.number s 0 (-149)))) = Ieee.double.sqrt (s64 s) := by rw [hw]; rfl
    have hw2 : Ieee.double.write (.number s 0 (-1074)) = s64 s := by rw [wr_zero kd64, sgn64]
    rw [h1, sqrt_zero kd64 hrd, sqrt_zero kd32 ar, hw2]
    have hok : fcOk .f64 .f32 (some (s64 s)) = true := by cases s <;> decide +kernel
    refine ⟨hok, ?_⟩
    rw [hsome _ hok, cv_num hrd, can_zero kd32, can_zero kd32]
  · have hdv := av K hK
    obtain ⟨mag', p', r1, r2, r3, r4⟩ := hdv.read
    have hp := uv_pos (M := 23) fa.p0
    have hVne : uv 23 P * 2 ^ K ≠ 0 := Nat.mul_ne_zero (by omega) (pne K)
    have hm0 : mag' ≠ 0 := by
      intro g
      have := r4 D hD
      rw [g, Nat.zero_mul] at this
      exact hVne this.symm
    have hcv : cv Ieee.single Ieee.double (wd 8#8 23#8 a) = some (wide a).toNat := by
      unfold wide
      rw [cv_num ar]
      have hlt := Ieee.Format.write_lt Ieee.double (.number s mag place)
      rw [can64 hlt]
    rw [hcv]
    have h1 : fsqrt (some (wide a).toNat) = Ieee.double.sqrt (wide a).toNat := rfl
    rw [h1]
    cases s with
    | true =>
      rw [sqrt_neg kd64 hm0 r1, sqrt_neg kd32 an.m0 ar]
      exact ⟨rfl, rfl⟩
    | false =>
      have hpl := an.pl
      rw [lp32v] at hpl
      have hph := an.ph
      rw [show bia (8#8).toNat = 127 by decide] at hph
      have hm23 : ((23#8).toNat : Int) = 23 := rfl
      have hhi : mag < 16777216 := an.hi
      have hu := an.u
      rw [lp32v] at hu
      have hu2 : mag * 2 ^ (place - -149).toNat = uv 23 P := hu
      obtain ⟨num, hnum⟩ : ∃ num, num = mag * 2 ^ place.toNat := ⟨_, rfl⟩
      obtain ⟨den, hden⟩ : ∃ den, den = 2 ^ (-place).toNat := ⟨_, rfl⟩
      have hd0 : den ≠ 0 := by rw [hden]; exact pne _
      have hv32 : num * 2 ^ (-place).toNat = mag * 2 ^ place.toNat * den := by rw [hnum, hden]
      have hv64 : num * 2 ^ (-p').toNat = mag' * 2 ^ p'.toNat * den := by
        rw [hnum, hden]
        have hcr : mag' * 2 ^ (p' + D).toNat = mag * 2 ^ (place + D).toNat := by
          rw [r4 D hD, ← hu2, Nat.mul_assoc, ← Nat.pow_add]
          exact congrArg (fun z => mag * 2 ^ z) (by omega)
        refine Nat.mul_right_cancel (pow_pos2 D) ?_
        have e1 : mag * 2 ^ place.toNat * 2 ^ (-p').toNat * 2 ^ D = mag * 2 ^ (place + D).toNat * 2 ^ ((-p').toNat + (-place).toNat) := by
          simp only [Nat.mul_assoc, ← Nat.pow_add]; exact congrArg (fun z => mag * 2 ^ z) (by omega)
        have e2 : mag' * 2 ^ p'.toNat * 2 ^ (-place).toNat * 2 ^ D = mag' * 2 ^ (p' + D).toNat * 2 ^ ((-p').toNat + (-place).toNat) := by
          simp only [Nat.mul_assoc, ← Nat.pow_add]; exact congrArg (fun z => mag' * 2 ^ z) (by omega)
        rw [e1, e2, hcr]
      obtain ⟨Q, q1, q2, q3, q4, q5⟩ := root_twice an.m0 hhi (by omega) (by omega) hd0 hv32 hD
      have hS := root_RS kd64 hm0 r1 hd0 hv64
      have hT := root_RS kd32 an.m0 ar hd0 hv32
      rw [hT, ← q4]
      -- the double's word
      have hSw : ∃ S, Ieee.double.sqrt (wide a).toNat = some S ∧ S = Q := by
        cases hq : Ieee.double.sqrt (wide a).toNat with
        | none =>
          exfalso
          rw [hq] at hS
          have : (F66 11#8 52#8).toNat = Q := by rw [← q3, ← hS]; rfl
          rw [show (F66 11#8 52#8).toNat = 9221120237041090560 by decide +kernel] at this
          omega
        | some S =>
          refine ⟨S, rfl, ?_⟩
          rw [hq] at hS
          have h2 : (BitVec.ofNat 64 S).toNat = Q := by rw [← q3, ← hS]; rfl
          rw [BitVec.toNat_ofNat, Nat.mod_eq_of_lt (show S < 2 ^ 64 from Ieee.Format.sqrt_lt Ieee.double hq)] at h2
          exact h2
      obtain ⟨S, s1, s2⟩ := hSw
      rw [s1]
      have hdS : DV S false (uv 52 Q) := ⟨Q, q2, rfl, s2⟩
      have hVp := uv_pos (M := 52) q1
      obtain ⟨mS, pS, u1, u2, u3, u4⟩ := hdS.read
      have hmS : mS ≠ 0 := by
        intro g
        have := u4 D hD
        rw [g, Nat.zero_mul] at this
        omega
      have hok : fcOk .f64 .f32 (some S) = true := by
        rw [fcOk_some, if_neg (by decide)]
        simp only [show FloatKind.f32.format = Ieee.single from rfl, show FloatKind.f64.format = Ieee.double from rfl]
        rw [u1]
        show (!(Ieee.single.read (Ieee.single.write (.number false mS pS))).isInfinity) = true
        rw [inf_iff kd32 hmS, Bool.not_eq_true', decide_eq_false_iff_not]
        have hup := UP_hi kd32.fm (Nat.mul_ne_zero hmS (pne pS.toNat)) (pne (-pS).toNat)
        rw [lg_pow hmS, show bia (8#8).toNat = 127 by decide, show 2 ^ ((23#8).toNat + 1) = 2 * 8388608 by decide, show 2 ^ (23#8).toNat = 8388608 by decide] at hup
        have hbl : blen (mS * 2 ^ (pS + D).toNat) = blen mS + (pS + D).toNat := blen_pow _ hmS _
        rw [u4 D hD] at hbl
        have hmx : (max ((blen mS : Int) - 1 + pS) (1 - ((127 : Nat) : Int)) - (1 - ((127 : Nat) : Int))).toNat ≤ 200 := by omega
        have hmul := Nat.mul_le_mul_right 8388608 hmx
        rw [inf32v]
        omega
      refine ⟨hok, ?_⟩
      rw [hsome _ hok]
      have hSlt := hdS.ltX
      have hnar : narrow (BitVec.ofNat 64 S) = can 8#8 23#8 (cv Ieee.double Ieee.single S) := by
        unfold narrow
        rw [wd64, BitVec.toNat_ofNat, p64, Nat.mod_eq_of_lt hSlt]
      have hdS2 : DV (BitVec.ofNat 64 S).toNat false (uv 52 Q) := by
        rw [BitVec.toNat_ofNat, p64, Nat.mod_eq_of_lt hSlt]; exact hdS
      rw [← hnar, narrow_dv hdS2 hD, if_neg (by omega)]
/-- Sqrt, Neg and Abs, as na calls them. -/
theorem unary64 (hm : NE mode) (kd : BitVec 8) (hk : kd = 5#8 ∨ kd = 6#8 ∨ kd = 7#8) (c : BitVec 64) :
    ∃ r, (bif kd == 5#8 then (F132 N 11#8 52#8 mode c).map Prod.fst else bif kd == 6#8 then some (F222 11#8 52#8 (c ^^^ F70 11#8 52#8)) else some (F222 11#8 52#8 (c &&& ~~~F70 11#8 52#8))) = some r ∧ F236 N true kd c = some r := by
  unfold F236 F236_1 F236_2 F236_3 F236_4 F236_5
  rcases hk with rfl | rfl | rfl
  · obtain ⟨z, z1, z2⟩ := nsqrt (N := N) kd64 hm c
    refine ⟨z.1, ?_, ?_⟩
    · rw [bt (by rfl), z1]; rfl
    · rw [bt (by rfl), F332_ok, z2]; rfl
  · refine ⟨_, rfl, ?_⟩
    rw [bf (by rfl), bf (by rfl), bt (by rfl), neg64]; rfl
  · refine ⟨_, rfl, ?_⟩
    rw [bf (by rfl), bf (by rfl), bf (by rfl), bf (by rfl), bt rfl, abs64]; rfl
theorem unary32 (hm : NE mode) (kd : BitVec 8) (hk : kd = 5#8 ∨ kd = 6#8 ∨ kd = 7#8) (c : BitVec 64) :
    ∃ r, (bif kd == 5#8 then (F132 N 8#8 23#8 mode c).map Prod.fst else bif kd == 6#8 then some (F222 8#8 23#8 (c ^^^ F70 8#8 23#8)) else some (F222 8#8 23#8 (c &&& ~~~F70 8#8 23#8))) = some r ∧ F236 N false kd c = some r := by
  unfold F236 F236_1 F236_2 F236_3 F236_4 F236_5
  rcases hk with rfl | rfl | rfl
  · obtain ⟨z, z1, y, y1, y2⟩ := sqrt32 (N := N) hm c
    refine ⟨z.1, ?_, ?_⟩
    · rw [bt (by rfl), z1]; rfl
    · rw [bf (by rfl), bt (by rfl), y1, Option.bind_some, y2]
  · obtain ⟨y, y1, y2⟩ := neg32 (N := N) c
    refine ⟨_, rfl, ?_⟩
    rw [bf (by rfl), bf (by rfl), bf (by rfl), bt (by rfl), y1, Option.bind_some, y2]
  · obtain ⟨y, y1, y2⟩ := abs32 (N := N) c
    refine ⟨_, rfl, ?_⟩
    rw [bf (by rfl), bf (by rfl), bf (by rfl), bf (by rfl), bf rfl, y1, Option.bind_some, y2]
end
end Go.Proofs.YfwaawGreat
