/-
  native: RoundInt and Rem, as na calls them.
-/
import Derived.Test.YfwaawGreatJ9
namespace Go.Proofs.YfwaawGreat
open Go.Aw
set_option linter.unusedVariables false
set_option linter.unusedSimpArgs false

section
variable {X Y V W N : Nat} {s t : Bool} {i : Int}
theorem round64 (md : BitVec 8) (a : BitVec 64) : ∃ z, F182 N 11#8 52#8 md a = some z ∧ F393 N md a = some z.1 := by
  obtain ⟨z, z1, z2⟩ := nRound (N := N) kd64 (by decide) md a
  refine ⟨z, z1, ?_⟩
  rw [wd64] at z2
  by_cases h1 : md = 1#8
  · subst h1
    obtain ⟨o, o1, o2⟩ := F423_ok (N := N) a
    unfold F393 F393_1 F393_2 F384 F411
    simp only [lt]
    rw [bt (by rfl), o1]
    simp only [Option.bind_some, F385_ok]
    rcases z2 with ⟨⟨s, t, g⟩, g2⟩ | ⟨s, g, g2⟩ | ⟨s, mag, place, g, g2, _⟩
    · rcases o2 with ⟨_, p2⟩ | ⟨⟨_, p1⟩, _⟩ | ⟨_, _, _, p1, _⟩
      · rw [p2, g2]
        show some (bif (Ieee.double.read a.toNat).isNaN then F66 11#8 52#8 else _) = _
        rw [g]; rfl
      · rw [g] at p1; cases p1
      · rw [g] at p1; cases p1
    · rcases o2 with ⟨⟨_, _, p1⟩, _⟩ | ⟨_, p2⟩ | ⟨_, _, _, p1, _⟩
      · rw [g] at p1; cases p1
      · rw [p2, g2]
        show some (bif (Ieee.double.read a.toNat).isNaN then F66 11#8 52#8 else BitVec.ofNat 64 a.toNat) = _
        rw [g]
        refine congrArg some (BitVec.eq_of_toNat_eq ?_)
        show (BitVec.ofNat 64 a.toNat).toNat = _
        rw [BitVec.toNat_ofNat, F67_ok kd64.fm, inf64v, sgn64, Nat.mod_eq_of_lt a.isLt]
        rcases cls64 a with ⟨⟨_, _, q⟩, _⟩ | ⟨s', q1, q2, _⟩ | ⟨_, q, _⟩ | ⟨_, _, _, _, _, q, _⟩
        · rw [g] at q; cases q
        · rw [g] at q2
          have : s = s' := by injection q2
          rw [q1, this]
        · obtain ⟨_, _, r, _⟩ := q.read; rw [g] at r; cases r
        · obtain ⟨_, _, r, _⟩ := q.read; rw [g] at r; cases r
      · rw [g] at p1; cases p1
    · rcases o2 with ⟨⟨_, _, p1⟩, _⟩ | ⟨⟨_, p1⟩, _⟩ | ⟨s', mag', place', p1, p2⟩
      · rw [g] at p1; cases p1
      · rw [g] at p1; cases p1
      · rw [g] at p1
        injection p1 with e1 e2 e3
        subst e1 e2 e3
        rw [p2, g2, put_num kd64]
  · rw [F393_way md h1, fint_val]
    rcases z2 with ⟨⟨s, t, g⟩, g2⟩ | ⟨s, g, g2⟩ | ⟨s, mag, place, g, g2, _⟩
    · rw [g, g2]; rfl
    · rw [g, g2]
      show some (put 11#8 52#8 Ieee.double (some (Ieee.double.write (.infinity s)))) = _
      have := put_write kd64 (o := some (.infinity s)) (fun d h => by cases h; rfl)
      rw [show (some (Ieee.Datum.infinity s)).map Ieee.double.write = some (Ieee.double.write (.infinity s)) from rfl] at this
      rw [this, can_inf kd64]
    · rw [g, g2]
      show some (put 11#8 52#8 Ieee.double (some (Ieee.double.write (.number s ((wayOf md).cut s (mag <<< place.toNat) (-place).toNat) 0)))) = _
      rw [cut_wh md h1, put_num kd64]
theorem wh_cross {md : BitVec 8} {mag mag' : Nat} {p p' : Int} {D : Nat} (h1 : -(D : Int) ≤ p) (h2 : -(D : Int) ≤ p') (h : mag * 2 ^ (p + D).toNat = mag' * 2 ^ (p' + D).toNat) : wh md s mag p = wh md s mag' p' := by
  have hcr : 2 * (mag * 2 ^ p.toNat) * 2 ^ (-p').toNat = 2 * (mag' * 2 ^ p'.toNat) * 2 ^ (-p).toNat := by
    refine Nat.mul_right_cancel (pow_pos2 D) ?_
    have e1 : 2 * (mag * 2 ^ p.toNat) * 2 ^ (-p').toNat * 2 ^ D = 2 * (mag * 2 ^ (p + D).toNat) * 2 ^ ((-p').toNat + (-p).toNat) := by
      simp only [Nat.mul_assoc, ← Nat.pow_add]
      exact congrArg (fun z => 2 * (mag * 2 ^ z)) (by omega)
    have e2 : 2 * (mag' * 2 ^ p'.toNat) * 2 ^ (-p).toNat * 2 ^ D = 2 * (mag' * 2 ^ (p' + D).toNat) * 2 ^ ((-p').toNat + (-p).toNat) := by
      simp only [Nat.mul_assoc, ← Nat.pow_add]
      exact congrArg (fun z => 2 * (mag' * 2 ^ z)) (by omega)
    rw [e1, e2, h]
  have hdc := div_cross (pow_pos2 (-p).toNat) (pow_pos2 (-p').toNat) hcr
  unfold wh
  rw [hdc.1, decide_eq_decide.2 (not_congr hdc.2)]
/-- A whole number, written as a double and narrowed. -/
theorem narrow_whole {n : Nat} (hr : ∀ D : Nat, D = 1074 → Rep (n * 2 ^ D)) : narrow (can 11#8 52#8 (some (Ieee.double.write (.number s n 0)))) = can 8#8 23#8 (some (Ieee.single.write (.number s n 0))) := by
  obtain ⟨D, hD⟩ : ∃ D : Nat, D = 1074 := ⟨_, rfl⟩
  have hdv : DV (Ieee.double.write (.number s n 0)) s (n * 2 ^ D) := by
    refine write_units (D := D) hD (by omega) ?_ (hr D hD)
    exact congrArg (fun z => n * 2 ^ z) (by omega)
  have hdv2 : DV (can 11#8 52#8 (some (Ieee.double.write (.number s n 0)))).toNat s (n * 2 ^ D) := by
    rw [can64 hdv.ltX]; exact hdv
  rw [narrow_dv hdv2 hD]
  by_cases c : n = 0
  · rw [c, Nat.zero_mul, if_pos rfl, can_zero kd32]
  · have hne : n * 2 ^ D ≠ 0 := Nat.mul_ne_zero c (pne D)
    rw [if_neg hne, can_num kd32 ne_zero c]
    refine congrArg Prod.fst (RQ_cross hne (pne _) (pne _) ?_)
    rw [show (0 : Int).toNat = 0 from rfl, show (-(0 : Int)).toNat = 0 from rfl, Nat.pow_zero, Nat.mul_one, Nat.mul_one]
theorem round32 (md : BitVec 8) (a : BitVec 64) : ∃ z w, F182 N 8#8 23#8 md a = some z ∧ F393 N md (wide a) = some w ∧ narrow w = z.1 := by
  obtain ⟨D, hD⟩ : ∃ D : Nat, D = 1074 := ⟨_, rfl⟩
  obtain ⟨K, hK⟩ : ∃ K : Nat, K = 925 := ⟨_, rfl⟩
  obtain ⟨z, z1, z2⟩ := nRound (N := N) kd32 (by decide) md a
  obtain ⟨w, w1, w2⟩ := round64 (N := N) md (wide a)
  obtain ⟨w', w1', w3⟩ := nRound (N := N) kd64 (by decide) md (wide a)
  rw [w1] at w1'
  have hww : w' = w := (Option.some.inj w1').symm
  subst hww
  rw [wd64] at w3
  refine ⟨z, w'.1, z1, w2, ?_⟩
  rcases cls32 a with ⟨⟨_, _, ar⟩, ac, aw⟩ | ⟨s, ar, ac, aw, am⟩ | ⟨s, ar, av, ac, am⟩ | ⟨s, ca, ea, ma, P, mag, place, ar, an, av, fa⟩
  · have hr : Ieee.double.read (wide a).toNat = .nan false 2251799813685248 := by rw [aw]; decide +kernel
    rcases z2 with ⟨_, g2⟩ | ⟨_, g, _⟩ | ⟨_, _, _, g, _⟩
    · rcases w3 with ⟨_, v2⟩ | ⟨_, g, _⟩ | ⟨_, _, _, g, _⟩
      · rw [v2, g2]; exact narrow_nan
      · rw [hr] at g; cases g
      · rw [hr] at g; cases g
    · rw [ar] at g; cases g
    · rw [ar] at g; cases g
  · have hr : Ieee.double.read (wide a).toNat = .infinity s := by rw [aw, F67_ok kd64.fm]; exact kd64.rinf
    rcases z2 with ⟨⟨_, _, g⟩, _⟩ | ⟨s', g, g2⟩ | ⟨_, _, _, g, _⟩
    · rw [ar] at g; cases g
    · rw [ar] at g
      have hs : s = s' := by injection g
      rcases w3 with ⟨⟨_, _, v1⟩, _⟩ | ⟨t, v1, v2⟩ | ⟨_, _, _, v1, _⟩
      · rw [hr] at v1; cases v1
      · rw [hr] at v1
        have ht : s = t := by injection v1
        rw [v2, g2, ← hs, ← ht]; exact narrow_inf s
      · rw [hr] at v1; cases v1
    · rw [ar] at g; cases g
  all_goals
    rcases z2 with ⟨⟨_, _, g⟩, _⟩ | ⟨_, g, _⟩ | ⟨s', mg, pl, g, g2, g3⟩
  · rw [ar] at g; cases g
  · rw [ar] at g; cases g
  · rw [ar] at g
    injection g with e1 e2 e3
    subst e1 e2 e3
    obtain ⟨mag', p', r1, r2, r3, r4⟩ := av.read
    rcases w3 with ⟨⟨_, _, v1⟩, _⟩ | ⟨_, v1, _⟩ | ⟨t, mg', pl', v1, v2, v3⟩
    · rw [r1] at v1; cases v1
    · rw [r1] at v1; cases v1
    · rw [r1] at v1
      injection v1 with e1 e2 e3
      subst e1 e2 e3
      have hm0 : mag' = 0 := by
        have := r4 D hD
        rcases Nat.mul_eq_zero.1 this with q | q
        · exact q
        · exact absurd q (pne _)
      have h0 : ∀ p : Int, wh md s 0 p = 0 := by
        intro p
        unfold wh
        rw [Nat.zero_mul, Nat.mul_zero, Nat.zero_div, Nat.zero_mod, rn_exact (by decide) (by decide)]
      rw [v2, g2, hm0, h0, h0]
      exact narrow_whole fun D _ => by rw [Nat.zero_mul]; exact rep_zero
  · rw [ar] at g; cases g
  · rw [ar] at g; cases g
  · rw [ar] at g
    injection g with e1 e2 e3
    subst e1 e2 e3
    have hdv := av K hK
    obtain ⟨mag', p', r1, r2, r3, r4⟩ := hdv.read
    rcases w3 with ⟨⟨_, _, v1⟩, _⟩ | ⟨_, v1, _⟩ | ⟨t, mg', pl', v1, v2, v3⟩
    · rw [r1] at v1; cases v1
    · rw [r1] at v1; cases v1
    · rw [r1] at v1
      injection v1 with e1 e2 e3
      subst e1 e2 e3
      have hpl := an.pl
      rw [lp32v] at hpl
      have hu := an.u
      rw [lp32v] at hu
      have hu2 : mag * 2 ^ (place - -149).toNat = uv 23 P := hu
      have hcr : mag' * 2 ^ (p' + D).toNat = mag * 2 ^ (place + D).toNat := by
        rw [r4 D hD, ← hu2, Nat.mul_assoc, ← Nat.pow_add]
        exact congrArg (fun z => mag * 2 ^ z) (by omega)
      have hwh : wh md s mag' p' = wh md s mag place := wh_cross (D := D) (by omega) (by omega) hcr
      rw [v2, g2, ← hwh]
      refine narrow_whole fun D' hD' => ?_
      by_cases c : wh md s mag' p' = 0
      · rw [c, Nat.zero_mul]; exact rep_zero
      · rcases v3 with q | ⟨P', q1, q2, q3, q4⟩
        · exfalso
          rw [q, Nat.zero_mul] at hcr
          exact Nat.mul_ne_zero an.m0 (pne _) hcr.symm
        · obtain ⟨Q, k1, k2, k3⟩ := wh_rung kd64 (by decide) md s q4 q2 c
          refine ⟨Q, by rw [inf64v] at k2; exact k2, ?_⟩
          have : uv 52 Q = wh md s mag' p' * 2 ^ (bia (11#8).toNat + (52#8).toNat - 1) := k3.symm
          rw [this, hD', show bia (11#8).toNat + (52#8).toNat - 1 = 1074 by decide]
/-- na.byWide in binary64. -/
theorem byWide64 (hN : 3000 ≤ N) (kd d a' b' : BitVec 8) (imm : BitVec 64) (tx : List UInt8) (a b : BitVec 64) :
    ∃ z, (bif kd == 17#8 then F182 N 11#8 52#8 (BitVec.ofInt 8 (imm.toNat : Int)) a else F181 N 11#8 52#8 a b) = some z ∧ F351 N true kd d a' b' imm tx a b = some z.1 := by
  obtain ⟨z, z1, z2⟩ := rem64 (N := N) hN a b
  obtain ⟨w, w1, w2⟩ := round64 (N := N) (BitVec.ofInt 8 (imm.toNat : Int)) a
  unfold F351 F351_7 F351_1
  rw [show (!true) = false from rfl, bf rfl, z2, Option.bind_some]
  unfold F351_2 F351_6 F351_3 F351_5 F351_4
  cases kd == 17#8
  · exact ⟨z, z1, rfl⟩
  · refine ⟨w, w1, ?_⟩
    rw [bt rfl, w2]
    rfl
theorem byWide32 (hN : 3000 ≤ N) (kd d a' b' : BitVec 8) (imm : BitVec 64) (tx : List UInt8) (a b : BitVec 64) :
    ∃ z, (bif kd == 17#8 then F182 N 8#8 23#8 (BitVec.ofInt 8 (imm.toNat : Int)) a else F181 N 8#8 23#8 a b) = some z ∧ F351 N false kd d a' b' imm tx a b = some z.1 := by
  obtain ⟨z, u, z1, _, z2, z3⟩ := rem32 (N := N) hN a b
  obtain ⟨z', w, w1, w2, w3⟩ := round32 (N := N) (BitVec.ofInt 8 (imm.toNat : Int)) a
  unfold F351 F351_7
  rw [show (!false) = true from rfl, bt rfl, F346_ok, F346_ok, Option.bind_some, Option.bind_some, wd32, wd32]
  unfold F351_1
  rw [z2, Option.bind_some]
  unfold F351_2 F351_6 F351_3 F351_5 F351_4
  cases kd == 17#8
  · refine ⟨z, z1, ?_⟩
    obtain ⟨y, y1, y2, y3⟩ := F347_ok (N := N) u.1
    rw [bf rfl, bt (show (!false) = true from rfl), y1, Option.bind_some, y2]
    exact congrArg some z3
  · refine ⟨z', w1, ?_⟩
    obtain ⟨y, y1, y2, y3⟩ := F347_ok (N := N) w
    rw [bt rfl, w2, Option.bind_some, bt (show (!false) = true from rfl), y1, Option.bind_some, y2]
    exact congrArg some w3
end
end Go.Proofs.YfwaawGreat
