/-
  native: ScaleB, LogB.
-/
import Derived.Test.YfwaawGreatJA
namespace Go.Proofs.YfwaawGreat
open Go.Aw
set_option linter.unusedVariables false
set_option linter.unusedSimpArgs false

section
variable {X Y V W N : Nat} {s t : Bool} {i : Int} {e m mode : BitVec 8} {f : Ieee.Format}
/-- exact.ScaleB. -/
theorem nscale (k : Kd e m f) (hm : NE mode) (a : BitVec 64) (n : Int) : ∃ z, F111 N e m mode a n = some z ∧
    (((∃ s t, f.read (wd e m a) = .nan s t) ∧ z.1 = F66 e m) ∨ (∃ s, f.read (wd e m a) = .infinity s ∧ z.1 = F67 e m s) ∨
     (∃ s mag place, f.read (wd e m a) = .number s mag place ∧ z.1 = can e m (some (f.write (.number s mag (place + min (max n (-5000)) 5000)))))) := by
  obtain ⟨c, hc⟩ : ∃ c, c = min (max n (-5000)) 5000 := ⟨_, rfl⟩
  unfold F111 F111_1
  simp only [lt]
  rw [k.fm.ok, Bool.not_true, bf rfl]
  obtain ⟨na, ca, ba, ga, va, an, ad, ha', alta⟩ := k.opd a
  rw [ha']
  simp only [Option.bind_some, F111_2, F111_3, F111_4, F111_5, lt]
  rw [← hc]
  rcases alta with ⟨a4, a3, a0, s, t, ra⟩ | ⟨a4, a3, a0, rfl, rfl, ra⟩ | ⟨rfl, rfl, mag, place, ra, A⟩
  · rw [a4]
    exact ⟨_, rfl, Or.inl ⟨⟨s, t, ra⟩, rfl⟩⟩
  · rw [a4, a3]
    exact ⟨_, rfl, Or.inr (Or.inl ⟨na, ra, rfl⟩)⟩
  · rw [A.c4, A.c3, bf rfl, bf rfl]
    have n1 := A.bn
    have d1 := A.bd
    have s1 := blen_shl an c.toNat
    have s2 := blen_shl ad (-c).toNat
    have hd0 : ad * 2 ^ (-c).toNat ≠ 0 := Nat.mul_ne_zero (by have := A.d0; omega) (pne _)
    rw [F208_ok (by omega) (by omega) (by omega)]
    simp only [Option.bind_some]
    by_cases z : mag = 0
    · rw [A.n0.2 z, Nat.zero_mul, F136_zero k.fm hd0 (by omega)]
      refine ⟨_, rfl, Or.inr (Or.inr ⟨na, mag, place, ra, ?_⟩)⟩
      rw [z, can_zero k]
    · have hn : an ≠ 0 := fun g => z (A.n0.1 g)
      rw [F136_RQ k.fm (Nat.mul_ne_zero hn (pne _)) hd0 (by omega) (by omega)]
      refine ⟨_, rfl, Or.inr (Or.inr ⟨na, mag, place, ra, ?_⟩)⟩
      rw [can_num k hm z]
      refine congrArg Prod.fst (RQ_cross (Nat.mul_ne_zero hn (pne _)) hd0 (pne _) ?_)
      have hA := A.v
      have hp := pow_int_add place c
      refine Nat.mul_right_cancel (Nat.mul_pos (pow_pos2 (-place).toNat) (pow_pos2 0)) ?_
      rw [Nat.pow_zero, Nat.mul_one]
      generalize 2 ^ place.toNat = p1 at *
      generalize 2 ^ c.toNat = p2 at *
      generalize 2 ^ (-place).toNat = p3 at *
      generalize 2 ^ (-c).toNat = p4 at *
      generalize 2 ^ (place + c).toNat = p5 at *
      generalize 2 ^ (-(place + c)).toNat = p6 at *
      calc an * p2 * p6 * p3 = (an * p3) * (p2 * p6) := by grind
        _ = mag * p1 * ad * (p2 * p6) := by rw [hA]
        _ = mag * ad * (p1 * p2 * p6) := by grind
        _ = mag * ad * (p3 * p4 * p5) := by rw [hp]
        _ = mag * p5 * (ad * p4) * p3 := by grind
theorem put_self (a : BitVec 64) (h : (Ieee.double.read a.toNat).isNaN = false) : put 11#8 52#8 Ieee.double (some a.toNat) = a := by
  unfold put
  simp only [h, cond_false]
  exact BitVec.eq_of_toNat_eq (by rw [BitVec.toNat_ofNat]; exact Nat.mod_eq_of_lt a.isLt)
/-- Ldexp of anything. -/
theorem F394_ok (a : BitVec 64) {c : Int} (hc : -5000 ≤ c ∧ c ≤ 5000) : ∃ w, F394 N a c = some w ∧
    (((∃ s t, Ieee.double.read a.toNat = .nan s t) ∧ w = F66 11#8 52#8) ∨ (∃ s, Ieee.double.read a.toNat = .infinity s ∧ w = F67 11#8 52#8 s) ∨
     (∃ s V, DV a.toNat s V ∧ (V = 0 → w = a) ∧ (V ≠ 0 → w = can 11#8 52#8 (some (Ieee.double.write (.number s V (c - 1074))))))) := by
  have h394 : F394 N a c = (F443 N (some a.toNat) c).map (put 11#8 52#8 Ieee.double) := by
    unfold F394 F384 F416 F428
    simp only [lt]
    rw [w64_id (by omega)]
    cases F443 N (some a.toNat) c with
    | none => rfl
    | some o =>
      simp only [Option.bind_some, F385_ok]
      rfl
  rw [h394]
  rcases cls64 a with ⟨an, ac⟩ | ⟨s, aw, ar, ac⟩ | ⟨s, av, ac, am⟩ | ⟨s, ca, ea, ma, P, av, fa⟩
  · obtain ⟨s, t, g⟩ := an
    have e1 : fcmp .eql .f64 (some a.toNat) (some 0) = false := by
      show (Ieee.double.order a.toNat 0 == some .eq) = false
      rw [ord_nanl ⟨s, t, g⟩]; rfl
    have hF430 : ∃ q, F430 N (some a.toNat) 0 = some q := by
      unfold F430 F430_2 F430_1 F444
      rw [bt (by rfl), bt (show (some a.toNat).isSome = true from rfl)]
      exact ⟨_, rfl⟩
    obtain ⟨q, hq⟩ := hF430
    unfold F443 F443_1 F443_2
    rw [e1, bf rfl, hq, Option.bind_some, F429_nan ⟨s, t, g⟩, Bool.or_true, bt rfl]
    refine ⟨_, rfl, Or.inl ⟨⟨s, t, g⟩, ?_⟩⟩
    show (bif (Ieee.double.read a.toNat).isNaN then F66 11#8 52#8 else _) = _
    rw [g]; rfl
  · unfold F443 F443_1 F443_2
    rw [eqz_inf ar, bf rfl, aw, F430_inf, Option.bind_some, Bool.true_or, bt rfl, ← aw]
    refine ⟨_, rfl, Or.inr (Or.inl ⟨s, ar, ?_⟩)⟩
    rw [put_self a (by rw [ar]; rfl)]
    refine BitVec.eq_of_toNat_eq ?_
    rw [F67_ok kd64.fm, inf64v, sgn64, aw]
  · unfold F443 F443_1
    rw [eqz av, decide_eq_true rfl, bt rfl]
    exact ⟨_, rfl, Or.inr (Or.inr ⟨s, 0, av, fun _ => put_self a av.nn, fun h => absurd rfl h⟩)⟩
  · have hp := uv_pos (M := 52) fa.p0
    rw [F443_ok av (by omega) (by omega)]
    refine ⟨_, rfl, Or.inr (Or.inr ⟨s, uv 52 P, av, fun h => by omega, fun _ => ?_⟩)⟩
    rw [put_num kd64]
theorem w16c (n : Int) : w16 (min (max n (-5000)) 5000) = min (max n (-5000)) 5000 := w16_id (by omega)
theorem scale64 (hm : NE mode) (a : BitVec 64) (n : Int) : ∃ z, F111 N 11#8 52#8 mode a n = some z ∧ F352 N true a n = some z.1 := by
  obtain ⟨D, hD⟩ : ∃ D : Nat, D = 1074 := ⟨_, rfl⟩
  obtain ⟨z, z1, z2⟩ := nscale (N := N) kd64 hm a n
  obtain ⟨w, w1, w2⟩ := F394_ok (N := N) a (c := min (max n (-5000)) 5000) (by omega)
  refine ⟨z, z1, ?_⟩
  unfold F352 F352_1
  rw [w16c, bt rfl, w1]
  show some w = some z.1
  refine congrArg some ?_
  rw [wd64] at z2
  rcases z2 with ⟨⟨s, t, g⟩, g2⟩ | ⟨s, g, g2⟩ | ⟨s, mag, place, g, g2⟩
  · rcases w2 with ⟨_, v⟩ | ⟨_, v, _⟩ | ⟨_, _, v, _⟩
    · rw [v, g2]
    · rw [g] at v; cases v
    · obtain ⟨_, _, r, _⟩ := v.read; rw [g] at r; cases r
  · rcases w2 with ⟨⟨_, _, v⟩, _⟩ | ⟨s', v, v2⟩ | ⟨_, _, v, _⟩
    · rw [g] at v; cases v
    · rw [g] at v
      have : s = s' := by injection v
      rw [v2, g2, this]
    · obtain ⟨_, _, r, _⟩ := v.read; rw [g] at r; cases r
  · rcases w2 with ⟨⟨_, _, v⟩, _⟩ | ⟨_, v, _⟩ | ⟨s', V, v, v2, v3⟩
    · rw [g] at v; cases v
    · rw [g] at v; cases v
    · obtain ⟨mag', p', r1, r2, r3, r4⟩ := v.read
      rw [g] at r1
      injection r1 with q1 q2 q3
      subst q1 q2 q3
      have hv := r4 D hD
      by_cases c : V = 0
      · rw [v2 c, g2]
        have hm0 : mag = 0 := by
          rw [c] at hv
          rcases Nat.mul_eq_zero.1 hv with q | q
          · exact q
          · exact absurd q (pne _)
        rw [hm0, can_zero kd64]
        refine BitVec.eq_of_toNat_eq ?_
        obtain ⟨Q, k1, k2, k3⟩ := v.q
        have : Q = 0 := (uv_eq_iff (M := 52)).1 (by rw [k2, c, uv_zero])
        rw [k3, this, F251_ok kd64.fm, sgn64, Nat.zero_add]
      · have hm0 : mag ≠ 0 := by
          intro q
          rw [q, Nat.zero_mul] at hv
          exact c hv.symm
        rw [v3 c, g2]
        refine congrArg (fun z => can 11#8 52#8 (some z)) (wr_cross kd64 c hm0 ?_)
        rw [← hv]
        simp only [Nat.mul_assoc, ← Nat.pow_add]
        exact congrArg (fun z => mag * 2 ^ z) (by omega)
/-- A number that single has not the place for is a zero. -/
theorem tiny32 {num den : Nat} (hn : num ≠ 0) (hd : den ≠ 0) {L : Nat} (hL : L = 150) (h : num * 2 ^ L ≤ den) : (RQ 8#8 23#8 0#8 s num den).1 = F251 8#8 23#8 s := by
  have hr := rb kd32.fm (sig := 0) (ex := 0) (by decide) (Or.inl rfl) (t := -150) (by decide) hn hd
  have hu : UP 8#8 23#8 num den = 0 := by
    rcases Nat.eq_zero_or_pos (UP 8#8 23#8 num den) with z | z
    · exact z
    · exfalso
      have h1 := hr.1 (by omega)
      rw [show (-(-150 : Int)).toNat = 150 from rfl, show ((-150 : Int)).toNat = 0 from rfl, Nat.pow_zero, ← hL, Nat.mul_one, Nat.mul_zero, Nat.zero_add, Nat.one_mul] at h1
      rcases h1 with g | g
      · omega
      · exact absurd g.2 (by decide)
  refine BitVec.eq_of_toNat_eq ?_
  rw [RQ_ne kd32.fm ne_zero hn hd, hu, Nat.zero_min, Nat.zero_add, F251_ok kd32.fm]
end
end Go.Proofs.YfwaawGreat
