/-
  native: ScaleB in binary32, LogB.
-/
import Derived.Test.YfwaawGreatJB
namespace Go.Proofs.YfwaawGreat
open Go.Aw
set_option linter.unusedVariables false
set_option linter.unusedSimpArgs false

section
variable {X Y V W N : Nat} {s t : Bool} {i : Int} {e m mode : BitVec 8} {f : Ieee.Format}
/-- A scaled double, narrowed, is the scaled single. -/
theorem narrow_scaled {mag : Nat} {place c : Int} {K D : Nat} (hD : D = 1074) (h0 : mag ≠ 0) (hmag : mag < 16777216) (hp : -149 ≤ place) (hp2 : place ≤ 104) (hV : V = mag * 2 ^ (place + D).toNat) :
    narrow (can 11#8 52#8 (some (Ieee.double.write (.number s V (c - 1074))))) = can 8#8 23#8 (some (Ieee.single.write (.number s mag (place + c)))) := by
  have hVne : V ≠ 0 := by rw [hV]; exact Nat.mul_ne_zero h0 (pne _)
  have hbm : blen mag ≤ 24 := blen_le_iff.2 hmag
  have hbp := blen_pos h0
  have hbV : blen V = blen mag + (place + D).toNat := by rw [hV, blen_pow mag h0]
  have hcr : Ieee.double.write (.number s V (c - 1074)) = Ieee.double.write (.number s mag (place + c)) := by
    refine wr_cross kd64 hVne h0 ?_
    rw [hV]
    simp only [Nat.mul_assoc, ← Nat.pow_add]
    exact congrArg (fun z => mag * 2 ^ z) (by omega)
  rw [can_num kd32 ne_zero h0]
  rcases Int.lt_or_le 1023 ((blen V : Int) + c - 1075) with g | g
  · -- past the range
    rw [wr_huge hVne (by omega)]
    have hw : can 11#8 52#8 (some (9218868437227405312 + s64 s)) = F67 11#8 52#8 s := by
      refine BitVec.eq_of_toNat_eq ?_
      rw [can64 (by have := s64le s; omega), F67_ok kd64.fm, inf64v, sgn64]
    rw [hw, narrow_inf]
    refine BitVec.eq_of_toNat_eq ?_
    rw [RQ_ne kd32.fm ne_zero (Nat.mul_ne_zero h0 (pne _)) (pne _), F67_ok kd32.fm]
    have hr := rb kd32.fm (sig := 16777215) (ex := 253) (by decide) (Or.inr (by decide)) (t := 103) (by decide) (Nat.mul_ne_zero h0 (pne (place + c).toNat)) (pne (-(place + c)).toNat)
    have hi : 253 * 2 ^ (23#8).toNat + 16777215 + 1 = infP (8#8).toNat (23#8).toNat := by decide
    rw [hi] at hr
    have hu : infP (8#8).toNat (23#8).toNat ≤ UP 8#8 23#8 (mag * 2 ^ (place + c).toNat) (2 ^ (-(place + c)).toNat) := by
      refine hr.2 (Or.inl ?_)
      rw [show (-(103 : Int)).toNat = 0 from rfl, Nat.pow_zero, Nat.mul_one, show (103 : Int).toNat = 103 from rfl]
      have h1 : (2 * 16777215 + 1) * 2 ^ 103 * 2 ^ (-(place + c)).toNat < 2 ^ 25 * (2 ^ 103 * 2 ^ (-(place + c)).toNat) := by
        rw [Nat.mul_assoc]
        exact Nat.mul_lt_mul_of_pos_right (by decide) (Nat.mul_pos (pow_pos2 _) (pow_pos2 _))
      have h2 : 2 ^ (blen mag - 1) * 2 ^ (place + c).toNat ≤ mag * 2 ^ (place + c).toNat := Nat.mul_le_mul_right _ (blen_le h0)
      refine Nat.lt_of_lt_of_le h1 (Nat.le_trans ?_ h2)
      rw [← Nat.pow_add, ← Nat.pow_add, ← Nat.pow_add]
      exact pow_le (by omega)
    rw [Nat.min_eq_right hu]
  · rcases Int.lt_or_le ((blen V : Int) + c - 1075) (-1022) with g2 | g2
    · -- far below the least single
      have hone : (RQ 8#8 23#8 0#8 s (mag * 2 ^ (place + c).toNat) (2 ^ (-(place + c)).toNat)).1 = F251 8#8 23#8 s := by
        refine tiny32 (L := 150) (Nat.mul_ne_zero h0 (pne _)) (pne _) rfl ?_
        rw [show (place + c).toNat = 0 by omega, Nat.pow_zero, Nat.mul_one]
        have h1 := Nat.mul_lt_mul_of_pos_right (blen_lt mag) (pow_pos2 150)
        rw [← Nat.pow_add] at h1
        exact Nat.le_trans (Nat.le_of_lt h1) (pow_le (by omega))
      rw [hone]
      -- the double is tiny too
      have hUP := wr_UP (s := s) kd64 hVne (c - 1074)
      have hhi := UP_hi kd64.fm (Nat.mul_ne_zero hVne (pne (c - 1074).toNat)) (pne (-(c - 1074)).toNat)
      rw [lg_pow hVne, show bia (11#8).toNat = 1023 by decide] at hhi
      have hmx : (max ((blen V : Int) - 1 + (c - 1074)) (1 - ((1023 : Nat) : Int)) - (1 - ((1023 : Nat) : Int))).toNat = 0 := by omega
      rw [hmx, Nat.zero_mul, Nat.zero_add, show 2 ^ ((52#8).toNat + 1) = 9007199254740992 by decide] at hhi
      obtain ⟨Q, hQ⟩ : ∃ Q, Q = min (UP 11#8 52#8 (V * 2 ^ (c - 1074).toNat) (2 ^ (-(c - 1074)).toNat)) (infP (11#8).toNat (52#8).toNat) := ⟨_, rfl⟩
      have hQle : Q ≤ 9007199254740992 := by rw [hQ]; exact Nat.le_trans (Nat.min_le_left _ _) hhi
      have hdv : DV (Ieee.double.write (.number s V (c - 1074))) s (uv 52 Q) := ⟨Q, by omega, rfl, by rw [hUP, ← hQ, sgn64]⟩
      have hdv2 : DV (can 11#8 52#8 (some (Ieee.double.write (.number s V (c - 1074))))).toNat s (uv 52 Q) := by
        rw [can64 hdv.ltX]; exact hdv
      rw [narrow_dv hdv2 hD]
      by_cases z : uv 52 Q = 0
      · rw [if_pos z]
      · rw [if_neg z]
        refine tiny32 (L := 150) z (pne _) rfl ?_
        have h1 : uv 52 Q ≤ 9007199254740992 := by
          have h2 := uv_mono hQle
          have h3 := uv_norm (T := 0) (G := 9007199254740992) (by decide) (by decide)
          rw [Nat.zero_mul, Nat.zero_add, Nat.pow_zero, Nat.mul_one] at h3
          omega
        have h2 := Nat.mul_le_mul_right (2 ^ 150) h1
        refine Nat.le_trans h2 ?_
        rw [show (9007199254740992 : Nat) = 2 ^ 53 from rfl, ← Nat.pow_add]
        exact pow_le (by omega)
    · -- without error
      rw [hcr]
      have hdv : DV (Ieee.double.write (.number s mag (place + c))) s (mag * 2 ^ (place + c + D).toNat) := by
        refine write_units (D := D) hD (by omega) rfl (rep_of (by omega) fun _ => ?_)
        omega
      have hdv2 : DV (can 11#8 52#8 (some (Ieee.double.write (.number s mag (place + c))))).toNat s (mag * 2 ^ (place + c + D).toNat) := by
        rw [can64 hdv.ltX]; exact hdv
      have hne : mag * 2 ^ (place + c + D).toNat ≠ 0 := Nat.mul_ne_zero h0 (pne _)
      rw [narrow_dv hdv2 hD, if_neg hne]
      refine congrArg Prod.fst (RQ_cross hne (pne _) (pne _) ?_)
      simp only [Nat.mul_assoc, ← Nat.pow_add]
      exact congrArg (fun z => mag * 2 ^ z) (by omega)
theorem scale32 (hm : NE mode) (a : BitVec 64) (n : Int) : ∃ z, F111 N 8#8 23#8 mode a n = some z ∧ F352 N false a n = some z.1 := by
  obtain ⟨D, hD⟩ : ∃ D : Nat, D = 1074 := ⟨_, rfl⟩
  obtain ⟨K, hK⟩ : ∃ K : Nat, K = 925 := ⟨_, rfl⟩
  obtain ⟨c, hc⟩ : ∃ c, c = min (max n (-5000)) 5000 := ⟨_, rfl⟩
  obtain ⟨z, z1, z2⟩ := nscale (N := N) kd32 hm a n
  obtain ⟨w, w1, w2⟩ := F394_ok (N := N) (wide a) (c := c) (by omega)
  refine ⟨z, z1, ?_⟩
  rw [← hc] at z2
  unfold F352 F352_1
  rw [w16c, bf rfl, F346_ok, Option.bind_some, wd32, ← hc, w1, Option.bind_some]
  obtain ⟨y, y1, y2, y3⟩ := F347_ok (N := N) w
  rw [y1, Option.bind_some, y2]
  refine congrArg some ?_
  show narrow w = z.1
  rcases cls32 a with ⟨⟨_, _, ar⟩, ac, aw⟩ | ⟨s, ar, ac, aw, am⟩ | ⟨s, ar, av, ac, am⟩ | ⟨s, ca, ea, ma, P, mag, place, ar, an, av, fa⟩
  · have hr : Ieee.double.read (wide a).toNat = .nan false 2251799813685248 := by rw [aw]; decide +kernel
    rcases z2 with ⟨_, g2⟩ | ⟨_, g, _⟩ | ⟨_, _, _, g, _⟩
    · rcases w2 with ⟨_, v⟩ | ⟨_, v, _⟩ | ⟨_, _, v, _⟩
      · rw [v, g2]; exact narrow_nan
      · rw [hr] at v; cases v
      · obtain ⟨_, _, r, _⟩ := v.read; rw [hr] at r; cases r
    · rw [ar] at g; cases g
    · rw [ar] at g; cases g
  · have hr : Ieee.double.read (wide a).toNat = .infinity s := by rw [aw, F67_ok kd64.fm]; exact kd64.rinf
    rcases z2 with ⟨⟨_, _, g⟩, _⟩ | ⟨s', g, g2⟩ | ⟨_, _, _, g, _⟩
    · rw [ar] at g; cases g
    · rw [ar] at g
      have hs : s = s' := by injection g
      rcases w2 with ⟨⟨_, _, v⟩, _⟩ | ⟨t, v, v2⟩ | ⟨_, _, v, _⟩
      · rw [hr] at v; cases v
      · rw [hr] at v
        have ht : s = t := by injection v
        rw [v2, g2, ← hs, ← ht]; exact narrow_inf s
      · obtain ⟨_, _, r, _⟩ := v.read; rw [hr] at r; cases r
    · rw [ar] at g; cases g
  · rcases z2 with ⟨⟨_, _, g⟩, _⟩ | ⟨_, g, _⟩ | ⟨s', mg, pl, g, g2⟩
    · rw [ar] at g; cases g
    · rw [ar] at g; cases g
    · rw [ar] at g
      injection g with q1 q2 q3
      subst q1 q2 q3
      rw [g2, can_zero kd32]
      rcases w2 with ⟨⟨_, _, v⟩, _⟩ | ⟨_, v, _⟩ | ⟨t, V, v, v2, v3⟩
      · obtain ⟨_, _, r, _⟩ := av.read; rw [r] at v; cases v
      · obtain ⟨_, _, r, _⟩ := av.read; rw [r] at v; cases v
      · have hV : V = 0 := by
          obtain ⟨m1, p1, r1, _, _, r4⟩ := av.read
          obtain ⟨m2, p2, u1, _, _, u4⟩ := v.read
          rw [r1] at u1
          injection u1 with q1 q2 q3
          subst q1 q2 q3
          rw [← u4 D hD, r4 D hD]
        rw [v2 hV, narrow_dv av hD, if_pos rfl]
  · rcases z2 with ⟨⟨_, _, g⟩, _⟩ | ⟨_, g, _⟩ | ⟨s', mg, pl, g, g2⟩
    · rw [ar] at g; cases g
    · rw [ar] at g; cases g
    · rw [ar] at g
      injection g with q1 q2 q3
      subst q1 q2 q3
      have hdv := av K hK
      have hp := uv_pos (M := 23) fa.p0
      rcases w2 with ⟨⟨_, _, v⟩, _⟩ | ⟨_, v, _⟩ | ⟨t, V, v, v2, v3⟩
      · obtain ⟨_, _, r, _⟩ := hdv.read; rw [r] at v; cases v
      · obtain ⟨_, _, r, _⟩ := hdv.read; rw [r] at v; cases v
      · have hVs : V = uv 23 P * 2 ^ K ∧ t = s := by
          obtain ⟨m1, p1, r1, _, _, r4⟩ := hdv.read
          obtain ⟨m2, p2, u1, _, _, u4⟩ := v.read
          rw [r1] at u1
          injection u1 with q1 q2 q3
          subst q1 q2 q3
          exact ⟨by rw [← u4 D hD, r4 D hD], rfl⟩
        obtain ⟨hV, ht⟩ := hVs
        subst ht
        have hpl := an.pl
        rw [lp32v] at hpl
        have hph := an.ph
        rw [show bia (8#8).toNat = 127 by decide] at hph
        have hm23 : ((23#8).toNat : Int) = 23 := rfl
        have hu := an.u
        rw [lp32v] at hu
        have hu2 : mag * 2 ^ (place - -149).toNat = uv 23 P := hu
        have hhi : mag < 16777216 := an.hi
        rw [v3 (by rw [hV]; exact Nat.mul_ne_zero (by omega) (pne K)), g2]
        refine narrow_scaled (K := K) hD an.m0 hhi (by omega) (by omega) ?_
        rw [hV, ← hu2, Nat.mul_assoc, ← Nat.pow_add]
        exact congrArg (fun z => mag * 2 ^ z) (by omega)

/-! ### LogB -/
theorem F353_ok (a : BitVec 64) : ∃ w, F353 N a = some w ∧ (((∃ s t, Ieee.double.read a.toNat = .nan s t) ∧ w = (0, false)) ∨ (∃ s, Ieee.double.read a.toNat = .infinity s ∧ w = (0, false)) ∨
     (∃ s V, DV a.toNat s V ∧ (V = 0 → w = (0, false)) ∧ (V ≠ 0 → w = ((blen V : Int) - 1075, true)))) := by
  unfold F353 F384 F395 F417
  simp only [lt]
  have hbig : ∀ x : Int, x < -2000 ∨ 2000 < x → F353_1 N x = some (0, false) := by
    intro x hx
    unfold F353_1 F353_2
    have : (decide (x < -2000) || decide (x > 2000)) = true := by
      rcases hx with g | g
      · rw [decide_eq_true g]; rfl
      · rw [decide_eq_true (show x > 2000 from g), Bool.or_true]
    rw [this, bt rfl]
  rcases cls64 a with ⟨an, ac⟩ | ⟨s, aw, ar, ac⟩ | ⟨s, av, ac, am⟩ | ⟨s, ca, ea, ma, P, av, fa⟩
  · obtain ⟨s, t, g⟩ := an
    have e1 : fcmp .eql .f64 (some a.toNat) (some 0) = false := by
      show (Ieee.double.order a.toNat 0 == some .eq) = false
      rw [ord_nanl ⟨s, t, g⟩]; rfl
    unfold F417_1 F417_2
    simp only [lt]
    rw [e1, bf rfl, F429_nan ⟨s, t, g⟩, bt rfl]
    refine ⟨_, ?_, Or.inl ⟨⟨s, t, g⟩, rfl⟩⟩
    exact hbig _ (by omega)
  · unfold F417_1 F417_2 F417_3
    simp only [lt]
    rw [eqz_inf ar, bf rfl, F429_inf ar, bf rfl, aw, F430_inf, Option.bind_some, bt rfl, ← aw]
    refine ⟨_, ?_, Or.inr (Or.inl ⟨s, ar, rfl⟩)⟩
    exact hbig _ (by omega)
  · unfold F417_1
    rw [eqz av, decide_eq_true rfl, bt rfl]
    refine ⟨(0, false), ?_, Or.inr (Or.inr ⟨s, 0, av, fun _ => rfl, fun h => absurd rfl h⟩)⟩
    exact hbig _ (by omega)
  · have hp := uv_pos (M := 52) fa.p0
    obtain ⟨X', k, h1, h2, h3, h4⟩ := F445_ok (N := N) av (by omega)
    obtain ⟨T, F, t1, t2, t3, t4, t5, t6⟩ := h2.norm h3
    have hbl := blen_pow (uv 52 P) (by omega) k
    unfold F417_1 F417_2 F417_3 F431 F431_1
    simp only [lt]
    rw [eqz av, decide_eq_false (by omega), bf rfl, F429_fin av, bf rfl, F430_fin av, Option.bind_some, bf rfl, h1, Option.bind_some, bt (show (some X').isSome = true from rfl)]
    have hb := bv_of h2.ltX
    generalize BitVec.ofNat 64 ((some X').getD 0) = b at *
    rw [t4] at hb
    have hex := expo (s := s) (show T < 2048 by omega) t3 (by rw [hb, sgn64])
    have hw : w64 (w64 (w64 (((b >>> 52) &&& 2047#64).toNat : Int) - 1023) + -(k : Int)) = (blen (uv 52 P) : Int) - 1075 := by
      rw [hex, w64_id (n := (T : Int)) (by omega), w64_id (n := (T : Int) - 1023) (by omega), w64_id (by omega)]
      omega
    refine ⟨((blen (uv 52 P) : Int) - 1075, true), ?_, Or.inr (Or.inr ⟨s, uv 52 P, av, fun h => by omega, fun _ => rfl⟩)⟩
    rw [hw]
    show F353_1 N _ = _
    unfold F353_1 F353_2
    have hbb : blen (uv 52 P) ≤ 2098 := by
      obtain ⟨_, _, _, _, q, _⟩ := av.rep.parts
      exact q (by omega)
    rw [decide_eq_false (by omega), decide_eq_false (by omega), Bool.or_self, bf rfl]
/-- soft.LogB's answer. -/
theorem F112_val {e m : BitVec 8} {f : Ieee.Format} (k : Kd e m f) (a : BitVec 64) :
    ((F65 e m a).2.2.2 = 0#64 → (F112 e m a).1 = 0 ∧ (F112 e m a).2.1 = false) ∧
    (∀ s c ex man P, FinP e m a s c ex man P → (F112 e m a).1 = ex + m.toNat ∧ (F112 e m a).2.1 = true) := by
  constructor
  · intro h
    unfold F112 F112_1 F112_2 F112_3
    simp only [lt]
    rw [k.fm.ok, Bool.not_true, bf rfl, h, bt (by rfl)]
    exact ⟨rfl, rfl⟩
  · intro s c ex man P h
    unfold F112 F112_1 F112_2 F112_3
    simp only [lt]
    have hne := h.ne
    have hr := h.range k.fm
    have h4 := k.fm.m52
    rw [k.fm.ok, Bool.not_true, bf rfl, h.f65, bf (by rw [eq_bv]; exact decide_eq_false hne)]
    refine ⟨?_, rfl⟩
    show w64 (w64 ex + w64 (m.toNat : Int)) = _
    rw [w64_id (n := ex) (by omega), w64_id (n := (m.toNat : Int)) (by omega), w64_id (by omega)]
/-- The width of a finite number in units. -/
theorem FinP.width {e m : BitVec 8} {f : Ieee.Format} (k : Kd e m f) {a : BitVec 64} {c ex : Int} {man : BitVec 64} {P : Nat} (h : FinP e m a s c ex man P) : (blen (uv m.toNat P) : Int) = ex + bia e.toNat + 2 * m.toNat := by
  have hl := h.least k.fm
  have hb := bia_ge k.fm.e2
  have hbm : blen man.toNat = m.toNat + 1 := by
    have u1 : blen man.toNat ≤ m.toNat + 1 := blen_le_iff.2 h.hi
    have u2 : ¬ blen man.toNat ≤ m.toNat := fun k => by have := blen_le_iff.1 k; have := h.lo; omega
    omega
  have h1 : blen (man.toNat * 2 ^ ex.toNat * 2 ^ (bia e.toNat + m.toNat - 1)) = m.toNat + 1 + ex.toNat + (bia e.toNat + m.toNat - 1) := by
    rw [blen_pow _ h.nne, blen_pow _ h.ne, hbm]
  have hp := uv_pos (M := m.toNat) h.p0
  have h2 := blen_pow (uv m.toNat P) (by omega) (-ex).toNat
  rw [hl] at h1
  omega
theorem logB64 (a : BitVec 64) : F353 N a = some ((F112 11#8 52#8 a).1, (F112 11#8 52#8 a).2.1) := by
  obtain ⟨w, w1, w2⟩ := F353_ok (N := N) a
  rw [w1]
  refine congrArg some ?_
  obtain ⟨v1, v2⟩ := F112_val kd64 a
  rcases cls64 a with ⟨an, ac⟩ | ⟨s, aw, ar, ac⟩ | ⟨s, av, ac, am⟩ | ⟨s, ca, ea, ma, P, av, fa⟩
  · have h0 : (F65 11#8 52#8 a).2.2.2 = 0#64 := by
      rcases opn kd64.fm a with ⟨_, o1, _⟩ | ⟨_, o1, _⟩ | ⟨_, o1, _⟩ | ⟨_, _, _, _, _, o⟩
      · rw [o1]
      · rw [o1]
      · rw [o1]
      · exact absurd ac (fin_c o).1
    obtain ⟨x1, x2⟩ := v1 h0
    obtain ⟨s, t, g⟩ := an
    rcases w2 with ⟨_, u⟩ | ⟨_, u, _⟩ | ⟨_, _, u, _⟩
    · rw [u, x1, x2]
    · rw [g] at u; cases u
    · obtain ⟨_, _, r, _⟩ := u.read; rw [g] at r; cases r
  · obtain ⟨x1, x2⟩ := v1 (by rw [ac])
    rcases w2 with ⟨⟨_, _, u⟩, _⟩ | ⟨_, _, u⟩ | ⟨_, _, u, _⟩
    · rw [ar] at u; cases u
    · rw [u, x1, x2]
    · obtain ⟨_, _, r, _⟩ := u.read; rw [ar] at r; cases r
  · obtain ⟨x1, x2⟩ := v1 (by rw [ac])
    obtain ⟨m1, p1, r1, _, _, r4⟩ := av.read
    rcases w2 with ⟨⟨_, _, u⟩, _⟩ | ⟨_, u, _⟩ | ⟨_, V, u, u2, _⟩
    · rw [r1] at u; cases u
    · rw [r1] at u; cases u
    · obtain ⟨m2, p2, q1, _, _, q4⟩ := u.read
      rw [r1] at q1
      injection q1 with e1 e2 e3
      subst e1 e2 e3
      have : V = 0 := by rw [← q4 1074 rfl, r4 1074 rfl]
      rw [u2 this, x1, x2]
  · obtain ⟨x1, x2⟩ := v2 _ _ _ _ _ fa
    have hp := uv_pos (M := 52) fa.p0
    have hwd := fa.width kd64
    obtain ⟨m1, p1, r1, _, _, r4⟩ := av.read
    rcases w2 with ⟨⟨_, _, u⟩, _⟩ | ⟨_, u, _⟩ | ⟨_, V, u, _, u3⟩
    · rw [r1] at u; cases u
    · rw [r1] at u; cases u
    · obtain ⟨m2, p2, q1, _, _, q4⟩ := u.read
      rw [r1] at q1
      injection q1 with e1 e2 e3
      subst e1 e2 e3
      have hV : V = uv 52 P := by rw [← q4 1074 rfl, r4 1074 rfl]
      rw [u3 (by omega), x1, x2, hV]
      have hwd2 : (blen (uv 52 P) : Int) = ea + 1023 + 2 * 52 := by
        rw [show bia (11#8).toNat = 1023 by decide] at hwd
        exact hwd
      refine congrArg (fun z => (z, true)) ?_
      show (blen (uv 52 P) : Int) - 1075 = ea + 52
      omega
theorem logB32 (a : BitVec 64) : F353 N (wide a) = some ((F112 8#8 23#8 a).1, (F112 8#8 23#8 a).2.1) := by
  obtain ⟨K, hK⟩ : ∃ K : Nat, K = 925 := ⟨_, rfl⟩
  obtain ⟨w, w1, w2⟩ := F353_ok (N := N) (wide a)
  rw [w1]
  refine congrArg some ?_
  obtain ⟨v1, v2⟩ := F112_val kd32 a
  rcases cls32 a with ⟨⟨_, _, ar⟩, ac, aw⟩ | ⟨s, ar, ac, aw, am⟩ | ⟨s, ar, av, ac, am⟩ | ⟨s, ca, ea, ma, P, mag, place, ar, an, av, fa⟩
  · have hr : Ieee.double.read (wide a).toNat = .nan false 2251799813685248 := by rw [aw]; decide +kernel
    have h0 : (F65 8#8 23#8 a).2.2.2 = 0#64 := by
      rcases opn kd32.fm a with ⟨_, o1, _⟩ | ⟨_, o1, _⟩ | ⟨_, o1, _⟩ | ⟨_, _, _, _, _, o⟩
      · rw [o1]
      · rw [o1]
      · rw [o1]
      · exact absurd ac (fin_c o).1
    obtain ⟨x1, x2⟩ := v1 h0
    rcases w2 with ⟨_, u⟩ | ⟨_, u, _⟩ | ⟨_, _, u, _⟩
    · rw [u, x1, x2]
    · rw [hr] at u; cases u
    · obtain ⟨_, _, r, _⟩ := u.read; rw [hr] at r; cases r
  · have hr : Ieee.double.read (wide a).toNat = .infinity s := by rw [aw, F67_ok kd64.fm]; exact kd64.rinf
    obtain ⟨x1, x2⟩ := v1 (by rw [ac])
    rcases w2 with ⟨⟨_, _, u⟩, _⟩ | ⟨_, _, u⟩ | ⟨_, _, u, _⟩
    · rw [hr] at u; cases u
    · rw [u, x1, x2]
    · obtain ⟨_, _, r, _⟩ := u.read; rw [hr] at r; cases r
  · obtain ⟨x1, x2⟩ := v1 (by rw [ac])
    obtain ⟨m1, p1, r1, _, _, r4⟩ := av.read
    rcases w2 with ⟨⟨_, _, u⟩, _⟩ | ⟨_, u, _⟩ | ⟨_, V, u, u2, _⟩
    · rw [r1] at u; cases u
    · rw [r1] at u; cases u
    · obtain ⟨m2, p2, q1, _, _, q4⟩ := u.read
      rw [r1] at q1
      injection q1 with e1 e2 e3
      subst e1 e2 e3
      have : V = 0 := by rw [← q4 1074 rfl, r4 1074 rfl]
      rw [u2 this, x1, x2]
  · obtain ⟨x1, x2⟩ := v2 _ _ _ _ _ fa
    have hp := uv_pos (M := 23) fa.p0
    have hwd := fa.width kd32
    obtain ⟨m1, p1, r1, _, _, r4⟩ := (av K hK).read
    rcases w2 with ⟨⟨_, _, u⟩, _⟩ | ⟨_, u, _⟩ | ⟨_, V, u, _, u3⟩
    · rw [r1] at u; cases u
    · rw [r1] at u; cases u
    · obtain ⟨m2, p2, q1, _, _, q4⟩ := u.read
      rw [r1] at q1
      injection q1 with e1 e2 e3
      subst e1 e2 e3
      have hV : V = uv 23 P * 2 ^ K := by rw [← q4 1074 rfl, r4 1074 rfl]
      rw [u3 (by rw [hV]; exact Nat.mul_ne_zero (by omega) (pne K)), x1, x2, hV, blen_pow _ (by omega)]
      have hwd2 : (blen (uv 23 P) : Int) = ea + 127 + 2 * 23 := by
        rw [show bia (8#8).toNat = 127 by decide] at hwd
        exact hwd
      refine congrArg (fun z => (z, true)) ?_
      show ((blen (uv 23 P) + K : Nat) : Int) - 1075 = ea + 23
      omega
end
end Go.Proofs.YfwaawGreat
