/-
  native.Rem64 = exact.Rem.
-/
import Derived.Test.YfwaawGreatJ7
namespace Go.Proofs.YfwaawGreat
open Go.Aw
set_option linter.unusedVariables false
set_option linter.unusedSimpArgs false

section
variable {X Y V W N : Nat} {s t : Bool} {i : Int}
/-- Any double. -/
theorem cls64 (a : BitVec 64) : ((∃ s t, Ieee.double.read a.toNat = .nan s t) ∧ (F65 11#8 52#8 a).2.1 = 4) ∨
    (∃ s, a.toNat = 9218868437227405312 + s64 s ∧ Ieee.double.read a.toNat = .infinity s ∧ F65 11#8 52#8 a = (s, 3, 0, 0#64)) ∨
    (∃ s, DV a.toNat s 0 ∧ F65 11#8 52#8 a = (s, 0, 0, 0#64) ∧ a &&& F69 11#8 52#8 = F251 11#8 52#8 s) ∨
    (∃ s c ex man P, DV a.toNat s (uv 52 P) ∧ FinP 11#8 52#8 a s c ex man P) := by
  have hw := wd64 a
  rcases kd64.opn a with ⟨ng, s, t, h1, h2, h3⟩ | ⟨neg, h1, h2, h3, h4⟩ | ⟨neg, h1, h2, h3, h4⟩ | ⟨neg, c, ex, man, P, mag, place, h1, h2, h3⟩
  · rw [hw] at h1
    exact Or.inl ⟨⟨s, t, h1⟩, by rw [h2]⟩
  · rw [hw] at h1
    refine Or.inr (Or.inl ⟨neg, ?_, h1, h2⟩)
    rw [← hw]; unfold wd; rw [h3, F67_ok kd64.fm, inf64v, sgn64]
  · refine Or.inr (Or.inr (Or.inl ⟨neg, ⟨0, by decide, uv_zero 52, ?_⟩, h2, h3⟩))
    rw [← hw]; unfold wd; rw [h3, F251_ok kd64.fm, sgn64, Nat.zero_add]
  · refine Or.inr (Or.inr (Or.inr ⟨neg, c, ex, man, P, ⟨P, by have := h2.pi; rw [inf64v] at this; exact this, rfl, ?_⟩, h2⟩))
    rw [← hw]; exact h2.xm.trans (by rw [sgn64])
theorem F430_inf (s : Bool) : F430 N (some (9218868437227405312 + s64 s)) 0 = some true := by
  unfold F430 F430_2 F430_1 F444
  cases s
  · rw [bt (by rfl)]
    decide +kernel
  · rw [bt (by rfl)]
    decide +kernel
theorem F429_nan {A : Nat} (h : ∃ s t, Ieee.double.read A = .nan s t) : F429 (some A) = true := by
  obtain ⟨s, t, h⟩ := h
  unfold F429
  rw [fneq_self]
  show (Ieee.double.read A).isNaN = true
  rw [h]; rfl
theorem F429_inf {A : Nat} {s : Bool} (h : Ieee.double.read A = .infinity s) : F429 (some A) = false := by
  unfold F429
  rw [fneq_self]
  show (Ieee.double.read A).isNaN = false
  rw [h]; rfl
theorem putNaN : put 11#8 52#8 Ieee.double F446 = F66 11#8 52#8 := by decide +kernel
theorem put_dv (h : DV X s V) : (put 11#8 52#8 Ieee.double (some X)).toNat = X := by
  unfold put
  simp only [h.nn, cond_false]
  rw [BitVec.toNat_ofNat, p64]; exact Nat.mod_eq_of_lt h.ltX
theorem F392_eq (a b : BitVec 64) : F392 N a b = (F435 N (some a.toNat) (some b.toNat)).map (put 11#8 52#8 Ieee.double) := by
  unfold F392 F384 F410 F422
  simp only [lt]
  cases F435 N (some a.toNat) (some b.toNat) with
  | none => rfl
  | some o =>
    simp only [Option.bind_some, F385_ok]
    rfl
theorem F435_nan {A B : Option Nat} (h : F429 A = true ∨ F429 B = true) : F435 N A B = some F446 := by
  unfold F435
  simp only [lt]
  have : (F429 A || F429 B) = true := by
    rcases h with g | g <;> rw [g]
    · rfl
    · rw [Bool.or_true]
  rw [this, bt rfl]
  unfold F435_1
  rw [bt rfl]
  rfl
theorem F435_bad {A B : Nat} (h1 : F429 (some A) = false) (h2 : F429 (some B) = false) (h3 : F430 N (some A) 0 = some true ∨ (∃ q, F430 N (some A) 0 = some q) ∧ fcmp .eql .f64 (some B) (some 0) = true) : F435 N (some A) (some B) = some F446 := by
  unfold F435
  simp only [lt]
  rw [h1, h2, Bool.or_self, bf rfl]
  rcases h3 with g | ⟨⟨q, g⟩, g2⟩
  · rw [g, Option.bind_some, Bool.true_or]
    unfold F435_1
    rw [bt rfl]; rfl
  · rw [g, Option.bind_some, g2, Bool.or_true]
    unfold F435_1
    rw [bt rfl]; rfl
theorem eqz_inf {A : Nat} {s : Bool} (h : Ieee.double.read A = .infinity s) : fcmp .eql .f64 (some A) (some 0) = false := by
  show (Ieee.double.order A 0 == some .eq) = false
  unfold Ieee.Format.order
  have h0 : Ieee.double.read 0 = .number false 0 (-1074) := by decide +kernel
  rw [h, h0]
  cases s <;> rfl
/-- The answer of exact.Rem at the borders. -/
theorem F181_edge {e m : BitVec 8} {f : Ieee.Format} (k : Kd e m f) (a b : BitVec 64) :
    (((F65 e m a).2.1 = 4 ∨ (F65 e m b).2.1 = 4 ∨ (F65 e m a).2.1 = 3 ∨ (F65 e m b).2.1 = 0) → ∃ z, F181 N e m a b = some z ∧ z.1 = F66 e m) ∧
    ((F65 e m a).2.1 ≠ 4 → (F65 e m b).2.1 ≠ 4 → (F65 e m a).2.1 ≠ 3 → (F65 e m b).2.1 ≠ 0 → ((F65 e m b).2.1 = 3 ∨ (F65 e m a).2.1 = 0) → ∃ z, F181 N e m a b = some z ∧ z.1 = a &&& F69 e m) := by
  have hc : ∀ x : BitVec 64, ∃ ng vn num den, ∀ N, F144 N e m x = some (x &&& F69 e m, ng, (F65 e m x).2.1, vn, num, den) := by
    intro x
    rcases opn k.fm x with ⟨ng, o1, o2, o3⟩ | ⟨ng, o1, o2, o3⟩ | ⟨ng, o1, o2, o3⟩ | ⟨ng, c, ex', man, P, o⟩
    · exact ⟨_, _, _, _, fun N => by rw [o1]; exact o3 N⟩
    · exact ⟨_, _, _, _, fun N => by rw [o1, o2]; exact o3 N⟩
    · exact ⟨_, _, _, _, fun N => by rw [o1, o2]; exact o3 N⟩
    · exact ⟨_, _, _, _, fun N => by rw [o.f65]; exact o.f144 N⟩
  obtain ⟨ga, va, an, ad, ha⟩ := hc a
  obtain ⟨gb, vb, bn, bd, hb⟩ := hc b
  unfold F181 F181_1
  simp only [lt]
  rw [k.fm.ok, Bool.not_true, bf rfl, ha, hb]
  simp only [Option.bind_some, F181_2, F181_3, F181_4, F181_5, lt]
  generalize (F65 e m a).2.1 = ca
  generalize (F65 e m b).2.1 = cb
  constructor
  · intro h
    by_cases c4 : ca = 4 ∨ cb = 4
    · have : ((ca == 4) || (cb == 4)) = true := by
        rw [Bool.or_eq_true, beq_iff_eq, beq_iff_eq]; exact c4
      rw [this, bt rfl]
      exact ⟨_, rfl, rfl⟩
    · have h4 : ((ca == 4) || (cb == 4)) = false := by
        rw [Bool.or_eq_false_iff, beq_eq_false_iff_ne, beq_eq_false_iff_ne]; omega
      have h3 : ((ca == 3) || (cb == 0)) = true := by
        rw [Bool.or_eq_true, beq_iff_eq, beq_iff_eq]; omega
      rw [h4, bf rfl, h3, bt rfl]
      exact ⟨_, rfl, rfl⟩
  · intro h1 h2 h3 h4 h5
    have g4 : ((ca == 4) || (cb == 4)) = false := by
      rw [Bool.or_eq_false_iff, beq_eq_false_iff_ne, beq_eq_false_iff_ne]; exact ⟨h1, h2⟩
    have g3 : ((ca == 3) || (cb == 0)) = false := by
      rw [Bool.or_eq_false_iff, beq_eq_false_iff_ne, beq_eq_false_iff_ne]; exact ⟨h3, h4⟩
    have g5 : ((cb == 3) || (ca == 0)) = true := by
      rw [Bool.or_eq_true, beq_iff_eq, beq_iff_eq]; exact h5
    rw [g4, bf rfl, g3, bf rfl, g5, bt rfl]
    exact ⟨_, rfl, rfl⟩
theorem a69 (a : BitVec 64) : a &&& F69 11#8 52#8 = a := by
  refine BitVec.eq_of_toNat_eq ?_
  exact wd64 a
theorem fin_c {a : BitVec 64} {c ex : Int} {man : BitVec 64} {P : Nat} {e m : BitVec 8} (h : FinP e m a s c ex man P) : (F65 e m a).2.1 ≠ 4 ∧ (F65 e m a).2.1 ≠ 3 ∧ (F65 e m a).2.1 ≠ 0 := by
  rw [h.f65]
  rcases h.c12 with z | z <;> rw [z] <;> simp
/-- native.Rem64. -/
theorem rem64 (hN : 3000 ≤ N) (a b : BitVec 64) : ∃ z, F181 N 11#8 52#8 a b = some z ∧ F392 N a b = some z.1 := by
  obtain ⟨edge1, edge2⟩ := F181_edge (N := N) kd64 a b
  rw [F392_eq]
  rcases cls64 a with ⟨an, ac⟩ | ⟨s, aw, ar, ac⟩ | ⟨s, av, ac, am⟩ | ⟨s, ca, ea, ma, P, av, fa⟩
  · obtain ⟨z, z1, z2⟩ := edge1 (Or.inl ac)
    exact ⟨z, z1, by rw [F435_nan (Or.inl (F429_nan an)), z2]; exact congrArg some putNaN⟩
  all_goals
    rcases cls64 b with ⟨bnn, bc⟩ | ⟨t, bw, br, bc⟩ | ⟨t, bv, bc, bm⟩ | ⟨t, cb, eb, mb, Q, bv, fb⟩
  · obtain ⟨z, z1, z2⟩ := edge1 (Or.inr (Or.inl bc))
    exact ⟨z, z1, by rw [F435_nan (Or.inr (F429_nan bnn)), z2]; exact congrArg some putNaN⟩
  · obtain ⟨z, z1, z2⟩ := edge1 (Or.inr (Or.inr (Or.inl (by rw [ac]))))
    refine ⟨z, z1, ?_⟩
    rw [F435_bad (F429_inf ar) (F429_inf br) (Or.inl (by rw [aw]; exact F430_inf s)), z2]
    exact congrArg some putNaN
  · obtain ⟨z, z1, z2⟩ := edge1 (Or.inr (Or.inr (Or.inl (by rw [ac]))))
    refine ⟨z, z1, ?_⟩
    rw [F435_bad (F429_inf ar) (F429_fin bv) (Or.inl (by rw [aw]; exact F430_inf s)), z2]
    exact congrArg some putNaN
  · obtain ⟨z, z1, z2⟩ := edge1 (Or.inr (Or.inr (Or.inl (by rw [ac]))))
    refine ⟨z, z1, ?_⟩
    rw [F435_bad (F429_inf ar) (F429_fin bv) (Or.inl (by rw [aw]; exact F430_inf s)), z2]
    exact congrArg some putNaN
  · obtain ⟨z, z1, z2⟩ := edge1 (Or.inr (Or.inl bc))
    exact ⟨z, z1, by rw [F435_nan (Or.inr (F429_nan bnn)), z2]; exact congrArg some putNaN⟩
  · obtain ⟨z, z1, z2⟩ := edge2 (by rw [ac]; simp) (by rw [bc]; simp) (by rw [ac]; simp) (by rw [bc]; simp) (Or.inl (by rw [bc]))
    refine ⟨z, z1, ?_⟩
    unfold F435
    simp only [lt]
    rw [F429_fin av, F429_inf br, Bool.or_self, bf rfl, F430_fin av, Option.bind_some, eqz_inf br, Bool.or_self]
    unfold F435_1
    rw [bf rfl, bw, F430_inf, Option.bind_some]
    unfold F435_2
    rw [bt rfl, z2, a69]
    show some (put 11#8 52#8 Ieee.double (some a.toNat)) = some a
    exact congrArg some (BitVec.eq_of_toNat_eq (put_dv av))
  · obtain ⟨z, z1, z2⟩ := edge1 (Or.inr (Or.inr (Or.inr (by rw [bc]))))
    refine ⟨z, z1, ?_⟩
    rw [F435_bad (F429_fin av) (F429_fin bv) (Or.inr ⟨⟨_, F430_fin av⟩, by rw [eqz bv]; rfl⟩), z2]
    exact congrArg some putNaN
  · obtain ⟨b4, b3, b0⟩ := fin_c fb
    obtain ⟨z, z1, z2⟩ := edge2 (by rw [ac]; simp) b4 (by rw [ac]; simp) b0 (Or.inr (by rw [ac]))
    refine ⟨z, z1, ?_⟩
    have hQ := uv_pos (M := 52) fb.p0
    obtain ⟨Z, q1, q2⟩ := F435_fin (N := N) hN av bv (by omega)
    have hr : rup 0 (uv 52 Q) = false := by
      unfold rup
      rw [Nat.zero_mod, decide_eq_false (by omega), decide_eq_false (by omega)]; rfl
    have hrs : rsz 0 (uv 52 Q) = 0 := by unfold rsz; rw [hr, Nat.zero_mod]; rfl
    rw [hrs, if_pos rfl] at q2
    rw [q1, z2, a69]
    show some (put 11#8 52#8 Ieee.double (some Z)) = some a
    refine congrArg some (BitVec.eq_of_toNat_eq ?_)
    rw [put_dv q2]
    obtain ⟨Q1, k1, k2, k3⟩ := q2.q
    obtain ⟨Q2, l1, l2, l3⟩ := av.q
    have : Q1 = Q2 := (uv_eq_iff (M := 52)).1 (by rw [k2, l2])
    rw [k3, l3, this]
  · obtain ⟨z, z1, z2⟩ := edge1 (Or.inr (Or.inl bc))
    exact ⟨z, z1, by rw [F435_nan (Or.inr (F429_nan bnn)), z2]; exact congrArg some putNaN⟩
  · obtain ⟨a4, a3, a0⟩ := fin_c fa
    obtain ⟨z, z1, z2⟩ := edge2 a4 (by rw [bc]; simp) a3 (by rw [bc]; simp) (Or.inl (by rw [bc]))
    refine ⟨z, z1, ?_⟩
    unfold F435
    simp only [lt]
    rw [F429_fin av, F429_inf br, Bool.or_self, bf rfl, F430_fin av, Option.bind_some, eqz_inf br, Bool.or_self]
    unfold F435_1
    rw [bf rfl, bw, F430_inf, Option.bind_some]
    unfold F435_2
    rw [bt rfl, z2, a69]
    show some (put 11#8 52#8 Ieee.double (some a.toNat)) = some a
    exact congrArg some (BitVec.eq_of_toNat_eq (put_dv av))
  · obtain ⟨z, z1, z2⟩ := edge1 (Or.inr (Or.inr (Or.inr (by rw [bc]))))
    refine ⟨z, z1, ?_⟩
    rw [F435_bad (F429_fin av) (F429_fin bv) (Or.inr ⟨⟨_, F430_fin av⟩, by rw [eqz bv]; rfl⟩), z2]
    exact congrArg some putNaN
  · have hQ := uv_pos (M := 52) fb.p0
    obtain ⟨z, z1, z2⟩ := nrem_fin (N := N) kd64 fa fb
    obtain ⟨Z, q1, q2⟩ := F435_fin (N := N) hN av bv (by omega)
    refine ⟨z, z1, ?_⟩
    rw [q1, z2]
    show some (put 11#8 52#8 Ieee.double (some Z)) = _
    refine congrArg some (BitVec.eq_of_toNat_eq ?_)
    rw [put_dv q2]
    obtain ⟨Q1, k1, k2, k3⟩ := q2.q
    show Z = (if rsz (uv 52 P) (uv 52 Q) = 0 then F251 11#8 52#8 s else (RQ 11#8 52#8 0#8 (rup (uv 52 P) (uv 52 Q) ^^ s) (rsz (uv 52 P) (uv 52 Q)) (2 ^ (bia (11#8).toNat + (52#8).toNat - 1))).1).toNat
    by_cases c : rsz (uv 52 P) (uv 52 Q) = 0
    · rw [if_pos c, F251_ok kd64.fm, sgn64]
      rw [if_pos c] at k3
      rw [c] at k2
      have : Q1 = 0 := (uv_eq_iff (M := 52)).1 (by rw [k2, uv_zero])
      rw [k3, this, Nat.zero_add]
    · rw [if_neg c]
      rw [if_neg c] at k3
      have hQ1 : 0 < Q1 := by
        rcases Nat.eq_zero_or_pos Q1 with y | y
        · rw [y, uv_zero] at k2; exact absurd k2.symm c
        · exact y
      rw [(RQ_uv kd64 (mode := 0#8) (s := rup (uv 52 P) (uv 52 Q) ^^ s) hQ1 (by rw [inf64v]; exact k1) (pne _) (by rw [← k2]; rfl)).1, sgn64, k3]
end
end Go.Proofs.YfwaawGreat
