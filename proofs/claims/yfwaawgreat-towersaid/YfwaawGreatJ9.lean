/-
  binary32 by way of binary64: Rem, RoundInt.
-/
import Derived.Test.YfwaawGreatJ8
namespace Go.Proofs.YfwaawGreat
open Go.Aw
set_option linter.unusedVariables false
set_option linter.unusedSimpArgs false

section
variable {X Y V W N : Nat} {s t : Bool} {i : Int}
theorem inf32v : infP (8#8).toNat (23#8).toNat = 2139095040 := by decide +kernel
theorem lp32v : Ieee.single.leastPlace = -149 := by decide +kernel
/-- A single as a double. -/
abbrev wide (a : BitVec 64) : BitVec 64 := can 11#8 52#8 (cv Ieee.single Ieee.double (wd 8#8 23#8 a))
/-- A double as a single. -/
abbrev narrow (x : BitVec 64) : BitVec 64 := can 8#8 23#8 (cv Ieee.double Ieee.single (wd 11#8 52#8 x))
theorem can64 {X : Nat} (h : X < 18446744073709551616) : (can 11#8 52#8 (some X)).toNat = X := by
  show (BitVec.ofNat 64 X).toNat = X
  rw [BitVec.toNat_ofNat, p64]; exact Nat.mod_eq_of_lt h
/-- Any single, and the double that it is. -/
theorem cls32 (a : BitVec 64) : ((∃ s t, Ieee.single.read (wd 8#8 23#8 a) = .nan s t) ∧ (F65 8#8 23#8 a).2.1 = 4 ∧ wide a = F66 11#8 52#8) ∨
    (∃ s, Ieee.single.read (wd 8#8 23#8 a) = .infinity s ∧ F65 8#8 23#8 a = (s, 3, 0, 0#64) ∧ wide a = F67 11#8 52#8 s ∧ a &&& F69 8#8 23#8 = F67 8#8 23#8 s) ∨
    (∃ s, Ieee.single.read (wd 8#8 23#8 a) = .number s 0 (-149) ∧ DV (wide a).toNat s 0 ∧ F65 8#8 23#8 a = (s, 0, 0, 0#64) ∧ a &&& F69 8#8 23#8 = F251 8#8 23#8 s) ∨
    (∃ s c ex man P mag place, Ieee.single.read (wd 8#8 23#8 a) = .number s mag place ∧ Nu Ieee.single 8#8 23#8 P mag place ∧ (∀ K : Nat, K = 925 → DV (wide a).toNat s (uv 23 P * 2 ^ K)) ∧ FinP 8#8 23#8 a s c ex man P) := by
  obtain ⟨D, hD⟩ : ∃ D : Nat, D = 1074 := ⟨_, rfl⟩
  rcases kd32.opn a with ⟨ng, s, t, h1, h2, h3⟩ | ⟨neg, h1, h2, h3, h4⟩ | ⟨neg, h1, h2, h3, h4⟩ | ⟨neg, c, ex, man, P, mag, place, h1, h2, h3⟩
  · exact Or.inl ⟨⟨s, t, h1⟩, by rw [h2], by unfold wide; rw [cv_nan h1]; rfl⟩
  · exact Or.inr (Or.inl ⟨neg, h1, h2, by unfold wide; rw [cv_inf h1, can_inf kd64], h3⟩)
  · rw [lp32v] at h1
    refine Or.inr (Or.inr (Or.inl ⟨neg, h1, ?_, h2, h3⟩))
    unfold wide
    have hdv : DV (Ieee.double.write (.number neg 0 (-149))) neg 0 := write_units (D := D) hD (show -(D : Int) ≤ -149 by omega) (by rw [Nat.zero_mul]) rep_zero
    rw [cv_num h1, can64 hdv.ltX]
    exact hdv
  · refine Or.inr (Or.inr (Or.inr ⟨neg, c, ex, man, P, mag, place, h1, h3, fun K hK => ?_, h2⟩))
    have hhi : mag < 2 ^ 24 := h3.hi
    have hph := h3.ph
    rw [show bia (8#8).toNat = 127 by decide] at hph
    have hm23 : ((23#8).toNat : Int) = 23 := rfl
    have hpl := h3.pl
    rw [lp32v] at hpl
    have hu := h3.u
    rw [lp32v] at hu
    have hu2 : mag * 2 ^ (place - -149).toNat = uv 23 P := hu
    have hdv : DV (Ieee.double.write (.number neg mag place)) neg (uv 23 P * 2 ^ K) := by
      refine write_units (D := D) hD (by omega) ?_ ?_
      · rw [← hu2, Nat.mul_assoc, ← Nat.pow_add]; exact congrArg (fun z => mag * 2 ^ z) (by omega)
      · rw [← hu2, Nat.mul_assoc, ← Nat.pow_add]
        refine rep_of (Nat.lt_trans hhi (by decide)) fun _ => ?_
        have : blen mag ≤ 24 := blen_le_iff.2 hhi
        omega
    unfold wide
    rw [cv_num h1, can64 hdv.ltX]
    exact hdv
/-- What narrowing makes of a double. -/
theorem narrow_dv {x : BitVec 64} (h : DV x.toNat s V) {D : Nat} (hD : D = 1074) : narrow x = if V = 0 then F251 8#8 23#8 s else (RQ 8#8 23#8 0#8 s V (2 ^ D)).1 := by
  obtain ⟨mag, place, h1, h2, h3, h4⟩ := h.read
  have hv := h4 D hD
  unfold narrow
  rw [wd64, cv_num h1]
  by_cases c : V = 0
  · have hm : mag = 0 := by
      rw [c] at hv
      rcases Nat.mul_eq_zero.1 hv with z | z
      · exact z
      · exact absurd z (pne _)
    rw [if_pos c, hm, can_zero kd32]
  · have hm : mag ≠ 0 := by
      intro z
      rw [z, Nat.zero_mul] at hv
      exact c hv.symm
    rw [if_neg c, can_num kd32 ne_zero hm]
    refine congrArg Prod.fst (RQ_cross (Nat.mul_ne_zero hm (pne _)) (pne _) (pne _) ?_)
    rw [← hv, Nat.mul_assoc, Nat.mul_assoc, ← Nat.pow_add, ← Nat.pow_add]
    exact congrArg (fun z => mag * 2 ^ z) (by omega)
theorem narrow_nan : narrow (F66 11#8 52#8) = F66 8#8 23#8 := by decide +kernel
theorem narrow_inf (s : Bool) : narrow (F67 11#8 52#8 s) = F67 8#8 23#8 s := by cases s <;> decide +kernel
theorem rup_mul {c : Nat} (hc : 0 < c) : rup (V * c) (W * c) = rup V W := by
  unfold rup
  rw [Nat.mul_mod_mul_right, Nat.mul_div_mul_right _ _ hc]
  have e1 : W * c < 2 * (V % W * c) ↔ W < 2 * (V % W) := by
    rw [← Nat.mul_assoc]
    exact ⟨fun g => Nat.lt_of_mul_lt_mul_right g, fun g => Nat.mul_lt_mul_of_pos_right g hc⟩
  have e2 : 2 * (V % W * c) = W * c ↔ 2 * (V % W) = W := by
    rw [← Nat.mul_assoc]
    exact ⟨fun g => Nat.mul_right_cancel hc g, fun g => by rw [g]⟩
  rw [decide_eq_decide.2 e1, decide_eq_decide.2 e2]
theorem rsz_mul {c : Nat} (hc : 0 < c) : rsz (V * c) (W * c) = rsz V W * c := by
  unfold rsz
  rw [rup_mul hc, Nat.mul_mod_mul_right]
  cases rup V W
  · rfl
  · rw [cond_true, cond_true, Nat.sub_mul]
/-- What exact says of the wide operands is what it says of the narrow ones. -/
theorem rem32 (hN : 3000 ≤ N) (a b : BitVec 64) : ∃ z w, F181 N 8#8 23#8 a b = some z ∧ F181 N 11#8 52#8 (wide a) (wide b) = some w ∧ F392 N (wide a) (wide b) = some w.1 ∧ narrow w.1 = z.1 := by
  obtain ⟨D, hD⟩ : ∃ D : Nat, D = 1074 := ⟨_, rfl⟩
  obtain ⟨K, hK⟩ : ∃ K : Nat, K = 925 := ⟨_, rfl⟩
  obtain ⟨w, w1, w2⟩ := rem64 (N := N) hN (wide a) (wide b)
  suffices hs : ∃ z, F181 N 8#8 23#8 a b = some z ∧ narrow w.1 = z.1 by
    obtain ⟨z, z1, z2⟩ := hs
    exact ⟨z, w, z1, w1, w2, z2⟩
  obtain ⟨e1, e2⟩ := F181_edge (N := N) kd32 a b
  obtain ⟨d1, d2⟩ := F181_edge (N := N) kd64 (wide a) (wide b)
  have hnan : ((F65 8#8 23#8 a).2.1 = 4 ∨ (F65 8#8 23#8 b).2.1 = 4 ∨ (F65 8#8 23#8 a).2.1 = 3 ∨ (F65 8#8 23#8 b).2.1 = 0) → ((F65 11#8 52#8 (wide a)).2.1 = 4 ∨ (F65 11#8 52#8 (wide b)).2.1 = 4 ∨ (F65 11#8 52#8 (wide a)).2.1 = 3 ∨ (F65 11#8 52#8 (wide b)).2.1 = 0) → ∃ z, F181 N 8#8 23#8 a b = some z ∧ narrow w.1 = z.1 := by
    intro g1 g2
    obtain ⟨z, z1, z2⟩ := e1 g1
    obtain ⟨u, u1, u2⟩ := d1 g2
    rw [w1] at u1
    refine ⟨z, z1, ?_⟩
    rw [show w = u from Option.some.inj u1, u2, z2]; exact narrow_nan
  have h4 : (F65 11#8 52#8 (F66 11#8 52#8)).2.1 = 4 := nan65_64
  have h3 : ∀ s, (F65 11#8 52#8 (F67 11#8 52#8 s)).2.1 = 3 := by intro s; cases s <;> decide +kernel
  have hfin : ∀ (x : BitVec 64) (s : Bool) (V : Nat), DV x.toNat s V → (F65 11#8 52#8 x).2.1 ≠ 4 ∧ (F65 11#8 52#8 x).2.1 ≠ 3 ∧ ((F65 11#8 52#8 x).2.1 = 0 ↔ V = 0) := by
    intro x s V hx
    obtain ⟨mag, place, r1, _, _, r4⟩ := hx.read
    rcases cls64 x with ⟨⟨_, _, an⟩, ac⟩ | ⟨_, _, ar, ac⟩ | ⟨s', av, ac, am⟩ | ⟨s', ca, ea, ma, P, av, fa⟩
    · rw [r1] at an; cases an
    · rw [r1] at ar; cases ar
    · rw [ac]
      obtain ⟨Q1, k1, k2, k3⟩ := hx.q
      obtain ⟨Q2, l1, l2, l3⟩ := av.q
      have hQ2 : Q2 = 0 := (uv_eq_iff (M := 52)).1 (by rw [l2, uv_zero])
      have hs1 := s64le s
      have : Q1 = 0 := by
        rw [hQ2] at l3
        have e1 : Q1 + s64 s = 0 + s64 s' := by rw [← k3, ← l3]
        unfold s64 at e1
        cases s <;> cases s' <;> simp at e1 <;> omega
      rw [this, uv_zero] at k2
      exact ⟨by simp, by simp, by simp [← k2]⟩
    · obtain ⟨a4, a3, a0⟩ := fin_c fa
      refine ⟨a4, a3, fun g => absurd g a0, fun g => ?_⟩
      exfalso
      have hp := uv_pos (M := 52) fa.p0
      obtain ⟨Q1, k1, k2, k3⟩ := hx.q
      obtain ⟨Q2, l1, l2, l3⟩ := av.q
      have hQ1 : Q1 = 0 := (uv_eq_iff (M := 52)).1 (by rw [k2, g, uv_zero])
      rw [hQ1] at k3
      have hQ2 : Q2 = 0 := by
        have e1 : 0 + s64 s = Q2 + s64 s' := by rw [← k3, ← l3]
        unfold s64 at e1
        cases s <;> cases s' <;> simp at e1 <;> omega
      rw [hQ2, uv_zero] at l2
      omega
  have hcopy : (F65 8#8 23#8 a).2.1 ≠ 4 → (F65 8#8 23#8 b).2.1 ≠ 4 → (F65 8#8 23#8 a).2.1 ≠ 3 → (F65 8#8 23#8 b).2.1 ≠ 0 → ((F65 8#8 23#8 b).2.1 = 3 ∨ (F65 8#8 23#8 a).2.1 = 0) → (F65 11#8 52#8 (wide a)).2.1 ≠ 4 → (F65 11#8 52#8 (wide b)).2.1 ≠ 4 → (F65 11#8 52#8 (wide a)).2.1 ≠ 3 → (F65 11#8 52#8 (wide b)).2.1 ≠ 0 → ((F65 11#8 52#8 (wide b)).2.1 = 3 ∨ (F65 11#8 52#8 (wide a)).2.1 = 0) → narrow (wide a) = a &&& F69 8#8 23#8 → ∃ z, F181 N 8#8 23#8 a b = some z ∧ narrow w.1 = z.1 := by
    intro a1 a2 a3 a4 a5 b1 b2 b3 b4 b5 hn
    obtain ⟨z, z1, z2⟩ := e2 a1 a2 a3 a4 a5
    obtain ⟨u, u1, u2⟩ := d2 b1 b2 b3 b4 b5
    rw [w1] at u1
    refine ⟨z, z1, ?_⟩
    rw [show w = u from Option.some.inj u1, u2, z2, a69]; exact hn
  -- a single, widened and narrowed, is itself
  have hself : ∀ (s : Bool) (c ex : Int) (man : BitVec 64) (P : Nat), FinP 8#8 23#8 a s c ex man P → DV (wide a).toNat s (uv 23 P * 2 ^ K) → narrow (wide a) = a &&& F69 8#8 23#8 := by
    intro s c ex man P fa hdv
    have hp := uv_pos (M := 23) fa.p0
    have hne : uv 23 P * 2 ^ K ≠ 0 := Nat.mul_ne_zero (by omega) (pne K)
    rw [narrow_dv hdv hD, if_neg hne]
    have hl := fa.least kd32.fm
    have hb : bia (8#8).toNat + (23#8).toNat - 1 = 149 := by decide
    rw [hb] at hl
    have hr := RQ_self (mode := 0#8) kd32.fm fa
    have := RQ_cross (e := 8#8) (m := 23#8) (mode := 0#8) (neg := s) (num := uv 23 P * 2 ^ K) (den := 2 ^ D) (num' := man.toNat * 2 ^ ex.toNat) (den' := 2 ^ (-ex).toNat) hne (pne _) (pne _) (by
      rw [Nat.mul_right_comm]
      have hl2 : man.toNat * 2 ^ ex.toNat * 2 ^ 149 = uv 23 P * 2 ^ (-ex).toNat := hl
      rw [← hl2, Nat.mul_assoc (man.toNat * 2 ^ ex.toNat), ← Nat.pow_add]
      exact congrArg (fun z => man.toNat * 2 ^ ex.toNat * 2 ^ z) (by omega))
    rw [this, hr]
  rcases cls32 a with ⟨_, ac, aw⟩ | ⟨s, ar, ac, aw, am⟩ | ⟨s, ar, av, ac, am⟩ | ⟨s, ca, ea, ma, P, mag, place, ar, an, av, fa⟩
  · exact hnan (Or.inl ac) (Or.inl (by rw [aw]; exact h4))
  · exact hnan (Or.inr (Or.inr (Or.inl (by rw [ac])))) (Or.inr (Or.inr (Or.inl (by rw [aw]; exact h3 s))))
  · obtain ⟨p4, p3, p0⟩ := hfin _ _ _ av
    have hz : narrow (wide a) = a &&& F69 8#8 23#8 := by rw [narrow_dv av hD, if_pos rfl, am]
    rcases cls32 b with ⟨_, bc, bw⟩ | ⟨t, br, bc, bw, bm⟩ | ⟨t, br, bv, bc, bm⟩ | ⟨t, cb, eb, mb, Q, mgb, plb, br, bn, bv, fb⟩
    · exact hnan (Or.inr (Or.inl bc)) (Or.inr (Or.inl (by rw [bw]; exact h4)))
    · exact hcopy (by rw [ac]; simp) (by rw [bc]; simp) (by rw [ac]; simp) (by rw [bc]; simp) (Or.inl (by rw [bc])) p4 (by rw [bw, h3]; simp) p3 (by rw [bw, h3]; simp) (Or.inl (by rw [bw, h3])) hz
    · obtain ⟨q4, q3, q0⟩ := hfin _ _ _ bv
      exact hnan (Or.inr (Or.inr (Or.inr (by rw [bc])))) (Or.inr (Or.inr (Or.inr (q0.2 rfl))))
    · obtain ⟨b4, b3, b0⟩ := fin_c fb
      have hp := uv_pos (M := 23) fb.p0
      obtain ⟨q4, q3, q0⟩ := hfin _ _ _ (bv K hK)
      exact hcopy (by rw [ac]; simp) b4 (by rw [ac]; simp) b0 (Or.inr (by rw [ac])) p4 q4 p3 (fun g => absurd (q0.1 g) (Nat.mul_ne_zero (by omega) (pne K))) (Or.inr (p0.2 rfl)) hz
  · obtain ⟨a4, a3, a0⟩ := fin_c fa
    have hpP := uv_pos (M := 23) fa.p0
    obtain ⟨p4, p3, p0⟩ := hfin _ _ _ (av K hK)
    have hz := hself _ _ _ _ _ fa (av K hK)
    rcases cls32 b with ⟨_, bc, bw⟩ | ⟨t, br, bc, bw, bm⟩ | ⟨t, br, bv, bc, bm⟩ | ⟨t, cb, eb, mb, Q, mgb, plb, br, bn, bv, fb⟩
    · exact hnan (Or.inr (Or.inl bc)) (Or.inr (Or.inl (by rw [bw]; exact h4)))
    · exact hcopy a4 (by rw [bc]; simp) a3 (by rw [bc]; simp) (Or.inl (by rw [bc])) p4 (by rw [bw, h3]; simp) p3 (by rw [bw, h3]; simp) (Or.inl (by rw [bw, h3])) hz
    · obtain ⟨q4, q3, q0⟩ := hfin _ _ _ bv
      exact hnan (Or.inr (Or.inr (Or.inr (by rw [bc])))) (Or.inr (Or.inr (Or.inr (q0.2 rfl))))
    · have hpQ := uv_pos (M := 23) fb.p0
      obtain ⟨z, z1, z2⟩ := nrem_fin (N := N) kd32 fa fb
      refine ⟨z, z1, ?_⟩
      obtain ⟨Z, q1, q2⟩ := F435_fin (N := N) hN (av K hK) (bv K hK) (Nat.mul_ne_zero (by omega) (pne K))
      rw [rup_mul (pow_pos2 K), rsz_mul (pow_pos2 K)] at q2
      have hwv : w.1 = put 11#8 52#8 Ieee.double (some Z) := by
        rw [F392_eq, q1] at w2
        exact (Option.some.inj w2).symm
      have hdv : DV (w.1).toNat (if rsz (uv 23 P) (uv 23 Q) * 2 ^ K = 0 then s else rup (uv 23 P) (uv 23 Q) ^^ s) (rsz (uv 23 P) (uv 23 Q) * 2 ^ K) := by
        rw [hwv, put_dv q2]; exact q2
      rw [narrow_dv hdv hD, z2]
      show _ = (if rsz (uv 23 P) (uv 23 Q) = 0 then F251 8#8 23#8 s else (RQ 8#8 23#8 0#8 (rup (uv 23 P) (uv 23 Q) ^^ s) (rsz (uv 23 P) (uv 23 Q)) (2 ^ (bia (8#8).toNat + (23#8).toNat - 1))).1)
      have hb : bia (8#8).toNat + (23#8).toNat - 1 = 149 := by decide
      rw [hb]
      by_cases c : rsz (uv 23 P) (uv 23 Q) = 0
      · rw [if_pos c, c, Nat.zero_mul, if_pos rfl, if_pos rfl]
      · have hne : rsz (uv 23 P) (uv 23 Q) * 2 ^ K ≠ 0 := Nat.mul_ne_zero c (pne K)
        rw [if_neg c, if_neg hne, if_neg hne]
        refine congrArg Prod.fst (RQ_cross hne (pne _) (pne _) ?_)
        rw [Nat.mul_assoc, ← Nat.pow_add]
        exact congrArg (fun z => rsz (uv 23 P) (uv 23 Q) * 2 ^ z) (by omega)
end
end Go.Proofs.YfwaawGreat
