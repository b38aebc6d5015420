/-
  soft = exact: the fused product and sum.
-/
import Derived.Test.YfwaawGreatS2
namespace Go.Proofs.YfwaawGreat
open Go.Aw
set_option linter.unusedVariables false
set_option linter.unusedSimpArgs false
section
variable {e m mode : BitVec 8} {neg : Bool}
variable {a b c : BitVec 64} {na nb nc : Bool} {ca cb cc ea eb ec : Int} {ma mb mc : BitVec 64} {pa pb pc : Nat}

/-- The product whole, halved: its significand for sum. -/
theorem prod_ok (h : Fm e m) (f : FinP e m a na ca ea ma pa) (g : FinP e m b nb cb eb mb pb) :
    ∃ h1 h0, F217 (F165 (F260 e m na ca ea ma).1 (F260 e m nb cb eb mb).1).1 (F165 (F260 e m na ca ea ma).1 (F260 e m nb cb eb mb).1).2 1#8 = (h1, h0) ∧
    v2 h1 h0 * 2 = ma.toNat * mb.toNat * 2 ^ (126 - 2 * m.toNat) ∧ Nm (v2 h1 h0) := by
  have h4 := h.m52
  obtain ⟨s1, s2⟩ := F260_ok h f
  obtain ⟨t1, t2⟩ := F260_ok h g
  have l1 := top_lo h f
  have l2 := top_lo h g
  have hp := F165_ok (F260 e m na ca ea ma).1 (F260 e m nb cb eb mb).1
  have u1 := (F260 e m na ca ea ma).1.isLt
  have u2 := (F260 e m nb cb eb mb).1.isLt
  rw [s1, t1] at hp
  rw [s1] at u1
  rw [t1] at u2
  generalize F165 (F260 e m na ca ea ma).1 (F260 e m nb cb eb mb).1 = r at *
  have hs := F217_ok r.1 r.2 1#8
  rw [show (1#8).toNat = 1 from rfl, Nat.pow_one, hp] at hs
  have hlo : 2 ^ 126 ≤ ma.toNat * 2 ^ (63 - m.toNat) * (mb.toNat * 2 ^ (63 - m.toNat)) := by
    have := Nat.mul_le_mul l1 l2
    rw [← Nat.pow_add] at this
    exact this
  have hhi : ma.toNat * 2 ^ (63 - m.toNat) * (mb.toNat * 2 ^ (63 - m.toNat)) < 2 ^ 128 := by
    have := Nat.mul_lt_mul'' u1 u2
    rw [← Nat.pow_add] at this
    exact this
  have hdv : 2 ^ 22 ∣ ma.toNat * 2 ^ (63 - m.toNat) * (mb.toNat * 2 ^ (63 - m.toNat)) := by
    have e1 : ma.toNat * 2 ^ (63 - m.toNat) * (mb.toNat * 2 ^ (63 - m.toNat)) = ma.toNat * mb.toNat * (2 ^ (63 - m.toNat) * 2 ^ (63 - m.toNat)) := by grind
    rw [e1, ← Nat.pow_add]
    exact Nat.dvd_trans (Nat.pow_dvd_pow 2 (by omega)) (Nat.dvd_mul_left _ _)
  have hval : ma.toNat * 2 ^ (63 - m.toNat) * (mb.toNat * 2 ^ (63 - m.toNat)) = ma.toNat * mb.toNat * 2 ^ (126 - 2 * m.toNat) := by
    have e1 : ma.toNat * 2 ^ (63 - m.toNat) * (mb.toNat * 2 ^ (63 - m.toNat)) = ma.toNat * mb.toNat * (2 ^ (63 - m.toNat) * 2 ^ (63 - m.toNat)) := by grind
    rw [e1, ← Nat.pow_add, show 63 - m.toNat + (63 - m.toNat) = 126 - 2 * m.toNat from by omega]
  rw [← hval]
  generalize ma.toNat * 2 ^ (63 - m.toNat) * (mb.toNat * 2 ^ (63 - m.toNat)) = Y at *
  have p126 : (2 : Nat) ^ 126 = 85070591730234615865843651857942052864 := rfl
  have p22 : (2 : Nat) ^ 22 = 4194304 := rfl
  rw [p126] at hlo
  rw [p128] at hhi
  rw [p22] at hdv
  refine ⟨(F217 r.1 r.2 1#8).1, (F217 r.1 r.2 1#8).2, rfl, ?_, ?_⟩
  · rw [hs]; omega
  · rw [hs]
    refine ⟨?_, ?_, ?_⟩
    · show 42535295865117307932921825928971026432 ≤ _
      omega
    · show _ < 170141183460469231731687303715884105728
      omega
    · show _ % 2097152 = 0
      omega

theorem pz_zero {N : Nat} (h : Fm e m) {pd : Nat} {ng : Bool} (p1 : 0 < pd) (p2 : blen pd ≤ 50000) :
    ((F146 N ng 0 pd nc 0 1).bind fun y => bif y.2.1 == 0 then some (F251 e m ((ng && nc) || ((ng != nc) && (mode == 4#8))), 0#8) else (F136 N e m mode y.1 y.2.1 y.2.2).bind fun z => some (z.1, z.2)) = some (F251 e m ((ng && nc) || ((ng != nc) && (mode == 4#8))), 0#8) := by
  have z1 := bl1
  exact ex_zero h _ p1 (by decide) (by omega) (by omega)
theorem pz_fin {N : Nat} (h : Fm e m) (f : FinP e m c nc cc ec mc pc) {pd : Nat} {ng : Bool} {Z : BitVec 64 × BitVec 8} (p1 : 0 < pd) (p2 : blen pd ≤ 50000) :
    ((F146 N ng 0 pd nc (mc.toNat * 2 ^ ec.toNat) (2 ^ (-ec).toNat)).bind fun y => bif y.2.1 == 0 then some Z else (F136 N e m mode y.1 y.2.1 y.2.2).bind fun z => some (z.1, z.2)) = some (RQ e m mode nc (mc.toNat * 2 ^ ec.toNat) (2 ^ (-ec).toNat)) := by
  obtain ⟨L, hL⟩ : ∃ L : Nat, L = 12000 := ⟨_, rfl⟩
  have z0 := bl0
  have r1 := f.range h
  have n1 := f.bnum h
  have d1 := f.bden h
  have hV : mc.toNat * 2 ^ (ec + L).toNat ≠ 0 := Nat.mul_ne_zero f.ne (pne _)
  rw [ex_sum (VA := 0) (L := L) h _ (by simp) (f.units (by omega)) p1 (pow_pos2 _) (by omega) (by omega) (by omega) (by omega) (.inr hV) (fun k => (hV k.symm).elim), RQ_fin h f (L := L) (by omega), ← SM_zero (na := ng) hV]
theorem prod_units (f : FinP e m a na ca ea ma pa) (g : FinP e m b nb cb eb mb pb) {L : Nat} (h1 : -(L : Int) ≤ ea + eb) (h2 : -(L : Int) ≤ ea) :
    ma.toNat * 2 ^ ea.toNat * (mb.toNat * 2 ^ eb.toNat) * 2 ^ L = ma.toNat * mb.toNat * 2 ^ (ea + eb + L).toNat * (2 ^ (-ea).toNat * 2 ^ (-eb).toNat) := by
  have : 2 ^ ea.toNat * 2 ^ eb.toNat * 2 ^ L = 2 ^ (ea + eb + L).toNat * (2 ^ (-ea).toNat * 2 ^ (-eb).toNat) := by
    simp only [← Nat.pow_add]; congr 1; omega
  grind
theorem prod_val {V P L : Nat} (h : Fm e m) {ea eb : Int} (t : V * 2 = P * 2 ^ (126 - 2 * m.toNat)) (h1 : -2500 < ea + eb) (h2 : 5000 ≤ L) :
    V * 2 ^ (ea - ((63 - m.toNat : Nat) : Int) + (eb - ((63 - m.toNat : Nat) : Int)) + 1 + L).toNat = P * 2 ^ (ea + eb + L).toNat := by
  have h4 := h.m52
  have e1 : 2 ^ (ea - ((63 - m.toNat : Nat) : Int) + (eb - ((63 - m.toNat : Nat) : Int)) + 1 + L).toNat = 2 * 2 ^ (ea + eb + L - (126 - 2 * m.toNat)).toNat := by
    rw [← Nat.pow_succ']; congr 1; omega
  have e2 : 2 ^ (ea + eb + L).toNat = 2 ^ (126 - 2 * m.toNat) * 2 ^ (ea + eb + L - (126 - 2 * m.toNat)).toNat := by
    rw [← Nat.pow_add]; congr 1; omega
  rw [e1, e2, ← Nat.mul_assoc, t, Nat.mul_assoc]

theorem fma_eq (h : Fm e m) (a b c : BitVec 64) {N : Nat} : Bo (F172 N e m mode a b c) (F180 N e m mode a b c) := by
  unfold F172 F172_1 F180 F180_1
  simp only [lt]
  rw [h.ok, Bool.not_true, bf rfl, bf rfl]
  obtain ⟨L, hL⟩ : ∃ L : Nat, L = 12000 := ⟨_, rfl⟩
  have z0 := bl0
  have z1 := bl1
  have h4 := h.m52
  obtain ⟨na, ca, ea, ma, ba, ga, va, an, ad, ha, ha', alta⟩ := opd h a
  obtain ⟨nb, cb, eb, mb, bb, gb, vb, bn, bd, hb, hb', altb⟩ := opd h b
  obtain ⟨nc, cc, ec, mc, bc, gc, vc, cn, cd, hc, hc', altc⟩ := opd h c
  rw [ha, hb, hc, ha', hb', hc']
  simp only [Option.bind_some, F172_2, F172_3, F172_4, F172_5, F172_6, F172_7, F172_8, F172_9, F172_10, F172_11, F172_12, F172_13, F172_14, F180_2, F180_3, F180_4, F180_5, F180_6, F180_7, F180_8, F180_9, F180_10, F271, F271_1, F271_2, F271_3, lt]
  rcases alta with ⟨a4, a3, a0⟩ | ⟨a4, a3, a0, rfl, rfl⟩ | ⟨a4, a3, a0, rfl, rfl, rfl, rfl, rfl, rfl, rfl⟩ | ⟨a4, a3, a0, rfl, rfl, rfl, rfl, rfl, pa, fa⟩ <;>
  rcases altb with ⟨b4, b3, b0⟩ | ⟨b4, b3, b0, rfl, rfl⟩ | ⟨b4, b3, b0, rfl, rfl, rfl, rfl, rfl, rfl, rfl⟩ | ⟨b4, b3, b0, rfl, rfl, rfl, rfl, rfl, pb, fb⟩ <;>
  rcases altc with ⟨c4, c3, c0⟩ | ⟨c4, c3, c0, rfl, rfl⟩ | ⟨c4, c3, c0, rfl, rfl, rfl, rfl, rfl, rfl, rfl⟩ | ⟨c4, c3, c0, rfl, rfl, rfl, rfl, rfl, pc, fc⟩ <;>
  simp only [a4, a3, a0, b4, b3, b0, c4, c3, c0, klit, cond_true, cond_false]
  case inr.inr.inl.inr.inr.inl.inr.inr.inl =>
    have d2 := blen_mul 1 1
    rw [bt (limand (by omega) (by omega)), bt (limand (by omega) (by omega)), Nat.zero_mul]
    exact ⟨_, rfl, pz_zero h (Nat.mul_pos (by decide) (by decide)) (by omega)⟩
  case inr.inr.inl.inr.inr.inl.inr.inr.inr =>
    have d2 := blen_mul 1 1
    rw [bt (limand (by omega) (by omega)), bt (limand (by omega) (by omega)), Nat.zero_mul]
    rw [(round_eq h fc h).1]
    exact ⟨_, rfl, pz_fin h fc (Nat.mul_pos (by decide) (by decide)) (by omega)⟩
  case inr.inr.inl.inr.inr.inr.inr.inr.inl =>
    have n1 := fb.bnum h
    have d1 := fb.bden h
    have d2 := blen_mul 1 (2 ^ (-eb).toNat)
    rw [bt (limand (by omega) (by omega)), bt (limand (by omega) (by omega)), Nat.zero_mul]
    exact ⟨_, rfl, pz_zero h (Nat.mul_pos (by decide) (pow_pos2 _)) (by omega)⟩
  case inr.inr.inl.inr.inr.inr.inr.inr.inr =>
    have n1 := fb.bnum h
    have d1 := fb.bden h
    have d2 := blen_mul 1 (2 ^ (-eb).toNat)
    rw [bt (limand (by omega) (by omega)), bt (limand (by omega) (by omega)), Nat.zero_mul]
    rw [(round_eq h fc h).1]
    exact ⟨_, rfl, pz_fin h fc (Nat.mul_pos (by decide) (pow_pos2 _)) (by omega)⟩
  case inr.inr.inr.inr.inr.inl.inr.inr.inl =>
    have n1 := fa.bnum h
    have d1 := fa.bden h
    have d2 := blen_mul (2 ^ (-ea).toNat) 1
    rw [bt (limand (by omega) (by omega)), bt (limand (by omega) (by omega)), Nat.mul_zero]
    exact ⟨_, rfl, pz_zero h (Nat.mul_pos (pow_pos2 _) (by decide)) (by omega)⟩
  case inr.inr.inr.inr.inr.inl.inr.inr.inr =>
    have n1 := fa.bnum h
    have d1 := fa.bden h
    have d2 := blen_mul (2 ^ (-ea).toNat) 1
    rw [bt (limand (by omega) (by omega)), bt (limand (by omega) (by omega)), Nat.mul_zero]
    rw [(round_eq h fc h).1]
    exact ⟨_, rfl, pz_fin h fc (Nat.mul_pos (pow_pos2 _) (by decide)) (by omega)⟩
  case inr.inr.inr.inr.inr.inr.inr.inr.inl =>
    obtain ⟨h1, h0, t1, t2, t3⟩ := prod_ok h fa fb
    have r1 := fa.range h
    have r2 := fb.range h
    have n1 := fa.bnum h
    have n2 := fb.bnum h
    have d1 := fa.bden h
    have d2 := fb.bden h
    have b1 := blen_mul (ma.toNat * 2 ^ ea.toNat) (mb.toNat * 2 ^ eb.toNat)
    have b2 := blen_mul (2 ^ (-ea).toNat) (2 ^ (-eb).toNat)
    have w1 : w16 (ea - ((63 - m.toNat : Nat) : Int) + (eb - ((63 - m.toNat : Nat) : Int))) = ea - ((63 - m.toNat : Nat) : Int) + (eb - ((63 - m.toNat : Nat) : Int)) := w16_id (by omega)
    have w2 : w16 (ea - ((63 - m.toNat : Nat) : Int) + (eb - ((63 - m.toNat : Nat) : Int)) + 1) = ea - ((63 - m.toNat : Nat) : Int) + (eb - ((63 - m.toNat : Nat) : Int)) + 1 := w16_id (by omega)
    rw [(F260_ok h fa).2, (F260_ok h fb).2, w1, w2, t1]
    have hV : v2 h1 h0 ≠ 0 := by
      have := t3.lo
      have := pow_pos2 125
      omega
    rw [jam_round h (by omega) hV, bt (limand (by omega) (by omega)), bt (limand (by omega) (by omega))]
    refine ⟨_, rfl, ?_⟩
    have hVA : ma.toNat * mb.toNat * 2 ^ (ea + eb + L).toNat ≠ 0 := Nat.mul_ne_zero (Nat.mul_ne_zero fa.ne fb.ne) (pne _)
    refine Eq.trans (ex_sum (VA := ma.toNat * mb.toNat * 2 ^ (ea + eb + L).toNat) (VB := 0) (L := L) h _ (prod_units fa fb (by omega) (by omega)) (by simp) (Nat.mul_pos (pow_pos2 _) (pow_pos2 _)) (by decide) (by omega) (by omega) (by omega) (by omega) (.inl hVA) (fun k => (hVA k).elim)) ?_
    rw [SM_comm, SM_zero hVA, RQ_L (L := L) hV (by omega), prod_val h t2 (by omega) (by omega)]
  case inr.inr.inr.inr.inr.inr.inr.inr.inr =>
    obtain ⟨h1, h0, t1, t2, t3⟩ := prod_ok h fa fb
    obtain ⟨u1, u0, v1, v2', v3⟩ := F274_ok h fc
    have r1 := fa.range h
    have r2 := fb.range h
    have r3 := fc.range h
    have n1 := fa.bnum h
    have n2 := fb.bnum h
    have n3 := fc.bnum h
    have d1 := fa.bden h
    have d2 := fb.bden h
    have d3 := fc.bden h
    have b1 := blen_mul (ma.toNat * 2 ^ ea.toNat) (mb.toNat * 2 ^ eb.toNat)
    have b2 := blen_mul (2 ^ (-ea).toNat) (2 ^ (-eb).toNat)
    have w1 : w16 (ea - ((63 - m.toNat : Nat) : Int) + (eb - ((63 - m.toNat : Nat) : Int))) = ea - ((63 - m.toNat : Nat) : Int) + (eb - ((63 - m.toNat : Nat) : Int)) := w16_id (by omega)
    have w2 : w16 (ea - ((63 - m.toNat : Nat) : Int) + (eb - ((63 - m.toNat : Nat) : Int)) + 1) = ea - ((63 - m.toNat : Nat) : Int) + (eb - ((63 - m.toNat : Nat) : Int)) + 1 := w16_id (by omega)
    rw [(F260_ok h fa).2, (F260_ok h fb).2, w1, w2, t1, v1]
    simp only []
    rw [sum_ok (L := L) h t3 v3 (by omega) (by omega) (by omega), bt (limand (by omega) (by omega)), bt (limand (by omega) (by omega))]
    refine ⟨_, rfl, ?_⟩
    have hVA : ma.toNat * mb.toNat * 2 ^ (ea + eb + L).toNat ≠ 0 := Nat.mul_ne_zero (Nat.mul_ne_zero fa.ne fb.ne) (pne _)
    have e2 : v2 u1 u0 * 2 ^ (ec - (63 - m.toNat : Nat) - 63 + L).toNat = mc.toNat * 2 ^ (ec + L).toNat := by
      rw [v2', Nat.mul_assoc, Nat.mul_assoc, ← Nat.pow_add, ← Nat.pow_add]; congr 2; omega
    rw [e2, prod_val h t2 (by omega) (by omega)]
    refine Eq.trans (ex_sum (VA := ma.toNat * mb.toNat * 2 ^ (ea + eb + L).toNat) (L := L) h _ (prod_units fa fb (by omega) (by omega)) (fc.units (by omega)) (Nat.mul_pos (pow_pos2 _) (pow_pos2 _)) (pow_pos2 _) (by omega) (by omega) (by omega) (by omega) (.inl hVA) (fun _ hn => ?_)) rfl
    generalize (na != nb) = q at *
    cases q <;> cases nc <;> first | exact (hn rfl).elim | rfl
  all_goals first
    | exact ⟨_, rfl, rfl⟩
    | cases na <;> cases nb <;> cases nc <;> exact ⟨_, rfl, rfl⟩
end
end Go.Proofs.YfwaawGreat
