/-
  soft = exact: sum, difference, fused product and sum.
-/
import Derived.Test.YfwaawGreatS1
import Derived.Test.YfwaawGreatG13
import Derived.Test.YfwaawGreatG44
namespace Go.Proofs.YfwaawGreat
open Go.Aw
set_option linter.unusedVariables false
set_option linter.unusedSimpArgs false
section
variable {e m mode : BitVec 8} {neg : Bool}

/-- exact's sum of fractions. -/
theorem F146_ok {N : Nat} {na nb : Bool} {an ad bn bd VA VB L : Nat} (ha : an * L = VA * ad) (hb : bn * L = VB * bd) (hL : 0 < L) (had : 0 < ad) (hbd : 0 < bd)
    (b1 : blen an ≤ 100000) (b2 : blen ad ≤ 100000) (b3 : blen bn ≤ 100000) (b4 : blen bd ≤ 100000) :
    ∃ ng num den, F146 N na an ad nb bn bd = some (ng, num, den) ∧ den ≠ 0 ∧ blen num ≤ 300000 ∧ blen den ≤ 300000 ∧
    ((na = nb ∧ ng = na ∧ num * L = (VA + VB) * den) ∨ (na ≠ nb ∧ VB ≤ VA ∧ ng = na ∧ num * L = (VA - VB) * den) ∨ (na ≠ nb ∧ VA < VB ∧ ng = nb ∧ num * L = (VB - VA) * den)) := by
  have l1 := blen_mul an bd
  have l2 := blen_mul bn ad
  have l3 := blen_mul ad bd
  have l4 := blen_add (an * bd) (bn * ad)
  have l5 : blen (an * bd - bn * ad) ≤ blen (an * bd) := blen_mono (Nat.sub_le _ _)
  have l6 : blen (bn * ad - an * bd) ≤ blen (bn * ad) := blen_mono (Nat.sub_le _ _)
  have hdp : 0 < ad * bd := Nat.mul_pos had hbd
  have ex : an * bd * L = VA * (ad * bd) := by
    have : an * bd * L = (an * L) * bd := by grind
    rw [this, ha]; grind
  have ey : bn * ad * L = VB * (ad * bd) := by
    have : bn * ad * L = (bn * L) * ad := by grind
    rw [this, hb]; grind
  unfold F146 F146_1 F146_2 F146_3 F146_4 F146_5
  rw [bt (by rw [lim_blen (by omega), lim_blen (by omega)]; rfl), bt (by rw [lim_blen (by omega), lim_blen (by omega)]; rfl), bt (by rw [lim_blen (by omega), lim_blen (by omega)]; rfl)]
  generalize an * bd = x at *
  generalize bn * ad = y at *
  generalize ad * bd = d at *
  have lx : lim x = true := lim_blen (by omega)
  have ly : lim y = true := lim_blen (by omega)
  rw [lx, ly, Bool.and_self]
  by_cases hn : na = nb
  · rw [bt (by simpa using hn), bt rfl]
    refine ⟨_, _, _, rfl, by omega, by omega, by omega, .inl ⟨hn, rfl, ?_⟩⟩
    rw [Nat.add_mul, ex, ey, Nat.add_mul]
  · rw [bf (by simpa using hn), bt rfl]
    have hc : y ≤ x ↔ VB ≤ VA := by
      constructor
      · intro h
        have h1 := Nat.mul_le_mul_right L h
        rw [ex, ey] at h1
        exact Nat.le_of_mul_le_mul_right h1 hdp
      · intro h
        have h1 := Nat.mul_le_mul_right d h
        rw [← ex, ← ey] at h1
        exact Nat.le_of_mul_le_mul_right h1 hL
    by_cases c : y ≤ x
    · rw [bt (by simpa using c)]
      refine ⟨_, _, _, rfl, by omega, by omega, by omega, .inr (.inl ⟨hn, hc.1 c, rfl, ?_⟩)⟩
      rw [Nat.sub_mul, ex, ey, Nat.sub_mul]
    · rw [bf (by simpa using c), bt rfl]
      have c' : ¬ VB ≤ VA := fun k => c (hc.2 k)
      refine ⟨_, _, _, rfl, by omega, by omega, by omega, .inr (.inr ⟨hn, by omega, rfl, ?_⟩)⟩
      rw [Nat.sub_mul, ex, ey, Nat.sub_mul]

/-- exact's sum, rounded, or Z where it is zero. -/
theorem ex_sum {N : Nat} (h : Fm e m) {na nb : Bool} {an ad bn bd VA VB L : Nat} (Z : BitVec 64 × BitVec 8) (ha : an * 2 ^ L = VA * ad) (hb : bn * 2 ^ L = VB * bd) (had : 0 < ad) (hbd : 0 < bd)
    (b1 : blen an ≤ 100000) (b2 : blen ad ≤ 100000) (b3 : blen bn ≤ 100000) (b4 : blen bd ≤ 100000) (hz : VA ≠ 0 ∨ VB ≠ 0) (hZ : VA = VB → na ≠ nb → Z = (F251 e m (mode == 4#8), 0#8)) :
    ((F146 N na an ad nb bn bd).bind fun y => bif y.2.1 == 0 then some Z else (F136 N e m mode y.1 y.2.1 y.2.2).bind fun z => some (z.1, z.2)) = some (SM e m mode na VA nb VB L) := by
  have hp := pow_pos2 L
  obtain ⟨ng, num, den, h1, h2, h3, h4, h5⟩ := F146_ok (N := N) (na := na) (nb := nb) ha hb hp had hbd b1 b2 b3 b4
  rw [h1]
  simp only [Option.bind_some]
  have key : ∀ V, num * 2 ^ L = V * den → V ≠ 0 → (bif num == 0 then some Z else (F136 N e m mode ng num den).bind fun z => some (z.1, z.2)) = some (RQ e m mode ng V (2 ^ L)) := by
    intro V hV hV0
    have hn : num ≠ 0 := fun c => by
      rw [c, Nat.zero_mul] at hV
      rcases Nat.mul_eq_zero.1 hV.symm with k | k
      · exact hV0 k
      · exact h2 k
    rw [bf (by simpa using hn), F136_RQ h hn h2 (by omega) (by omega)]
    show some (RQ e m mode ng num den) = _
    rw [RQ_cross hn h2 (pne L) hV]
  unfold SM
  rcases h5 with ⟨g1, g2, g3⟩ | ⟨g1, g2, g3, g4⟩ | ⟨g1, g2, g3, g4⟩
  · rw [if_pos g1, key _ g3 (by omega), g2]
  · rw [if_neg g1]
    by_cases c : VA = VB
    · rw [if_pos c]
      have hn : num = 0 := by
        rw [c, Nat.sub_self, Nat.zero_mul] at g4
        rcases Nat.mul_eq_zero.1 g4 with k | k
        · exact k
        · omega
      rw [bt (by simpa using hn), hZ c g1]
    · rw [if_neg c, if_pos (by omega), key _ g4 (by omega), g3]
  · rw [if_neg g1, if_neg (by omega), if_neg (by omega), key _ g4 (by omega), g3]

/-! ### Significands moved up -/
variable {a b c : BitVec 64} {na nb nc : Bool} {ca cb cc ea eb ec : Int} {ma mb mc : BitVec 64} {pa pb pc : Nat}
theorem F260_ok (h : Fm e m) (f : FinP e m a na ca ea ma pa) : (F260 e m na ca ea ma).1.toNat = ma.toNat * 2 ^ (63 - m.toNat) ∧ (F260 e m na ca ea ma).2 = ea - (63 - m.toNat : Nat) := by
  have h4 := h.m52
  have r := f.range h
  unfold F260 F260_1
  have e1 : (63#8 - m).toNat = 63 - m.toNat := sub8 (by show m.toNat ≤ 63; omega)
  have w1 : w16 ((63 - m.toNat : Nat) : Int) = ((63 - m.toNat : Nat) : Int) := w16_id (by omega)
  rw [e1, w1]
  refine ⟨?_, w16_id (by omega)⟩
  refine shl_nat _ _ ?_
  have := Nat.mul_lt_mul_of_pos_right f.hi (pow_pos2 (63 - m.toNat))
  rw [← Nat.pow_add] at this
  exact Nat.lt_of_lt_of_le this (pow_le (by omega))
theorem top_lo (h : Fm e m) (f : FinP e m a na ca ea ma pa) : 2 ^ 63 ≤ ma.toNat * 2 ^ (63 - m.toNat) := by
  have h4 := h.m52
  have := Nat.mul_le_mul_right (2 ^ (63 - m.toNat)) f.lo
  rw [← Nat.pow_add, show m.toNat + (63 - m.toNat) = 63 from by omega] at this
  exact this

theorem F274_ok (h : Fm e m) (f : FinP e m a na ca ea ma pa) : ∃ h1 h0, F274 e m na ca ea ma = (na, ea - (63 - m.toNat : Nat) - 63, h1, h0) ∧ v2 h1 h0 = ma.toNat * 2 ^ (63 - m.toNat) * 2 ^ 63 ∧ Nm (v2 h1 h0) := by
  have h4 := h.m52
  have r := f.range h
  obtain ⟨t1, t2⟩ := F260_ok h f
  have tl := top_lo h f
  unfold F274 F274_1
  simp only [lt]
  generalize F260 e m na ca ea ma = t at *
  have hl := t.1.isLt
  rw [t2, w16_id (by omega)]
  refine ⟨_, _, rfl, ?_⟩
  have hv : v2 (t.1 >>> 1) (t.1 <<< 63) = t.1.toNat * 2 ^ 63 := by
    unfold v2
    rw [shr_nat, BitVec.toNat_shiftLeft, Nat.shiftLeft_eq]
    have p63 : (2 : Nat) ^ 63 = 9223372036854775808 := rfl
    rw [p64, p63]
    omega
  rw [hv, t1]
  refine ⟨rfl, ?_, ?_, ?_⟩
  · have := Nat.mul_le_mul_right (2 ^ 63) tl
    rw [← Nat.pow_add] at this
    exact Nat.le_trans (pow_le (by omega)) this
  · rw [← t1]
    have := Nat.mul_lt_mul_of_pos_right hl (pow_pos2 63)
    rw [← Nat.pow_add] at this
    exact this
  · refine Nat.mod_eq_zero_of_dvd ?_
    exact Nat.dvd_trans (Nat.pow_dvd_pow 2 (by omega)) (Nat.dvd_mul_left (2 ^ 63) _)

/-- The fraction in units of 2^-L. -/
theorem FinP.units (f : FinP e m a na ca ea ma pa) {L : Nat} (hL : -(L : Int) ≤ ea) : ma.toNat * 2 ^ ea.toNat * 2 ^ L = ma.toNat * 2 ^ (ea + L).toNat * 2 ^ (-ea).toNat := by
  have : 2 ^ ea.toNat * 2 ^ L = 2 ^ (ea + L).toNat * 2 ^ (-ea).toNat := by
    simp only [← Nat.pow_add]; congr 1; omega
  grind

theorem SM_zero {na nb : Bool} {VB L : Nat} (h : VB ≠ 0) : SM e m mode na 0 nb VB L = RQ e m mode nb VB (2 ^ L) := by
  unfold SM
  by_cases hn : na = nb
  · rw [if_pos hn, hn, Nat.zero_add]
  · rw [if_neg hn, if_neg (by omega), if_neg (by omega), Nat.sub_zero]

theorem bindc {α β : Type} {x : Option α} {f g : α → Option β} (h : ∀ y, f y = g y) : x.bind f = x.bind g := by rw [funext h]
/-- An operand to both, its class told by three bits. -/
theorem opd (h : Fm e m) (x : BitVec 64) : ∃ (neg : Bool) (c ex : Int) (man bits : BitVec 64) (ng vn : Bool) (num den : Nat),
    F65 e m x = (neg, c, ex, man) ∧ (∀ N, F144 N e m x = some (bits, ng, c, vn, num, den)) ∧
    (((c == 4) = true ∧ (c == 3) = false ∧ (c == 0) = false) ∨
     ((c == 4) = false ∧ (c == 3) = true ∧ (c == 0) = false ∧ bits = F67 e m neg ∧ neg = ng) ∨
     ((c == 4) = false ∧ (c == 3) = false ∧ (c == 0) = true ∧ bits = F251 e m neg ∧ neg = ng ∧ neg = vn ∧ num = 0 ∧ den = 1 ∧ ex = 0 ∧ man = 0#64) ∨
     ((c == 4) = false ∧ (c == 3) = false ∧ (c == 0) = false ∧ bits = x &&& F69 e m ∧ neg = ng ∧ neg = vn ∧ num = man.toNat * 2 ^ ex.toNat ∧ den = 2 ^ (-ex).toNat ∧ ∃ P, FinP e m x neg c ex man P)) := by
  rcases opn h x with ⟨na, ha, xa, ha'⟩ | ⟨na, ha, xa, ha'⟩ | ⟨na, ha, xa, ha'⟩ | ⟨na, ca, ea, ma, pa, fa⟩
  · exact ⟨_, _, _, _, _, _, _, _, _, ha, ha', .inl ⟨rfl, rfl, rfl⟩⟩
  · exact ⟨_, _, _, _, _, _, _, _, _, ha, ha', .inr (.inl ⟨rfl, rfl, rfl, rfl, rfl⟩)⟩
  · exact ⟨_, _, _, _, _, _, _, _, _, ha, ha', .inr (.inr (.inl ⟨rfl, rfl, rfl, rfl, rfl, rfl, rfl, rfl, rfl, rfl⟩))⟩
  · exact ⟨_, _, _, _, _, _, _, _, _, fa.f65, fa.f144, .inr (.inr (.inr ⟨fa.cls.1, fa.cls.2.1, fa.cls.2.2, rfl, rfl, rfl, rfl, rfl, _, fa⟩))⟩

theorem ex_zero {N : Nat} (h : Fm e m) {na nb : Bool} {ad bd : Nat} (Z : BitVec 64 × BitVec 8) (had : 0 < ad) (hbd : 0 < bd) (b2 : blen ad ≤ 100000) (b4 : blen bd ≤ 100000) :
    ((F146 N na 0 ad nb 0 bd).bind fun y => bif y.2.1 == 0 then some Z else (F136 N e m mode y.1 y.2.1 y.2.2).bind fun z => some (z.1, z.2)) = some Z := by
  have z0 := bl0
  obtain ⟨ng, num, den, h1, h2, h3, h4, h5⟩ := F146_ok (N := N) (na := na) (nb := nb) (an := 0) (ad := ad) (bn := 0) (bd := bd) (VA := 0) (VB := 0) (L := 1) (by simp) (by simp) (by decide) had hbd (by omega) b2 (by omega) b4
  rw [h1]
  have hn : num = 0 := by
    rcases h5 with ⟨_, _, g⟩ | ⟨_, _, _, g⟩ | ⟨_, _, _, g⟩ <;> simpa using g
  simp only [Option.bind_some]
  rw [bt (by simpa using hn)]

/-- A finite number, rounded as it is, in units of 2^-L. -/
theorem RQ_fin (h : Fm e m) (f : FinP e m a na ca ea ma pa) {L : Nat} (hL : 2000 ≤ L) : RQ e m mode neg (ma.toNat * 2 ^ ea.toNat) (2 ^ (-ea).toNat) = RQ e m mode neg (ma.toNat * 2 ^ (ea + L).toNat) (2 ^ L) := by
  have := f.range h
  exact RQ_L f.ne (by omega)

theorem add_eq (h : Fm e m) (a b : BitVec 64) {N : Nat} : Bo (F188 N e m mode a b) (F192 N e m mode a b) := by
  unfold F188 F188_1 F192 F192_1
  simp only [lt]
  rw [h.ok, Bool.not_true, bf rfl, bf rfl]
  obtain ⟨L, hL⟩ : ∃ L : Nat, L = 12000 := ⟨_, rfl⟩
  have z0 := bl0
  have z1 := bl1
  have h4 := h.m52
  obtain ⟨na, ca, ea, ma, ba, ga, va, an, ad, ha, ha', alta⟩ := opd h a
  obtain ⟨nb, cb, eb, mb, bb, gb, vb, bn, bd, hb, hb', altb⟩ := opd h b
  rw [ha, hb, ha', hb']
  simp only [Option.bind_some, F188_2, F188_3, F188_4, F188_5, F188_6, F192_2, F192_3, F192_4, F192_5, F192_6, F192_7, F192_8, F192_9, F271, F271_1, F271_2, F271_3, lt]
  rcases alta with ⟨a4, a3, a0⟩ | ⟨a4, a3, a0, rfl, rfl⟩ | ⟨a4, a3, a0, rfl, rfl, rfl, rfl, rfl, rfl, rfl⟩ | ⟨a4, a3, a0, rfl, rfl, rfl, rfl, rfl, pa, fa⟩ <;>
  rcases altb with ⟨b4, b3, b0⟩ | ⟨b4, b3, b0, rfl, rfl⟩ | ⟨b4, b3, b0, rfl, rfl, rfl, rfl, rfl, rfl, rfl⟩ | ⟨b4, b3, b0, rfl, rfl, rfl, rfl, rfl, pb, fb⟩ <;>
  simp only [a4, a3, a0, b4, b3, b0, klit, cond_true, cond_false]
  case inr.inr.inr.inr.inr.inr =>
    obtain ⟨s1, s0, t1, t2, t3⟩ := F274_ok h fa
    obtain ⟨u1, u0, v1, v2', v3⟩ := F274_ok h fb
    have r1 := fa.range h
    have r2 := fb.range h
    have hs := sum_ok (N := N) (mode := mode) (na := na) (nb := nb) (L := L) h t3 v3 (xa := ea - (63 - m.toNat : Nat) - 63) (xb := eb - (63 - m.toNat : Nat) - 63) (by omega) (by omega) (by omega)
    rw [t1, v1]
    simp only []
    rw [hs]
    refine ⟨_, rfl, ?_⟩
    have e1 : v2 s1 s0 * 2 ^ (ea - (63 - m.toNat : Nat) - 63 + L).toNat = ma.toNat * 2 ^ (ea + L).toNat := by
      rw [t2, Nat.mul_assoc, Nat.mul_assoc, ← Nat.pow_add, ← Nat.pow_add]; congr 2; omega
    have e2 : v2 u1 u0 * 2 ^ (eb - (63 - m.toNat : Nat) - 63 + L).toNat = mb.toNat * 2 ^ (eb + L).toNat := by
      rw [v2', Nat.mul_assoc, Nat.mul_assoc, ← Nat.pow_add, ← Nat.pow_add]; congr 2; omega
    rw [e1, e2]
    have n1 := fa.bnum h
    have n2 := fb.bnum h
    have d1 := fa.bden h
    have d2 := fb.bden h
    have key := ex_sum (N := N) (mode := mode) (na := na) (nb := nb) h (bif na == nb then (F251 e m na, 0#8) else (F251 e m (mode == 4#8), 0#8)) (fa.units (L := L) (by omega)) (fb.units (L := L) (by omega)) (pow_pos2 _) (pow_pos2 _) (by omega) (by omega) (by omega) (by omega)
      (.inl (Nat.mul_ne_zero fa.ne (pne _))) (fun _ hn => bf (by simpa using hn))
    show _ = some (SM e m mode na (ma.toNat * 2 ^ (ea + L).toNat) nb (mb.toNat * 2 ^ (eb + L).toNat) L)
    rw [← key]
    refine bindc fun y => ?_
    cases y.2.1 == 0 <;> cases na == nb <;> rfl
  case inr.inr.inr.inr.inr.inl =>
    have r1 := fa.range h
    have n1 := fa.bnum h
    have d1 := fa.bden h
    rw [(round_eq h fa h).1]
    refine ⟨_, rfl, ?_⟩
    have hVA : ma.toNat * 2 ^ (ea + L).toNat ≠ 0 := Nat.mul_ne_zero fa.ne (pne _)
    have key := ex_sum (N := N) (mode := mode) (na := na) (nb := nb) h (bif na == nb then (F251 e m na, 0#8) else (F251 e m (mode == 4#8), 0#8)) (fa.units (L := L) (by omega)) (show 0 * 2 ^ L = 0 * 1 by simp) (pow_pos2 _) (by decide) (by omega) (by omega) (by omega) (by omega)
      (.inl hVA) (fun c => (hVA c).elim)
    rw [RQ_fin h fa (L := L) (by omega), ← SM_zero (na := nb) hVA, SM_comm, ← key]
    refine bindc fun y => ?_
    cases y.2.1 == 0 <;> cases na == nb <;> rfl
  case inr.inr.inl.inr.inr.inr =>
    have r1 := fb.range h
    have n1 := fb.bnum h
    have d1 := fb.bden h
    rw [(round_eq h fb h).1]
    refine ⟨_, rfl, ?_⟩
    have hVA : mb.toNat * 2 ^ (eb + L).toNat ≠ 0 := Nat.mul_ne_zero fb.ne (pne _)
    have key := ex_sum (N := N) (mode := mode) (na := na) (nb := nb) h (bif na == nb then (F251 e m na, 0#8) else (F251 e m (mode == 4#8), 0#8)) (show 0 * 2 ^ L = 0 * 1 by simp) (fb.units (L := L) (by omega)) (by decide) (pow_pos2 _) (by omega) (by omega) (by omega) (by omega)
      (.inr hVA) (fun c => (hVA c.symm).elim)
    rw [RQ_fin h fb (L := L) (by omega), ← SM_zero (na := na) hVA, ← key]
    refine bindc fun y => ?_
    cases y.2.1 == 0 <;> cases na == nb <;> rfl
  case inr.inr.inl.inr.inr.inl =>
    have key := ex_zero (N := N) (mode := mode) (na := na) (nb := nb) (ad := 1) (bd := 1) h (bif na == nb then (F251 e m na, 0#8) else (F251 e m (mode == 4#8), 0#8)) (by decide) (by decide) (by omega) (by omega)
    refine ⟨bif na == nb then (F251 e m na, 0#8) else (F251 e m (mode == 4#8), 0#8), ?_, ?_⟩
    · rw [F259_eq]
      cases na <;> cases nb <;> rfl
    · rw [← key]
      refine bindc fun y => ?_
      cases y.2.1 == 0 <;> cases na == nb <;> rfl
  all_goals first
    | exact ⟨_, rfl, rfl⟩
    | cases na <;> cases nb <;> exact ⟨_, rfl, rfl⟩
theorem sub_eq (h : Fm e m) (a b : BitVec 64) {N : Nat} : Bo (F189 N e m mode a b) (F193 N e m mode a b) := by
  unfold F189 F193
  simp only [lt]
  obtain ⟨r, h1, h2⟩ := add_eq (mode := mode) h a (b ^^^ F70 e m) (N := N)
  rw [h1, h2]
  exact ⟨_, rfl, rfl⟩
end
end Go.Proofs.YfwaawGreat
