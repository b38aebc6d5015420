/-
  ryu's digits: the loops.
-/
import Derived.Test.YfwaawGreatK9
namespace Go.Proofs.YfwaawGreat
open Go.Aw
set_option linter.unusedVariables false
set_option linter.unusedSimpArgs false

abbrev RyT := Int × BitVec 64 × BitVec 64 × BitVec 64 × Bool × Bool × Bool × BitVec 64
/-- The span after j turns, j at least 1. -/
structure RySt (l c A B HH : Nat) (ev : Prop) [Decidable ev] (j : Nat) (v : RyT) : Prop where
  j1 : 1 ≤ j
  d : v.1 = j
  low : v.2.1.toNat = l * A / (B * 10 ^ j)
  mid : v.2.2.1.toNat = c * A / (B * 10 ^ j)
  high : v.2.2.2.1.toNat = HH / 10 ^ j
  lw : v.2.2.2.2.1 = decide (B * 10 ^ j ∣ l * A)
  mw : v.2.2.2.2.2.1 = decide (B * 10 ^ (j - 1) ∣ c * A)
  en : v.2.2.2.2.2.2.1 = decide ev
  last : v.2.2.2.2.2.2.2.toNat = c * A / (B * 10 ^ (j - 1)) % 10
theorem div10 (x : BitVec 64) : (x / 10#64).toNat = x.toNat / 10 := by rw [BitVec.toNat_udiv]; rfl
theorem mod10 (x : BitVec 64) : (x % 10#64).toNat = x.toNat % 10 := by rw [BitVec.toNat_umod]; rfl
theorem dvd10 {x B j : Nat} (hB : 0 < B) : B * 10 ^ (j + 1) ∣ x ↔ B * 10 ^ j ∣ x ∧ x / (B * 10 ^ j) % 10 = 0 := by
  have hU : 0 < B * 10 ^ j := Nat.mul_pos hB (pt_pos j)
  rw [p10_succ]
  generalize B * 10 ^ j = U at *
  constructor
  · rintro ⟨k, hk⟩
    rw [hk, Nat.mul_assoc, Nat.mul_div_cancel_left _ hU]
    exact ⟨Nat.dvd_mul_right _ _, by omega⟩
  · rintro ⟨⟨k, hk⟩, h2⟩
    rw [hk, Nat.mul_div_cancel_left _ hU] at h2
    refine ⟨k / 10, ?_⟩
    rw [hk, Nat.mul_assoc]
    exact congrArg (fun t => U * t) (by omega)
section
variable {N l c h A B HH jt : Nat} {ev : Prop} [Decidable ev]
/-- A drop. -/
theorem RySt.drop (hB : 0 < B) {j : Nat} {v : RyT} (s : RySt l c A B HH ev j v) :
    RySt l c A B HH ev (j + 1) (((j + 1 : Nat) : Int), (F270 v.2.1 v.2.2.1 v.2.2.2.1 v.2.2.2.2.1 v.2.2.2.2.2.1 v.2.2.2.2.2.2.1 v.2.2.2.2.2.2.2)) := by
  obtain ⟨d, low, mid, high, lw, mw, en, last⟩ := v
  obtain ⟨s0, s1, s2, s3, s4, s5, s6, s7, s8⟩ := s
  simp only [] at *
  unfold F270 F270_1 F270_2 F270_3 F270_4 F270_5
  refine ⟨by omega, rfl, ?_, ?_, ?_, ?_, ?_, s7, ?_⟩
  · show (low / 10#64).toNat = _
    rw [div10, s2, lev_div]
  · show (mid / 10#64).toNat = _
    rw [div10, s3, lev_div]
  · show (high / 10#64).toNat = _
    rw [div10, s4, lev_div']
  · show (lw && (low % 10#64 == 0#64)) = _
    rw [s5, eq_bv, mod10, s2, Bool.eq_iff_iff, Bool.and_eq_true, decide_eq_true_eq, decide_eq_true_eq, decide_eq_true_eq, dvd10 hB]
    rfl
  · show (mw && (last == 0#64)) = _
    obtain ⟨i, rfl⟩ : ∃ i, j = i + 1 := ⟨j - 1, by omega⟩
    rw [Nat.add_sub_cancel] at *
    rw [s6, eq_bv, s8, Bool.eq_iff_iff, Bool.and_eq_true, decide_eq_true_eq, decide_eq_true_eq, decide_eq_true_eq, dvd10 hB]
    rfl
  · show (mid % 10#64).toNat = _
    rw [mod10, s3, Nat.add_sub_cancel]
/-- The first drop. -/
theorem RySt.first (hB : 0 < B) {low mid high : BitVec 64} {lw mw en : Bool} (s2 : low.toNat = l * A / B) (s3 : mid.toNat = c * A / B) (s4 : high.toNat = HH) (s5 : lw = decide (B ∣ l * A)) (s6 : mw = decide (B ∣ c * A)) (s7 : en = decide ev) :
    RySt l c A B HH ev 1 (((1 : Nat) : Int), (F270 low mid high lw mw en 0#64)) := by
  have e0 : B * 10 ^ 0 = B := by rw [Nat.pow_zero, Nat.mul_one]
  unfold F270 F270_1 F270_2 F270_3 F270_4 F270_5
  refine ⟨by omega, rfl, ?_, ?_, ?_, ?_, ?_, s7, ?_⟩
  · show (low / 10#64).toNat = _
    rw [div10, s2, lev_div, e0]
  · show (mid / 10#64).toNat = _
    rw [div10, s3, lev_div, e0]
  · show (high / 10#64).toNat = _
    rw [div10, s4, Nat.pow_one]
  · show (lw && (low % 10#64 == 0#64)) = _
    rw [s5, eq_bv, mod10, s2, Bool.eq_iff_iff, Bool.and_eq_true, decide_eq_true_eq, decide_eq_true_eq, decide_eq_true_eq, dvd10 hB, e0]
    rfl
  · show (mw && true) = _
    rw [Bool.and_true, s6, Nat.sub_self, e0]
  · show (mid % 10#64).toNat = _
    rw [mod10, s3, Nat.sub_self, e0]
/-- The exit of a loop. -/
theorem iterL_exit {α β : Type} {L : α → Option (α ⊕ β)} {M : Nat} {v : α} {o : Option β} (h : L v = o.map Sum.inr) : iterL L (M + 1) v = o := by
  rw [iterL, h]
  cases o <;> rfl
theorem mid10 (hjt : ∀ j, 1 ≤ c * A / (B * 10 ^ j) ↔ j ≤ jt) (j : Nat) : 10 ≤ c * A / (B * 10 ^ j) ↔ j + 1 ≤ jt := by
  rw [← hjt, lev_div]; omega
/-- The second loop. -/
theorem loop2 (H : Ends l c h A B HH ev) (hjt : ∀ j, 1 ≤ c * A / (B * 10 ^ j) ↔ j ≤ jt) (hb : jt ≤ 30) : ∀ (M j : Nat) (v : RyT), RySt l c A B HH ev j v → j ≤ jt → jt < M + j → B * 10 ^ j ∣ l * A →
    ∃ j2 v2, RySt l c A B HH ev j2 v2 ∧ j ≤ j2 ∧ j2 ≤ jt ∧ B * 10 ^ j2 ∣ l * A ∧ (j2 = jt ∨ ¬ B * 10 ^ (j2 + 1) ∣ l * A) ∧ iterL (F169_L9 N) M v = F169_2 N v2.1 v2.2.1 v2.2.2.1 v2.2.2.2.1 v2.2.2.2.2.1 v2.2.2.2.2.2.1 v2.2.2.2.2.2.2.1 v2.2.2.2.2.2.2.2 := by
  intro M
  induction M with
  | zero => intro j v s h1 h2; omega
  | succ M ih =>
    intro j v s h1 h2 h3
    have hm := mid10 hjt j
    have hcond : ((decide ((10#64).toNat ≤ v.2.2.1.toNat)) && ((v.2.1 % (10#64)) == (0#64))) = decide (j + 1 ≤ jt ∧ B * 10 ^ (j + 1) ∣ l * A) := by
      rw [show (10#64).toNat = 10 from rfl, s.mid, eq_bv, mod10, s.low, Bool.eq_iff_iff, Bool.and_eq_true, decide_eq_true_eq, decide_eq_true_eq, decide_eq_true_eq, hm, dvd10 H.b]
      exact ⟨fun k => ⟨k.1, h3, k.2⟩, fun k => ⟨k.1, k.2.2⟩⟩
    by_cases k : j + 1 ≤ jt ∧ B * 10 ^ (j + 1) ∣ l * A
    · have hstep : F169_L9 N v = some (.inl (((j + 1 : Nat) : Int), (F270 v.2.1 v.2.2.1 v.2.2.2.1 v.2.2.2.2.1 v.2.2.2.2.2.1 v.2.2.2.2.2.2.1 v.2.2.2.2.2.2.2))) := by
        unfold F169_L9 F169_L9b
        rw [hcond, decide_eq_true k]
        unfold F169_10
        rw [bt rfl]
        simp only [lt]
        unfold F169_11
        rw [s.d, show w16 ((j : Int) + 1) = ((j + 1 : Nat) : Int) by rw [w16_id (by omega)]; omega]
      rw [iterL, hstep]
      obtain ⟨j2, v2, g1, g2, g3, g4, g5, g6⟩ := ih (j + 1) _ (s.drop H.b) k.1 (by omega) k.2
      exact ⟨j2, v2, g1, by omega, g3, g4, g5, g6⟩
    · refine ⟨j, v, s, Nat.le_refl _, h1, h3, ?_, ?_⟩
      · by_cases k2 : j = jt
        · exact Or.inl k2
        · exact Or.inr fun k3 => k ⟨by omega, k3⟩
      · refine iterL_exit ?_
        unfold F169_L9 F169_L9b
        rw [hcond, decide_eq_false k]
        unfold F169_10
        rw [bf rfl]
/-- The first loop. -/
theorem loop1 (H : Ends l c h A B HH ev) (hjt : ∀ j, 1 ≤ c * A / (B * 10 ^ j) ↔ j ≤ jt) (hb : jt ≤ 30) : ∀ (M j : Nat) (v : RyT), RySt l c A B HH ev j v → j ≤ jt → jt < M + j → Pj l A B HH j →
    ∃ j2 v2, RySt l c A B HH ev j2 v2 ∧ j ≤ j2 ∧ j2 ≤ jt ∧ Pj l A B HH j2 ∧ (j2 = jt ∨ ¬ Pj l A B HH (j2 + 1)) ∧ iterL (F169_L12 N) M v = F169_1 N v2.1 v2.2.1 v2.2.2.1 v2.2.2.2.1 v2.2.2.2.2.1 v2.2.2.2.2.2.1 v2.2.2.2.2.2.2.1 v2.2.2.2.2.2.2.2 := by
  intro M
  induction M with
  | zero => intro j v s h1 h2; omega
  | succ M ih =>
    intro j v s h1 h2 h3
    have hm := mid10 hjt j
    have hP : (v.2.1 / (10#64)).toNat < (v.2.2.2.1 / (10#64)).toNat ↔ Pj l A B HH (j + 1) := by
      rw [div10, div10, s.low, s.high]
      unfold Pj
      rw [lev_div, lev_div']
    by_cases k : j + 1 ≤ jt ∧ Pj l A B HH (j + 1)
    · have hstep : F169_L12 N v = some (.inl (((j + 1 : Nat) : Int), (F270 v.2.1 v.2.2.1 v.2.2.2.1 v.2.2.2.2.1 v.2.2.2.2.2.1 v.2.2.2.2.2.2.1 v.2.2.2.2.2.2.2))) := by
        unfold F169_L12 F169_L12b
        rw [bt (decide_eq_true (by rw [show (10#64).toNat = 10 from rfl, s.mid, hm]; exact k.1)), decide_eq_true (hP.2 k.2)]
        unfold F169_13
        rw [bt rfl]
        simp only [lt]
        unfold F169_14
        rw [s.d, show w16 ((j : Int) + 1) = ((j + 1 : Nat) : Int) by rw [w16_id (by omega)]; omega]
      rw [iterL, hstep]
      obtain ⟨j2, v2, g1, g2, g3, g4, g5, g6⟩ := ih (j + 1) _ (s.drop H.b) k.1 (by omega) k.2
      exact ⟨j2, v2, g1, by omega, g3, g4, g5, g6⟩
    · refine ⟨j, v, s, Nat.le_refl _, h1, h3, ?_, ?_⟩
      · by_cases k2 : j = jt
        · exact Or.inl k2
        · exact Or.inr fun k3 => k ⟨by omega, k3⟩
      · refine iterL_exit ?_
        unfold F169_L12 F169_L12b
        by_cases k2 : j + 1 ≤ jt
        · rw [bt (decide_eq_true (by rw [show (10#64).toNat = 10 from rfl, s.mid, hm]; exact k2)), decide_eq_false (fun k3 => k ⟨k2, hP.1 k3⟩)]
          unfold F169_13
          rw [bf rfl]
        · rw [bf (decide_eq_false (by rw [show (10#64).toNat = 10 from rfl, s.mid, hm]; exact k2))]
          unfold F169_13
          rw [bf rfl]
/-- The end. -/
theorem RySt.fin (H : Ends l c h A B HH ev) {j : Nat} {v : RyT} (s : RySt l c A B HH ev j v) (hC : Rd l h A (B * 10 ^ j) ev (c * A / (B * 10 ^ j)) ∨ Rd l h A (B * 10 ^ j) ev (c * A / (B * 10 ^ j) + 1)) (hlt : c * A / (B * 10 ^ j) < 9223372036854775807) :
    ∃ r, F169_2 N v.1 v.2.1 v.2.2.1 v.2.2.2.1 v.2.2.2.2.1 v.2.2.2.2.2.1 v.2.2.2.2.2.2.1 v.2.2.2.2.2.2.2 = some r ∧ r.1.toNat = pick l h A (B * 10 ^ j) c ev ∧ r.2.1 = (j : Int) := by
  obtain ⟨d, low, mid, high, lw, mw, en, last⟩ := v
  obtain ⟨s0, s1, s2, s3, s4, s5, s6, s7, s8⟩ := s
  simp only [] at *
  have hmid1 : (mid + 1#64).toNat = c * A / (B * 10 ^ j) + 1 := by
    rw [BitVec.toNat_add, s3, show (1#64).toNat = 1 from rfl, p64]
    exact Nat.mod_eq_of_lt (by omega)
  have fin5 : ∀ b : Bool, ∃ r, F169_5 N d low mid high lw mw en last b = some r ∧ r.1.toNat = (bif b then c * A / (B * 10 ^ j) + 1 else c * A / (B * 10 ^ j)) ∧ r.2.1 = (j : Int) := by
    intro b
    unfold F169_5
    cases b
    · exact ⟨_, rfl, s3, s1⟩
    · exact ⟨_, rfl, hmid1, s1⟩
  -- the test for a floor outside
  have hout : (mid == low) = decide (c * A / (B * 10 ^ j) = l * A / (B * 10 ^ j)) := by rw [eq_bv, s3, s2]
  have hnear : near (c * A) (B * 10 ^ j) (c * A / (B * 10 ^ j)) = !(decide (5 ≤ last.toNat) && !(decide (last.toNat = 5) && mw && decide (mid.toNat % 2 = 0))) := by
    obtain ⟨i, rfl⟩ : ∃ i, j = i + 1 := ⟨j - 1, by omega⟩
    rw [Nat.add_sub_cancel] at *
    rw [s6, s3, ← near_last (H.U i) (lo := c * A / (B * 10 ^ (i + 1))) (by rw [p10_succ]) s8, p10_succ]
  have hrd := H.rdlo j
  have all : ∀ up : Bool, up = !near (c * A) (B * 10 ^ j) (c * A / (B * 10 ^ j)) → ∃ r, F169_4 N d low mid high lw mw en last up = some r ∧ r.1.toNat = pick l h A (B * 10 ^ j) c ev ∧ r.2.1 = (j : Int) := by
    intro up hup
    have main : ∃ b, F169_4 N d low mid high lw mw en last up = F169_5 N d low mid high lw mw en last b ∧ b = (decide (¬ Rd l h A (B * 10 ^ j) ev (c * A / (B * 10 ^ j))) || up) := by
      have : decide (¬ Rd l h A (B * 10 ^ j) ev (c * A / (B * 10 ^ j))) = ((mid == low) && !(en && lw)) := by
        rw [hout, s7, s5, Bool.eq_iff_iff, decide_eq_true_eq, hrd, Classical.not_not, Bool.and_eq_true, Bool.not_eq_true', Bool.and_eq_false_iff, decide_eq_true_eq, decide_eq_false_iff_not, decide_eq_false_iff_not, ← Classical.not_and_iff_not_or_not]
      rw [this]
      unfold F169_4 F169_6
      refine ⟨_, ?_, rfl⟩
      cases mid == low <;> cases en <;> cases lw <;> rfl
    obtain ⟨b, hb1, hb2⟩ := main
    obtain ⟨r, hr1, hr2, hr3⟩ := fin5 b
    refine ⟨r, by rw [hb1, hr1], ?_, hr3⟩
    rw [hr2, hb2]
    unfold pick
    by_cases q1 : Rd l h A (B * 10 ^ j) ev (c * A / (B * 10 ^ j))
    · rw [decide_eq_false (Classical.not_not.2 q1), decide_eq_true q1, Bool.false_or, Bool.true_and, hup]
      by_cases q2 : Rd l h A (B * 10 ^ j) ev (c * A / (B * 10 ^ j) + 1)
      · rw [decide_eq_true q2]
        cases near (c * A) (B * 10 ^ j) (c * A / (B * 10 ^ j)) <;> rfl
      · rw [decide_eq_false q2, H.only q1 q2]
        rfl
    · rw [decide_eq_true q1, decide_eq_false q1]
      rfl
  unfold F169_2 F169_3 F169_7
  have e1 : (((last == 5#64) && mw) && (mid % 2#64 == 0#64)) = (decide (last.toNat = 5) && mw && decide (mid.toNat % 2 = 0)) := by
    rw [eq_bv, eq_bv, BitVec.toNat_umod]; rfl
  rw [e1, show (5#64).toNat = 5 from rfl]
  by_cases q : (decide (last.toNat = 5) && mw && decide (mid.toNat % 2 = 0)) = true
  · rw [q, bt rfl]
    refine all _ ?_
    rw [hnear, q]
    cases decide (5 ≤ last.toNat) <;> rfl
  · rw [Bool.not_eq_true] at q
    rw [q, bf rfl]
    refine all _ ?_
    rw [hnear, q]
    cases decide (5 ≤ last.toNat) <;> rfl
/-- The digits. -/
theorem F169_ok (H : Ends l c h A B HH ev) (hN : 40 ≤ N) (hjt : ∀ j, 1 ≤ c * A / (B * 10 ^ j) ↔ j ≤ jt) (hb : jt ≤ 30) (hlt : c * A / B < 9223372036854775807)
    {low mid high : BitVec 64} {lw mw en : Bool} (s2 : low.toNat = l * A / B) (s3 : mid.toNat = c * A / B) (s4 : high.toNat = HH) (s5 : lw = decide (B ∣ l * A)) (s6 : mw = decide (B ∣ c * A)) (s7 : en = decide ev) :
    ∃ (r : _) (j2 : Nat), F169 N low mid high lw mw en 0#64 = some r ∧ r.1.toNat = pick l h A (B * 10 ^ j2) c ev ∧ r.2.1 = (j2 : Int) ∧ 1 ≤ j2 ∧ j2 ≤ jt ∧ jt ≤ j2 + 16 ∧
      (∀ j, j2 < j → j ≤ jt → ¬ Rd l h A (B * 10 ^ j) ev (c * A / (B * 10 ^ j)) ∧ ¬ Rd l h A (B * 10 ^ j) ev (c * A / (B * 10 ^ j) + 1)) ∧
      (Rd l h A (B * 10 ^ j2) ev (c * A / (B * 10 ^ j2)) ∨ Rd l h A (B * 10 ^ j2) ev (c * A / (B * 10 ^ j2) + 1)) := by
  have e0 : B * 10 ^ 0 = B := by rw [Nat.pow_zero, Nat.mul_one]
  have hjt1 : 1 ≤ jt := by
    rw [← hjt, Nat.le_div_iff_mul_le (H.U 1), Nat.pow_one, Nat.one_mul]
    have h1 := Nat.mul_le_mul_right A H.c4
    have := H.a
    omega
  have hst := RySt.first (l := l) (c := c) (A := A) (HH := HH) (ev := ev) H.b s2 s3 s4 s5 s6 s7
  have hm := mid10 hjt 0
  rw [e0] at hm
  have hP1 := H.P1
  obtain ⟨M, rfl⟩ : ∃ M, N = M + 1 := ⟨N - 1, by omega⟩
  have hstep : F169_L12 (M + 1) (0, low, mid, high, lw, mw, en, 0#64) = some (.inl (((1 : Nat) : Int), (F270 low mid high lw mw en 0#64))) := by
    unfold F169_L12 F169_L12b
    have : (low / (10#64)).toNat < (high / (10#64)).toNat := by
      rw [div10, div10, s2, s4]
      unfold Pj at hP1
      rw [lev_div, e0, Nat.pow_one] at hP1
      exact hP1
    simp only []
    rw [bt (decide_eq_true (by rw [show (10#64).toNat = 10 from rfl, s3, hm]; exact hjt1)), decide_eq_true this]
    unfold F169_13
    rw [bt rfl]
    rfl
  obtain ⟨j1, v1, g1, g2, g3, g4, g5, g6⟩ := loop1 (N := M + 1) H hjt hb M 1 _ hst hjt1 (by omega) hP1
  have hrun : F169 (M + 1) low mid high lw mw en 0#64 = F169_1 (M + 1) v1.1 v1.2.1 v1.2.2.1 v1.2.2.2.1 v1.2.2.2.2.1 v1.2.2.2.2.2.1 v1.2.2.2.2.2.2.1 v1.2.2.2.2.2.2.2 := by
    unfold F169
    rw [iterL, hstep]
    exact g6
  rw [hrun]
  unfold F169_1 F169_8
  have hle : ∀ j, c * A / (B * 10 ^ j) < 9223372036854775807 := by
    intro j
    refine Nat.lt_of_le_of_lt ?_ hlt
    rw [← Nat.div_div_eq_div_mul]
    exact Nat.div_le_self _ _
  have hno : ∀ j2, j1 ≤ j2 → (∀ j, j2 < j → j ≤ jt → ¬ (ev ∧ B * 10 ^ j ∣ l * A)) → (∀ j, j2 < j → j ≤ jt → ¬ Rd l h A (B * 10 ^ j) ev (c * A / (B * 10 ^ j)) ∧ ¬ Rd l h A (B * 10 ^ j) ev (c * A / (B * 10 ^ j) + 1)) := by
    intro j2 hj hw j h1 h2
    have key : ∀ n, ¬ Rd l h A (B * 10 ^ j) ev n := by
      intro n k
      rcases H.down k with q | q
      · rcases g5 with z | z
        · omega
        · exact z (Pj_mono (by omega) q)
      · exact hw j h1 h2 q
    exact ⟨key _, key _⟩
  have h16 : ∀ j2, (∀ j, j2 < j → j ≤ jt → ¬ Rd l h A (B * 10 ^ j) ev (c * A / (B * 10 ^ j)) ∧ ¬ Rd l h A (B * 10 ^ j) ev (c * A / (B * 10 ^ j) + 1)) → jt ≤ j2 + 16 := by
    intro j2 hn
    rcases Nat.lt_or_ge (j2 + 16) jt with q | q
    · exfalso
      have k1 := hn (jt - 16) (by omega) (by omega)
      have k2 := H.P16 (j := jt - 16) (by rw [show jt - 16 + 16 = jt by omega, hjt]; exact Nat.le_refl _)
      rcases H.up (j := jt - 16) (Or.inl k2) with k | k
      · exact k1.1 k
      · exact k1.2 k
    · exact q
  rw [g1.en, g1.lw]
  by_cases q : ev ∧ B * 10 ^ j1 ∣ l * A
  · rw [decide_eq_true q.1, decide_eq_true q.2, Bool.and_self, bt rfl]
    obtain ⟨j2, v2, f1, f2, f3, f4, f5, f6⟩ := loop2 (N := M + 1) H hjt hb (M + 1) j1 v1 g1 g3 (by omega) q.2
    have hC := H.up (j := j2) (Or.inr ⟨q.1, f4⟩)
    obtain ⟨r, r1, r2, r3⟩ := f1.fin (N := M + 1) H hC (hle j2)
    have hn := hno j2 f2 (fun j k1 k2 k3 => by
      rcases f5 with z | z
      · omega
      · exact z (dvd_mono (by omega) k3.2))
    have et : (v1.1, v1.2.1, v1.2.2.1, v1.2.2.2.1, decide (B * 10 ^ j1 ∣ l * A), v1.2.2.2.2.2.1, decide ev, v1.2.2.2.2.2.2.2) = v1 := by
      rw [← g1.lw, ← g1.en]
    rw [decide_eq_true q.1, decide_eq_true q.2] at et
    rw [et, f6, r1]
    exact ⟨r, j2, rfl, r2, r3, by omega, f3, h16 j2 hn, hn, hC⟩
  · have : (decide ev && decide (B * 10 ^ j1 ∣ l * A)) = false := by
      rw [← Bool.decide_and, decide_eq_false q]
    rw [this, bf rfl, ← g1.en, ← g1.lw]
    have hC := H.up (j := j1) (Or.inl g4)
    obtain ⟨r, r1, r2, r3⟩ := g1.fin (N := M + 1) H hC (hle j1)
    have hn := hno j1 (Nat.le_refl _) (fun j k1 k2 k3 => q ⟨k3.1, dvd_mono (by omega) k3.2⟩)
    rw [r1]
    exact ⟨r, j1, rfl, r2, r3, by omega, g3, h16 j1 hn, hn, hC⟩
end
end Go.Proofs.YfwaawGreat
