/-
  exact.Shortest, the loop.
-/
import Derived.Test.YfwaawGreatK7
namespace Go.Proofs.YfwaawGreat
open Go.Aw
set_option linter.unusedVariables false
set_option linter.unusedSimpArgs false

def near (C B lo : Nat) : Bool := decide (2 * C < (2 * lo + 1) * B) || (decide (2 * C = (2 * lo + 1) * B) && decide (lo % 2 = 0))
/-- The candidate that is taken. -/
def pick (l h A B c : Nat) (ev : Prop) [Decidable ev] : Nat :=
  bif decide (Rd l h A B ev (c * A / B)) && decide (Rd l h A B ev (c * A / B + 1)) then (bif near (c * A) B (c * A / B) then c * A / B else c * A / B + 1)
  else bif decide (Rd l h A B ev (c * A / B)) then c * A / B else c * A / B + 1
theorem cross_half {X Y C D : Nat} (hY : 0 < Y) (hD : 0 < D) (h : X * D = C * Y) (k : Nat) : (2 * X < k * Y ↔ 2 * C < k * D) ∧ (2 * X = k * Y ↔ 2 * C = k * D) := by
  have e1 : 2 * X * D = 2 * C * Y := by rw [Nat.mul_assoc, h, ← Nat.mul_assoc]
  have e2 : k * Y * D = k * D * Y := Nat.mul_right_comm _ _ _
  generalize 2 * X = x at *
  generalize 2 * C = c at *
  generalize k * Y = y at *
  generalize k * D = d at *
  refine ⟨⟨fun g => ?_, fun g => ?_⟩, ⟨fun g => ?_, fun g => ?_⟩⟩
  · have := Nat.mul_lt_mul_of_pos_right g hD
    rw [e1, e2] at this
    exact Nat.lt_of_mul_lt_mul_right this
  · have := Nat.mul_lt_mul_of_pos_right g hY
    rw [← e1, ← e2] at this
    exact Nat.lt_of_mul_lt_mul_right this
  · rw [g, e2] at e1
    exact (Nat.mul_right_cancel hY e1).symm
  · rw [g, ← e2] at e1
    exact Nat.mul_right_cancel hD e1
section
variable {N : Nat} {e m : BitVec 8} {x : BitVec 64} {neg : Bool} {num den sig ex : Nat} {a : Int}
theorem NB.cross (h : NB e m x neg num den sig ex a) {k : Int} {j i : Nat} (hk : k + i = rq a + j) :
    num * 10 ^ (-k).toNat * (sB a * 10 ^ j) = 4 * sig * sA a * (den * 10 ^ k.toNat * 10 ^ i) := by
  unfold sA sB
  have e1 : 10 ^ (-k).toNat * (10 ^ (rq a).toNat * 10 ^ j) = 10 ^ (-rq a).toNat * (10 ^ k.toNat * 10 ^ i) := by
    rw [← Nat.pow_add, ← Nat.pow_add, ← Nat.pow_add, ← Nat.pow_add]; exact congrArg (fun t => 10 ^ t) (by omega)
  have hv := h.v
  generalize 10 ^ (-k).toNat = p1 at *
  generalize 10 ^ (rq a).toNat = p2 at *
  generalize 10 ^ j = p3 at *
  generalize 10 ^ (-rq a).toNat = p4 at *
  generalize 10 ^ k.toNat = p5 at *
  generalize 10 ^ i = p6 at *
  generalize 2 ^ (-a).toNat = q1 at *
  generalize 2 ^ a.toNat = q2 at *
  have : num * p1 * (q1 * p2 * p3) = num * q1 * (p1 * (p2 * p3)) := by grind
  rw [this, hv, e1]
  grind
/-- One turn. -/
theorem NB.turn (h : NB e m x neg num den sig ex a) (hN : 802 ≤ N) {top k16 : Int} {jt n j X Y : Nat} (ht : top = rq a + jt) (hk : k16 = top - 16) (hX : X = num * 10 ^ (-k16).toNat) (hY : Y = den * 10 ^ k16.toNat)
    (hlo : Y * 10000000000000000 ≤ X) (hhi : X < Y * 100000000000000000) (h1 : 1 ≤ n) (h2 : n ≤ 17) (hj : j + n = jt + 1) (htb : -450 ≤ top ∧ top ≤ 450) {c : Int} :
    ∃ d1 d2, mkD N neg ((4 * sig * sA a / (sB a * 10 ^ j) : Nat) : Int) (rq a + j) = some d1 ∧ mkD N neg ((4 * sig * sA a / (sB a * 10 ^ j) + 1 : Nat) : Int) (rq a + j) = some d2 ∧
      F82_L7 N e m (x &&& F69 e m) neg c neg num den top ((X / Y : Nat) : Int) (ncmp (X % Y * 2) Y) (X % Y != 0) (((10 ^ (17 - n) : Nat) : Int), (n : Int)) =
        some (bif decide (Rd (4 * sig - bel m.toNat ex sig) (4 * sig + 2) (sA a) (sB a * 10 ^ j) (sig % 2 = 0) (4 * sig * sA a / (sB a * 10 ^ j))) && decide (Rd (4 * sig - bel m.toNat ex sig) (4 * sig + 2) (sA a) (sB a * 10 ^ j) (sig % 2 = 0) (4 * sig * sA a / (sB a * 10 ^ j) + 1)) then
            (bif near (4 * sig * sA a) (sB a * 10 ^ j) (4 * sig * sA a / (sB a * 10 ^ j)) then .inr d1 else .inr d2)
          else bif decide (Rd (4 * sig - bel m.toNat ex sig) (4 * sig + 2) (sA a) (sB a * 10 ^ j) (sig % 2 = 0) (4 * sig * sA a / (sB a * 10 ^ j))) then .inr d1
          else bif decide (Rd (4 * sig - bel m.toNat ex sig) (4 * sig + 2) (sA a) (sB a * 10 ^ j) (sig % 2 = 0) (4 * sig * sA a / (sB a * 10 ^ j) + 1)) then .inr d2
          else .inl (((10 ^ (17 - n) / 10 : Nat) : Int), ((n + 1 : Nat) : Int))) := by
  have hYp : 0 < Y := by rw [hY]; exact Nat.mul_pos (by have := h.fb.d0; omega) (pt_pos _)
  have hBp : 0 < sB a * 10 ^ j := Nat.mul_pos (sB_pos a) (pt_pos j)
  have hcr := h.cross (k := k16) (j := j) (i := 17 - n) (by omega)
  rw [← hX, ← hY] at hcr
  have hp0 := pt_pos (17 - n)
  have hpl : 10 ^ (17 - n) ≤ 10 ^ 16 := pow_le10 (by omega)
  rw [show (10 : Nat) ^ 16 = 10000000000000000 from rfl] at hpl
  have hlo1 : X / Y / 10 ^ (17 - n) = 4 * sig * sA a / (sB a * 10 ^ j) := by
    rw [Nat.div_div_eq_div_mul]
    exact (div_cross (Nat.mul_pos hYp hp0) hBp hcr).1
  have hall1 : 10000000000000000 ≤ X / Y := (Nat.le_div_iff_mul_le hYp).2 (by rw [Nat.mul_comm]; exact hlo)
  have hall2 : X / Y < 100000000000000000 := (Nat.div_lt_iff_lt_mul hYp).2 (by rw [Nat.mul_comm]; exact hhi)
  have hl1 : 1 ≤ X / Y / 10 ^ (17 - n) := (Nat.le_div_iff_mul_le hp0).2 (by omega)
  have hl2 : X / Y / 10 ^ (17 - n) ≤ X / Y := Nat.div_le_self _ _
  have hev : 10 ^ (17 - n) = 1 ∨ (2 ≤ 10 ^ (17 - n) ∧ 10 ^ (17 - n) % 2 = 0) := by
    by_cases c : n = 17
    · left; rw [c]
    · right
      obtain ⟨i, hi⟩ : ∃ i, 17 - n = i + 1 := ⟨16 - n, by omega⟩
      have := pt_pos i
      rw [hi, Nat.pow_succ]; omega
  have h149 := F149_ok (X := X) (Y := Y) (p := 10 ^ (17 - n)) hYp hev hpl
  have hch := cross_half (Nat.mul_pos hYp hp0) hBp hcr (2 * (X / Y / 10 ^ (17 - n)) + 1)
  rw [hch.1, hch.2] at h149
  rw [hlo1] at h149 hl1 hl2
  obtain ⟨d1, m1, f1⟩ := h.cand hN (n := 4 * sig * sA a / (sB a * 10 ^ j)) (by omega) (by omega) (K := rq a + j) (j := j) rfl (by omega) (c := c)
  obtain ⟨d2, m2, f2⟩ := h.cand hN (n := 4 * sig * sA a / (sB a * 10 ^ j) + 1) (by omega) (by omega) (K := rq a + j) (j := j) rfl (by omega) (c := c)
  refine ⟨d1, d2, m1, m2, ?_⟩
  have et : Int.tdiv ((X / Y : Nat) : Int) ((10 ^ (17 - n) : Nat) : Int) = ((X / Y / 10 ^ (17 - n) : Nat) : Int) := (Int.ofNat_tdiv _ _).symm
  have em : Int.tmod ((X / Y : Nat) : Int) ((10 ^ (17 - n) : Nat) : Int) = ((X / Y % 10 ^ (17 - n) : Nat) : Int) := (Int.ofNat_tmod _ _).symm
  have e10 : Int.tdiv ((10 ^ (17 - n) : Nat) : Int) 10 = ((10 ^ (17 - n) / 10 : Nat) : Int) := (Int.ofNat_tdiv _ 10).symm
  have e2 : Int.tmod ((4 * sig * sA a / (sB a * 10 ^ j) : Nat) : Int) 2 = ((4 * sig * sA a / (sB a * 10 ^ j) % 2 : Nat) : Int) := (Int.ofNat_tmod _ 2).symm
  unfold F82_L7 F82_L7b F82_8
  simp only []
  rw [decide_eq_true (show (n : Int) ≤ 17 by omega), bt rfl, show w64 (w64 (top - (n : Int)) + 1) = rq a + j by rw [w64_id (n := top - (n : Int)) (by omega), w64_id (by omega)]; omega]
  unfold F82_10
  rw [bt (decide_eq_true (by omega)), bt (decide_eq_true (by omega))]
  simp only [lt]
  rw [et, em, hlo1, w64_id (n := ((4 * sig * sA a / (sB a * 10 ^ j) : Nat) : Int)) (by omega)]
  generalize F149 _ _ _ _ = r at *
  unfold F82_11
  rw [e10, w64_id (n := ((10 ^ (17 - n) / 10 : Nat) : Int)) (by omega)]
  unfold F82_12
  rw [f1, Option.bind_some]
  unfold F82_13
  rw [show w64 (((4 * sig * sA a / (sB a * 10 ^ j) : Nat) : Int) + 1) = ((4 * sig * sA a / (sB a * 10 ^ j) + 1 : Nat) : Int) by rw [w64_id (by omega)]; omega, f2, Option.bind_some]
  unfold F82_14 F82_15 F82_16 F82_9
  simp only []
  have hnear : ((decide (r.1 < 0)) || ((r.1 == 0) && (Int.tmod ((4 * sig * sA a / (sB a * 10 ^ j) : Nat) : Int) 2 == 0))) = near (4 * sig * sA a) (sB a * 10 ^ j) (4 * sig * sA a / (sB a * 10 ^ j)) := by
    unfold near
    rw [decide_eq_decide.2 h149.1, e2]
    refine congrArg (fun t => _ || t) ?_
    rw [Bool.eq_iff_iff, Bool.and_eq_true, Bool.and_eq_true, beq_iff_eq, beq_iff_eq, decide_eq_true_eq, decide_eq_true_eq, h149.2]
    omega
  rw [hnear, show w64 ((n : Int) + 1) = ((n + 1 : Nat) : Int) by rw [w64_id (by omega)]; omega]
  generalize decide (Rd (4 * sig - bel m.toNat ex sig) (4 * sig + 2) (sA a) (sB a * 10 ^ j) (sig % 2 = 0) (4 * sig * sA a / (sB a * 10 ^ j))) = b1
  generalize decide (Rd (4 * sig - bel m.toNat ex sig) (4 * sig + 2) (sA a) (sB a * 10 ^ j) (sig % 2 = 0) (4 * sig * sA a / (sB a * 10 ^ j) + 1)) = b2
  generalize near (4 * sig * sA a) (sB a * 10 ^ j) (4 * sig * sA a / (sB a * 10 ^ j)) = b3
  cases b1 <;> cases b2 <;> cases b3 <;> rfl
theorem NB.exact (h : NB e m x neg num den sig ex a) (hN : 802 ≤ N) {jt j2 : Nat} (hl : L10 num den (rq a + jt)) (h2 : j2 ≤ jt) (h16 : jt ≤ j2 + 16)
    (hno : ∀ j, j2 < j → j ≤ jt → ¬ Rd (4 * sig - bel m.toNat ex sig) (4 * sig + 2) (sA a) (sB a * 10 ^ j) (sig % 2 = 0) (4 * sig * sA a / (sB a * 10 ^ j)) ∧ ¬ Rd (4 * sig - bel m.toNat ex sig) (4 * sig + 2) (sA a) (sB a * 10 ^ j) (sig % 2 = 0) (4 * sig * sA a / (sB a * 10 ^ j) + 1))
    (hyes : Rd (4 * sig - bel m.toNat ex sig) (4 * sig + 2) (sA a) (sB a * 10 ^ j2) (sig % 2 = 0) (4 * sig * sA a / (sB a * 10 ^ j2)) ∨ Rd (4 * sig - bel m.toNat ex sig) (4 * sig + 2) (sA a) (sB a * 10 ^ j2) (sig % 2 = 0) (4 * sig * sA a / (sB a * 10 ^ j2) + 1)) :
    F82 N e m x = mkD N neg ((pick (4 * sig - bel m.toNat ex sig) (4 * sig + 2) (sA a) (sB a * 10 ^ j2) (4 * sig) (sig % 2 = 0) : Nat) : Int) (rq a + j2) := by
  obtain ⟨c, hc, h144⟩ := h.f144
  obtain ⟨top, ht1, ht2, ht3, ht4⟩ := F147_ok (N := N) (by omega) (nn := neg) h.fb.n0 h.fb.d0 ⟨h.fb.b1, h.fb.b2⟩ (by have := h.fb.bn; omega) (by have := h.fb.bd; omega)
  have htop := ht2.uniq hl
  subst htop
  unfold F82
  simp only [lt]
  rw [h.f.ok, Bool.not_true]
  unfold F82_1
  rw [bf rfl, h144, Option.bind_some]
  unfold F82_2 F82_3
  simp only []
  have c0 : (c == 0) = false := by rw [beq_eq_false_iff_ne]; omega
  have c3 : (c == 3) = false := by rw [beq_eq_false_iff_ne]; omega
  have c4 : (c == 4) = false := by rw [beq_eq_false_iff_ne]; omega
  rw [c0, bf rfl]
  unfold F82_17
  rw [c3, bf rfl, c4]
  unfold F82_4
  rw [bf rfl, ht1, Option.bind_some]
  unfold F82_5
  obtain ⟨k16, hk⟩ : ∃ k16, k16 = rq a + jt - 16 := ⟨_, rfl⟩
  rw [w64_id (by omega), ← hk]
  unfold F148
  rw [F256_ok (by omega), Option.bind_some]
  unfold F148_1
  simp only []
  obtain ⟨X, hX⟩ : ∃ X, X = num * 10 ^ (-k16).toNat := ⟨_, rfl⟩
  obtain ⟨Y, hY⟩ : ∃ Y, Y = den * 10 ^ k16.toNat := ⟨_, rfl⟩
  have b1 := blen_10 (-k16).toNat
  have b2 := blen_10 k16.toNat
  have b3 := blen_mul num (10 ^ (-k16).toNat)
  have b4 := blen_mul den (10 ^ k16.toNat)
  have b5 := h.fb.bn
  have b6 := h.fb.bd
  have hYp : 0 < Y := by rw [hY]; exact Nat.mul_pos (by have := h.fb.d0; omega) (pt_pos _)
  rw [lim_blen (by omega), lim_blen (by omega), lim_blen (by omega), lim_blen (by omega), Bool.and_self, bt rfl, bt rfl, F209_ok (by rw [← hY]; exact hYp) (by omega) (by omega), Option.bind_some]
  simp only []
  rw [← hX, ← hY]
  have hlo : Y * 10000000000000000 ≤ X := by
    have := (tle_iff (a := k16.toNat + 16) (b := (-k16).toNat) (by omega)).1 hl.lo
    rw [Nat.pow_add, ← Nat.mul_assoc, ← hY, ← hX] at this
    exact this
  have hhi : X < Y * 100000000000000000 := by
    refine Nat.lt_of_not_le fun hge => hl.hi ?_
    refine (tle_iff (num := num) (den := den) (k := rq a + jt + 1) (a := k16.toNat + 17) (b := (-k16).toNat) (by omega)).2 ?_
    rw [Nat.pow_add, ← Nat.mul_assoc, ← hY, ← hX]
    exact hge
  have hall2 : X / Y < 100000000000000000 := (Nat.div_lt_iff_lt_mul hYp).2 (by rw [Nat.mul_comm]; exact hhi)
  unfold F148_2
  have bq : blen (X / Y) ≤ 57 := by rw [blen_le_iff]; exact Nat.lt_trans hall2 (by decide)
  rw [lim_blen (by omega), bt rfl, Option.bind_some]
  simp only []
  have hw : w64 (((BitVec.ofNat 64 (X / Y)).toNat : Nat) : Int) = ((X / Y : Nat) : Int) := by
    generalize X / Y = z at *
    rw [BitVec.toNat_ofNat, p64, Nat.mod_eq_of_lt (by omega), w64_id (by omega)]
  rw [hw]
  unfold F82_6
  have loop : ∀ (M n : Nat), 1 ≤ n → n + j2 ≤ jt + 1 → jt + 1 < M + n + j2 →
      iterL (F82_L7 N e m (x &&& F69 e m) neg c neg num den (rq a + jt) ((X / Y : Nat) : Int) (ncmp (X % Y * 2) Y) (X % Y != 0)) M (((10 ^ (17 - n) : Nat) : Int), (n : Int)) = mkD N neg ((pick (4 * sig - bel m.toNat ex sig) (4 * sig + 2) (sA a) (sB a * 10 ^ j2) (4 * sig) (sig % 2 = 0) : Nat) : Int) (rq a + j2) := by
    intro M
    induction M with
    | zero => intro n h1 h2 h3; omega
    | succ M ih =>
      intro n h1 h2 h3
      obtain ⟨j, hj⟩ : ∃ j, j + n = jt + 1 := ⟨jt + 1 - n, by omega⟩
      obtain ⟨d1, d2, m1, m2, hstep⟩ := h.turn hN (top := rq a + jt) (k16 := k16) (jt := jt) (n := n) (j := j) rfl hk hX hY hlo hhi h1 (by omega) hj (by omega) (c := c)
      rw [iterL, hstep]
      by_cases hje : j = j2
      · subst hje
        unfold pick
        rcases hyes with hy | hy
        · rw [decide_eq_true hy]
          generalize decide (Rd (4 * sig - bel m.toNat ex sig) (4 * sig + 2) (sA a) (sB a * 10 ^ j) (sig % 2 = 0) (4 * sig * sA a / (sB a * 10 ^ j) + 1)) = b2
          generalize near (4 * sig * sA a) (sB a * 10 ^ j) (4 * sig * sA a / (sB a * 10 ^ j)) = b3
          cases b2 <;> cases b3
          · exact m1.symm
          · exact m1.symm
          · exact m2.symm
          · exact m1.symm
        · rw [decide_eq_true hy]
          generalize decide (Rd (4 * sig - bel m.toNat ex sig) (4 * sig + 2) (sA a) (sB a * 10 ^ j) (sig % 2 = 0) (4 * sig * sA a / (sB a * 10 ^ j))) = b2
          generalize near (4 * sig * sA a) (sB a * 10 ^ j) (4 * sig * sA a / (sB a * 10 ^ j)) = b3
          cases b2 <;> cases b3
          · exact m2.symm
          · exact m2.symm
          · exact m2.symm
          · exact m1.symm
      · have hn := hno j (by omega) (by omega)
        rw [decide_eq_false hn.1, decide_eq_false hn.2]
        have hd : 10 ^ (17 - n) / 10 = 10 ^ (17 - (n + 1)) := by
          rw [show 17 - n = 17 - (n + 1) + 1 by omega, Nat.pow_succ, Nat.mul_div_cancel _ (by decide)]
        rw [hd]
        exact ih (n + 1) (by omega) (by omega) (by omega)
  exact loop N 1 (by omega) (by omega) (by omega)
end
end Go.Proofs.YfwaawGreat
