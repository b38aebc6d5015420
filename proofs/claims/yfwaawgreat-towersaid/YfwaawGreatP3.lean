/-
  expand: put, whole.
-/
import Derived.Test.YfwaawGreatP2
import Derived.Test.YfwaawGreatL3
import Derived.Test.YfwaawGreatG51
namespace Go.Proofs.YfwaawGreat
open Go.Aw
set_option linter.unusedVariables false
set_option linter.unusedSimpArgs false

/-- Digits laid out: n of them, spelling D, the first not zero. -/
structure XI (dig : Nat → BitVec 8) (n D : Nat) : Prop where
  d : ∀ c ∈ bys n dig, isd c
  v : dval (bys n dig) = D
  f : n ≠ 0 → 10 ^ (n - 1) ≤ D
theorem XI.z {dig : Nat → BitVec 8} {D : Nat} (h : XI dig 0 D) : D = 0 := by rw [← h.v]; rfl
theorem XI.lt {dig : Nat → BitVec 8} {n D : Nat} (h : XI dig n D) : D < 10 ^ n := by
  have := dval_lt h.d
  rwa [bys_len, h.v] at this
theorem XI.snoc {dig : Nat → BitVec 8} {n D : Nat} (h : XI dig n D) {c : BitVec 64} (hc : c.toNat ≤ 9) (hn : n ≠ 0 ∨ c.toNat ≠ 0) : XI (upd dig n (BitVec.ofInt 8 (((48#64) + c).toNat : Int))) (n + 1) (10 * D + c.toNat) := by
  obtain ⟨d1, d2⟩ := dig8 hc
  refine ⟨?_, ?_, ?_⟩
  · rw [bys_snoc]
    intro x hx
    rcases List.mem_append.1 hx with k | k
    · exact h.d x k
    · rw [List.mem_singleton.1 k]; exact d1
  · rw [bys_snoc, dval_snoc, h.v, d2]
  · intro _
    rw [Nat.add_sub_cancel]
    by_cases h0 : n = 0
    · subst h0
      rcases hn with k | k
      · exact (k rfl).elim
      · rw [Nat.pow_zero]; omega
    · have h1 := h.f h0
      have h2 : 10 ^ n = 10 * 10 ^ (n - 1) := by rw [Nat.mul_comm, ← Nat.pow_succ]; exact congrArg (fun t => 10 ^ t) (by omega)
      rw [h2]; omega
section
variable {N : Nat} {sig prec : Int}
theorem umax1 (x : BitVec 64) : (umax x 1#64).toNat = max x.toNat 1 := by
  unfold umax
  have h1 : (1#64).toNat = 1 := rfl
  rw [h1]
  by_cases h : x.toNat < 1
  · rw [bt (decide_eq_true h), h1]; omega
  · rw [bf (decide_eq_false h)]; omega
/-- put. -/
theorem F282_ok (hN : 20 ≤ N) {dig : Nat → BitVec 8} {n D : Nat} {v : BitVec 64} (h : XI dig n D) (hv : v.toNat < 10 ^ 18) (hn : n + 18 ≤ 1440) (bh : Bool) {w : Int} (hw : -5000 ≤ w ∧ w ≤ 5000) :
    ∃ dig' n', F282 N dig (n : Int) (w + n - 1) sig prec v bh = some (dig', ((n' : Nat) : Int), (bif bh then w - 18 else w) + n' - 1, sig, prec) ∧ XI dig' n' (D * 10 ^ 18 + v.toNat) ∧ n ≤ n' ∧ n' ≤ n + 18 := by
  unfold F282 F282_1
  by_cases hz : v.toNat = 0 ∧ n = 0
  · have hD := (hz.2 ▸ h).z
    rw [bt (by rw [eq_bv, show (0#64).toNat = 0 from rfl, decide_eq_true hz.1, hz.2]; rfl)]
    unfold F282_2
    refine ⟨dig, n, ?_, ?_, by omega, by omega⟩
    · cases bh with
      | true => rw [bt rfl, w64_id (by omega)]; simp only [cond_true]; rw [show w + (n : Int) - 1 - 18 = w - 18 + (n : Int) - 1 from by omega]
      | false => rw [bf rfl]; simp only [cond_false]
    · rw [hD, hz.1]; rw [hD] at h; simpa using h
  · rw [bf (by
      rw [eq_bv, show (0#64).toNat = 0 from rfl, Bool.eq_false_iff]
      intro k
      rw [Bool.and_eq_true, decide_eq_true_eq, beq_iff_eq] at k
      exact hz ⟨k.1, by omega⟩)]
    have key : ∀ (M j : Nat) (p : BitVec 64) (dg' : Nat → BitVec 8) (n' : Nat), 18 - j < M → j ≤ 18 → p.toNat = 10 ^ (17 - j) → XI dg' n' (D * 10 ^ j + v.toNat / 10 ^ (18 - j)) → n ≤ n' → n' ≤ n + j →
        ∃ dig'' n'', iterL (F282_L3 N sig prec v bh) M (p, (j : Int), dg', (n' : Int), (bif bh then w - j else w) + n' - 1) = some (dig'', ((n'' : Nat) : Int), (bif bh then w - 18 else w) + n'' - 1, sig, prec) ∧ XI dig'' n'' (D * 10 ^ 18 + v.toNat) ∧ n ≤ n'' ∧ n'' ≤ n + 18 := by
      intro M
      induction M with
      | zero => intro j p dg' n' h1; omega
      | succ M ih =>
        intro j p dg' n' h1 h2 h3 h4 h5 h6
        by_cases hj : j = 18
        · subst hj
          have hstep : F282_L3 N sig prec v bh (p, ((18 : Nat) : Int), dg', (n' : Int), (bif bh then w - ((18 : Nat) : Int) else w) + n' - 1) = some (.inr (dg', (n' : Int), (bif bh then w - ((18 : Nat) : Int) else w) + n' - 1, sig, prec)) := by
            unfold F282_L3 F282_L3b F282_4
            simp only []
            rw [bf (decide_eq_false (by omega))]
            rfl
          rw [iterL, hstep]
          refine ⟨dg', n', rfl, ?_, h5, h6⟩
          rw [Nat.sub_self, Nat.pow_zero, Nat.div_one] at h4
          exact h4
        · have hc : ((v / p) % 10#64).toNat = v.toNat / 10 ^ (17 - j) % 10 := by
            rw [BitVec.toNat_umod, BitVec.toNat_udiv, h3]; rfl
          have hc9 : ((v / p) % 10#64).toNat ≤ 9 := by rw [hc]; omega
          have hp0 : p ≠ 0#64 := by
            intro k
            rw [k] at h3
            have := pt_pos (17 - j)
            rw [← h3] at this
            exact absurd this (by decide)
          have hp' : (umax (p / 10#64) 1#64).toNat = 10 ^ (17 - (j + 1)) := by
            rw [umax1, BitVec.toNat_udiv, h3, show (10#64).toNat = 10 from rfl]
            by_cases hj7 : j = 17
            · subst hj7; rfl
            · rw [show 17 - j = (17 - (j + 1)) + 1 from by omega, Nat.pow_succ, Nat.mul_div_cancel _ (by decide)]
              have := pt_pos (17 - (j + 1))
              omega
          have hval : D * 10 ^ (j + 1) + v.toNat / 10 ^ (18 - (j + 1)) = 10 * (D * 10 ^ j + v.toNat / 10 ^ (18 - j)) + ((v / p) % 10#64).toNat := by
            rw [hc, show 18 - (j + 1) = 17 - j from by omega, show 18 - j = (17 - j) + 1 from by omega, Nat.pow_succ, Nat.pow_succ, ← Nat.div_div_eq_div_mul]
            generalize v.toNat / 10 ^ (17 - j) = u
            generalize 10 ^ j = Q
            have : D * (Q * 10) = 10 * (D * Q) := by rw [← Nat.mul_assoc, Nat.mul_comm]
            omega
          have hw18 : (bif bh then w - 18 else w) = (bif bh then w - ((18 : Nat) : Int) else w) := rfl
          by_cases hs : n' = 0 ∧ ((v / p) % 10#64).toNat = 0
          · have hstep : F282_L3 N sig prec v bh (p, (j : Int), dg', (n' : Int), (bif bh then w - j else w) + n' - 1) = some (.inl (umax (p / 10#64) 1#64, ((j + 1 : Nat) : Int), dg', (n' : Int), (bif bh then w - ((j + 1 : Nat) : Int) else w) + n' - 1)) := by
              unfold F282_L3 F282_L3b F282_4
              simp only []
              rw [bt (decide_eq_true (by omega)), bt (by rw [bne_iff_ne]; exact hp0)]
              unfold F282_6 F282_7 F282_8
              rw [bt (by rw [eq_bv, hs.2, hs.1]; rfl)]
              unfold F282_9 F282_5
              cases bh with
              | true => simp only [cond_true]; rw [w64_id (n := (j : Int) + 1) (by omega), w64_id (by omega), show w - (j : Int) + (n' : Int) - 1 - 1 = w - ((j + 1 : Nat) : Int) + (n' : Int) - 1 from by omega]; rfl
              | false => simp only [cond_false]; rw [w64_id (n := (j : Int) + 1) (by omega)]; rfl
            rw [iterL, hstep]
            refine ih (j + 1) _ dg' n' (by omega) (by omega) hp' ?_ h5 (by omega)
            rw [hval, hs.2, Nat.add_zero]
            have h4' := h4
            rw [hs.1] at h4'
            have := h4'.z
            rw [this] at h4 ⊢
            exact h4
          · have hsn : n' ≠ 0 ∨ ((v / p) % 10#64).toNat ≠ 0 := by omega
            have hstep : F282_L3 N sig prec v bh (p, (j : Int), dg', (n' : Int), (bif bh then w - j else w) + n' - 1) = some (.inl (umax (p / 10#64) 1#64, ((j + 1 : Nat) : Int), upd dg' n' (BitVec.ofInt 8 (((48#64) + ((v / p) % 10#64)).toNat : Int)), ((n' + 1 : Nat) : Int), (bif bh then w - ((j + 1 : Nat) : Int) else w) + ((n' + 1 : Nat) : Int) - 1)) := by
              unfold F282_L3 F282_L3b F282_4
              simp only []
              rw [bt (decide_eq_true (by omega)), bt (by rw [bne_iff_ne]; exact hp0)]
              unfold F282_6 F282_7 F282_8
              rw [bf (by
                rw [eq_bv, show (0#64).toNat = 0 from rfl, Bool.eq_false_iff]
                intro k
                rw [Bool.and_eq_true, decide_eq_true_eq, beq_iff_eq] at k
                exact hs ⟨by omega, k.2⟩)]
              unfold F282_12
              rw [bt (decide_eq_true (by omega)), bt (by simp; omega)]
              unfold F282_13 F282_10 F282_11 F282_5
              rw [Int.toNat_natCast, w64_id (n := (n' : Int) + 1) (by omega), w64_id (n := (j : Int) + 1) (by omega), show (n' : Int) + 1 = ((n' + 1 : Nat) : Int) from by omega]
              cases bh with
              | true => simp only [cond_true, Bool.not_true, cond_false]; rw [show w - (j : Int) + (n' : Int) - 1 = w - ((j + 1 : Nat) : Int) + ((n' + 1 : Nat) : Int) - 1 from by omega]; rfl
              | false => simp only [cond_true, Bool.not_false, cond_false]; rw [w64_id (by omega), show w + (n' : Int) - 1 + 1 = w + ((n' + 1 : Nat) : Int) - 1 from by omega]; rfl
            rw [iterL, hstep]
            refine ih (j + 1) _ _ (n' + 1) (by omega) (by omega) hp' ?_ (by omega) (by omega)
            rw [hval]
            exact h4.snoc hc9 hsn
    have h0 := key N 0 (100000000000000000#64) dig n (by omega) (by omega) (by rfl) (by
      rw [Nat.pow_zero, Nat.mul_one, Nat.sub_zero, Nat.div_eq_of_lt hv, Nat.add_zero]; exact h) (by omega) (by omega)
    have e0 : (bif bh then w - ((0 : Nat) : Int) else w) = w := by cases bh with | true => (show w - 0 = w); omega | false => rfl
    rw [e0] at h0
    exact h0

/-! ### Limbs -/
theorem vb_cons (w : Nat → BitVec 64) : ∀ j, vb (j + 1) w = (w 0).toNat + 2 ^ 64 * vb j (fun t => w (t + 1))
  | 0 => by simp [vb]
  | j + 1 => by
    have ih := vb_cons w j
    rw [vb, ih]
    rw [show vb (j + 1) (fun t => w (t + 1)) = vb j (fun t => w (t + 1)) + (w (j + 1)).toNat * 2 ^ (64 * j) from rfl]
    rw [show 64 * (j + 1) = 64 + 64 * j from by omega, Nat.pow_add, Nat.mul_add]
    generalize 2 ^ (64 * j) = P
    generalize (2 : Nat) ^ 64 = B
    rw [Nat.mul_left_comm B, Nat.add_assoc]
theorem vb_step (w : Nat → BitVec 64) (k j : Nat) : vb (j + 1) (fun t => w (k + t)) = (w k).toNat + 2 ^ 64 * vb j (fun t => w (k + 1 + t)) := by
  rw [vb_cons]
  congr 3
  funext t
  rw [show k + (t + 1) = k + 1 + t from by omega]
end
end Go.Proofs.YfwaawGreat
