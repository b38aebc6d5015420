/-
  expand: whole.
-/
import Derived.Test.YfwaawGreatP3
import Derived.Test.YfwaawGreatW2
namespace Go.Proofs.YfwaawGreat
open Go.Aw
set_option linter.unusedVariables false
set_option linter.unusedSimpArgs false

theorem T18 : (1000000000000000000#64).toNat = 10 ^ 18 := rfl
theorem t18 : (10 : Nat) ^ 18 = 1000000000000000000 := rfl
section
variable {N : Nat}
/-- A number written across limbs. -/
theorem vb_two {man s : Nat} {w : Nat → BitVec 64} {i : Nat} {x y : BitVec 64} (hs : s < 64) (hx : x.toNat = man * 2 ^ s % 2 ^ 64) (hy : y.toNat = man * 2 ^ s / 2 ^ 64) (hw : ∀ j, w j = 0#64) {K : Nat} (hK : i + 2 ≤ K) :
    vb K (upd (upd w i x) (i + 1) y) = man * 2 ^ s * 2 ^ (64 * i) := by
  rw [vb_zero (m := i + 2) hK (fun j h1 h2 => by rw [upd_ne (by omega), upd_ne (by omega), hw])]
  rw [vb, vb, upd_eq, upd_ne (show i ≠ i + 1 by omega), upd_eq, vb_upd (by omega), vb_upd (by omega)]
  have h0 : vb i w = 0 := by rw [vb_zero (m := 0) (by omega) (fun j h1 h2 => hw j)]; rfl
  rw [h0, hx, hy, Nat.zero_add, show 64 * (i + 1) = 64 + 64 * i from by omega, Nat.pow_add, ← Nat.mul_assoc, ← Nat.add_mul, Nat.mul_comm _ (2 ^ 64), Nat.mod_add_div]
theorem vb_one {man : Nat} {w : Nat → BitVec 64} {i : Nat} {x : BitVec 64} (hx : x.toNat = man) (hw : ∀ j, w j = 0#64) {K : Nat} (hK : i + 1 ≤ K) :
    vb K (upd w i x) = man * 2 ^ (64 * i) := by
  rw [vb_zero (m := i + 1) hK (fun j h1 h2 => by rw [upd_ne (by omega), hw])]
  rw [vb, upd_eq, vb_upd (by omega)]
  have h0 : vb i w = 0 := by rw [vb_zero (m := 0) (by omega) (fun j h1 h2 => hw j)]; rfl
  rw [h0, hx, Nat.zero_add]
theorem shl_mod {x : BitVec 64} {s : Nat} : (x <<< s).toNat = x.toNat * 2 ^ s % 2 ^ 64 := by rw [BitVec.toNat_shiftLeft, Nat.shiftLeft_eq]
theorem shr_div {x : BitVec 64} {s : Nat} (hs : s < 64) (hs0 : s ≠ 0) : (x >>> (64 - s)).toNat = x.toNat * 2 ^ s / 2 ^ 64 := by
  rw [shr_nat]
  have e : (2 : Nat) ^ 64 = 2 ^ (64 - s) * 2 ^ s := by rw [← Nat.pow_add]; exact congrArg (fun t => 2 ^ t) (by omega)
  rw [e, Nat.mul_div_mul_right _ _ (pow_pos2 s)]
/-- Division of the limbs by 10^18. -/
theorem F281_L11_ok (hN : 30 ≤ N) {x1 : Nat → BitVec 64} {gv : Nat → BitVec 64} {gn : Int} (w : Nat → BitVec 64) :
    ∃ (r any : BitVec 64) (w' : Nat → BitVec 64), iterL (F281_L11 N x1 gv gn) N (0#64, 0#64, 17, w) = F281_7 N x1 gv gn r any w' ∧ (∀ K, K = 18 → vb K w = vb K w' * 10 ^ 18 + r.toNat) ∧ r.toNat < 10 ^ 18 ∧ (∀ K, K = 18 → (any = 0#64 ↔ vb K w' = 0)) := by
  have key : ∀ (M i : Nat) (r any : BitVec 64) (w' : Nat → BitVec 64), i + 1 < M → i ≤ 18 → r.toNat < 10 ^ 18 → (∀ j, j < i → w' j = w j) → vb (18 - i) (fun t => w (i + t)) = vb (18 - i) (fun t => w' (i + t)) * 10 ^ 18 + r.toNat → (any = 0#64 ↔ vb (18 - i) (fun t => w' (i + t)) = 0) →
      ∃ (r' any' : BitVec 64) (w'' : Nat → BitVec 64), iterL (F281_L11 N x1 gv gn) M (r, any, (i : Int) - 1, w') = F281_7 N x1 gv gn r' any' w'' ∧ (∀ K, K = 18 → vb K w = vb K w'' * 10 ^ 18 + r'.toNat) ∧ r'.toNat < 10 ^ 18 ∧ (∀ K, K = 18 → (any' = 0#64 ↔ vb K w'' = 0)) := by
    intro M
    induction M with
    | zero => intro i r any w' h; omega
    | succ M ih =>
      intro i r any w' hM hi hr hw he ha
      cases i with
      | zero =>
        refine ⟨r, any, w', ?_, ?_, hr, ?_⟩
        · have hstep : F281_L11 N x1 gv gn (r, any, ((0 : Nat) : Int) - 1, w') = (F281_7 N x1 gv gn r any w').map Sum.inr := by
            unfold F281_L11 F281_L11b F281_12
            simp only []
            rw [bf (decide_eq_false (by omega))]
          rw [iterL, hstep]
          cases F281_7 N x1 gv gn r any w' <;> rfl
        · intro K hK
          rw [Nat.sub_zero] at he
          rw [hK]
          have e1 : (fun t => w (0 + t)) = w := by funext t; rw [Nat.zero_add]
          have e2 : (fun t => w' (0 + t)) = w' := by funext t; rw [Nat.zero_add]
          rw [e1, e2] at he
          exact he
        · intro K hK
          rw [Nat.sub_zero] at ha
          rw [hK]
          have e2 : (fun t => w' (0 + t)) = w' := by funext t; rw [Nat.zero_add]
          rw [e2] at ha
          exact ha
      | succ i =>
        obtain ⟨q, r2, hq, hq1, hq2⟩ := F280_ok (N := N) (by omega) (h := r) (l := w' i) (d := 1000000000000000000#64) (by rw [T18]; exact hr)
        have hstep : F281_L11 N x1 gv gn (r, any, ((i + 1 : Nat) : Int) - 1, w') = some (.inl (r2, any ||| q, (i : Int) - 1, upd w' i q)) := by
          unfold F281_L11 F281_L11b F281_12
          simp only []
          rw [show ((i + 1 : Nat) : Int) - 1 = (i : Int) from by omega, bt (decide_eq_true (by omega)), bt (c := decide (0 ≤ (i : Int)) && decide ((i : Int) < 18)) (by simp; omega), Int.toNat_natCast, hq, bnd, bt (by simp; omega)]
          unfold F281_14 F281_13
          rw [bt (by simp; omega), Int.toNat_natCast, upd_eq, w64_id (by omega)]
        rw [iterL, hstep]
        have hv2 : v2 r (w' i) = r.toNat * 2 ^ 64 + (w' i).toNat := rfl
        have hdm := Nat.div_add_mod (v2 r (w' i)) (10 ^ 18)
        rw [T18] at hq1 hq2
        refine ih i r2 (any ||| q) (upd w' i q) (by omega) (by omega) ?_ ?_ ?_ ?_
        · rw [hq2]; exact Nat.mod_lt _ (by decide)
        · intro j hj; rw [upd_ne (by omega)]; exact hw j (by omega)
        · rw [show 18 - i = (18 - (i + 1)) + 1 from by omega, vb_step, vb_step, upd_eq]
          have e1 : vb (18 - (i + 1)) (fun t => upd w' i q (i + 1 + t)) = vb (18 - (i + 1)) (fun t => w' (i + 1 + t)) := vb_congr fun j hj => upd_ne (by omega)
          rw [e1, he, ← hw i (by omega)]
          generalize vb (18 - (i + 1)) (fun t => w' (i + 1 + t)) = U
          rw [← hq1, ← hq2, hv2] at hdm
          generalize (2 : Nat) ^ 64 = B at *
          generalize (10 : Nat) ^ 18 = T at *
          have e3 : B * (U * T + r.toNat) = B * U * T + r.toNat * B := by rw [Nat.mul_add, Nat.mul_assoc, Nat.mul_comm B r.toNat]
          have e4 : (q.toNat + B * U) * T = T * q.toNat + B * U * T := by rw [Nat.add_mul, Nat.mul_comm q.toNat]
          omega
        · rw [show 18 - i = (18 - (i + 1)) + 1 from by omega, vb_step, upd_eq]
          have e1 : vb (18 - (i + 1)) (fun t => upd w' i q (i + 1 + t)) = vb (18 - (i + 1)) (fun t => w' (i + 1 + t)) := vb_congr fun j hj => upd_ne (by omega)
          rw [e1]
          have hor : (any ||| q = 0#64) ↔ (any = 0#64 ∧ q = 0#64) := BitVec.or_eq_zero_iff
          rw [hor, ha]
          have hB : 0 < (2 : Nat) ^ 64 := by decide
          constructor
          · rintro ⟨k1, k2⟩
            rw [k1, k2]; rfl
          · intro k
            have k1 : q.toNat = 0 := by omega
            have k2 : 2 ^ 64 * vb (18 - (i + 1)) (fun t => w' (i + 1 + t)) = 0 := by omega
            refine ⟨?_, BitVec.eq_of_toNat_eq k1⟩
            rcases Nat.mul_eq_zero.1 k2 with h | h
            · omega
            · exact h
  have h0 := key N 18 0#64 0#64 w (by omega) (by omega) (by decide) (fun j _ => rfl) (by rw [show 18 - 18 = 0 from rfl]; simp [vb]) (by rw [show 18 - 18 = 0 from rfl, vb]; exact ⟨fun _ => rfl, fun _ => rfl⟩)
  rw [show ((18 : Nat) : Int) - 1 = 17 from by omega] at h0
  exact h0
/-- The groups of an integer. -/
def gsum (gv : Nat → BitVec 64) : Nat → Nat
  | 0 => 0
  | t + 1 => gsum gv t + (gv t).toNat * 10 ^ (18 * t)
theorem gsum_congr {f g : Nat → BitVec 64} : ∀ {t : Nat}, (∀ i, i < t → f i = g i) → gsum f t = gsum g t
  | 0, _ => rfl
  | t + 1, h => by rw [gsum, gsum, gsum_congr (t := t) (fun i hi => h i (by omega)), h t (by omega)]
theorem F281_4_ok (hN : 30 ≤ N) {x1 w : Nat → BitVec 64} {X : Nat} (hX : ∀ K, K = 18 → vb K w = X) (hl : X < 10 ^ (18 * 18)) :
    ∃ (gv : Nat → BitVec 64) (t : Nat), F281_4 N x1 w = some (gv, (t : Int)) ∧ 1 ≤ t ∧ t ≤ 18 ∧ gsum gv t = X ∧ ∀ i, i < t → (gv i).toNat < 10 ^ 18 := by
  have key : ∀ (M t : Nat) (w' gv : Nat → BitVec 64), 18 - t < M → t < 18 → (∀ K, K = 18 → vb K w' = X / 10 ^ (18 * t)) → gsum gv t = X % 10 ^ (18 * t) → (∀ i, i < t → (gv i).toNat < 10 ^ 18) →
      ∃ (gv' : Nat → BitVec 64) (t' : Nat), iterL (F281_L6 N x1) M (w', gv, (t : Int)) = some (gv', (t' : Int)) ∧ 1 ≤ t' ∧ t' ≤ 18 ∧ gsum gv' t' = X ∧ ∀ i, i < t' → (gv' i).toNat < 10 ^ 18 := by
    intro M
    induction M with
    | zero => intro t w' gv h; omega
    | succ M ih =>
      intro t w' gv hM ht hw hg hgl
      obtain ⟨r, any, w'', h1, h2, h3, h4⟩ := F281_L11_ok (N := N) hN (x1 := x1) (gv := gv) (gn := (t : Int)) w'
      have hq : ∀ K, K = 18 → vb K w'' = X / 10 ^ (18 * (t + 1)) ∧ r.toNat = X / 10 ^ (18 * t) % 10 ^ 18 := by
        intro K hK
        have h5 := h2 K hK
        rw [hw K hK] at h5
        have e1 : X / 10 ^ (18 * (t + 1)) = X / 10 ^ (18 * t) / 10 ^ 18 := by rw [Nat.div_div_eq_div_mul, ← Nat.pow_add]; rfl
        rw [e1, h5]
        generalize vb K w'' = Q
        constructor
        · rw [Nat.mul_comm, Nat.mul_add_div (by decide), Nat.div_eq_of_lt h3, Nat.add_zero]
        · rw [Nat.mul_comm, Nat.mul_add_mod, Nat.mod_eq_of_lt h3]
      have hstep : F281_L6 N x1 (w', gv, (t : Int)) = F281_10 N x1 w'' (upd gv t r) ((t + 1 : Nat) : Int) ((any == 0#64) || (((t + 1 : Nat) : Int) == 20)) := by
        unfold F281_L6 F281_L6b
        simp only []
        rw [h1]
        unfold F281_7 F281_8 F281_9
        rw [bt (by simp; omega), Int.toNat_natCast, w64_id (by omega)]
        rfl
      have hgs : gsum (upd gv t r) (t + 1) = X % 10 ^ (18 * (t + 1)) := by
        rw [gsum, upd_eq, gsum_congr (g := gv) (fun i hi => upd_ne (by omega)), hg, (hq 18 rfl).2, show 18 * (t + 1) = 18 * t + 18 from by omega, Nat.pow_add, Nat.mod_mul, Nat.mul_comm (10 ^ (18 * t))]
      have hgl' : ∀ i, i < t + 1 → (upd gv t r i).toNat < 10 ^ 18 := by
        intro i hi
        by_cases hit : i = t
        · rw [hit, upd_eq]; exact h3
        · rw [upd_ne hit]; exact hgl i (by omega)
      rw [iterL, hstep, beq_eq_false_iff_ne.2 (show ((t + 1 : Nat) : Int) ≠ 20 by omega), Bool.or_false]
      unfold F281_10
      cases hb : (any == 0#64) with
      | true =>
        have hz := (h4 18 rfl).1 (by rwa [beq_iff_eq] at hb)
        rw [(hq 18 rfl).1] at hz
        refine ⟨upd gv t r, t + 1, rfl, by omega, by omega, ?_, hgl'⟩
        rw [hgs]
        have := Nat.div_add_mod X (10 ^ (18 * (t + 1)))
        rw [hz, Nat.mul_zero, Nat.zero_add] at this
        exact this
      | false =>
        have hnz : X / 10 ^ (18 * (t + 1)) ≠ 0 := by
          rw [← (hq 18 rfl).1]
          intro k
          rw [(h4 18 rfl).2 k] at hb
          cases hb
        have ht1 : t + 1 < 18 := by
          rcases Nat.lt_or_ge (t + 1) 18 with k | k
          · exact k
          · exfalso
            have : t + 1 = 18 := by omega
            rw [this] at hnz
            exact hnz (Nat.div_eq_of_lt hl)
        exact ih (t + 1) w'' (upd gv t r) (by omega) ht1 (fun K hK => (hq K hK).1) hgs hgl'
  unfold F281_4 F281_5
  have h0 := key N 0 w (fun _ => 0#64) (by omega) (by omega) (fun K hK => by rw [hX K hK, Nat.mul_zero, Nat.pow_zero, Nat.div_one]) (by rw [Nat.mul_zero, Nat.pow_zero, Nat.mod_one]; rfl) (fun i hi => by omega)
  exact h0
/-- whole. -/
theorem F281_ok (hN : 30 ≤ N) {man : BitVec 64} {ex : Nat} (hm : man.toNat < 2 ^ 53) (hx : ex ≤ 1022) :
    ∃ (gv : Nat → BitVec 64) (t : Nat), F281 N man (ex : Int) = some (gv, (t : Int)) ∧ 1 ≤ t ∧ t ≤ 18 ∧ gsum gv t = man.toNat * 2 ^ ex ∧ ∀ i, i < t → (gv i).toNat < 10 ^ 18 := by
  have hl : man.toNat * 2 ^ ex < 10 ^ (18 * 18) := by
    obtain ⟨k, hk⟩ : ∃ k, k = 1075 := ⟨_, rfl⟩
    have h1 : man.toNat * 2 ^ ex < 2 ^ 53 * 2 ^ ex := Nat.mul_lt_mul_of_pos_right hm (pow_pos2 ex)
    have h2 : 2 ^ 53 * 2 ^ ex ≤ 2 ^ k := by rw [← Nat.pow_add]; exact Nat.pow_le_pow_right (by decide) (by omega)
    have h3 : 2 ^ k ≤ 10 ^ (18 * 18) := by rw [hk]; decide +kernel
    omega
  have hsp : 64 * (ex / 64) + ex % 64 = ex := Nat.div_add_mod ex 64
  have hml : ex % 64 < 64 := Nat.mod_lt _ (by decide)
  have htm : (ex : Int).tmod 64 = ((ex % 64 : Nat) : Int) := rfl
  have htd : (ex : Int).tdiv 64 = ((ex / 64 : Nat) : Int) := rfl
  unfold F281 F281_1 F281_2
  rw [htm, htd, w16_id (n := ((ex / 64 : Nat) : Int)) (by omega), bt (decide_eq_true (by omega)), bt (by simp; omega), Int.toNat_natCast, Int.toNat_natCast]
  unfold F281_3 F281_15
  rw [htm, htd, w16_id (n := ((ex / 64 : Nat) : Int)) (by omega)]
  by_cases hz : ex % 64 = 0
  · rw [bf (by rw [hz]; rfl)]
    refine F281_4_ok hN ?_ hl
    intro K hK
    rw [vb_one (man := man.toNat) (by rw [hz, shl_mod, Nat.pow_zero, Nat.mul_one]; exact Nat.mod_eq_of_lt man.isLt) (fun _ => rfl) (by omega)]
    exact congrArg (fun t => man.toNat * 2 ^ t) (by omega)
  · rw [bt (by rw [bne_iff_ne]; omega), w16_id (by omega), w16_id (n := ((ex / 64 : Nat) : Int) + 1) (by omega), bt (decide_eq_true (by omega)), bt (by simp; omega), show (64 - ((ex % 64 : Nat) : Int)).toNat = 64 - ex % 64 from by omega, show (((ex / 64 : Nat) : Int) + 1).toNat = ex / 64 + 1 from by omega]
    refine F281_4_ok hN ?_ hl
    intro K hK
    rw [vb_two (man := man.toNat) (s := ex % 64) hml shl_mod (shr_div hml hz) (fun _ => rfl) (by omega), Nat.mul_assoc, ← Nat.pow_add]
    exact congrArg (fun t => man.toNat * 2 ^ t) (by omega)
end
end Go.Proofs.YfwaawGreat
