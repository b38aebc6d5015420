/-
  expand: fraction.
-/
import Derived.Test.YfwaawGreatP4
namespace Go.Proofs.YfwaawGreat
open Go.Aw
set_option linter.unusedVariables false
set_option linter.unusedSimpArgs false

section
variable {N : Nat} {sig prec : Int}
/-- The limbs times 10^18, from low on. -/
theorem F283_L15_ok (hN : 30 ≤ N) {lo hi : Nat} {turn : Int} {dig : Nat → BitVec 8} {n top : Int} {w : Nat → BitVec 64} (h1 : lo ≤ hi) (h2 : hi ≤ 18) (hz : ∀ i, i < lo → w i = 0#64) :
    ∃ (carry : BitVec 64) (w' : Nat → BitVec 64), iterL (F283_L15 N (hi : Int) turn (lo : Int) dig n top sig prec) N (0#64, (lo : Int), w) = F283_11 N (hi : Int) turn (lo : Int) dig n top sig prec carry w' ∧
      vb hi w' + carry.toNat * 2 ^ (64 * hi) = vb hi w * 10 ^ 18 ∧ carry.toNat < 10 ^ 18 ∧ (∀ i, i < lo → w' i = 0#64) ∧ (∀ i, hi ≤ i → w' i = w i) := by
  have key : ∀ (M i : Nat) (carry : BitVec 64) (w' : Nat → BitVec 64), hi - i < M → lo ≤ i → i ≤ hi → vb i w' + carry.toNat * 2 ^ (64 * i) = vb i w * 10 ^ 18 → carry.toNat < 10 ^ 18 → (∀ j, j < lo → w' j = 0#64) → (∀ j, i ≤ j → w' j = w j) →
      ∃ (carry' : BitVec 64) (w'' : Nat → BitVec 64), iterL (F283_L15 N (hi : Int) turn (lo : Int) dig n top sig prec) M (carry, (i : Int), w') = F283_11 N (hi : Int) turn (lo : Int) dig n top sig prec carry' w'' ∧
        vb hi w'' + carry'.toNat * 2 ^ (64 * hi) = vb hi w * 10 ^ 18 ∧ carry'.toNat < 10 ^ 18 ∧ (∀ i, i < lo → w'' i = 0#64) ∧ (∀ i, hi ≤ i → w'' i = w i) := by
    intro M
    induction M with
    | zero => intro i carry w' h; omega
    | succ M ih =>
      intro i carry w' hM hlo hhi he hc hz' hw
      by_cases hih : i = hi
      · have hstep : F283_L15 N (hi : Int) turn (lo : Int) dig n top sig prec (carry, (i : Int), w') = (F283_11 N (hi : Int) turn (lo : Int) dig n top sig prec carry w').map Sum.inr := by
          unfold F283_L15 F283_L15b F283_16
          simp only []
          rw [bf (decide_eq_false (by omega))]
        refine ⟨carry, w', ?_, ?_, hc, hz', ?_⟩
        · rw [iterL, hstep]
          cases F283_11 N (hi : Int) turn (lo : Int) dig n top sig prec carry w' <;> rfl
        · rw [← hih]; exact he
        · rw [← hih]; exact hw
      · have hp := F165_ok (w' i) (1000000000000000000#64)
        have hs := (F166_ok (F165 (w' i) (1000000000000000000#64)).1 (F165 (w' i) (1000000000000000000#64)).2 (0#64) carry).1
        obtain ⟨P, hPd⟩ : ∃ P, P = F165 (w' i) (1000000000000000000#64) := ⟨_, rfl⟩
        rw [← hPd] at hp hs
        obtain ⟨S, hSd⟩ : ∃ S, S = F166 P.1 P.2 0#64 carry := ⟨_, rfl⟩
        rw [← hSd, hp, T18, t18] at hs
        rw [t18] at hc
        have hwi := (w' i).isLt
        have hv0 : v2 0#64 carry = carry.toNat := by unfold v2; simp
        have hlt : (w' i).toNat * 1000000000000000000 + carry.toNat < 340282366920938463463374607431768211456 := by
          rw [p64] at hwi; omega
        rw [hv0, Nat.mod_eq_of_lt hlt] at hs
        have hv2 : v2 S.1 S.2.1 = S.1.toNat * 18446744073709551616 + S.2.1.toNat := rfl
        rw [hv2] at hs
        have hstep : F283_L15 N (hi : Int) turn (lo : Int) dig n top sig prec (carry, (i : Int), w') = some (.inl (S.1, ((i + 1 : Nat) : Int), upd w' i S.2.1)) := by
          unfold F283_L15 F283_L15b F283_16 lt
          simp only []
          rw [bt (decide_eq_true (by omega)), bt (by simp; omega), Int.toNat_natCast, ← hPd, ← hSd]
          unfold F283_18 F283_17
          rw [bt (by simp; omega), w64_id (by omega)]
          rfl
        rw [iterL, hstep]
        have hS1 := S.1.isLt
        have hS2 := S.2.1.isLt
        rw [p64] at hS1 hS2 hwi
        refine ih (i + 1) S.1 (upd w' i S.2.1) (by omega) (by omega) (by omega) ?_ ?_ ?_ ?_
        · rw [vb, vb, upd_eq, vb_upd (Nat.le_refl _), p64s, Nat.add_mul, ← he]
          rw [hw i (Nat.le_refl _)] at hs
          rw [t18]
          generalize 2 ^ (64 * i) = Q
          have e1 : S.1.toNat * (Q * 18446744073709551616) = S.1.toNat * 18446744073709551616 * Q := by rw [Nat.mul_comm Q, Nat.mul_assoc]
          have e2 : (w i).toNat * Q * 1000000000000000000 = (w i).toNat * 1000000000000000000 * Q := by rw [Nat.mul_assoc, Nat.mul_comm Q, Nat.mul_assoc]
          have e3 : (S.1.toNat * 18446744073709551616 + S.2.1.toNat) * Q = ((w i).toNat * 1000000000000000000 + carry.toNat) * Q := by rw [hs]
          rw [Nat.add_mul, Nat.add_mul] at e3
          rw [e1, e2]
          omega
        · rw [t18]
          omega
        · intro j hj; rw [upd_ne (by omega)]; exact hz' j hj
        · intro j hj; rw [upd_ne (by omega)]; exact hw j (by omega)
  have hvb0 : vb lo w = 0 := by rw [vb_zero (m := 0) (by omega) (fun j h1 h2 => hz j h2)]; rfl
  exact key N lo 0#64 w (by omega) (by omega) h1 (by rw [hvb0]; simp) (by decide) hz (fun _ _ => rfl)
/-- The lowest limb that is not zero. -/
theorem F283_L22_ok (hN : 30 ≤ N) {hi : Nat} {turn : Int} {dig : Nat → BitVec 8} {n top : Int} {w : Nat → BitVec 64} (h2 : hi ≤ 18) {lo : Nat} (h1 : lo ≤ hi) (hz : ∀ i, i < lo → w i = 0#64) :
    ∃ lo', lo' ≤ hi ∧ (∀ i, i < lo' → w i = 0#64) ∧ (lo' = hi ∨ w lo' ≠ 0#64) ∧ iterL (F283_L22 N (hi : Int) turn dig n top sig prec w) N (lo : Int) = F283_9 N (hi : Int) turn dig n top sig prec w (lo' : Int) := by
  have key : ∀ (M lo : Nat), hi - lo < M → lo ≤ hi → (∀ i, i < lo → w i = 0#64) →
      ∃ lo', lo' ≤ hi ∧ (∀ i, i < lo' → w i = 0#64) ∧ (lo' = hi ∨ w lo' ≠ 0#64) ∧ iterL (F283_L22 N (hi : Int) turn dig n top sig prec w) M (lo : Int) = F283_9 N (hi : Int) turn dig n top sig prec w (lo' : Int) := by
    intro M
    induction M with
    | zero => intro lo h; omega
    | succ M ih =>
      intro lo hM hlo hz
      have stop : ∀ (b : Bool), b = false → F283_L22 N (hi : Int) turn dig n top sig prec w (lo : Int) = F283_23 N (hi : Int) turn dig n top sig prec w (lo : Int) b → iterL (F283_L22 N (hi : Int) turn dig n top sig prec w) (M + 1) (lo : Int) = F283_9 N (hi : Int) turn dig n top sig prec w (lo : Int) := by
        intro b hb he
        rw [iterL, he, hb]
        unfold F283_23
        rw [bf rfl]
        cases F283_9 N (hi : Int) turn dig n top sig prec w (lo : Int) <;> rfl
      by_cases hlh : lo = hi
      · refine ⟨lo, hlo, hz, Or.inl hlh, stop false rfl ?_⟩
        unfold F283_L22 F283_L22b
        rw [bf (decide_eq_false (by omega))]
      · have hstep : F283_L22 N (hi : Int) turn dig n top sig prec w (lo : Int) = F283_23 N (hi : Int) turn dig n top sig prec w (lo : Int) (w lo == 0#64) := by
          unfold F283_L22 F283_L22b
          rw [bt (decide_eq_true (by omega)), bt (by simp; omega), Int.toNat_natCast]
        cases hw : (w lo == 0#64) with
        | false =>
          refine ⟨lo, hlo, hz, Or.inr ?_, stop _ hw hstep⟩
          rwa [beq_eq_false_iff_ne] at hw
        | true =>
          have hw0 : w lo = 0#64 := by rwa [beq_iff_eq] at hw
          rw [iterL, hstep, hw]
          unfold F283_23
          rw [bt rfl, w64_id (by omega)]
          simp only []
          rw [show (lo : Int) + 1 = ((lo + 1 : Nat) : Int) from by omega]
          refine ih (lo + 1) (by omega) (by omega) ?_
          intro i hi'
          by_cases hil : i = lo
          · rw [hil]; exact hw0
          · exact hz i (by omega)
  exact key N lo (by omega) h1 hz
/-- What fraction leaves behind t turns. -/
structure FR (dig : Nat → BitVec 8) (n D W : Nat) (t : Nat) : Prop where
  x : XI dig n D
  n : n ≤ 36 + 18 * t
/-- The turns. -/
theorem F283_6_ok (hN : 100 ≤ N) {T k A : Nat} (hTk : T = 2 ^ (64 * k)) (hk : k = 18) {at' : Nat} {hi0 : Nat} {dig : Nat → BitVec 8} {n D : Nat} {w : Nat → BitVec 64} (hx : XI dig n D) (hn : n ≤ 36) (hat : 78 ≤ at') (hdv : 2 ^ at' ∣ vb k w) (hhi : hi0 ≤ 18) (hz : ∀ i, hi0 ≤ i → i < 18 → w i = 0#64) (hA : D * T + vb k w = A) :
    ∃ (dig' : Nat → BitVec 8) (n' D' W t : Nat), XI dig' n' D' ∧ n' ≤ 1300 ∧ A * 10 ^ (18 * t) = D' * T + W ∧ W < T ∧ t ≤ 60 ∧
      ((W = 0 ∧ F283_6 N dig (n : Int) ((n : Int) - 1) sig prec w (hi0 : Int) = some (dig', (n' : Int), (n' : Int) - 1 - 18 * t, sig, prec)) ∨
       (W ≠ 0 ∧ (sig < n' ∨ prec < 18 * t) ∧ F283_6 N dig (n : Int) ((n : Int) - 1) sig prec w (hi0 : Int) = some (upd dig' n' 49#8, ((n' + 1 : Nat) : Int), (n' : Int) - 1 - 18 * t, sig, prec))) := by
  have hTp : 0 < T := by rw [hTk]; exact pow_pos2 _
  have key : ∀ (M t : Nat) (lo hi : Nat) (dig : Nat → BitVec 8) (n D : Nat) (w : Nat → BitVec 64), 62 - t < M → t ≤ 60 → lo ≤ hi → hi ≤ 18 → (∀ i, i < lo → w i = 0#64) → (∀ i, hi ≤ i → i < 18 → w i = 0#64) → XI dig n D → n ≤ 36 + 18 * t → 2 ^ (at' + 18 * t) ∣ vb k w → A * 10 ^ (18 * t) = D * T + vb k w →
      ∃ (dig' : Nat → BitVec 8) (n' D' W t' : Nat), XI dig' n' D' ∧ n' ≤ 1300 ∧ A * 10 ^ (18 * t') = D' * T + W ∧ W < T ∧ t' ≤ 60 ∧
      ((W = 0 ∧ iterL (F283_L7 N) M ((lo : Int), (hi : Int), ((t + 1 : Nat) : Int), dig, (n : Int), (n : Int) - 1 - 18 * t, sig, prec, w) = some (dig', (n' : Int), (n' : Int) - 1 - 18 * t', sig, prec)) ∨
       (W ≠ 0 ∧ (sig < n' ∨ prec < 18 * t') ∧ iterL (F283_L7 N) M ((lo : Int), (hi : Int), ((t + 1 : Nat) : Int), dig, (n : Int), (n : Int) - 1 - 18 * t, sig, prec, w) = some (upd dig' n' 49#8, ((n' + 1 : Nat) : Int), (n' : Int) - 1 - 18 * t', sig, prec))) := by
    intro M
    induction M with
    | zero => intro t lo hi dig n D w h; omega
    | succ M ih =>
      intro t lo hi dig n D w hM ht hlh hh hzl hzh hxi hnb hdvd hval
      have hWT : vb k w < T := by rw [hTk]; exact vb_lt
      obtain ⟨lo', l1, l2, l3, l4⟩ := F283_L22_ok (N := N) (sig := sig) (prec := prec) (by omega) (hi := hi) (turn := ((t + 1 : Nat) : Int)) (dig := dig) (n := (n : Int)) (top := (n : Int) - 1 - 18 * t) (w := w) hh hlh hzl
      have hstep1 : F283_L7 N ((lo : Int), (hi : Int), ((t + 1 : Nat) : Int), dig, (n : Int), (n : Int) - 1 - 18 * t, sig, prec, w) = F283_9 N (hi : Int) ((t + 1 : Nat) : Int) dig (n : Int) ((n : Int) - 1 - 18 * t) sig prec w (lo' : Int) := by
        unfold F283_L7 F283_L7b
        exact l4
      by_cases hend : lo' = hi
      · have hW0 : vb k w = 0 := by
          rw [vb_zero (m := 0) (by omega) (fun i h1 h2 => ?_)]
          · rfl
          · by_cases hil : i < hi
            · exact l2 i (by omega)
            · exact hzh i (by omega) (by omega)
        refine ⟨dig, n, D, 0, t, hxi, by omega, by rw [hval, hW0], hTp, ht, Or.inl ⟨rfl, ?_⟩⟩
        rw [iterL, hstep1]
        unfold F283_9 F283_19
        rw [bt (by rw [hend, beq_iff_eq])]
        rfl
      · have hnz : w lo' ≠ 0#64 := by rcases l3 with c | c; exact (hend c).elim; exact c
        have hWne : vb k w ≠ 0 := by
          intro h0
          have h4 : (w lo').toNat * 2 ^ (64 * lo') ≤ vb (lo' + 1) w := by rw [vb]; omega
          have h5 : ∀ j, lo' + 1 ≤ j → vb (lo' + 1) w ≤ vb j w := by
            intro j hj
            induction j with
            | zero => omega
            | succ j ihj =>
              by_cases hjj : lo' + 1 = j + 1
              · rw [hjj]; exact Nat.le_refl _
              · have := ihj (by omega)
                have e : vb (j + 1) w = vb j w + (w j).toNat * 2 ^ (64 * j) := rfl
                rw [e]; omega
          have h6 := h5 k (by omega)
          have h7 : (w lo').toNat ≠ 0 := fun hh0 => hnz (BitVec.eq_of_toNat_eq hh0)
          have h8 := Nat.mul_pos (show 0 < (w lo').toNat by omega) (pow_pos2 (64 * lo'))
          omega
        -- fewer than 60 turns
        have htl : t < 60 := by
          rcases Nat.lt_or_ge t 60 with c | c
          · exact c
          · exfalso
            have h3 : 2 ^ (64 * k) ∣ vb k w := Nat.dvd_trans (Nat.pow_dvd_pow 2 (by omega)) hdvd
            exact hWne (Nat.eq_zero_of_dvd_of_lt h3 (by rw [← hTk]; exact hWT))
        have hF373 : F373 dig (n : Int) ((n : Int) - 1 - 18 * t) sig prec (w64 (w64 (((t + 1 : Nat) : Int) - 1) * 18)) = ((decide (sig < (n : Int)) || decide (prec < 18 * (t : Int))), dig, (n : Int), (n : Int) - 1 - 18 * t, sig, prec) := by
          unfold F373 F373_1
          rw [w64_id (n := ((t + 1 : Nat) : Int) - 1) (by omega), w64_id (by omega), show (((t + 1 : Nat) : Int) - 1) * 18 = 18 * (t : Int) from by omega]
          show (bif decide (sig < (n : Int)) then _ else (decide (prec < 18 * (t : Int)), _)) = _
          cases decide (sig < (n : Int)) <;> rfl
        have hstep2 : F283_9 N (hi : Int) ((t + 1 : Nat) : Int) dig (n : Int) ((n : Int) - 1 - 18 * t) sig prec w (lo' : Int) = F283_20 N (hi : Int) ((t + 1 : Nat) : Int) w (lo' : Int) (decide (sig < (n : Int)) || decide (prec < 18 * (t : Int))) dig (n : Int) ((n : Int) - 1 - 18 * t) sig prec := by
          unfold F283_9 F283_19
          rw [bf (by rw [beq_eq_false_iff_ne]; omega)]
          simp only [lt]
          rw [hF373]
        rw [iterL, hstep1, hstep2]
        cases hen : (decide (sig < (n : Int)) || decide (prec < 18 * (t : Int))) with
        | true =>
          refine ⟨dig, n, D, vb k w, t, hxi, by omega, hval, hWT, ht, Or.inr ⟨hWne, ?_, ?_⟩⟩
          · simpa using hen
          · unfold F283_20 F283_21
            rw [bt rfl, bt (by simp; omega), w64_id (by omega), Int.toNat_natCast]
            rfl
        | false =>
          unfold F283_20
          rw [bf rfl]
          obtain ⟨carry, w', c1, c2, c3, c4, c5⟩ := F283_L15_ok (N := N) (sig := sig) (prec := prec) (by omega) (lo := lo') (hi := hi) (turn := ((t + 1 : Nat) : Int)) (dig := dig) (n := (n : Int)) (top := (n : Int) - 1 - 18 * t) (w := w) l1 hh l2
          unfold F283_10
          rw [c1]
          -- the new limbs
          have hvw : vb k w = vb hi w := vb_zero (by omega) (fun i h1 h2 => hzh i h1 (by omega))
          have hzh' : ∀ i, hi ≤ i → i < 18 → w' i = 0#64 := fun i h1 h2 => by rw [c5 i h1]; exact hzh i h1 h2
          obtain ⟨hi2, cr2, w2, e1, e2, e3, e4, e5, e6, e7⟩ : ∃ (hi2 : Nat) (cr2 : BitVec 64) (w2 : Nat → BitVec 64), F283_11 N (hi : Int) ((t + 1 : Nat) : Int) (lo' : Int) dig (n : Int) ((n : Int) - 1 - 18 * t) sig prec carry w' = F283_12 N ((t + 1 : Nat) : Int) (lo' : Int) dig (n : Int) ((n : Int) - 1 - 18 * t) sig prec (hi2 : Int) cr2 w2 ∧ lo' ≤ hi2 ∧ hi2 ≤ 18 ∧ (∀ i, i < lo' → w2 i = 0#64) ∧ (∀ i, hi2 ≤ i → i < 18 → w2 i = 0#64) ∧ cr2.toNat < 10 ^ 18 ∧ vb k w2 + cr2.toNat * T = vb k w * 10 ^ 18 := by
            unfold F283_11 F283_13
            by_cases hc : hi < 18 ∧ carry.toNat ≠ 0
            · rw [bt (by
                rw [ne_bv, Bool.and_eq_true]
                exact ⟨decide_eq_true (by omega), decide_eq_true hc.2⟩), bt (by simp; omega)]
              unfold F283_14
              rw [Int.toNat_natCast, w64_id (by omega)]
              refine ⟨hi + 1, 0#64, upd w' hi carry, rfl, by omega, by omega, ?_, ?_, by decide, ?_⟩
              · intro i hi'; rw [upd_ne (by omega)]; exact c4 i hi'
              · intro i h1 h2; rw [upd_ne (by omega)]; exact hzh' i (by omega) h2
              · rw [vb_zero (m := hi + 1) (by omega) (fun i h1 h2 => by rw [upd_ne (by omega)]; exact hzh' i (by omega) (by omega)), vb, upd_eq, vb_upd (Nat.le_refl _), hvw, ← c2]
                simp
            · rw [bf (by
                rw [ne_bv, Bool.eq_false_iff]
                intro q
                rw [Bool.and_eq_true, decide_eq_true_eq, decide_eq_true_eq] at q
                exact hc ⟨by omega, q.2⟩)]
              refine ⟨hi, carry, w', rfl, l1, hh, c4, hzh', c3, ?_⟩
              rw [vb_zero (m := hi) (by omega) (fun i h1 h2 => hzh' i h1 (by omega)), hvw, ← c2]
              by_cases h18 : hi = 18
              · rw [hTk, hk, h18]
              · have : carry.toNat = 0 := by omega
                rw [this]; simp
          rw [e1]
          unfold F283_12
          obtain ⟨dig', n', f1, f2, f3, f4⟩ := F282_ok (N := N) (sig := sig) (prec := prec) (by omega) hxi (v := cr2) e6 (by omega) true (w := -18 * (t : Int)) (by omega)
          rw [show (n : Int) - 1 - 18 * t = -18 * (t : Int) + (n : Int) - 1 from by omega, f1, bnd]
          unfold F283_8
          rw [w64_id (by omega)]
          simp only [cond_true]
          rw [show ((t + 1 : Nat) : Int) + 1 = ((t + 1 + 1 : Nat) : Int) from by omega, show -18 * (t : Int) - 18 + (n' : Int) - 1 = (n' : Int) - 1 - 18 * ((t + 1 : Nat) : Int) from by omega]
          have hval2 : A * 10 ^ (18 * (t + 1)) = (D * 10 ^ 18 + cr2.toNat) * T + vb k w2 := by
            rw [show 18 * (t + 1) = 18 * t + 18 from by omega, Nat.pow_add, ← Nat.mul_assoc, hval, Nat.add_mul, Nat.add_mul, ← e7]
            generalize (10 : Nat) ^ 18 = Z
            have : D * T * Z = D * Z * T := by rw [Nat.mul_assoc, Nat.mul_comm T, Nat.mul_assoc]
            omega
          refine ih (t + 1) lo' hi2 dig' n' _ w2 (by omega) (by omega) e2 e3 e4 e5 f2 (by omega) ?_ hval2
          have h8 : 2 ^ (at' + 18 * (t + 1)) ∣ vb k w * 10 ^ 18 := by
            rw [show at' + 18 * (t + 1) = (at' + 18 * t) + 18 from by omega, Nat.pow_add]
            exact Nat.mul_dvd_mul hdvd ⟨5 ^ 18, by decide⟩
          have h9 : 2 ^ (at' + 18 * (t + 1)) ∣ cr2.toNat * T := by
            by_cases hcase : at' + 18 * (t + 1) ≤ 64 * k
            · rw [hTk]; exact Nat.dvd_trans (Nat.pow_dvd_pow 2 hcase) (Nat.dvd_mul_left _ _)
            · -- all of it has left
              have h10 : T ∣ vb k w * 10 ^ 18 := by
                rw [hTk]; exact Nat.dvd_trans (Nat.pow_dvd_pow 2 (by omega)) h8
              have h11 : T ∣ vb k w2 := by
                rw [← e7] at h10
                exact (Nat.dvd_add_left (Nat.dvd_mul_left _ _)).1 h10
              have h12 : vb k w2 = 0 := Nat.eq_zero_of_dvd_of_lt h11 (by rw [hTk]; exact vb_lt)
              rw [h12, Nat.zero_add] at e7
              rw [e7]; exact h8
          have h13 : 2 ^ (at' + 18 * (t + 1)) ∣ vb k w2 + cr2.toNat * T := by rw [e7]; exact h8
          exact (Nat.dvd_add_left h9).1 h13
  have h0 := key N 0 0 hi0 dig n D w (by omega) (by omega) (by omega) hhi (fun i h => by omega) hz hx (by omega) (by simpa using hdv) (by rw [Nat.mul_zero, Nat.pow_zero, Nat.mul_one]; exact hA.symm)
  unfold F283_6
  rw [show ((0 : Nat) : Int) = 0 from rfl, show (n : Int) - 1 - 18 * 0 = (n : Int) - 1 from by omega] at h0
  exact h0
end
end Go.Proofs.YfwaawGreat
