/-
  expand: the expansion of a number.
-/
import Derived.Test.YfwaawGreatP5
import Derived.Test.YfwaawGreatO1
namespace Go.Proofs.YfwaawGreat
open Go.Aw
set_option linter.unusedVariables false
set_option linter.unusedSimpArgs false

section
variable {N : Nat} {sig prec : Int}
/-- fraction. -/
theorem F283_ok (hN : 100 ≤ N) {T k : Nat} (hTk : T = 2 ^ (64 * k)) (hk : k = 18) {man : BitVec 64} {e : Nat} (he : 0 < e ∧ e ≤ 1074) (hm : man.toNat < 2 ^ e) {dig : Nat → BitVec 8} {n D : Nat} (hx : XI dig n D) (hn : n ≤ 36) :
    ∃ (dig' : Nat → BitVec 8) (n' D' W t : Nat), XI dig' n' D' ∧ n' ≤ 1300 ∧ (D * T + man.toNat * 2 ^ (1152 - e)) * 10 ^ (18 * t) = D' * T + W ∧ W < T ∧ t ≤ 60 ∧
      ((W = 0 ∧ F283 N dig (n : Int) ((n : Int) - 1) sig prec man (e : Int) = some (dig', (n' : Int), (n' : Int) - 1 - 18 * t, sig, prec)) ∨
       (W ≠ 0 ∧ (sig < n' ∨ prec < 18 * t) ∧ F283 N dig (n : Int) ((n : Int) - 1) sig prec man (e : Int) = some (upd dig' n' 49#8, ((n' + 1 : Nat) : Int), (n' : Int) - 1 - 18 * t, sig, prec))) := by
  obtain ⟨a, ha⟩ : ∃ a, a = 1152 - e := ⟨_, rfl⟩
  have hdm : 64 * (a / 64) + a % 64 = a := Nat.div_add_mod a 64
  have hml : a % 64 < 64 := Nat.mod_lt _ (by decide)
  have htm : (a : Int).tmod 64 = ((a % 64 : Nat) : Int) := rfl
  have htd : (a : Int).tdiv 64 = ((a / 64 : Nat) : Int) := rfl
  have hfit : man.toNat * 2 ^ a < T := by
    rw [hTk]
    have h1 : man.toNat * 2 ^ a < 2 ^ e * 2 ^ a := Nat.mul_lt_mul_of_pos_right hm (pow_pos2 a)
    rw [← Nat.pow_add, show e + a = 64 * k from by omega] at h1
    exact h1
  rw [← ha]
  have hwa : w16 (1152 - (e : Int)) = (a : Int) := by rw [w16_id (by omega)]; omega
  have hwd : w16 ((a / 64 : Nat) : Int) = ((a / 64 : Nat) : Int) := w16_id (by omega)
  have hfin : ∀ (w : Nat → BitVec 64) (hi : Nat), hi ≤ 18 → (∀ i, hi ≤ i → i < 18 → w i = 0#64) → vb k w = man.toNat * 2 ^ a → F283 N dig (n : Int) ((n : Int) - 1) sig prec man (e : Int) = F283_6 N dig (n : Int) ((n : Int) - 1) sig prec w (hi : Int) →
    ∃ (dig' : Nat → BitVec 8) (n' D' W t : Nat), XI dig' n' D' ∧ n' ≤ 1300 ∧ (D * T + man.toNat * 2 ^ a) * 10 ^ (18 * t) = D' * T + W ∧ W < T ∧ t ≤ 60 ∧
      ((W = 0 ∧ F283 N dig (n : Int) ((n : Int) - 1) sig prec man (e : Int) = some (dig', (n' : Int), (n' : Int) - 1 - 18 * t, sig, prec)) ∨
       (W ≠ 0 ∧ (sig < n' ∨ prec < 18 * t) ∧ F283 N dig (n : Int) ((n : Int) - 1) sig prec man (e : Int) = some (upd dig' n' 49#8, ((n' + 1 : Nat) : Int), (n' : Int) - 1 - 18 * t, sig, prec))) := by
    intro w hi h1 h2 h3 h4
    rw [h4, ← h3]
    exact F283_6_ok hN hTk hk (at' := a) hx hn (by omega) (by rw [h3]; exact Nat.dvd_mul_left _ _) h1 h2 rfl
  have hopen : F283 N dig (n : Int) ((n : Int) - 1) sig prec man (e : Int) = F283_3 N dig (n : Int) ((n : Int) - 1) sig prec man (a : Int) (upd (fun _ => 0#64) (a / 64) (man <<< (a % 64))) := by
    unfold F283 F283_1 F283_2
    rw [hwa, htm, htd, hwd, bt (decide_eq_true (by omega)), bt (by simp; omega), Int.toNat_natCast, Int.toNat_natCast]
  by_cases hz : a % 64 = 0
  · refine hfin (upd (fun _ => 0#64) (a / 64) (man <<< (a % 64))) (a / 64 + 1) (by omega) (fun i h1 h2 => by rw [upd_ne (by omega)]) ?_ ?_
    · rw [vb_one (man := man.toNat) (by rw [hz, shl_mod, Nat.pow_zero, Nat.mul_one]; exact Nat.mod_eq_of_lt man.isLt) (fun _ => rfl) (by omega)]
      exact congrArg (fun t => man.toNat * 2 ^ t) (by omega)
    · rw [hopen]
      unfold F283_3 F283_25
      rw [htm, htd, hz]
      refine (bf rfl).trans ?_
      unfold F283_4 F283_5 F283_24
      rw [htm, htd, hwd, hz]
      refine (bf rfl).trans ?_
      rw [w64_id (n := ((a / 64 : Nat) : Int)) (by omega), w64_id (by omega)]
      rfl
  · have hne : (((a % 64 : Nat) : Int) != 0) = true := by rw [bne_iff_ne]; omega
    by_cases h17 : a / 64 + 1 < 18
    · refine hfin (upd (upd (fun _ => 0#64) (a / 64) (man <<< (a % 64))) (a / 64 + 1) (man >>> (64 - a % 64))) (a / 64 + 2) (by omega) (fun i h1 h2 => by rw [upd_ne (by omega), upd_ne (by omega)]) ?_ ?_
      · rw [vb_two (man := man.toNat) (s := a % 64) hml shl_mod (shr_div hml hz) (fun _ => rfl) (by omega), Nat.mul_assoc, ← Nat.pow_add]
        exact congrArg (fun t => man.toNat * 2 ^ t) (by omega)
      · rw [hopen]
        unfold F283_3 F283_25
        rw [htm, htd, hwd, hne, w16_id (n := ((a / 64 : Nat) : Int) + 1) (by omega), w16_id (n := 64 - ((a % 64 : Nat) : Int)) (by omega)]
        rw [bt (by rw [decide_eq_true (show ((a / 64 : Nat) : Int) + 1 < 18 by omega)]; rfl), bt (decide_eq_true (by omega)), bt (by simp; omega), show (64 - ((a % 64 : Nat) : Int)).toNat = 64 - a % 64 from by omega, show (((a / 64 : Nat) : Int) + 1).toNat = a / 64 + 1 from by omega]
        unfold F283_4 F283_5 F283_24
        rw [htm, htd, hwd, hne, w64_id (n := ((a / 64 : Nat) : Int)) (by omega), w64_id (n := ((a / 64 : Nat) : Int) + 1) (by omega)]
        rw [bt (by rw [decide_eq_true (show ((a / 64 : Nat) : Int) + 1 < 18 by omega)]; rfl), w64_id (by omega)]
        rfl
    · refine hfin (upd (fun _ => 0#64) (a / 64) (man <<< (a % 64))) (a / 64 + 1) (by omega) (fun i h1 h2 => by rw [upd_ne (by omega)]) ?_ ?_
      · have hlt : man.toNat * 2 ^ (a % 64) < 2 ^ 64 := by
          rw [← hdm, Nat.pow_add, hTk, show 64 * k = 64 * (a / 64) + 64 from by omega, Nat.pow_add, Nat.mul_left_comm] at hfit
          exact Nat.lt_of_mul_lt_mul_left hfit
        rw [vb_one (man := man.toNat * 2 ^ (a % 64)) (by rw [shl_mod]; exact Nat.mod_eq_of_lt hlt) (fun _ => rfl) (by omega), Nat.mul_assoc, ← Nat.pow_add]
        exact congrArg (fun t => man.toNat * 2 ^ t) (by omega)
      · rw [hopen]
        unfold F283_3 F283_25
        rw [htm, htd, hwd, w16_id (n := ((a / 64 : Nat) : Int) + 1) (by omega)]
        rw [bf (by rw [decide_eq_false (show ¬ ((a / 64 : Nat) : Int) + 1 < 18 by omega)]; simp)]
        unfold F283_4 F283_5 F283_24
        rw [htm, htd, hwd, w64_id (n := ((a / 64 : Nat) : Int)) (by omega), w64_id (n := ((a / 64 : Nat) : Int) + 1) (by omega)]
        rw [bf (by rw [decide_eq_false (show ¬ ((a / 64 : Nat) : Int) + 1 < 18 by omega)]; simp)]
        rfl
/-- The groups from the top. -/
def gh (gv : Nat → BitVec 64) (t : Nat) : Nat → Nat
  | 0 => 0
  | c + 1 => gh gv t c * 10 ^ 18 + (gv (t - (c + 1))).toNat
theorem gsum_gh (gv : Nat → BitVec 64) (t : Nat) : ∀ c, c ≤ t → gsum gv t = gsum gv (t - c) + 10 ^ (18 * (t - c)) * gh gv t c
  | 0, _ => by simp [gh]
  | c + 1, h => by
    rw [gsum_gh gv t c (by omega), gh]
    obtain ⟨u, hu⟩ : ∃ u, t - c = u + 1 := ⟨t - c - 1, by omega⟩
    rw [hu, show t - (c + 1) = u from by omega, gsum, show 18 * (u + 1) = 18 * u + 18 from by omega, Nat.pow_add]
    generalize 10 ^ (18 * u) = P
    generalize (10 : Nat) ^ 18 = Z
    generalize gh gv t c = G
    generalize (gv u).toNat = g
    rw [Nat.mul_add, Nat.mul_comm g, Nat.mul_assoc, Nat.mul_comm G]
    omega
theorem F201_4_ok (hN : 100 ≤ N) {gv : Nat → BitVec 64} {t : Nat} (ht : t ≤ 18) (hg : ∀ i, i < t → (gv i).toNat < 10 ^ 18) {dig : Nat → BitVec 8} (hx : XI dig 0 0) :
    ∃ dig' n', F201_4 N dig 0 sig prec gv (t : Int) = some (dig', ((n' : Nat) : Int), (n' : Int) - 1, sig, prec) ∧ XI dig' n' (gsum gv t) ∧ n' ≤ 1300 := by
  have key : ∀ (M c : Nat) (dig' : Nat → BitVec 8) (n' : Nat), t - c + 1 < M → c ≤ t → XI dig' n' (gh gv t c) → n' ≤ 18 * c →
      ∃ dig'' n'', iterL (F201_L6 N gv (t : Int)) M (((t - c : Nat) : Int) - 1, dig', (n' : Int), (n' : Int) - 1, sig, prec) = some (dig'', ((n'' : Nat) : Int), (n'' : Int) - 1, sig, prec) ∧ XI dig'' n'' (gsum gv t) ∧ n'' ≤ 1300 := by
    intro M
    induction M with
    | zero => intro c dig' n' h; omega
    | succ M ih =>
      intro c dig' n' hM hc hx' hn
      by_cases hct : c = t
      · subst hct
        have hstep : F201_L6 N gv (c : Int) (((c - c : Nat) : Int) - 1, dig', (n' : Int), (n' : Int) - 1, sig, prec) = some (.inr (dig', (n' : Int), (n' : Int) - 1, sig, prec)) := by
          unfold F201_L6 F201_L6b F201_7
          simp only []
          rw [bf (decide_eq_false (by omega))]
          rfl
        rw [iterL, hstep]
        refine ⟨dig', n', rfl, ?_, by omega⟩
        have := gsum_gh gv c c (Nat.le_refl _)
        rw [Nat.sub_self, gsum, Nat.mul_zero, Nat.pow_zero, Nat.one_mul, Nat.zero_add] at this
        rw [this]; exact hx'
      · obtain ⟨u, hu⟩ : ∃ u, t - c = u + 1 := ⟨t - c - 1, by omega⟩
        obtain ⟨dig2, n2, f1, f2, f3, f4⟩ := F282_ok (N := N) (sig := sig) (prec := prec) (by omega) hx' (v := gv u) (hg u (by omega)) (by omega) false (w := 0) (by omega)
        simp only [cond_false] at f1
        rw [show (0 : Int) + (n' : Int) - 1 = (n' : Int) - 1 from by omega, show (0 : Int) + (n2 : Int) - 1 = (n2 : Int) - 1 from by omega] at f1
        have hstep : F201_L6 N gv (t : Int) (((t - c : Nat) : Int) - 1, dig', (n' : Int), (n' : Int) - 1, sig, prec) = some (.inl (((t - (c + 1) : Nat) : Int) - 1, dig2, (n2 : Int), (n2 : Int) - 1, sig, prec)) := by
          unfold F201_L6 F201_L6b F201_7
          simp only []
          rw [hu, show ((u + 1 : Nat) : Int) - 1 = (u : Int) from by omega, bt (decide_eq_true (by omega)), bt (by simp; omega), Int.toNat_natCast, f1, bnd]
          unfold F201_8
          rw [w64_id (by omega), show t - (c + 1) = u from by omega]
        rw [iterL, hstep]
        refine ih (c + 1) dig2 n2 (by omega) (by omega) ?_ (by omega)
        rw [gh, show t - (c + 1) = u from by omega]
        exact f2
  unfold F201_4 F201_5
  rw [w64_id (by omega)]
  have := key N 0 dig 0 (by omega) (by omega) hx (by omega)
  rw [Nat.sub_zero] at this
  exact this
end
/-- What an expansion says of num/den. -/
structure EXP (num den : Nat) (sig prec : Int) (r : Option ((Nat → BitVec 8) × Int × Int × Int × Int)) (dig : Nat → BitVec 8) (n D δ t : Nat) : Prop where
  x : XI dig n D
  nl : n ≤ 1300
  tl : t ≤ 60
  v : num * 10 ^ (18 * t) = D * den + δ
  d : δ < den
  a : (δ = 0 ∧ r = some (dig, (n : Int), (n : Int) - 1 - 18 * t, sig, prec)) ∨ (δ ≠ 0 ∧ (sig < n ∨ prec < 18 * t) ∧ r = some (upd dig n 49#8, ((n + 1 : Nat) : Int), (n : Int) - 1 - 18 * t, sig, prec))
section
variable {N : Nat} {sig prec : Int} {e m : BitVec 8} {x : BitVec 64} {neg : Bool} {c ex : Int} {man : BitVec 64} {P : Nat}
theorem expand_ok (hN : 2000 ≤ N) (hf : Fm e m) (h : FinP e m x neg c ex man P) : ∃ dig n D δ t, EXP (man.toNat * 2 ^ ex.toNat) (2 ^ (-ex).toNat) sig prec (F201 N (fun _ => 0#8) 0 0 sig prec e m x) dig n D δ t := by
  have h1 := hf.e2
  have h2 := hf.e11
  have h3 := hf.m2
  have h4 := hf.m52
  have hbi := bia_le h2
  have hexl := h.exl
  have hexh := h.exh
  have hman53 : man.toNat < 2 ^ 53 := Nat.lt_of_lt_of_le h.hi (Nat.pow_le_pow_right (by decide) (by omega))
  have hman0 : man.toNat ≠ 0 := by have := h.lo; have := pow_pos2 m.toNat; omega
  -- zeros at the low end go
  have red : ∀ (M : Nat) (ex' : Int) (man' : BitVec 64), (-ex').toNat < M → man'.toNat ≠ 0 → man'.toNat ≤ man.toNat → ex ≤ ex' → (ex < 0 → ex' ≤ 0) → (0 ≤ ex → ex' = ex) → man'.toNat * 2 ^ (ex' - ex).toNat = man.toNat →
      ∃ (ex2 : Int) (man2 : BitVec 64), iterL (F201_L17 N (fun _ => 0#8) 0 0 sig prec neg c) M (ex', man') = F201_2 N (fun _ => 0#8) 0 0 sig prec neg c ex2 man2 ∧ man2.toNat ≠ 0 ∧ man2.toNat ≤ man.toNat ∧ ex ≤ ex2 ∧ (ex < 0 → ex2 ≤ 0) ∧ (0 ≤ ex → ex2 = ex) ∧ man2.toNat * 2 ^ (ex2 - ex).toNat = man.toNat ∧ (man2.toNat % 2 = 1 ∨ 0 ≤ ex2) := by
    intro M
    induction M with
    | zero => intro ex' man' k; omega
    | succ M ih =>
      intro ex' man' k0 k1 k2 k3 k4 k5 k6
      have hand : (man' &&& 1#64).toNat = man'.toNat % 2 := by
        rw [BitVec.toNat_and, show (1#64).toNat = 2 ^ 1 - 1 from rfl, Nat.and_two_pow_sub_one_eq_mod]
      by_cases hs : man'.toNat % 2 = 0 ∧ ex' < 0
      · have hsh : (man' >>> 1).toNat = man'.toNat / 2 := by rw [shr_nat, Nat.pow_one]
        have hstep : F201_L17 N (fun _ => 0#8) 0 0 sig prec neg c (ex', man') = some (.inl (ex' + 1, man' >>> 1)) := by
          unfold F201_L17 F201_L17b F201_18
          simp only []
          rw [bt (by rw [eq_bv, hand, show (0#64).toNat = 0 from rfl, decide_eq_true hs.1, decide_eq_true hs.2]; rfl)]
          unfold F201_19
          rw [w16_id (by omega)]
        rw [iterL, hstep]
        refine ih (ex' + 1) (man' >>> 1) (by omega) (by rw [hsh]; omega) (by rw [hsh]; omega) (by omega) (by omega) (fun h0 => by omega) ?_
        rw [hsh, show (ex' + 1 - ex).toNat = (ex' - ex).toNat + 1 from by omega, Nat.pow_succ, ← k6]
        generalize 2 ^ (ex' - ex).toNat = Q
        rw [Nat.mul_comm Q 2, ← Nat.mul_assoc, show man'.toNat / 2 * 2 = man'.toNat from by omega]
      · have hstep : F201_L17 N (fun _ => 0#8) 0 0 sig prec neg c (ex', man') = (F201_2 N (fun _ => 0#8) 0 0 sig prec neg c ex' man').map Sum.inr := by
          unfold F201_L17 F201_L17b F201_18
          simp only []
          rw [bf (by
            rw [eq_bv, hand, show (0#64).toNat = 0 from rfl, Bool.eq_false_iff]
            intro q
            rw [Bool.and_eq_true, decide_eq_true_eq, decide_eq_true_eq] at q
            exact hs q)]
        refine ⟨ex', man', ?_, k1, k2, k3, k4, k5, k6, by omega⟩
        rw [iterL, hstep]
        cases F201_2 N (fun _ => 0#8) 0 0 sig prec neg c ex' man' <;> rfl
  obtain ⟨ex2, man2, r1, r2, r3, r4, r5, r6, r7, r8⟩ := red N ex man (by omega) hman0 (Nat.le_refl _) (by omega) (by omega) (fun _ => rfl) (by rw [Int.sub_self]; simp)
  have hF : F201 N (fun _ => 0#8) 0 0 sig prec e m x = F201_2 N (fun _ => 0#8) 0 0 sig prec neg c ex2 man2 := by
    unfold F201 lt
    rw [h.f65]
    unfold F201_1
    exact r1
  rw [hF]
  have hx0 : XI (fun _ => 0#8) 0 0 := ⟨(fun c hc => by cases hc), rfl, fun k => (k rfl).elim⟩
  unfold F201_2 F201_3
  by_cases hge : 0 ≤ ex2
  · -- a whole number
    obtain ⟨E, hE⟩ : ∃ E : Nat, ex2 = E := ⟨ex2.toNat, by omega⟩
    obtain ⟨gv, t, g1, g2, g3, g4, g5⟩ := F281_ok (N := N) (by omega) (man := man2) (ex := E) (by omega) (by omega)
    rw [bt (decide_eq_true hge), hE, g1, bnd]
    obtain ⟨dig, n, q1, q2, q3⟩ := F201_4_ok (N := N) (sig := sig) (prec := prec) (by omega) g3 g5 hx0
    rw [q1]
    refine ⟨dig, n, gsum gv t, 0, 0, q2, q3, by omega, ?_, pow_pos2 _, Or.inl ⟨rfl, ?_⟩⟩
    · rw [g4, Nat.mul_zero, Nat.pow_zero, Nat.mul_one, Nat.add_zero]
      by_cases hp : 0 ≤ ex
      · have e1 := r6 hp
        rw [e1, Int.sub_self] at r7
        rw [show (-ex).toNat = 0 from by omega, show E = ex.toNat from by omega]
        simpa using congrArg (fun z => z * 2 ^ ex.toNat) r7.symm
      · have e1 := r5 (by omega)
        rw [show E = 0 from by omega, show ex.toNat = 0 from by omega, Nat.pow_zero, Nat.mul_one, Nat.mul_one, ← r7, show (ex2 - ex).toNat = (-ex).toNat from by omega]
    · rw [show (n : Int) - 1 - 18 * ((0 : Nat) : Int) = (n : Int) - 1 from by omega]
  · rw [bf (decide_eq_false (by omega))]
    have hodd : man2.toNat % 2 = 1 := by omega
    obtain ⟨E, hE⟩ : ∃ E : Nat, ex2 = -(E : Int) := ⟨(-ex2).toNat, by omega⟩
    -- at most 1074 places
    have hE74 : E ≤ 1074 := by
      have hval := h.val
      rcases Nat.lt_or_ge 1074 E with k | k
      · exfalso
        have hlow : ex2 < 1 - (bia e.toNat : Int) - m.toNat := by omega
        obtain ⟨g, hg⟩ : ∃ g : Nat, (ex2 + bia e.toNat + 2 * m.toNat - 1) = g := ⟨(ex2 + bia e.toNat + 2 * m.toNat - 1).toNat, by omega⟩
        have hgm : g < m.toNat := by omega
        have e1 : man.toNat * 2 ^ (ex + bia e.toNat + 2 * m.toNat - 1).toNat = man2.toNat * 2 ^ g := by
          rw [← r7, Nat.mul_assoc, ← Nat.pow_add]
          exact congrArg (fun z => man2.toNat * 2 ^ z) (by omega)
        rw [e1] at hval
        have e2 : 2 ^ m.toNat = 2 ^ (m.toNat - g - 1) * 2 * 2 ^ g := by
          rw [← Nat.pow_succ, ← Nat.pow_add]; exact congrArg (fun z => 2 ^ z) (by omega)
        rw [e2, ← Nat.mul_assoc] at hval
        have h9 := Nat.eq_of_mul_eq_mul_right (pow_pos2 g) hval
        rw [h9, ← Nat.mul_assoc, Nat.mul_mod_left] at hodd
        exact absurd hodd (by decide)
      · exact k
    unfold F201_9
    rw [w16_id (by omega), show 0 - ex2 = (E : Int) from by omega]
    obtain ⟨k, hk⟩ : ∃ k, k = 18 := ⟨_, rfl⟩
    obtain ⟨T, hT⟩ : ∃ T, T = 2 ^ (64 * k) := ⟨_, rfl⟩
    have hT2 : T = 2 ^ E * 2 ^ (1152 - E) := by rw [hT, ← Nat.pow_add]; exact congrArg (fun z => 2 ^ z) (by omega)
    have hTp : 0 < T := by rw [hT]; exact pow_pos2 _
    -- num/den = man2/2^E
    have hcross : man.toNat * 2 ^ ex.toNat = man2.toNat * 2 ^ ((-ex).toNat - E) ∧ 2 ^ (-ex).toNat = 2 ^ E * 2 ^ ((-ex).toNat - E) := by
      have hneg : ex < 0 := by omega
      constructor
      · rw [← r7, show ex.toNat = 0 from by omega, Nat.pow_zero, Nat.mul_one]
        exact congrArg (fun z => man2.toNat * 2 ^ z) (by omega)
      · rw [← Nat.pow_add]; exact congrArg (fun z => 2 ^ z) (by omega)
    obtain ⟨G, hG⟩ : ∃ G, G = 2 ^ ((-ex).toNat - E) := ⟨_, rfl⟩
    have hGp : 0 < G := by rw [hG]; exact pow_pos2 _
    rw [← hG] at hcross
    rw [hcross.1, hcross.2]
    -- from here on with the integer part D0 laid out and the rest left
    have tail : ∀ (dig : Nat → BitVec 8) (n D0 : Nat) (rest : BitVec 64), XI dig n D0 → n ≤ 36 → D0 * 2 ^ E + rest.toNat = man2.toNat → rest.toNat < 2 ^ E →
        ∃ dig' n' D δ t, EXP (man2.toNat * G) (2 ^ E * G) sig prec (F201_10 N neg c ex2 (E : Int) dig (n : Int) ((n : Int) - 1) sig prec rest) dig' n' D δ t := by
      intro dig n D0 rest hx hn hsum hlt
      unfold F201_10 F201_11
      by_cases hz : rest.toNat = 0
      · rw [bf (by rw [ne_bv]; exact decide_eq_false (by simpa using hz))]
        refine ⟨dig, n, D0, 0, 0, hx, by omega, by omega, ?_, Nat.mul_pos (pow_pos2 _) hGp, Or.inl ⟨rfl, ?_⟩⟩
        · rw [← hsum, hz, Nat.mul_zero, Nat.pow_zero, Nat.mul_one, Nat.add_zero, Nat.add_zero, Nat.mul_assoc]
        · rw [show (n : Int) - 1 - 18 * ((0 : Nat) : Int) = (n : Int) - 1 from by omega]
      · rw [bt (by rw [ne_bv]; exact decide_eq_true (by simpa using hz))]
        obtain ⟨dig', n', D', W, t, q1, q2, q3, q4, q5, q6⟩ := F283_ok (N := N) (sig := sig) (prec := prec) (by omega) hT hk (man := rest) (e := E) ⟨by omega, hE74⟩ hlt hx hn
        have hAll : (D0 * T + rest.toNat * 2 ^ (1152 - E)) = man2.toNat * 2 ^ (1152 - E) := by
          rw [← hsum, hT2, ← Nat.mul_assoc, ← Nat.add_mul]
        rw [hAll] at q3
        -- cancel 2^(1152-E)
        obtain ⟨S, hS⟩ : ∃ S, S = 2 ^ (1152 - E) := ⟨_, rfl⟩
        have hSp : 0 < S := by rw [hS]; exact pow_pos2 _
        rw [← hS] at q3 hT2
        have hWS : ∃ ρ, W = ρ * S := by
          have h5 : S ∣ man2.toNat * S * 10 ^ (18 * t) := ⟨man2.toNat * 10 ^ (18 * t), by rw [Nat.mul_comm (man2.toNat) S, Nat.mul_assoc]⟩
          have h6 : S ∣ D' * T := ⟨D' * 2 ^ E, by rw [hT2, Nat.mul_comm S, Nat.mul_assoc]⟩
          rw [q3] at h5
          obtain ⟨ρ, hρ⟩ := (Nat.dvd_add_right h6).1 h5
          exact ⟨ρ, by rw [hρ, Nat.mul_comm]⟩
        obtain ⟨ρ, hρ⟩ := hWS
        have h7 : man2.toNat * 10 ^ (18 * t) = D' * 2 ^ E + ρ := by
          refine Nat.eq_of_mul_eq_mul_right hSp ?_
          rw [Nat.add_mul, ← hρ, Nat.mul_assoc D', ← hT2, ← q3, Nat.mul_assoc, Nat.mul_comm (10 ^ (18 * t)), Nat.mul_assoc]
        have hρl : ρ < 2 ^ E := by
          rw [hρ, hT2] at q4
          exact Nat.lt_of_mul_lt_mul_right q4
        refine ⟨dig', n', D', ρ * G, t, q1, q2, q5, ?_, Nat.mul_lt_mul_of_pos_right hρl hGp, ?_⟩
        · rw [Nat.mul_assoc, Nat.mul_comm G, ← Nat.mul_assoc, h7, Nat.add_mul, Nat.mul_assoc]
        · rcases q6 with ⟨c1, c2⟩ | ⟨c1, c2, c3⟩
          · left
            rw [c2]
            refine ⟨?_, rfl⟩
            rw [c1] at hρ
            rcases Nat.mul_eq_zero.1 hρ.symm with k | k
            · rw [k, Nat.zero_mul]
            · omega
          · right
            rw [c3]
            refine ⟨?_, c2, rfl⟩
            intro k
            rcases Nat.mul_eq_zero.1 k with k | k
            · rw [hρ, k, Nat.zero_mul] at c1; exact c1 rfl
            · omega
    unfold F201_12
    by_cases h64 : E < 64
    · rw [bt (decide_eq_true (by omega)), bt (decide_eq_true (by omega)), Int.toNat_natCast]
      unfold F201_13 F201_14
      have hsh : (man2 >>> E).toNat = man2.toNat / 2 ^ E := shr_nat _ _
      have hdm := Nat.div_add_mod man2.toNat (2 ^ E)
      have hml : man2.toNat % 2 ^ E < 2 ^ E := Nat.mod_lt _ (pow_pos2 E)
      by_cases hh : man2.toNat / 2 ^ E = 0
      · rw [bf (by rw [ne_bv, hsh]; exact decide_eq_false (by simpa using hh))]
        exact tail (fun _ => 0#8) 0 0 man2 hx0 (by omega) (by omega) (by rw [hh, Nat.mul_zero, Nat.zero_add] at hdm; omega)
      · rw [bt (by rw [ne_bv, hsh]; exact decide_eq_true (by simpa using hh))]
        have hhl : man2.toNat / 2 ^ E < 2 ^ 53 := Nat.lt_of_le_of_lt (Nat.div_le_self _ _) (by omega)
        have hq1 : ((man2 >>> E) / 1000000000000000000#64).toNat = 0 := by
          rw [BitVec.toNat_udiv, hsh, T18]
          exact Nat.div_eq_of_lt (Nat.lt_trans hhl (by decide))
        have hq2 : ((man2 >>> E) % 1000000000000000000#64).toNat = man2.toNat / 2 ^ E := by
          rw [BitVec.toNat_umod, hsh, T18]
          exact Nat.mod_eq_of_lt (Nat.lt_trans hhl (by decide))
        obtain ⟨d1, n1, f1, f2, f3, f4⟩ := F282_ok (N := N) (sig := sig) (prec := prec) (by omega) hx0 (v := (man2 >>> E) / 1000000000000000000#64) (by rw [hq1]; decide) (by omega) false (w := 0) (by omega)
        simp only [cond_false] at f1
        rw [show (0 : Int) + ((0 : Nat) : Int) - 1 = -1 from by omega, show ((0 : Nat) : Int) = 0 from rfl] at f1
        rw [f1, bnd]
        unfold F201_15
        obtain ⟨d2, n2, u1, u2, u3, u4⟩ := F282_ok (N := N) (sig := sig) (prec := prec) (by omega) f2 (v := (man2 >>> E) % 1000000000000000000#64) (by rw [hq2]; exact Nat.lt_trans hhl (by decide)) (by omega) false (w := 0) (by omega)
        simp only [cond_false] at u1
        rw [u1, bnd]
        unfold F201_16
        rw [bt (decide_eq_true (by omega)), Int.toNat_natCast, show (0 : Int) + (n2 : Int) - 1 = (n2 : Int) - 1 from by omega]
        have hmask : (man2 &&& ((1#64 <<< E) - 1#64)).toNat = man2.toNat % 2 ^ E := by
          have e1 : ((1#64 <<< E) - 1#64).toNat = 2 ^ E - 1 := by
            have hE2 : 2 ^ E < 2 ^ 64 := Nat.pow_lt_pow_right (by decide) h64
            have e2 : (1#64 <<< E).toNat = 2 ^ E := by rw [shl_mod, show (1#64).toNat = 1 from rfl, Nat.one_mul, Nat.mod_eq_of_lt hE2]
            have hp := pow_pos2 E
            rw [BitVec.toNat_sub, e2, show (1#64).toNat = 1 from rfl]
            rw [show 2 ^ 64 - 1 + 2 ^ E = 2 ^ 64 + (2 ^ E - 1) from by omega, Nat.add_mod_left, Nat.mod_eq_of_lt (by omega)]
          rw [BitVec.toNat_and, e1, Nat.and_two_pow_sub_one_eq_mod]
        refine tail d2 n2 _ _ u2 (by omega) ?_ (by rw [hmask]; exact hml)
        rw [hmask, hq1, hq2, Nat.zero_mul, Nat.zero_add, Nat.mul_comm]
        exact hdm
    · rw [bf (decide_eq_false (by omega))]
      have hl : man2.toNat < 2 ^ E := Nat.lt_of_lt_of_le (show man2.toNat < 2 ^ 53 by omega) (Nat.pow_le_pow_right (by decide) (by omega))
      exact tail (fun _ => 0#8) 0 0 man2 hx0 (by omega) (by omega) hl
end
end Go.Proofs.YfwaawGreat
