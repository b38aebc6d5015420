/-
  soft = exact: neighbours.
-/
import Derived.Test.YfwaawGreatC2
namespace Go.Proofs.YfwaawGreat
open Go.Aw
set_option linter.unusedVariables false
set_option linter.unusedSimpArgs false
section
variable {e m mode : BitVec 8} {neg : Bool}
variable {a b c : BitVec 64} {na nb nc : Bool} {ca cb cc ea eb ec : Int} {ma mb mc : BitVec 64} {pa pb pc : Nat}

/-- A size in half units of the least, rounded: the pattern. -/
def hp (M : Nat) (mode : BitVec 8) (neg : Bool) (V : Nat) : Nat := (blen V - (M + 2)) * 2 ^ M + rn mode neg (V / 2 ^ (blen V - (M + 2))) (decide (V % 2 ^ (blen V - (M + 2)) ≠ 0))
theorem RQ_half (h : Fm e m) {V : Nat} (hV : V ≠ 0) (ht : blen V - (m.toNat + 2) ≤ 2 * bia e.toNat - 1) : (RQ e m mode neg V (2 ^ (bia e.toNat + m.toNat))).1 =
    if infP e.toNat m.toNat ≤ hp m.toNat mode neg V then (F252 e m mode neg).1 else BitVec.ofNat 64 (hp m.toNat mode neg V + sgn e.toNat m.toNat neg) := by
  have hb := bia_ge h.e2
  have hbp := blen_pos hV
  obtain ⟨L, hL⟩ : ∃ L, L = bia e.toNat + m.toNat := ⟨_, rfl⟩
  rw [← hL]
  have hlg : lg V (2 ^ L) = blen V - 1 - L := by
    have h1 := Lg_pow hV (-(L : Int))
    rw [show (-(L : Int)).toNat = 0 from by omega, show (-(-(L : Int))).toNat = L from by omega, Nat.pow_zero, Nat.mul_one] at h1
    rw [h1.eq (pne L)]; omega
  unfold RQ RS
  rw [hlg]
  obtain ⟨t, htt⟩ : ∃ t, t = blen V - (m.toNat + 2) := ⟨_, rfl⟩
  have hmax : max ((blen V : Int) - 1 - L) (1 - bia e.toNat) = 1 - bia e.toNat + t := by omega
  rw [hmax]
  have hd : 1 - (bia e.toNat : Int) + t - m.toNat - 1 = t - L := by omega
  have hq := fq_L V L (x := (t : Int) - L) (by omega)
  rw [hd, hq.1, hq.2, show ((t : Int) - L + L).toNat = t from by omega, show (1 - (bia e.toNat : Int) + t - (1 - bia e.toNat)).toNat = t from by omega]
  rw [if_neg (by omega)]
  unfold hp
  rw [← htt]
  split <;> rfl
theorem rz_up (n2 : Nat) (s : Bool) : rz 3#8 neg n2 s = ((decide (n2 % 2 = 1) || s) && !neg) := rfl

theorem uv_parts {M P : Nat} (h : P / 2 ^ M ≠ 0) : ∃ T F, P = (T + 1) * 2 ^ M + F ∧ F < 2 ^ M ∧ uv M P = (F + 2 ^ M) * 2 ^ T := by
  obtain ⟨T, hT⟩ := Nat.exists_eq_succ_of_ne_zero h
  have hdm := Nat.div_add_mod P (2 ^ M)
  refine ⟨T, P % 2 ^ M, ?_, Nat.mod_lt _ (pow_pos2 M), ?_⟩
  · rw [hT, Nat.mul_comm, Nat.succ_eq_add_one] at hdm; omega
  · unfold uv; rw [if_neg h, hT, Nat.succ_eq_add_one, Nat.add_sub_cancel]
theorem uv_sub {M P : Nat} (h : P / 2 ^ M = 0) : uv M P = P ∧ P < 2 ^ M := by
  refine ⟨by unfold uv; rw [if_pos h], ?_⟩
  have := Nat.div_eq_zero_iff.1 h
  have := pow_pos2 M
  omega
theorem blen_of {V k : Nat} (h1 : 2 ^ k ≤ V) (h2 : V < 2 ^ (k + 1)) : blen V = k + 1 := by
  have u1 : blen V ≤ k + 1 := blen_le_iff.2 h2
  have u2 : ¬ blen V ≤ k := fun c => by have := blen_le_iff.1 c; omega
  omega

theorem hp_up (M P : Nat) : hp M 3#8 false (2 * uv M P + 1) = P + 1 ∧ blen (2 * uv M P + 1) - (M + 2) ≤ P / 2 ^ M - 1 := by
  have hpM := pow_pos2 M
  have hs1 := Nat.pow_succ 2 M
  by_cases hT : P / 2 ^ M = 0
  · obtain ⟨h1, h2⟩ := uv_sub hT
    have hb : blen (2 * uv M P + 1) ≤ M + 1 := blen_le_iff.2 (by omega)
    have ht : blen (2 * uv M P + 1) - (M + 2) = 0 := by omega
    refine ⟨?_, by omega⟩
    unfold hp rn
    rw [ht, rz_up, h1, Nat.pow_zero, Nat.div_one, Nat.mod_one, decide_eq_true (show (2 * P + 1) % 2 = 1 by omega)]
    simp only [Bool.true_or, Bool.not_false, Bool.and_self, cond_true]
    omega
  · obtain ⟨T, F, h1, h2, h3⟩ := uv_parts hT
    have hTd : P / 2 ^ M = T + 1 := by
      rw [h1, Nat.add_comm, Nat.add_mul_div_right _ _ hpM, Nat.div_eq_of_lt h2, Nat.zero_add]
    have pT := pow_pos2 T
    have e1 : 2 * uv M P + 1 = 1 + 2 ^ T * (2 * (F + 2 ^ M)) := by rw [h3]; grind
    have hb : blen (2 * uv M P + 1) = M + T + 2 := by
      refine blen_of (k := M + T + 1) ?_ ?_
      · rw [e1, show M + T + 1 = T + (M + 1) from by omega, Nat.pow_add]
        have := Nat.mul_le_mul_left (2 ^ T) (show 2 ^ (M + 1) ≤ 2 * (F + 2 ^ M) by omega)
        omega
      · rw [e1, show M + T + 1 + 1 = T + (M + 2) from by omega, Nat.pow_add]
        have hp2 : 2 ^ (M + 2) = 4 * 2 ^ M := by rw [Nat.pow_add]; omega
        have := Nat.mul_le_mul_left (2 ^ T) (show 2 * (F + 2 ^ M) + 2 ≤ 2 ^ (M + 2) by omega)
        rw [Nat.mul_add] at this
        omega
    have ht : blen (2 * uv M P + 1) - (M + 2) = T := by omega
    refine ⟨?_, by omega⟩
    have hdiv : (2 * uv M P + 1) / 2 ^ T = 1 / 2 ^ T + 2 * (F + 2 ^ M) := by rw [e1, Nat.add_mul_div_left _ _ pT]
    have hmod : (2 * uv M P + 1) % 2 ^ T = 1 % 2 ^ T := by rw [e1, Nat.add_mul_mod_self_left]
    unfold hp rn
    rw [ht, rz_up, hdiv, hmod]
    have hs : (decide ((1 / 2 ^ T + 2 * (F + 2 ^ M)) % 2 = 1) || decide (1 % 2 ^ T ≠ 0)) = true := by
      cases T with
      | zero => rw [Nat.pow_zero, Nat.div_one, decide_eq_true (show (1 + 2 * (F + 2 ^ M)) % 2 = 1 by omega)]; rfl
      | succ T =>
        have : 2 ≤ 2 ^ (T + 1) := by rw [Nat.pow_succ]; have := pow_pos2 T; omega
        rw [decide_eq_true (show 1 % 2 ^ (T + 1) ≠ 0 by rw [Nat.mod_eq_of_lt (by omega)]; decide)]
        simp
    rw [hs]
    simp only [Bool.not_false, Bool.and_self, cond_true]
    have hdv : (1 / 2 ^ T + 2 * (F + 2 ^ M)) / 2 = F + 2 ^ M := by
      have : 1 / 2 ^ T ≤ 1 := Nat.div_le_self _ _
      generalize 1 / 2 ^ T = z at *
      omega
    rw [hdv, h1, Nat.add_mul]
    omega

theorem hp_down {M P : Nat} (hP : P ≠ 0) : hp M 3#8 true (2 * uv M P - 1) = P - 1 ∧ blen (2 * uv M P - 1) - (M + 2) ≤ P / 2 ^ M - 1 ∧ 2 * uv M P - 1 ≠ 0 := by
  have hpM := pow_pos2 M
  have hs1 := Nat.pow_succ 2 M
  have hrz : ∀ n2 s, rn 3#8 true n2 s = n2 / 2 := by
    intro n2 s
    unfold rn
    rw [rz_up, Bool.not_true, Bool.and_false]; rfl
  by_cases hT : P / 2 ^ M = 0
  · obtain ⟨h1, h2⟩ := uv_sub hT
    have hb : blen (2 * uv M P - 1) ≤ M + 1 := blen_le_iff.2 (by omega)
    have ht : blen (2 * uv M P - 1) - (M + 2) = 0 := by omega
    refine ⟨?_, by omega, by omega⟩
    unfold hp
    rw [ht, hrz, h1, Nat.pow_zero, Nat.div_one]
    omega
  · obtain ⟨T, F, h1, h2, h3⟩ := uv_parts hT
    have hTd : P / 2 ^ M = T + 1 := by
      rw [h1, Nat.add_comm, Nat.add_mul_div_right _ _ hpM, Nat.div_eq_of_lt h2, Nat.zero_add]
    have pT := pow_pos2 T
    have e0 : 2 * uv M P = 2 ^ T * (2 * (F + 2 ^ M)) := by rw [h3]; grind
    have hge : 2 ^ T * 2 ≤ 2 * uv M P := by rw [e0]; exact Nat.mul_le_mul_left _ (by omega)
    by_cases hF : F = 0
    · -- the least of its binade
      have e1 : 2 * uv M P = 2 ^ (M + T + 1) := by
        rw [e0, hF, Nat.zero_add, show M + T + 1 = T + (M + 1) from by omega, Nat.pow_add, hs1]; grind
      have hb : blen (2 * uv M P - 1) = M + T + 1 := by
        rw [e1]
        refine blen_of (k := M + T) ?_ ?_
        · have := pow_pos2 (M + T); rw [Nat.pow_succ]; omega
        · have := pow_pos2 (M + T + 1); omega
      refine ⟨?_, by omega, by omega⟩
      unfold hp
      rw [hrz]
      cases T with
      | zero =>
        have ht : blen (2 * uv M P - 1) - (M + 2) = 0 := by omega
        rw [ht, Nat.pow_zero, Nat.div_one, e1, h1, hF, hs1]
        omega
      | succ T =>
        have ht : blen (2 * uv M P - 1) - (M + 2) = T := by omega
        rw [ht, e1]
        have pT' := pow_pos2 T
        have e2 : 2 ^ (M + (T + 1) + 1) - 1 = (2 ^ T - 1) + 2 ^ T * (2 ^ (M + 2) - 1) := by
          have : 2 ^ (M + (T + 1) + 1) = 2 ^ T * 2 ^ (M + 2) := by rw [← Nat.pow_add]; exact congrArg (fun t => 2 ^ t) (by omega)
          rw [this, Nat.mul_sub, Nat.mul_one]
          have := Nat.le_mul_of_pos_right (2 ^ T) (pow_pos2 (M + 2))
          omega
        have hdiv : (2 ^ (M + (T + 1) + 1) - 1) / 2 ^ T = 2 ^ (M + 2) - 1 := by rw [e2, Nat.add_mul_div_left _ _ pT', Nat.div_eq_of_lt (by omega), Nat.zero_add]
        rw [hdiv, h1, hF]
        have hp2 : 2 ^ (M + 2) = 4 * 2 ^ M := by rw [Nat.pow_add]; omega
        rw [hp2, Nat.add_mul, Nat.add_mul]
        omega
    · have hb : blen (2 * uv M P - 1) = M + T + 2 := by
        refine blen_of (k := M + T + 1) ?_ ?_
        · rw [e0, show M + T + 1 = T + (M + 1) from by omega, Nat.pow_add]
          have := Nat.mul_le_mul_left (2 ^ T) (show 2 ^ (M + 1) + 2 ≤ 2 * (F + 2 ^ M) by omega)
          rw [Nat.mul_add] at this
          omega
        · rw [e0, show M + T + 1 + 1 = T + (M + 2) from by omega, Nat.pow_add]
          have hp2 : 2 ^ (M + 2) = 4 * 2 ^ M := by rw [Nat.pow_add]; omega
          have := Nat.mul_le_mul_left (2 ^ T) (show 2 * (F + 2 ^ M) ≤ 2 ^ (M + 2) by omega)
          omega
      have ht : blen (2 * uv M P - 1) - (M + 2) = T := by omega
      refine ⟨?_, by omega, by omega⟩
      unfold hp
      rw [hrz, ht, e0]
      have e2 : 2 ^ T * (2 * (F + 2 ^ M)) - 1 = (2 ^ T - 1) + 2 ^ T * (2 * (F + 2 ^ M) - 1) := by
        rw [Nat.mul_sub, Nat.mul_one]
        have := Nat.le_mul_of_pos_right (2 ^ T) (show 0 < 2 * (F + 2 ^ M) by omega)
        omega
      have hdiv : (2 ^ T * (2 * (F + 2 ^ M)) - 1) / 2 ^ T = 2 * (F + 2 ^ M) - 1 := by rw [e2, Nat.add_mul_div_left _ _ pT, Nat.div_eq_of_lt (by omega), Nat.zero_add]
      rw [hdiv, h1, Nat.add_mul]
      omega

/-! ### The neighbour above -/
/-- Sign and pattern of the neighbour above. -/
def nx (E M : Nat) (neg : Bool) (P : Nat) : Bool × Nat := bif neg then (if P = 0 then (false, 1) else (true, P - 1)) else (false, min (P + 1) (infP E M))
theorem nx_le {E M : Nat} {P : Nat} (h : 1 ≤ infP E M) (hP : P ≤ infP E M) : (nx E M neg P).2 ≤ infP E M := by
  unfold nx
  cases neg with
  | false => simp only [cond_false]; omega
  | true => simp only [cond_true]; split <;> simp only [] <;> omega
theorem F277_ok (h : Fm e m) {x : BitVec 64} {P : Nat} (hx : x.toNat = P + sgn e.toNat m.toNat neg) (hP : P ≤ infP e.toNat m.toNat) :
    (F277 e m x).toNat = (nx e.toNat m.toNat neg P).2 + sgn e.toNat m.toNat (nx e.toNat m.toNat neg P).1 := by
  have h2 := h.e11
  have h4 := h.m52
  have hi := infP_lt' e.toNat m.toNat
  have hip := infP_pos h
  have hpm := pow_pos2 m.toNat
  have hl : 2 ^ (e.toNat + m.toNat) * 2 ≤ 2 ^ 64 := by rw [← Nat.pow_succ]; exact pow_le (by omega)
  rw [p64] at hl
  unfold F277 F277_1 F277_2 F277_3 nx
  simp only [lt]
  have f67 := F67_ok h false
  have f70 := F70_ok h
  rw [show sgn e.toNat m.toNat false = 0 from rfl, Nat.add_zero] at f67
  rw [eq_bv, eq_bv, f67, f70, hx]
  cases neg with
  | false =>
    rw [show sgn e.toNat m.toNat false = 0 from rfl, Nat.add_zero] at hx ⊢
    simp only [cond_false]
    by_cases c : P = infP e.toNat m.toNat
    · rw [bt (decide_eq_true c), hx]
      show P = min (P + 1) (infP e.toNat m.toNat) + 0
      omega
    · rw [bf (decide_eq_false c), bf (decide_eq_false (by omega)), bf (decide_eq_false (by omega)), add64, hx, show (1#64).toNat = 1 from rfl]
      show _ = min (P + 1) (infP e.toNat m.toNat) + 0
      omega
  | true =>
    rw [show sgn e.toNat m.toNat true = 2 ^ (e.toNat + m.toNat) from rfl] at hx ⊢
    simp only [cond_true]
    rw [bf (decide_eq_false (by omega))]
    by_cases c : P = 0
    · rw [bt (decide_eq_true (by omega)), if_pos c]; rfl
    · rw [bf (decide_eq_false (by omega)), bt (decide_eq_true (by omega)), if_neg c, sub64, hx, show (1#64).toNat = 1 from rfl]
      show _ = P - 1 + 2 ^ (e.toNat + m.toNat)
      omega

/-- exact's neighbour above. -/
theorem F279_ok {N : Nat} (h : Fm e m) {c : Int} {vn : Bool} {num den P : Nat} {x : BitVec 64} (hx : x.toNat = P + sgn e.toNat m.toNat neg)
    (alt : ((c == 3) = true ∧ P = infP e.toNat m.toNat) ∨
       ((c == 3) = false ∧ vn = neg ∧ P < infP e.toNat m.toNat ∧ den ≠ 0 ∧ blen num ≤ 2000 ∧ blen den ≤ 2000 ∧ num * 2 ^ (bia e.toNat + m.toNat - 1) = uv m.toNat P * den)) :
    F279 N e m x neg c vn num den = some (F277 e m x) := by
  have hip := infP_pos h
  have hpm := pow_pos2 m.toNat
  have hb := bia_le h.e11
  have hbg := bia_ge h.e2
  have h4 := h.m52
  have hPi : P ≤ infP e.toNat m.toNat := by rcases alt with k | k <;> omega
  have hf := F277_ok h hx hPi
  have hnx := nx_le (neg := neg) (P := P) (show 1 ≤ infP e.toNat m.toNat by omega) hPi
  have h2 := h.e11
  have hi := infP_lt' e.toNat m.toNat
  have hl : 2 ^ (e.toNat + m.toNat) * 2 ≤ 2 ^ 64 := by rw [← Nat.pow_succ]; exact pow_le (by omega)
  rw [p64] at hl
  -- the answer by its number
  have fin : ∀ y : BitVec 64, y.toNat = (nx e.toNat m.toNat neg P).2 + sgn e.toNat m.toNat (nx e.toNat m.toNat neg P).1 → some y = some (F277 e m x) := by
    intro y hy
    rw [BitVec.eq_of_toNat_eq (hy.trans hf.symm)]
  unfold F279 F279_1 F279_2
  simp only [lt]
  rcases alt with ⟨c3, hP⟩ | ⟨c3, hvn, hP, hd, b1, b2, hv⟩
  · rw [c3, Bool.true_and]
    cases neg with
    | true =>
      rw [bt rfl]
      refine fin _ ?_
      rw [F68_ok h]
      unfold nx
      simp only [cond_true]
      rw [if_neg (by omega), hP]
    | false =>
      rw [bf rfl, bt rfl]
      refine fin _ ?_
      rw [hx]
      unfold nx
      simp only [cond_false]
      omega
  · subst hvn
    rw [c3, Bool.false_and, bf rfl, bf rfl, F246_ok h]
    have w1 : w64 (m.toNat : Int) = m.toNat := w64_id (by omega)
    have w2 : w64 (1 - (bia e.toNat : Int) - m.toNat) = 1 - bia e.toNat - m.toNat := w64_id (by omega)
    have w3 : w64 (1 - (bia e.toNat : Int) - m.toNat - 1) = -((bia e.toNat + m.toNat : Nat) : Int) := by rw [w64_id (by omega)]; omega
    rw [w1, w2, w3, F130_ok (by omega) (by decide)]
    simp only [Option.bind_some]
    obtain ⟨L, hL⟩ : ∃ L, L = bia e.toNat + m.toNat := ⟨_, rfl⟩
    rw [← hL, show (-(L : Int)).toNat = 0 from by omega, show (-(-(L : Int))).toNat = L from by omega, Nat.pow_zero, Nat.mul_one, show (1#64).toNat = 1 from rfl]
    have hv2 : num * 2 ^ L = 2 * uv m.toNat P * den := by
      have : L = bia e.toNat + m.toNat - 1 + 1 := by omega
      rw [this, Nat.pow_succ, ← Nat.mul_assoc, hv]; grind
    have hbl : blen (2 ^ L) ≤ 2000 := by rw [blen_pow2]; omega
    have z1 := bl1
    obtain ⟨ng, num', den', k1, k2, k3, k4, k5⟩ := F146_ok (N := N) (na := vn) (nb := false) (bn := 1) (bd := 2 ^ L) (VB := 1) (L := 2 ^ L) hv2 (by rfl) (pow_pos2 L) (by omega) (pow_pos2 L) (by omega) (by omega) (by omega) (by omega)
    rw [k1]
    simp only [Option.bind_some]
    -- the rounded value
    have hTle : P / 2 ^ m.toNat ≤ 2 * bia e.toNat := by
      have hEp := pow_E h.e2
      unfold infP at hP
      have := (Nat.div_lt_iff_lt_mul hpm).2 hP
      omega
    have key : ∀ V, V ≠ 0 → num' * 2 ^ L = V * den' → blen V - (m.toNat + 2) ≤ P / 2 ^ m.toNat - 1 → ((F78 N e m 3#8 ng num' den').bind fun y12 => some y12) =
        some (if infP e.toNat m.toNat ≤ hp m.toNat 3#8 ng V then (F252 e m 3#8 ng).1 else BitVec.ofNat 64 (hp m.toNat 3#8 ng V + sgn e.toNat m.toNat ng)) := by
      intro V hV hVd ht
      have hn : num' ≠ 0 := fun c => by
        rw [c, Nat.zero_mul] at hVd
        rcases Nat.mul_eq_zero.1 hVd.symm with k | k
        · exact hV k
        · exact k2 k
      have ht2 : blen V - (m.toNat + 2) ≤ 2 * bia e.toNat - 1 := Nat.le_trans ht (Nat.sub_le_sub_right hTle 1)
      unfold F78 F78_1
      rw [F136_RQ h hn k2 (by omega) (by omega), RQ_cross hn k2 (pne L) hVd]
      simp only [Option.bind_some]
      rw [hL, RQ_half h hV ht2]
    rcases k5 with ⟨g1, g2, g3⟩ | ⟨g1, g2, g3, g4⟩ | ⟨g1, g2, g3, g4⟩
    · -- upwards from a positive number
      subst g1 g2
      obtain ⟨u1, u2⟩ := hp_up m.toNat P
      rw [key _ (by omega) g3 u2, u1]
      refine fin _ ?_
      unfold nx
      simp only [cond_false]
      rw [show sgn e.toNat m.toNat false = 0 from rfl, Nat.add_zero, Nat.add_zero]
      by_cases c : infP e.toNat m.toNat ≤ P + 1
      · rw [if_pos c]
        have : (F252 e m 3#8 false).1 = F67 e m false := rfl
        rw [this, F67_ok h, show sgn e.toNat m.toNat false = 0 from rfl]
        omega
      · rw [if_neg c, BitVec.toNat_ofNat, Nat.mod_eq_of_lt (by omega)]
        omega
    · -- from a negative number
      have hvt : vn = true := by cases vn <;> first | exact (g1 rfl).elim | rfl
      subst hvt
      subst g3
      have hP0 : P ≠ 0 := fun c => by rw [c, uv_zero] at g2; omega
      obtain ⟨u1, u2, u3⟩ := hp_down (M := m.toNat) hP0
      rw [key _ u3 g4 u2, u1]
      refine fin _ ?_
      unfold nx
      simp only [cond_true]
      rw [if_neg (by omega), if_neg hP0, BitVec.toNat_ofNat]
      show (P - 1 + 2 ^ (e.toNat + m.toNat)) % 2 ^ 64 = P - 1 + 2 ^ (e.toNat + m.toNat)
      rw [p64, Nat.mod_eq_of_lt (by omega)]
    · -- from minus zero
      have hvt : vn = true := by cases vn <;> first | exact (g1 rfl).elim | rfl
      subst hvt
      subst g3
      have hu : uv m.toNat P = 0 := by omega
      have hP0 : P = 0 := by rw [← uv_zero m.toNat] at hu; exact uv_eq_iff.1 hu
      obtain ⟨u1, u2⟩ := hp_up m.toNat 0
      rw [uv_zero] at u1 u2
      rw [hu] at g4
      rw [key _ (show 1 ≠ 0 by decide) g4 (by rw [hP0]; exact u2)]
      have u1' : hp m.toNat 3#8 false 1 = 1 := u1
      rw [u1']
      refine fin _ ?_
      unfold nx
      simp only [cond_true]
      have hpm2 : 2 ^ 2 ≤ 2 ^ m.toNat := pow_le h.m2
      rw [if_pos hP0, if_neg (by omega)]
      rfl
end
end Go.Proofs.YfwaawGreat
