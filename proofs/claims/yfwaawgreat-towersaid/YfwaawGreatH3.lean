/-
  Hexadecimals rounded: hexa.BitsFlags = exact.RoundHexFlags; the scanners answer.
-/
import Derived.Test.YfwaawGreatH2
import Derived.Test.YfwaawGreatY5
import Derived.Test.YfwaawGreatA5
import Derived.Test.YfwaawGreatG53
namespace Go.Proofs.YfwaawGreat
open Go.Aw
set_option linter.unusedVariables false
set_option linter.unusedSimpArgs false

/-- Digits read in hexadecimal, behind n. -/
def hval : List UInt8 → Nat → Nat
  | [], n => n
  | c :: D, n => hval D (n * 16 + hv c)
theorem hval_app : ∀ (D R : List UInt8) (n : Nat), hval (D ++ R) n = hval R (hval D n)
  | [], _, _ => rfl
  | c :: D, R, n => by rw [List.cons_append, hval, hval, hval_app D R]
theorem hval_eq : ∀ (D : List UInt8) (n : Nat), hval D n = n * 16 ^ D.length + hval D 0
  | [], n => by simp [hval]
  | c :: D, n => by
    rw [hval, hval, hval_eq D (n * 16 + hv c), hval_eq D (0 * 16 + hv c), List.length_cons, Nat.pow_succ]
    generalize 16 ^ D.length = P
    grind
theorem hval_lt : ∀ (D : List UInt8), (∀ c ∈ D, hxB c = true) → hval D 0 < 16 ^ D.length
  | [], _ => by simp [hval]
  | c :: D, h => by
    have h1 := hval_lt D fun d hd => h d (List.mem_cons_of_mem _ hd)
    have h2 := hv_lt (h c (List.mem_cons_self ..))
    rw [hval, hval_eq, List.length_cons, Nat.pow_succ, Nat.zero_mul, Nat.zero_add]
    have h3 : hv c * 16 ^ D.length ≤ 15 * 16 ^ D.length := Nat.mul_le_mul_right _ (by omega)
    omega
theorem p16 (k : Nat) : 16 ^ k = 2 ^ (4 * k) := by rw [Nat.pow_mul]
theorem blen_hval {D : List UInt8} {k : Nat} (h : ∀ c ∈ D, hxB c = true) (hl : D.length ≤ k) : blen (hval D 0) ≤ 4 * k := by
  refine blen_le_iff.2 (Nat.lt_of_lt_of_le (hval_lt D h) ?_)
  rw [p16]; exact Nat.pow_le_pow_right (by decide) (by omega)

section
variable {e m mode : BitVec 8} {neg : Bool} {D : List UInt8} {x : Int} {N : Nat}
theorem F212_5_ok {c : UInt8} (hc : hxB c = true) {n i : Nat} (hn : blen n ≤ 4000) :
    F212_5 N e m mode neg D x n (i : Int) c.toBitVec = F212_4 N e m mode neg D x (i : Int) (n * 16 + hv c) := by
  have hb := c.toNat_lt
  have e0 : c.toBitVec.toNat = c.toNat := rfl
  have h6 : ∀ w : BitVec 64, w.toNat = hv c → F212_6 N e m mode neg D x n (i : Int) w = F212_4 N e m mode neg D x (i : Int) (n * 16 + hv c) := by
    intro w hw
    have hv' := hv_lt hc
    unfold F212_6
    have e4 : (2 : Nat) ^ (4#16).toNat = 16 := rfl
    have h1 : blen (n * 16) ≤ blen n + 4 := blen_shl n 4
    rw [hw, e4, bt (lim_blen (by omega)), bt (limand (by omega) (Nat.le_trans (blen_mono (Nat.le_of_lt hv')) (by decide)))]
  have hof : ∀ k : Nat, k < 256 → (BitVec.ofInt 64 (k : Int)).toNat = k := by
    intro k hk
    rw [BitVec.toNat_ofInt]; omega
  have hsub : ∀ k : Nat, k ≤ c.toNat → k < 256 → (c.toBitVec - BitVec.ofNat 8 k).toNat = c.toNat - k := by
    intro k h1 h2
    rw [BitVec.toNat_sub, BitVec.toNat_ofNat, e0]; omega
  unfold hxB at hc
  simp only [Bool.or_eq_true, Bool.and_eq_true, decide_eq_true_eq] at hc
  unfold F212_5 F212_7 F212_8 F212_9
  rw [e0, show (48#8).toNat = 48 from rfl, show (57#8).toNat = 57 from rfl, show (97#8).toNat = 97 from rfl, show (102#8).toNat = 102 from rfl, show (65#8).toNat = 65 from rfl, show (70#8).toNat = 70 from rfl]
  by_cases a1 : 48 ≤ c.toNat ∧ c.toNat ≤ 57
  · rw [bt (by simp; omega)]
    refine h6 _ ?_
    rw [hsub 48 (by omega) (by omega), hof _ (by omega)]
    unfold hv; rw [if_pos (by omega)]
  · rw [bf (by simp; omega)]
    by_cases a2 : 97 ≤ c.toNat ∧ c.toNat ≤ 102
    · rw [bt (by simp; omega)]
      refine h6 _ ?_
      rw [add64, hsub 97 (by omega) (by omega), hof _ (by omega), show (10#64).toNat = 10 from rfl]
      unfold hv; rw [if_neg (by omega), if_neg (by omega)]; omega
    · rw [bf (by simp; omega), bt (by simp; omega)]
      refine h6 _ ?_
      rw [add64, hsub 65 (by omega) (by omega), hof _ (by omega), show (10#64).toNat = 10 from rfl]
      unfold hv; rw [if_neg (by omega), if_pos (by omega)]; omega
theorem F212_ok (hN : 801 ≤ N) (h : HC D x) : F212 N e m mode neg D x = F212_1 N e m mode neg x (hval D 0) := by
  have hl := h.len
  have hD : ∀ c ∈ D, hxB c = true := fun c hc => (h.d c hc).1
  have key : ∀ (R : List UInt8) (M i n : Nat), R.length < M → D.drop i = R → i ≤ D.length → blen n ≤ 4 * i → hval D 0 = hval R n →
      iterL (F212_L2 N e m mode neg D x) M (n, (i : Int)) = F212_1 N e m mode neg x (hval D 0) := by
    intro R
    induction R with
    | nil =>
      intro M i n hM hR hi hn he
      obtain ⟨M, rfl⟩ : ∃ K, M = K + 1 := ⟨M - 1, by omega⟩
      have hpl := drop_nil hR hi
      rw [iterL]
      unfold F212_L2 F212_L2b F212_3
      simp only []
      rw [bf (decide_eq_false (by omega)), he, hval]
      cases F212_1 N e m mode neg x n <;> rfl
    | cons c R ih =>
      intro M i n hM hR hi hn he
      obtain ⟨M, rfl⟩ : ∃ K, M = K + 1 := ⟨M - 1, by omega⟩
      obtain ⟨hpl, hg, hR', hc⟩ := drop_cons hR
      have hcx := hD c (List.mem_of_getElem? hc)
      have hvl := hv_lt hcx
      have hstep : F212_L2 N e m mode neg D x (n, (i : Int)) = some (.inl (n * 16 + hv c, ((i + 1 : Nat) : Int))) := by
        unfold F212_L2 F212_L2b F212_3
        simp only [Int.toNat_natCast, hg]
        rw [bt (decide_eq_true (by omega)), bt (by simp; omega), F212_5_ok hcx (by omega)]
        unfold F212_4
        rw [w64_id (by omega)]
        rfl
      rw [iterL, hstep]
      refine ih M (i + 1) _ (by rw [List.length_cons] at hM; omega) hR' (by omega) ?_ he
      have h1 := blen_le_iff.1 hn
      refine blen_le_iff.2 ?_
      rw [show 4 * (i + 1) = 4 * i + 4 from by omega, Nat.pow_add]
      generalize 2 ^ (4 * i) = P at h1
      show n * 16 + hv c < P * 16
      omega
  unfold F212
  exact key D N 0 0 (by omega) rfl (by omega) (by decide) rfl
/-- hexa's loop: the digits that are kept, and a mark for the rest. -/
theorem F213_L4_ok (hN : 801 ≤ N) (h : HC D x) : ∃ (s : BitVec 64) (j : Nat), iterL (F213_L4 N e m mode neg D x) N (0#64, x, 0) = F213_3 N e m mode neg D x s (x + 4 * (j : Int)) ∧ j ≤ D.length ∧
    (j ≠ 0 → 1152921504606846976 ≤ s.toNat) ∧ s.toNat = jm (hval D 0 / 16 ^ j) (decide (hval D 0 % 16 ^ j ≠ 0)) := by
  have hl := h.len
  have hlo := h.lo
  have hhi := h.hi
  have hD : ∀ c ∈ D, hxB c = true := fun c hc => (h.d c hc).1
  have key : ∀ (R : List UInt8) (M i n j : Nat) (s : BitVec 64), R.length < M → D.drop i = R → i ≤ D.length → j ≤ i → hval D 0 = hval R n →
      (j ≠ 0 → 1152921504606846976 ≤ s.toNat) → s.toNat = jm (n / 16 ^ j) (decide (n % 16 ^ j ≠ 0)) → 
      ∃ (s' : BitVec 64) (j' : Nat), iterL (F213_L4 N e m mode neg D x) M (s, x + 4 * (j : Int), (i : Int)) = F213_3 N e m mode neg D x s' (x + 4 * (j' : Int)) ∧ j' ≤ D.length ∧
        (j' ≠ 0 → 1152921504606846976 ≤ s'.toNat) ∧ s'.toNat = jm (hval D 0 / 16 ^ j') (decide (hval D 0 % 16 ^ j' ≠ 0)) := by
    intro R
    induction R with
    | nil =>
      intro M i n j s hM hR hi hj he hs1 hs2
      obtain ⟨M, rfl⟩ : ∃ K, M = K + 1 := ⟨M - 1, by omega⟩
      have hpl := drop_nil hR hi
      refine ⟨s, j, ?_, by omega, hs1, by rw [he]; exact hs2⟩
      rw [iterL]
      unfold F213_L4 F213_L4b F213_5
      simp only []
      rw [bf (decide_eq_false (by omega))]
      cases F213_3 N e m mode neg D x s (x + 4 * (j : Int)) <;> rfl
    | cons c R ih =>
      intro M i n j s hM hR hi hj he hs1 hs2
      obtain ⟨M, rfl⟩ : ∃ K, M = K + 1 := ⟨M - 1, by omega⟩
      obtain ⟨hpl, hg, hR', hc⟩ := drop_cons hR
      have hcx := hD c (List.mem_of_getElem? hc)
      have hvl := hv_lt hcx
      have hof : (BitVec.ofInt 64 (hv c : Int)).toNat = hv c := by
        rw [BitVec.toNat_ofInt]; omega
      have hsh : (s >>> 60).toNat = s.toNat / 1152921504606846976 := by
        rw [shr_nat, show (2 : Nat) ^ 60 = 1152921504606846976 from rfl]
      by_cases hsm : s.toNat < 1152921504606846976
      · have hj0 : j = 0 := by
          rcases Nat.eq_zero_or_pos j with k | k
          · exact k
          · have := hs1 (by omega); omega
        subst hj0
        have hsn : s.toNat = n := by
          rw [hs2, Nat.pow_zero, Nat.div_one, Nat.mod_one, decide_eq_false (by simp)]; rfl
        have hor : ((s <<< 4) ||| BitVec.ofInt 64 (hv c : Int)).toNat = n * 16 + hv c := by
          rw [BitVec.toNat_or, BitVec.toNat_shiftLeft, Nat.shiftLeft_eq, p64, hof, hsn, show (2 : Nat) ^ 4 = 16 from rfl, Nat.mod_eq_of_lt (by omega)]
          rw [show n * 16 = n * 2 ^ 4 from rfl, ← Nat.shiftLeft_eq, ← Nat.shiftLeft_add_eq_or_of_lt (by show hv c < 2 ^ 4; exact hvl)]
        have hstep : F213_L4 N e m mode neg D x (s, x + 4 * ((0 : Nat) : Int), (i : Int)) = some (.inl ((s <<< 4) ||| BitVec.ofInt 64 (hv c : Int), x + 4 * ((0 : Nat) : Int), ((i + 1 : Nat) : Int))) := by
          unfold F213_L4 F213_L4b F213_5 lt
          simp only [Int.toNat_natCast, hg]
          rw [bt (decide_eq_true (by omega)), bt (by simp; omega), F285_ok hcx]
          unfold F213_7 F213_8
          rw [eq_bv, bt (decide_eq_true (by rw [hsh]; show s.toNat / 1152921504606846976 = 0; omega))]
          unfold F213_9 F213_6
          rw [w64_id (by omega)]
          rfl
        rw [iterL, hstep]
        refine ih M (i + 1) (n * 16 + hv c) 0 _ (by rw [List.length_cons] at hM; omega) hR' (by omega) (by omega) he (fun k => (k rfl).elim) ?_
        rw [hor, Nat.pow_zero, Nat.div_one, Nat.mod_one, decide_eq_false (by simp)]; rfl
      · -- one more digit behind the kept ones
        have hdiv : (n * 16 + hv c) / 16 ^ (j + 1) = n / 16 ^ j := by
          rw [Nat.pow_succ, Nat.mul_comm (16 ^ j) 16, ← Nat.div_div_eq_div_mul, show (n * 16 + hv c) / 16 = n from by omega]
        have hmod : (decide ((n * 16 + hv c) % 16 ^ (j + 1) ≠ 0)) = (decide (n % 16 ^ j ≠ 0) || decide (hv c ≠ 0)) := by
          have h1 : (n * 16 + hv c) % 16 ^ (j + 1) = 16 * (n % 16 ^ j) + hv c := by
            rw [Nat.pow_succ, Nat.mul_comm (16 ^ j) 16, Nat.mod_mul, show (n * 16 + hv c) / 16 = n from by omega, show (n * 16 + hv c) % 16 = hv c from by omega]; omega
          rw [h1, ← Bool.decide_or]
          exact decide_eq_decide.2 (by omega)
        have hjm : ∀ (u : Nat) (b : Bool), jm (jm u b) true = jm u true := by
          intro u b
          unfold jm
          cases b with
          | false => rfl
          | true => simp only [cond_true]; omega
        have hone : (s ||| 1#64).toNat = jm (n / 16 ^ j) true := by
          rw [BitVec.toNat_or, show (1#64).toNat = 1 from rfl, or_one, hs2]
          have := hjm (n / 16 ^ j) (decide (n % 16 ^ j ≠ 0))
          exact this
        have hstep : F213_L4 N e m mode neg D x (s, x + 4 * (j : Int), (i : Int)) = some (.inl (if hv c = 0 then s else s ||| 1#64, x + 4 * ((j + 1 : Nat) : Int), ((i + 1 : Nat) : Int))) := by
          unfold F213_L4 F213_L4b F213_5 lt
          simp only [Int.toNat_natCast, hg]
          rw [bt (decide_eq_true (by omega)), bt (by simp; omega), F285_ok hcx]
          unfold F213_7 F213_8
          rw [eq_bv, bf (decide_eq_false (by rw [hsh]; show ¬ s.toNat / 1152921504606846976 = 0; omega))]
          unfold F213_10 F213_11 F213_6
          rw [w64_id (by omega), w16_id (by omega), ne_bv, hof, show (0#64).toNat = 0 from rfl, show x + 4 * (j : Int) + 4 = x + 4 * ((j + 1 : Nat) : Int) from by omega]
          by_cases hz : hv c = 0
          · rw [bf (decide_eq_false (by omega)), if_pos hz]; rfl
          · rw [bt (decide_eq_true (by omega)), if_neg hz]; rfl
        rw [iterL, hstep]
        refine ih M (i + 1) (n * 16 + hv c) (j + 1) _ (by rw [List.length_cons] at hM; omega) hR' (by omega) (by omega) he (fun _ => ?_) ?_
        · split
          · omega
          · rw [BitVec.toNat_or]
            have : s.toNat ≤ s.toNat ||| (1#64).toNat := Nat.left_le_or
            omega
        · rw [hdiv, hmod]
          by_cases hz : hv c = 0
          · rw [if_pos hz, hs2, decide_eq_false (show ¬ hv c ≠ 0 by omega), Bool.or_false]
          · rw [if_neg hz, hone, decide_eq_true (show hv c ≠ 0 by omega), Bool.or_true]
  have h0 := key D N 0 0 0 0#64 (by omega) rfl (by omega) (by omega) rfl (fun k => (k rfl).elim) (by rfl)
  rw [show x + 4 * ((0 : Nat) : Int) = x from by omega] at h0
  exact h0
theorem hval_ne (h : HC D x) (hz : D ≠ []) : hval D 0 ≠ 0 := by
  obtain ⟨c, R, rfl⟩ := List.exists_cons_of_ne_nil hz
  have h1 := h.first hz
  have h1 : hv c ≠ 0 := h1
  rw [hval, hval_eq, Nat.zero_mul, Nat.zero_add]
  have : 0 < 16 ^ R.length := Nat.pow_pos (by decide)
  have : 0 < hv c * 16 ^ R.length := Nat.mul_pos (by omega) this
  omega
/-- hexa.BitsFlags = exact.RoundHexFlags. -/
theorem hexBits_eq (hN : 900 ≤ N) (hf : Fm e m) (h : HC D x) : Bo (F213 N e m mode neg D x) (F212 N e m mode neg D x) := by
  have hl := h.len
  have hlo := h.lo
  have hhi := h.hi
  have hD : ∀ c ∈ D, hxB c = true := fun c hc => (h.d c hc).1
  have hm := hf.m52
  rw [F212_ok (by omega) h]
  unfold F212_1
  have hbv := blen_hval hD hl
  rw [w64_id (by omega), F130_ok (by omega) (by omega), bnd]
  unfold F213
  rw [w64_id (by omega), F284_idem (by omega) h, bnd]
  unfold F213_1 lt
  rw [hf.ok]
  unfold F213_2
  simp only []
  rw [bf (by simp)]
  obtain ⟨s, j, h1, h2, h3, h4⟩ := F213_L4_ok (e := e) (m := m) (mode := mode) (neg := neg) (N := N) (by omega) h
  rw [h1]
  unfold F213_3 F179 F179_1 lt
  simp only []
  rw [hf.ok, Bool.not_true, bf rfl]
  rw [show min (max (x + 4 * (j : Int)) (-20000)) 20000 = x + 4 * (j : Int) from by omega]
  have hx1 : blen (hval D 0 * 2 ^ x.toNat) ≤ 1000000 := by
    have := blen_shl (hval D 0) x.toNat
    omega
  have hx2 : blen (2 ^ (-x).toNat) ≤ 1000000 := by rw [blen_pow2]; omega
  have hp2 := pow_pos2 (-x).toNat
  by_cases hz : D = []
  · subst hz
    have hv0 : hval [] 0 = 0 := rfl
    have hs0 : s = 0#64 := by
      apply BitVec.eq_of_toNat_eq
      rw [h4, hv0]
      simp [jm]
    rw [hs0, F215_zero, hv0, Nat.zero_mul, F136_zero hf (by omega) hx2]
    exact ⟨_, rfl, rfl⟩
  · have hne := hval_ne h hz
    have hne2 : hval D 0 * 2 ^ x.toNat ≠ 0 := by
      have := pow_pos2 x.toNat
      exact Nat.mul_ne_zero hne (by omega)
    rw [F136_RQ hf hne2 (by omega) hx1 hx2]
    have hfp := fq_pow (hval D 0) x (4 * j)
    rw [← p16, show x + ((4 * j : Nat) : Int) = x + 4 * (j : Int) from by omega] at hfp
    have hlg := lg_pow hne x
    have hs : RQ e m mode neg (hval D 0 * 2 ^ x.toNat) (2 ^ (-x).toNat) = RQ e m mode neg (s.toNat * 2 ^ (x + 4 * (j : Int)).toNat) (2 ^ (-(x + 4 * (j : Int))).toNat) := by
      by_cases hj : j = 0
      · subst hj
        rw [h4, Nat.pow_zero, Nat.div_one, Nat.mod_one, decide_eq_false (by simp), show x + 4 * ((0 : Nat) : Int) = x from by omega]
        rfl
      · have hbig := h3 hj
        have hk : x + 4 * (j : Int) + m.toNat + 2 ≤ lg (hval D 0 * 2 ^ x.toNat) (2 ^ (-x).toNat) := by
          rw [hlg]
          have hq : 2 ^ 59 ≤ hval D 0 / 16 ^ j := by
            rw [h4] at hbig
            unfold jm at hbig
            rw [show (2 : Nat) ^ 59 = 576460752303423488 from rfl]
            cases hd' : decide (hval D 0 % 16 ^ j ≠ 0) with
            | true => rw [hd', cond_true] at hbig; omega
            | false => rw [hd', cond_false] at hbig; omega
          have h5 : 2 ^ (59 + 4 * j) ≤ hval D 0 := by
            rw [Nat.pow_add, ← p16]
            exact (Nat.le_div_iff_mul_le (Nat.pow_pos (by decide))).1 hq
          have h6 := blen_ge h5
          omega
        rw [RQ_sticky hne2 (by omega) hk, hfp.1, hfp.2, ← h4]
    rw [hs, F215_ok hf (by
      intro h0
      have : 1 ≤ s.toNat := by
        by_cases hj : j = 0
        · subst hj
          rw [h4, Nat.pow_zero, Nat.div_one, Nat.mod_one, decide_eq_false (by simp)]
          show 1 ≤ hval D 0; omega
        · have := h3 hj; omega
      omega) (by omega)]
    exact ⟨_, rfl, rfl⟩

/-! ### The scanners answer -/
theorem hfin_ends {d : List UInt8} {a : Int} (hN : d.length < N) (hl : d.length ≤ 2000) (hd : ∀ c ∈ d, hxB c = true) : ∃ r, hfin N neg d a = some r ∧ (r.1 = 0#8 → HC r.2.2.1 r.2.2.2.1) := by
  unfold hfin
  rcases F284_ok (neg := neg) (a := a) hN hl hd with h | ⟨D, x, h, hc⟩
  · rw [h]; exact ⟨_, rfl, fun k => by cases k⟩
  · rw [h]; exact ⟨_, rfl, fun _ => hc⟩
theorem hstep_d {s s' : HS} {c : UInt8} (h : hstep s c = some s') (hd : ∀ c ∈ s.dig, hxB c = true) : (∀ c ∈ s'.dig, hxB c = true) ∧ s'.dig.length ≤ s.dig.length + 1 := by
  have ho : (∀ c ∈ s.dig, hxB c = true) ∧ s.dig.length ≤ s.dig.length + 1 := ⟨hd, by omega⟩
  have happ : hxB c = true → (∀ d ∈ s.dig ++ [c], hxB d = true) ∧ (s.dig ++ [c]).length ≤ s.dig.length + 1 := by
    intro hx
    refine ⟨fun d hd' => ?_, by simp⟩
    rcases List.mem_append.1 hd' with k | k
    · exact hd d k
    · rw [List.mem_singleton.1 k]; exact hx
  unfold hstep at h
  simp only [cond_eq_ite] at h
  repeat' split at h
  all_goals first
    | (cases h; exact ho)
    | (cases h; refine happ ?_; simp_all)
    | cases h
theorem hgo_ends (t : List UInt8) : ∀ (R : List UInt8) (s : HS) (p : Nat), (∀ c ∈ s.dig, hxB c = true) → s.dig.length + R.length < N → s.dig.length + R.length ≤ 2000 → ∃ r, hgo N t s p R = some r ∧ (r.1 = 0#8 → HC r.2.2.1 r.2.2.2.1)
  | [], s, p, hd, h1, h2 => by
    rw [hgo]
    unfold hend
    cases s.st != 10 with
    | true => exact ⟨_, rfl, fun k => by cases k⟩
    | false => exact hfin_ends (by simpa using h1) (by simpa using h2) hd
  | c :: R, s, p, hd, h1, h2 => by
    rw [List.length_cons] at h1 h2
    rw [hgo]
    cases hs : hstep s c with
    | none => exact ⟨_, rfl, fun k => by cases k⟩
    | some s' =>
      obtain ⟨k1, k2⟩ := hstep_d hs hd
      exact hgo_ends t R s' (p + 1) k1 (by omega) (by omega)
theorem hexScan_ok (hN : 1100 ≤ N) (t : List UInt8) : ∃ r, F323 N t = some r ∧ F304 N t = some r ∧ (r.1 = 0#8 → HC r.2.2.1 r.2.2.2.1) := by
  rw [hexScan_eq hN t]
  by_cases ht : t.length ≤ 1024
  · rw [F304_ok hN ht]
    obtain ⟨r, h1, h2⟩ := hgo_ends (N := N) t t ⟨false, false, 0, 0, 0, []⟩ 0 (fun c h => by cases h) (by simp; omega) (by simp; omega)
    exact ⟨r, h1, h1, h2⟩
  · unfold F304 F304_1
    rw [bt (decide_eq_true (by omega))]
    exact ⟨_, rfl, rfl, fun k => by cases k⟩
/-- dec.Make answers. -/
theorem F39_ends {s : List UInt8} {a : Int} (hN : s.length < N) (hl : s.length ≤ 2000) : ∃ r, F39 N neg s a = some r := by
  have key : ∀ (M i : Nat) (first en : Int), s.length - i < M → i ≤ s.length → (en = 0 ∨ (0 ≤ first ∧ first < en ∧ en ≤ i)) → (en = 0 → first = s.length) →
      ∃ r, iterL (F39_L6 N neg s a) M (first, en, (i : Int)) = some r := by
    intro M
    induction M with
    | zero => intro i first en hM; omega
    | succ M ih =>
      intro i first en hM hi hI hI0
      rw [iterL]
      unfold F39_L6 F39_L6b F39_7
      simp only []
      by_cases hil : i = s.length
      · rw [bf (decide_eq_false (by omega))]
        unfold F39_2 F39_3 F39_4 F39_5
        rcases hI with k | ⟨k1, k2, k3⟩
        · rw [bt (by rw [k]; rfl)]; exact ⟨_, rfl⟩
        · rw [bf (by rw [beq_eq_false_iff_ne]; omega)]
          cases ((((decide ((w64 (en - first)) > 800)) || (decide (a > 2000))) || (decide ((w64 (a + w64 ((s.length : Int) - en))) > 2000))) || (decide ((w64 (a + w64 ((s.length : Int) - en))) < (-2000)))) with
          | true => exact ⟨_, rfl⟩
          | false =>
            rw [bf rfl, bt (by simp; omega)]
            exact ⟨_, rfl⟩
      · rw [bt (decide_eq_true (by omega)), bt (by simp; omega)]
        unfold F39_9 F39_10 F39_11 F39_12 F39_8
        cases ((decide (((s.getD ((i : Int)).toNat 0).toBitVec).toNat < (48#8).toNat)) || (decide ((57#8).toNat < ((s.getD ((i : Int)).toNat 0).toBitVec).toNat))) with
        | true => exact ⟨_, rfl⟩
        | false =>
          simp only [cond_false]
          rw [w64_id (by omega), show (i : Int) + 1 = ((i + 1 : Nat) : Int) from by omega]
          cases ((s.getD ((i : Int)).toNat 0).toBitVec != 48#8) with
          | true =>
            simp only [cond_true]
            refine ih (i + 1) _ _ (by omega) (by omega) (Or.inr ?_) (fun k => by omega)
            rcases hI with k | ⟨k1, k2, k3⟩
            · have := hI0 k
              omega
            · omega
          | false =>
            simp only [cond_false]
            refine ih (i + 1) _ _ (by omega) (by omega) ?_ hI0
            rcases hI with k | ⟨k1, k2, k3⟩
            · exact Or.inl k
            · exact Or.inr ⟨k1, k2, by omega⟩
  unfold F39 F39_1
  exact key N 0 _ _ (by omega) (by omega) (Or.inl rfl) (fun _ => rfl)
theorem dstep_d {s s' : DS} {c : UInt8} (h : dstep s c = some s') : s'.dig.length ≤ s.dig.length + 1 := by
  have ho : s.dig.length ≤ s.dig.length + 1 := by omega
  have happ : (s.dig ++ [c]).length ≤ s.dig.length + 1 := by simp
  unfold dstep at h
  simp only [cond_eq_ite] at h
  repeat' split at h
  all_goals first
    | (cases h; exact ho)
    | (cases h; exact happ)
    | cases h
theorem dgo_ends (t : List UInt8) : ∀ (R : List UInt8) (s : DS) (p : Nat), s.dig.length + R.length < N → s.dig.length + R.length ≤ 2000 → ∃ r, dgo N t s p R = some r
  | [], s, p, h1, h2 => by
    rw [dgo]
    unfold dend
    cases (((s.st == 2) || (s.st == 3)) || (s.st == 5)) || (s.st == 8) with
    | true =>
      rw [bt rfl]
      unfold dfin
      obtain ⟨r, hr⟩ := F39_ends (neg := s.neg) (a := w64 ((bif s.en then w64 (0 - s.ex) else s.ex) - s.fr)) (s := s.dig) (N := N) (by simpa using h1) (by simpa using h2)
      rw [hr, bnd]
      cases !r.2.2.2 <;> exact ⟨_, rfl⟩
    | false =>
      rw [bf rfl]
      cases s.st == 9 with
      | false => exact ⟨_, rfl⟩
      | true =>
        rw [bt rfl]
        cases (s.word == wNan) && (s.at' == 3) with
        | true => exact ⟨_, rfl⟩
        | false =>
          rw [bf rfl]
          cases (s.word == wInf) && ((s.at' == 3) || (s.at' == 8)) <;> exact ⟨_, rfl⟩
  | c :: R, s, p, h1, h2 => by
    rw [List.length_cons] at h1 h2
    rw [dgo]
    cases hs : dstep s c with
    | none => exact ⟨_, rfl⟩
    | some s' =>
      have k2 := dstep_d hs
      exact dgo_ends t R s' (p + 1) (by omega) (by omega)
theorem decScan_ok (hN : 1100 ≤ N) (t : List UInt8) : ∃ r, F311 N t = some r ∧ F291 N t = some r := by
  rw [decScan_eq hN t]
  by_cases ht : t.length ≤ 1024
  · rw [F291_ok hN ht]
    obtain ⟨r, h1⟩ := dgo_ends (N := N) t t ⟨0, [], 0, false, false, [], 0, 0⟩ 0 (by simp; omega) (by simp; omega)
    exact ⟨r, h1, h1⟩
  · unfold F291 F291_1
    rw [bt (decide_eq_true (by omega))]
    exact ⟨_, rfl, rfl⟩
end
end Go.Proofs.YfwaawGreat
