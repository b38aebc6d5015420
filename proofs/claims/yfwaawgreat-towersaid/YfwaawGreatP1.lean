/-
  exact's digits: tenTo, log10, unitsOf, digitsOf.
-/
import Derived.Test.YfwaawGreatH3
import Derived.Test.YfwaawGreatM1
import Derived.Test.YfwaawGreatG12
import Derived.Test.YfwaawGreatG18
namespace Go.Proofs.YfwaawGreat
open Go.Aw
set_option linter.unusedVariables false
set_option linter.unusedSimpArgs false

/-! ### Spellings -/
theorem dval_cons (c : UInt8) (s : List UInt8) : dval (c :: s) = dg c * 10 ^ s.length + dval s := by
  have h := dval_append [c] s
  rw [dval_one] at h
  exact h
theorem dg_inj {c d : UInt8} (hc : isd c) (hd : isd d) (h : dg c = dg d) : c = d := by
  unfold dg at h
  have h1 := hc.1
  have h2 := hd.1
  exact UInt8.toNat_inj.1 (by omega)
theorem dval_inj : ∀ {s t : List UInt8}, s.length = t.length → (∀ c ∈ s, isd c) → (∀ c ∈ t, isd c) → dval s = dval t → s = t
  | [], [], _, _, _, _ => rfl
  | [], _ :: _, h, _, _, _ => by cases h
  | _ :: _, [], h, _, _, _ => by cases h
  | c :: s, d :: t, h, hs, ht, hv => by
    rw [List.length_cons, List.length_cons] at h
    have hl : s.length = t.length := by omega
    have hs' : ∀ c ∈ s, isd c := fun x hx => hs x (List.mem_cons_of_mem _ hx)
    have ht' : ∀ c ∈ t, isd c := fun x hx => ht x (List.mem_cons_of_mem _ hx)
    have b1 := dval_lt hs'
    have b2 := dval_lt ht'
    rw [dval_cons, dval_cons, hl] at hv
    rw [hl] at b1
    have hP : 0 < 10 ^ t.length := Nat.pow_pos (by decide)
    generalize 10 ^ t.length = P at *
    have e1 : dg c = dg d := by
      rcases Nat.lt_trichotomy (dg c) (dg d) with k | k | k
      · exfalso
        have : (dg c + 1) * P ≤ dg d * P := Nat.mul_le_mul_right _ k
        rw [Nat.add_mul] at this; omega
      · exact k
      · exfalso
        have : (dg d + 1) * P ≤ dg c * P := Nat.mul_le_mul_right _ k
        rw [Nat.add_mul] at this; omega
    rw [e1] at hv
    rw [dg_inj (hs c (List.mem_cons_self ..)) (ht d (List.mem_cons_self ..)) e1, dval_inj hl hs' ht' (by omega)]
theorem Sp.low {s : List UInt8} {n : Nat} (h : Sp s n) (hn : n ≠ 0) : 10 ^ (s.length - 1) ≤ n := by
  obtain ⟨c, t, rfl⟩ := List.exists_cons_of_ne_nil h.ne
  have h1 := h.first hn
  have h1 : c.toNat ≠ 48 := h1
  have h2 := (h.d c (List.mem_cons_self ..)).1
  have h3 := h.v
  rw [dval_cons] at h3
  rw [List.length_cons, Nat.add_sub_cancel, ← h3]
  have h4 : 1 ≤ dg c := by unfold dg; omega
  have := Nat.mul_le_mul_right (10 ^ t.length) h4
  omega
theorem Sp.high {s : List UInt8} {n : Nat} (h : Sp s n) : n < 10 ^ s.length := by rw [← h.v]; exact dval_lt h.d
theorem p10_lt {a b : Nat} (h : 10 ^ a < 10 ^ b) : a < b := (Nat.pow_lt_pow_iff_right (by decide)).1 h
theorem Sp.uniq {s t : List UInt8} {n : Nat} (h1 : Sp s n) (h2 : Sp t n) : s = t := by
  by_cases hn : n = 0
  · rw [h1.z hn, h2.z hn]
  · have a1 := h1.low hn
    have a2 := h1.high
    have b1 := h2.low hn
    have b2 := h2.high
    have p1 : 0 < s.length := List.length_pos_iff.2 h1.ne
    have p2 : 0 < t.length := List.length_pos_iff.2 h2.ne
    have c1 := p10_lt (Nat.lt_of_le_of_lt a1 b2)
    have c2 := p10_lt (Nat.lt_of_le_of_lt b1 a2)
    exact dval_inj (by omega) h1.d h2.d (h1.v.trans h2.v.symm)
/-- Zeros in front dropped. -/
theorem Sp.strip : ∀ {s : List UInt8} {n : Nat}, (∀ c ∈ s, isd c) → dval s = n → n ≠ 0 → ∃ z t, s = List.replicate z 48 ++ t ∧ Sp t n
  | [], n, _, h, hn => by rw [dval_nil] at h; omega
  | c :: s, n, hs, h, hn => by
    by_cases hc : c.toNat = 48
    · have h48 : c = 48 := UInt8.toNat_inj.1 hc
      have hdg : dg c = 0 := by unfold dg; omega
      rw [dval_cons, hdg, Nat.zero_mul, Nat.zero_add] at h
      obtain ⟨z, t, h1, h2⟩ := Sp.strip (fun x hx => hs x (List.mem_cons_of_mem _ hx)) h hn
      exact ⟨z + 1, t, by rw [h1, h48, List.replicate_succ]; rfl, h2⟩
    · exact ⟨0, c :: s, rfl, ⟨hs, h, List.cons_ne_nil _ _, fun _ => hc, fun k => (hn k).elim⟩⟩

/-! ### digitsOf -/
theorem dig8 {d : BitVec 64} (h : d.toNat ≤ 9) : isd (UInt8.ofBitVec (BitVec.ofInt 8 (((48#64) + d).toNat : Int))) ∧ dg (UInt8.ofBitVec (BitVec.ofInt 8 (((48#64) + d).toNat : Int))) = d.toNat := by
  have h1 : ((48#64) + d).toNat = 48 + d.toNat := by
    rw [add64, show (48#64).toNat = 48 from rfl]; omega
  have h2 : (UInt8.ofBitVec (BitVec.ofInt 8 (((48#64) + d).toNat : Int))).toNat = 48 + d.toNat := by
    show (BitVec.ofInt 8 (((48#64) + d).toNat : Int)).toNat = _
    rw [h1, BitVec.toNat_ofInt]; omega
  unfold isd dg
  rw [h2]; omega
section
variable {N : Nat} {n L : Nat}
/-- What lies in a buffer of L bytes behind position p. -/
def sfx (L p : Nat) (b : Nat → BitVec 8) : List UInt8 := bys (L - p) (fun i => b (p + i))
theorem sfx_put {L p : Nat} (hp : p < L) (b : Nat → BitVec 8) (c : BitVec 8) : sfx L p (upd b p c) = UInt8.ofBitVec c :: sfx L (p + 1) b := by
  unfold sfx
  rw [show L - p = (L - (p + 1)) + 1 from by omega, bys_succ]
  congr 1
  · rw [Nat.add_zero, upd_eq]
  · refine bys_congr fun i hi => ?_
    rw [show p + (i + 1) = p + 1 + i from by omega, upd_ne (by omega)]
theorem sfx_len (L p : Nat) (b : Nat → BitVec 8) : (sfx L p b).length = L - p := bys_len _ _
theorem sfx_cons {L p : Nat} (hp : p < L) (b : Nat → BitVec 8) : sfx L p b = UInt8.ofBitVec (b p) :: sfx L (p + 1) b := by
  unfold sfx
  rw [show L - p = (L - (p + 1)) + 1 from by omega, bys_succ]
  congr 1
  refine bys_congr fun i hi => ?_
  rw [show p + (i + 1) = p + 1 + i from by omega]
/-- Nine digits. -/
theorem F198_11_ok (hN : 20 ≤ N) (hL : L ≤ 1000000) (hLe : w64 (w64 ((blen n : Int).tdiv 3) + 9) = (L : Int)) {p : Nat} (hp : 9 ≤ p) (hpL : p ≤ L) {b : Nat → BitVec 8} {v : BitVec 64} (hv : v.toNat < 1000000000) (hd : ∀ c ∈ sfx L p b, isd c) {q : Nat} :
    ∃ b', F198_11 N n (p : Int) b q v = some (.inl (q, ((p - 9 : Nat) : Int), b')) ∧ (∀ c ∈ sfx L (p - 9) b', isd c) ∧ dval (sfx L (p - 9) b') = v.toNat * 10 ^ (L - p) + dval (sfx L p b) := by
  have hP : 0 < 10 ^ (L - p) := Nat.pow_pos (by decide)
  have key : ∀ (M i : Nat) (v' : BitVec 64) (b' : Nat → BitVec 8), 9 - i < M → i ≤ 9 → v'.toNat < 10 ^ (9 - i) → (∀ c ∈ sfx L (p - i) b', isd c) → v.toNat * 10 ^ (L - p) + dval (sfx L p b) = v'.toNat * 10 ^ (L - p + i) + dval (sfx L (p - i) b') →
      ∃ b'', iterL (F198_L12 N n q) M (((p - i : Nat) : Int), v', (i : Int), b') = some (.inl (q, ((p - 9 : Nat) : Int), b'')) ∧ (∀ c ∈ sfx L (p - 9) b'', isd c) ∧ dval (sfx L (p - 9) b'') = v.toNat * 10 ^ (L - p) + dval (sfx L p b) := by
    intro M
    induction M with
    | zero => intro i v' b' hM; omega
    | succ M ih =>
      intro i v' b' hM hi hv' hd' he
      by_cases hi9 : i = 9
      · subst hi9
        have hstep : F198_L12 N n q (((p - 9 : Nat) : Int), v', ((9 : Nat) : Int), b') = some (.inr (.inl (q, ((p - 9 : Nat) : Int), b'))) := by
          unfold F198_L12 F198_L12b F198_13
          simp only []
          rw [bf (decide_eq_false (by omega))]
          rfl
        rw [iterL, hstep]
        refine ⟨b', rfl, hd', ?_⟩
        have : v'.toNat = 0 := by simpa using hv'
        rw [he, this]; simp
      · have hstep : F198_L12 N n q (((p - i : Nat) : Int), v', (i : Int), b') = some (.inl (((p - (i + 1) : Nat) : Int), v' / 10#64, ((i + 1 : Nat) : Int), upd b' (p - (i + 1)) (BitVec.ofInt 8 (((48#64) + (v' % (10#64))).toNat : Int)))) := by
          unfold F198_L12 F198_L12b F198_13
          simp only []
          rw [bt (decide_eq_true (by omega))]
          unfold F198_15 F198_16 F198_14
          rw [w64_id (n := ((p - i : Nat) : Int) - 1) (by omega), hLe, Int.toNat_natCast, show ((p - i : Nat) : Int) - 1 = ((p - (i + 1) : Nat) : Int) from by omega, bt (by simp; omega), Int.toNat_natCast, w64_id (by omega)]
          rw [show (i : Int) + 1 = ((i + 1 : Nat) : Int) from by omega]
        rw [iterL, hstep]
        simp only []
        have hm : (v' % 10#64).toNat = v'.toNat % 10 := by rw [BitVec.toNat_umod]; rfl
        have hq : (v' / 10#64).toNat = v'.toNat / 10 := by rw [BitVec.toNat_udiv]; rfl
        obtain ⟨d1, d2⟩ := dig8 (d := v' % 10#64) (by rw [hm]; omega)
        have hput := sfx_put (L := L) (p := p - (i + 1)) (by omega) b' (BitVec.ofInt 8 (((48#64) + (v' % (10#64))).toNat : Int))
        rw [show p - (i + 1) + 1 = p - i from by omega] at hput
        refine ih (i + 1) _ _ (by omega) (by omega) ?_ ?_ ?_
        · rw [hq, show 9 - (i + 1) = 9 - i - 1 from by omega]
          have h2 : 10 ^ (9 - i) = 10 * 10 ^ (9 - i - 1) := by rw [Nat.mul_comm, ← Nat.pow_succ]; exact congrArg (fun t => 10 ^ t) (by omega)
          rw [h2] at hv'
          generalize 10 ^ (9 - i - 1) = Q at hv'
          omega
        · rw [hput]
          intro c hc
          rcases List.mem_cons.1 hc with k | k
          · rw [k]; exact d1
          · exact hd' c k
        · rw [hput, dval_cons, d2, hm, hq, sfx_len, he, show L - (p - i) = L - p + i from by omega, show L - p + (i + 1) = (L - p + i) + 1 from by omega, Nat.pow_succ]
          generalize 10 ^ (L - p + i) = Q
          have h3 : v'.toNat * Q = (10 * (v'.toNat / 10) + v'.toNat % 10) * Q := by rw [Nat.div_add_mod]
          rw [h3, Nat.add_mul, Nat.mul_comm 10, Nat.mul_assoc, Nat.mul_comm Q 10]; omega
  unfold F198_11
  have := key N 0 v b (by omega) (by omega) (by simpa using hv) hd (by simp)
  exact this
theorem p10_2 (j : Nat) : 2 ^ (27 * j) ≤ 10 ^ (9 * j) := by
  rw [Nat.pow_mul, Nat.pow_mul]
  exact Nat.pow_le_pow_left (by decide) j
/-- digitsOf spells. -/
theorem F198_ok (hN : 20000 ≤ N) (hn : blen n ≤ 30000) : ∃ s, F198 N n = some s ∧ Sp s n := by
  have hL0 : w64 (w64 ((blen n : Int).tdiv 3) + 9) = ((blen n / 3 + 9 : Nat) : Int) := by
    have h3 : (blen n : Int).tdiv 3 = ((blen n / 3 : Nat) : Int) := rfl
    rw [h3, w64_id (n := ((blen n / 3 : Nat) : Int)) (by omega), w64_id (by omega)]; omega
  obtain ⟨L, hLd⟩ : ∃ L, L = blen n / 3 + 9 := ⟨_, rfl⟩
  rw [← hLd] at hL0
  unfold F198
  rw [bt (lim_blen (by omega)), hL0, bt (by simp; omega)]
  unfold F198_1 F198_2
  rw [hL0, Int.toNat_natCast]
  -- the blocks
  have blocks : ∀ (M j : Nat) (b : Nat → BitVec 8), 9 * j ≤ L → L - 9 * j < M → (∀ c ∈ sfx L (L - 9 * j) b, isd c) → dval (sfx L (L - 9 * j) b) = n % 10 ^ (9 * j) →
      ∃ (p : Nat) (b' : Nat → BitVec 8), p ≤ L ∧ iterL (F198_L8 N n) M (n / 10 ^ (9 * j), ((L - 9 * j : Nat) : Int), b) = F198_3 N n (p : Int) b' ∧ (∀ c ∈ sfx L p b', isd c) ∧ dval (sfx L p b') = n := by
    intro M
    induction M with
    | zero => intro j b h1 h2; omega
    | succ M ih =>
      intro j b h1 h2 h3 h4
      have hdm := Nat.div_add_mod n (10 ^ (9 * j))
      rw [iterL]
      unfold F198_L8 F198_L8b F198_9
      simp only []
      by_cases hz : n / 10 ^ (9 * j) = 0
      · rw [bf (by rw [hz]; rfl)]
        refine ⟨L - 9 * j, b, by omega, ?_, h3, ?_⟩
        · cases F198_3 N n ((L - 9 * j : Nat) : Int) b <;> rfl
        · rw [h4]; rw [hz, Nat.mul_zero, Nat.zero_add] at hdm; exact hdm
      · rw [bt (by rw [bne_iff_ne]; exact hz)]
        have hge : 10 ^ (9 * j) ≤ n := by
          rcases Nat.lt_or_ge n (10 ^ (9 * j)) with k | k
          · exact (hz (Nat.div_eq_of_lt k)).elim
          · exact k
        have hbl : 27 * j + 1 ≤ blen n := blen_ge (Nat.le_trans (p10_2 j) hge)
        have hbd : blen (n / 10 ^ (9 * j)) ≤ blen n := blen_mono (Nat.div_le_self _ _)
        have hte : (1000000000#64).toNat = 1000000000 := rfl
        rw [hte, bt (limand (by omega) (by decide))]
        have hnm : nmod (n / 10 ^ (9 * j)) 1000000000 = n / 10 ^ (9 * j) % 1000000000 := if_neg (by decide)
        have hml : n / 10 ^ (9 * j) % 1000000000 < 1000000000 := Nat.mod_lt _ (by decide)
        unfold F198_10
        rw [hnm, bt (lim_blen (Nat.le_trans (blen_mono (Nat.le_of_lt hml)) (by decide)))]
        have hv : (BitVec.ofNat 64 (n / 10 ^ (9 * j) % 1000000000)).toNat = n / 10 ^ (9 * j) % 1000000000 := by
          rw [BitVec.toNat_ofNat]; exact Nat.mod_eq_of_lt (by omega)
        obtain ⟨b', g1, g2, g3⟩ := F198_11_ok (N := N) (n := n) (L := L) (by omega) (by omega) hL0 (p := L - 9 * j) (by omega) (by omega) (b := b) (v := BitVec.ofNat 64 (n / 10 ^ (9 * j) % 1000000000)) (by rw [hv]; exact hml) h3 (q := n / 10 ^ (9 * j) / 1000000000)
        rw [g1]
        simp only []
        have e1 : n / 10 ^ (9 * j) / 1000000000 = n / 10 ^ (9 * (j + 1)) := by
          rw [Nat.div_div_eq_div_mul, show 9 * (j + 1) = 9 * j + 9 from by omega, Nat.pow_add]
        have e2 : L - 9 * j - 9 = L - 9 * (j + 1) := by omega
        rw [e1, e2]
        rw [e2] at g2 g3
        refine ih (j + 1) b' (by omega) (by omega) g2 ?_
        rw [g3, hv, h4, show L - (L - 9 * j) = 9 * j from by omega, show 9 * (j + 1) = 9 * j + 9 from by omega, Nat.pow_add, Nat.mod_mul, show (10 : Nat) ^ 9 = 1000000000 from rfl, Nat.mul_comm]
        omega
  obtain ⟨p, b, hp, h1, h2, h3⟩ := blocks N 0 (fun _ => 0#8) (by omega) (by omega) (by
    rw [show L - 9 * 0 = L from by omega]
    intro c hc
    have : (sfx L L (fun _ => 0#8)).length = 0 := by rw [sfx_len]; omega
    rw [List.length_eq_zero_iff] at this
    rw [this] at hc; cases hc) (by
    rw [show L - 9 * 0 = L from by omega]
    have : (sfx L L (fun _ => 0#8)).length = 0 := by rw [sfx_len]; omega
    rw [List.length_eq_zero_iff] at this
    rw [this, dval_nil, Nat.mul_zero, Nat.pow_zero, Nat.mod_one])
  rw [show n / 10 ^ (9 * 0) = n from by rw [Nat.mul_zero, Nat.pow_zero, Nat.div_one], show L - 9 * 0 = L from by omega] at h1
  rw [h1]
  unfold F198_3
  -- zeros in front
  have strip : ∀ (M p : Nat), L - p < M → p ≤ L → (∀ c ∈ sfx L p b, isd c) → dval (sfx L p b) = n → ∃ s, iterL (F198_L6 N n b) M (p : Int) = some s ∧ Sp s n := by
    intro M
    induction M with
    | zero => intro p h; omega
    | succ M ih =>
      intro p hM hp hd hv
      by_cases hpL : p = L
      · have hstep : F198_L6 N n b (p : Int) = some (.inr [48]) := by
          unfold F198_L6 F198_L6b
          rw [hL0, Int.toNat_natCast]
          rw [bf (decide_eq_false (by omega))]
          unfold F198_7 F198_4 F198_5
          rw [hL0, Int.toNat_natCast, bf rfl, bt (by rw [hpL, beq_iff_eq])]
          rfl
        rw [iterL, hstep]
        have h0 : n = 0 := by
          rw [← hv, hpL]
          have : (sfx L L b).length = 0 := by rw [sfx_len]; omega
          rw [List.length_eq_zero_iff] at this
          rw [this, dval_nil]
        refine ⟨[48], rfl, ?_⟩
        rw [h0]
        exact ⟨by decide, by decide, by decide, fun k => (k rfl).elim, fun _ => rfl⟩
      · have hstep : F198_L6 N n b (p : Int) = F198_7 N n b (p : Int) (b p == 48#8) := by
          unfold F198_L6 F198_L6b
          rw [hL0, Int.toNat_natCast]
          rw [bt (decide_eq_true (by omega)), bt (by simp; omega), Int.toNat_natCast]
        have hcons := sfx_cons (L := L) (p := p) (by omega) b
        rw [iterL, hstep]
        unfold F198_7
        cases h48 : (b p == 48#8) with
        | true =>
          rw [bt rfl, w64_id (by omega)]
          simp only []
          rw [show (p : Int) + 1 = ((p + 1 : Nat) : Int) from by omega]
          have hb : b p = 48#8 := by rwa [beq_iff_eq] at h48
          rw [hcons] at hd hv
          refine ih (p + 1) (by omega) (by omega) (fun c hc => hd c (List.mem_cons_of_mem _ hc)) ?_
          rw [dval_cons, hb] at hv
          have hdz : dg (UInt8.ofBitVec 48#8) = 0 := by decide
          rw [hdz, Nat.zero_mul, Nat.zero_add] at hv
          exact hv
        | false =>
          rw [bf rfl]
          unfold F198_4 F198_5
          rw [hL0, Int.toNat_natCast, bf (by rw [beq_eq_false_iff_ne]; omega), bt (by simp; omega), bt (decide_eq_true (by omega)), Int.toNat_natCast, Int.toNat_natCast, bt (decide_eq_true (by omega))]
          have hne : (UInt8.ofBitVec (b p)).toNat ≠ 48 := by
            intro k
            rw [beq_eq_false_iff_ne] at h48
            refine h48 (BitVec.eq_of_toNat_eq ?_)
            exact k
          refine ⟨sfx L p b, rfl, ⟨hd, hv, ?_, ?_, ?_⟩⟩
          · rw [hcons]; exact List.cons_ne_nil _ _
          · intro _; rw [hcons]; exact hne
          · intro h0
            exfalso
            rw [hcons, dval_cons, h0] at hv
            have h5 := (hd (UInt8.ofBitVec (b p)) (by rw [hcons]; exact List.mem_cons_self ..)).1
            have h6 : 1 ≤ dg (UInt8.ofBitVec (b p)) := by unfold dg; omega
            have h7 : 0 < 10 ^ (sfx L (p + 1) b).length := Nat.pow_pos (by decide)
            have h8 := Nat.mul_le_mul h6 h7
            omega
  exact strip N p (by omega) hp h2 h3
end
end Go.Proofs.YfwaawGreat
