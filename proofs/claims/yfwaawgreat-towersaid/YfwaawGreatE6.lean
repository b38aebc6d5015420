/-
  Total; second.Parse = RoundDec.
-/
import Derived.Test.YfwaawGreatE5
namespace Go.Proofs.YfwaawGreat
open Go.Aw
set_option linter.unusedVariables false
set_option linter.unusedSimpArgs false
section
variable {e m mode : BitVec 8} {neg : Bool} {dig : List UInt8} {exp : Int}

/-- The 192 bits, and the word that leads them. -/
theorem lead_word {N : Nat} {q x : Int} {l : Nat} {w hi lo : BitVec 64} {l8 : BitVec 8} (hl8 : l8.toNat = l) (hl : l ≤ 63) (hx : -1300 ≤ x ∧ x ≤ 1100) (hw : 9223372036854775808 ≤ w.toNat) (hh : 9223372036854775808 ≤ hi.toNat) :
    ∃ (s t : BitVec 64) (u : Nat) (so : Bool), F102_8 N e m q x hi lo l8 w = F102_13 N e m (x - l + u) s t so ∧ (u = 127 ∨ u = 128) ∧ 9223372036854775808 ≤ s.toNat ∧ s.toNat = w.toNat * v2 hi lo / 2 ^ u ∧
      so = (decide (w.toNat * v2 hi lo % 2 ^ u ≠ 0) || decide (q < 0) || decide (q > 55)) := by
  have hwl := w.isLt
  have hhl := hi.isLt
  have hll := lo.isLt
  unfold F102_8
  simp only [lt]
  have ha := F165_ok w hi
  have hc := F165_ok w lo
  generalize F165 w hi = a at *
  generalize F165 w lo = c at *
  unfold F102_9
  simp only [lt]
  have hal := a.2.isLt
  have hcl := c.2.isLt
  have hs := (F166_ok a.1 a.2 0#64 c.1).1
  have hv0 : v2 0#64 c.1 = c.1.toNat := by unfold v2; simp
  have hc1 : c.1.toNat < w.toNat := by
    unfold v2 at hc
    rcases Nat.lt_or_ge c.1.toNat w.toNat with k | k
    · exact k
    · exfalso
      have h1 := Nat.mul_le_mul_right 18446744073709551616 k
      have h2 := Nat.mul_lt_mul_of_pos_left hll (show 0 < w.toNat by omega)
      rw [p64] at h2
      omega
  have hple : w.toNat * hi.toNat + w.toNat ≤ 340282366920938463463374607431768211455 := by
    have := Nat.mul_le_mul (show w.toNat ≤ 18446744073709551615 by omega) (show hi.toNat + 1 ≤ 18446744073709551616 by omega)
    rw [Nat.mul_add, Nat.mul_one] at this
    omega
  have hpge : 9223372036854775808 * 9223372036854775808 ≤ w.toNat * hi.toNat := Nat.mul_le_mul hw hh
  rw [hv0, ha, Nat.mod_eq_of_lt (by omega)] at hs
  generalize F166 a.1 a.2 0#64 c.1 = g at *
  -- the whole product
  have hP : w.toNat * v2 hi lo = v2 g.1 g.2.1 * 18446744073709551616 + c.2.toNat := by
    rw [hs]
    have e1 : w.toNat * v2 hi lo = w.toNat * hi.toNat * 18446744073709551616 + w.toNat * lo.toNat := by unfold v2; grind
    rw [e1, ← hc]; unfold v2; rw [Nat.add_mul]; omega
  rw [hP]
  have hg1 := g.1.isLt
  have hg2 := g.2.1.isLt
  have hge : 4611686018427387904 ≤ g.1.toNat := by unfold v2 at hs; omega
  clear hs hP hple hpge ha hc
  unfold F102_10
  have w1 : w16 (l : Int) = l := w16_id (by omega)
  have w2 : w16 (128 - (l : Int)) = 128 - l := w16_id (by omega)
  have w3 : w16 (x + (128 - (l : Int))) = x - l + (128 : Nat) := by rw [w16_id (by omega)]; omega
  rw [hl8, w1, w2, w3]
  unfold F102_11 F102_14
  have hsh : ((g.1 >>> 63) == 0#64) = decide (g.1.toNat < 9223372036854775808) := by
    rw [eq_bv, shr_nat, show (0#64).toNat = 0 from rfl, show (2 : Nat) ^ 63 = 9223372036854775808 from rfl]
    exact decide_eq_decide.2 (by omega)
  rw [hsh]
  have hor : ∀ p r : BitVec 64, ((p ||| r) != 0#64) = decide (p.toNat ≠ 0 ∨ r.toNat ≠ 0) := by
    intro p r
    rw [ne_bv, BitVec.toNat_or, show (0#64).toNat = 0 from rfl]
    refine decide_eq_decide.2 ?_
    have a1 : p.toNat ≤ p.toNat ||| r.toNat := Nat.left_le_or
    have a2 : r.toNat ≤ p.toNat ||| r.toNat := Nat.right_le_or
    constructor
    · intro k
      by_cases z1 : p.toNat = 0
      · by_cases z2 : r.toNat = 0
        · rw [z1, z2] at k; exact (k rfl).elim
        · exact .inr z2
      · exact .inl z1
    · rintro (k | k) z <;> omega
  have p128' : (2 : Nat) ^ 128 = 340282366920938463463374607431768211456 := rfl
  have p127 : (2 : Nat) ^ 127 = 170141183460469231731687303715884105728 := rfl
  by_cases hcd : g.1.toNat < 9223372036854775808
  · rw [bt (decide_eq_true hcd)]
    simp only [lt]
    have h2 := F206_ok g.1 g.2.1 1#8
    rw [show (1#8).toNat = 1 from rfl, Nat.pow_one] at h2
    generalize F206 g.1 g.2.1 1#8 = k at *
    have hk2 := k.2.isLt
    unfold F102_15 F102_16 F102_17 F102_12
    have w4 : w16 (x - l + (128 : Nat) - 1) = x - l + (127 : Nat) := by rw [w16_id (by omega)]; omega
    rw [w4]
    have e2 : (c.2 >>> 63).toNat = c.2.toNat / 9223372036854775808 := shr_nat _ _
    have e4 : (c.2 <<< 1).toNat = c.2.toNat * 2 % 18446744073709551616 := by
      rw [BitVec.toNat_shiftLeft, Nat.shiftLeft_eq, p64, Nat.pow_one]
    have hk2v : k.2.toNat % 2 = 0 := by unfold v2 at h2; omega
    have e3 : (k.2 ||| (c.2 >>> 63)).toNat = k.2.toNat + c.2.toNat / 9223372036854775808 := by
      rw [BitVec.or_comm, or_add _ _ 1 (by rw [e2]; show _ < 2; omega) (by exact Nat.dvd_of_mod_eq_zero hk2v), e2]; omega
    refine ⟨_, _, 127, _, rfl, .inl rfl, ?_, ?_, ?_⟩
    · unfold v2 at h2; omega
    · rw [p127]; unfold v2 at h2 ⊢; omega
    · rw [hor, e3, e4, p127]
      congr 2
      refine decide_eq_decide.2 ?_
      unfold v2 at h2 ⊢
      omega
  · rw [bf (decide_eq_false hcd)]
    unfold F102_12
    refine ⟨_, _, 128, _, rfl, .inr rfl, by omega, ?_, ?_⟩
    · rw [p128']; unfold v2; omega
    · rw [hor, p128']
      congr 2
      refine decide_eq_decide.2 ?_
      unfold v2
      omega

/-- Where the table's entry is cut, it lies strictly below. -/
theorem entry_strict {hi lo : BitVec 64} {x q : Int} (he : EN hi lo x q) {M l : Nat} {y : Int} (hy : y = x - l) (hM : M ≠ 0) (hq1 : -348 ≤ q) (hq2 : q ≤ 347) (hq : q < 0 ∨ q > 55)
    (h : M * 2 ^ l * v2 hi lo * 2 ^ y.toNat * 10 ^ (-q).toNat = M * 10 ^ q.toNat * 2 ^ (-y).toNat) : False := by
  have hT2 := he.ge
  rcases hq with hq | hq
  · -- a power of two is no multiple of five
    obtain ⟨k, hk⟩ : ∃ k : Nat, q = -(k : Int) := ⟨(-q).toNat, by omega⟩
    obtain ⟨hT, hx⟩ := he.neg k (by omega) hk
    rw [show q.toNat = 0 from by omega, show (-q).toNat = k from by omega, show y.toNat = 0 from by omega] at h
    simp only [Nat.pow_zero, Nat.mul_one] at h
    have h2 : 2 ^ l * v2 hi lo * 10 ^ k = 2 ^ (-y).toNat := by
      refine Nat.mul_left_cancel (show 0 < M by omega) ?_
      rw [← h, ← Nat.mul_assoc, ← Nat.mul_assoc]
    have h5 : 5 ∣ 2 ^ (-y).toNat := by
      rw [← h2]
      refine Nat.dvd_trans ?_ (Nat.dvd_mul_left _ _)
      obtain ⟨j, hj⟩ : ∃ j, k = j + 1 := ⟨k - 1, by omega⟩
      rw [hj, Nat.pow_succ]
      exact Nat.dvd_trans (show 5 ∣ 10 by decide) (Nat.dvd_mul_left _ _)
    have hco : Nat.Coprime 5 (2 ^ (-y).toNat) := by
      have := Nat.Coprime.pow 1 (-y).toNat (show Nat.Coprime 5 2 by decide)
      rw [Nat.pow_one] at this; exact this
    have := Nat.Coprime.eq_one_of_dvd hco h5
    omega
  · -- an odd number is no multiple of a power of two
    obtain ⟨k, hk⟩ : ∃ k : Nat, q = k := ⟨q.toNat, by omega⟩
    have hb128 : 129 ≤ blen (5 ^ k) := by
      have h5 : 5 ^ 56 ≤ 5 ^ k := Nat.pow_le_pow_right (by decide) (by omega)
      have h6 : (2 : Nat) ^ 128 ≤ 5 ^ 56 := by decide
      rcases Nat.lt_or_ge (blen (5 ^ k)) 129 with d | d
      · have := blen_le_iff.1 (show blen (5 ^ k) ≤ 128 by omega); omega
      · exact d
    obtain ⟨hT, hx⟩ := he.pos k hk (by omega)
    obtain ⟨d, hd⟩ : ∃ d, blen (5 ^ k) - 128 = d + 1 := ⟨blen (5 ^ k) - 129, by omega⟩
    rw [hd] at hT hx
    rw [show (-q).toNat = 0 from by omega, show q.toNat = k from by omega] at h
    simp only [Nat.pow_zero, Nat.mul_one] at h
    have hid : 2 ^ l * 2 ^ y.toNat = 2 ^ (d + 1) * (2 ^ k * 2 ^ (-y).toNat) := by
      simp only [← Nat.pow_add]
      exact congrArg (fun t => 2 ^ t) (by omega)
    have h2 : v2 hi lo * 2 ^ (d + 1) = 5 ^ k := by
      refine Nat.mul_right_cancel (Nat.mul_pos (pow_pos2 k) (pow_pos2 (-y).toNat)) ?_
      refine Nat.mul_left_cancel (show 0 < M by omega) ?_
      have e1 : M * (v2 hi lo * 2 ^ (d + 1) * (2 ^ k * 2 ^ (-y).toNat)) = M * v2 hi lo * (2 ^ l * 2 ^ y.toNat) := by rw [hid, Nat.mul_assoc M, Nat.mul_assoc (v2 hi lo)]
      have e2 : M * v2 hi lo * (2 ^ l * 2 ^ y.toNat) = M * 2 ^ l * v2 hi lo * 2 ^ y.toNat := by rw [← Nat.mul_assoc, Nat.mul_right_comm M]
      have e3 : M * (5 ^ k * 2 ^ k) * 2 ^ (-y).toNat = M * (5 ^ k * (2 ^ k * 2 ^ (-y).toNat)) := by rw [Nat.mul_assoc M, Nat.mul_assoc (5 ^ k)]
      rw [e1, e2, h, ← ten_eq, e3]
    have ho := five_odd k
    rw [← h2, Nat.pow_succ] at ho
    rw [← Nat.mul_assoc, Nat.mul_mod_left] at ho
    cases ho
theorem total_ok {N : Nat} (hN : 40 ≤ N) {t : Tab} (ht : TabOk t) (h : Fm e m) (man : BitVec 64) (q : Int) : ∃ bits ok, F102 N t e m man q = some (bits, ok) ∧ (ok = true → bits = PT e m man.toNat q) := by
  have hml := man.isLt
  have h4 := h.m52
  have hno : ∃ bits ok, (some (0#64, false) : Option (BitVec 64 × Bool)) = some (bits, ok) ∧ (ok = true → bits = PT e m man.toNat q) := ⟨_, _, rfl, fun k => by cases k⟩
  have main : ∃ bits ok, F102_1 N t e m man q false = some (bits, ok) ∧ (ok = true → bits = PT e m man.toNat q) := by
    unfold F102_1 F102_2
    rw [bf rfl, eq_bv, show (0#64).toNat = 0 from rfl]
    by_cases c0 : man.toNat = 0
    · rw [bt (by rw [decide_eq_true c0]; rfl)]
      refine ⟨_, _, rfl, fun _ => ?_⟩
      unfold PT; rw [if_pos c0]
    · by_cases c1 : q < -348
      · rw [bt (by rw [decide_eq_true c1]; simp)]
        exact ⟨_, _, rfl, fun _ => (PT_small h hml c1).symm⟩
      · rw [bf (by rw [decide_eq_false c0, decide_eq_false c1]; rfl)]
        unfold F102_3
        by_cases c2 : q > 347
        · rw [bt (decide_eq_true c2)]
          exact ⟨_, _, rfl, fun _ => (PT_big h c0 c2).symm⟩
        · rw [bf (decide_eq_false c2)]
          have hb := blen64 man
          have hbp := blen_pos c0
          obtain ⟨l, hl⟩ : ∃ l, l = 64 - blen man.toNat := ⟨_, rfl⟩
          have hnum0 : man.toNat * 10 ^ q.toNat ≠ 0 := Nat.mul_ne_zero c0 (p10n _)
          have hPT : PT e m man.toNat q = (RQ e m 0#8 false (man.toNat * 10 ^ q.toNat) (10 ^ (-q).toNat)).1 := by unfold PT; rw [if_neg c0]
          -- the way by the table
          have htab : (¬ (-27 ≤ q ∧ q < 0) ∨ man.toNat % 5 ^ (-q).toNat ≠ 0) → ∃ bits ok, F102_4 N t e m man q = some (bits, ok) ∧ (ok = true → bits = PT e m man.toNat q) := by
            intro hshare
            unfold F102_4
            rw [F116_ok (by omega) (by omega)]
            obtain ⟨hfit, hen⟩ := ht q (by omega) (by omega)
            obtain ⟨f1, f2, f3⟩ := F27_parts hfit
            simp only [Option.bind_some]
            generalize (t.man (q + 348).toNat).1 = th at *
            generalize (t.man (q + 348).toNat).2 = tl at *
            generalize t.ex (q + 348).toNat = x at *
            unfold F102_5
            simp only [lt]
            rw [hfit, Bool.not_true]
            unfold F102_6
            rw [bf rfl, F164_ok]
            simp only [Option.bind_some, F102_7]
            have hl8 : (BitVec.ofNat 8 (64 - blen man.toNat)).toNat = l := by rw [BitVec.toNat_ofNat, ← hl]; exact Nat.mod_eq_of_lt (by omega)
            have hnorm := blen_norm c0 hb
            rw [← hl] at hnorm
            rw [hl8]
            have hw : (man <<< l).toNat = man.toNat * 2 ^ l := shl_nat _ _ (by
              have := blen_lt (man.toNat * 2 ^ l)
              rw [hnorm] at this; exact this)
            have hwg : 9223372036854775808 ≤ (man <<< l).toNat := by
              rw [hw]
              have := blen_le (Nat.mul_ne_zero c0 (pne l))
              rw [hnorm] at this; exact this
            have hwl := (man <<< l).isLt
            have hge := hen.ge
            have hth : 9223372036854775808 ≤ th.toNat := by
              have := tl.isLt
              unfold v2 at hge; omega
            obtain ⟨s, t', u, so, g1, g2, g3, g4, g5⟩ := lead_word (e := e) (m := m) (N := N) (q := q) (lo := tl) hl8 (by omega) ⟨f2, f3⟩ hwg hth
            rw [g1]
            obtain ⟨y, hy⟩ : ∃ y : Int, y = x - l := ⟨_, rfl⟩
            rw [← hy]
            rw [hw] at g4 g5 hwl
            obtain ⟨P, hPv⟩ : ∃ P, P = man.toNat * 2 ^ l * v2 th tl := ⟨_, rfl⟩
            rw [← hPv] at g4 g5
            obtain ⟨s1, s2, s3⟩ := hen.scale (M := man.toNat) (l := l) hy
            rw [← hPv] at s1 s3
            have hden : 0 < 10 ^ (-q).toNat := p10 _
            have hD : 0 < 10 ^ (-q).toNat * 2 ^ y.toNat := Nat.mul_pos hden (pow_pos2 _)
            obtain ⟨F0, hF0⟩ : ∃ F0, fq (man.toNat * 10 ^ q.toNat) (10 ^ (-q).toNat) y = F0 := ⟨_, rfl⟩
            obtain ⟨e0, he0⟩ : ∃ e0, eq (man.toNat * 10 ^ q.toNat) (10 ^ (-q).toNat) y = e0 := ⟨_, rfl⟩
            have hF0' := hF0
            have he0' := he0
            unfold fq at hF0'
            unfold eq at he0'
            have hcomm : ∀ z : Nat, z * 2 ^ y.toNat * 10 ^ (-q).toNat = z * (10 ^ (-q).toNat * 2 ^ y.toNat) := fun z => by rw [Nat.mul_assoc, Nat.mul_comm (2 ^ y.toNat)]
            have hPle : P ≤ F0 := by
              rw [← hF0']
              refine (Nat.le_div_iff_mul_le hD).2 ?_
              rw [← hcomm]; exact s1
            -- what the entry lacks
            have hno : ∀ k, P < k * 2 ^ 137 → F0 < k * 2 ^ 137 := by
              intro k hk
              by_cases hexact : 0 ≤ q ∧ q ≤ 55
              · have h5 := s3 hexact.1 hexact.2
                have : F0 = P := by
                  rw [← hF0', h5, hcomm, Nat.mul_div_cancel _ hD]
                rw [this]; exact hk
              · rw [hPv] at hk
                have h5 := nohalf hen hy c0 hwl (by omega) (by omega) (by
                  by_cases q1 : 56 ≤ q
                  · exact .inl q1
                  · by_cases q2 : q ≤ -28
                    · exact .inr (.inl q2)
                    · right; right
                      refine ⟨by omega, by omega, ?_⟩
                      rcases hshare with k | k
                      · exact (k ⟨by omega, by omega⟩).elim
                      · exact k) hk
                rw [← hF0']
                refine (Nat.div_lt_iff_lt_mul hD).2 ?_
                rw [← hcomm]; exact h5
            have hin : (decide (q < 0) || decide (q > 55)) = true → P < F0 ∨ e0 = true := by
              intro hb
              -- strictly above
              have hstrict : P * 2 ^ y.toNat * 10 ^ (-q).toNat < man.toNat * 10 ^ q.toNat * 2 ^ (-y).toNat := by
                rcases Nat.eq_or_lt_of_le s1 with k | k
                · exfalso
                  -- then the entry is exact: 5^k divides a power of two, or the other way round
                  have hkk : q < 0 ∨ q > 55 := by
                    rcases Int.lt_or_le q 0 with z | z
                    · exact .inl z
                    · rw [decide_eq_false (by omega), Bool.false_or] at hb
                      exact .inr (of_decide_eq_true hb)
                  exact entry_strict hen hy c0 (by omega) (by omega) hkk (by rw [← hPv]; exact k)
                · exact k
              rw [hcomm] at hstrict
              rcases Nat.eq_or_lt_of_le hPle with k | k
              · right
                rw [← he0']
                refine decide_eq_true ?_
                intro hz
                have h6 := Nat.div_add_mod (man.toNat * 10 ^ q.toNat * 2 ^ (-y).toNat) (10 ^ (-q).toNat * 2 ^ y.toNat)
                rw [hz, hF0', ← k, Nat.add_zero, Nat.mul_comm] at h6
                omega
              · exact .inl k
            have hex : (decide (q < 0) || decide (q > 55)) = false → F0 = P ∧ e0 = false := by
              intro hb
              rw [Bool.or_eq_false_iff] at hb
              have b1 := of_decide_eq_false hb.1
              have b2 := of_decide_eq_false hb.2
              have h5 := s3 (by omega) (by omega)
              refine ⟨by rw [← hF0', h5, hcomm, Nat.mul_div_cancel _ hD], ?_⟩
              rw [← he0', h5, hcomm]
              exact decide_eq_false (by rw [Nat.mul_mod_left]; simp)
            have hfl := fun (j : Nat) (hj : 10 ≤ j) => floors (j := j) (so := so) hden hF0 he0 hPle (show 127 ≤ u by omega) hno hin hex (by rw [g5, Bool.or_assoc]) hj
            unfold F102_13
            have hs64 : blen s.toNat = 64 := by
              have u1 := blen64 s
              have u2 : 63 + 1 ≤ blen s.toNat := by
                rcases Nat.lt_or_ge (blen s.toNat) 64 with c | c
                · have := blen_le_iff.1 (show blen s.toNat ≤ 63 by omega); omega
                · exact c
              omega
            have hsl := s.isLt
            have hlg : lg (man.toNat * 10 ^ q.toNat) (10 ^ (-q).toNat) = y + u + 63 := by
              obtain ⟨v1, v2⟩ := hfl 10 (by omega)
              rw [← g4] at v1
              have p10' : (2 : Nat) ^ 10 = 1024 := rfl
              have a1 := lg_ge hnum0 (p10n (-q).toNat) (k := y + u + (10 : Nat)) (j := 53) (by
                rw [v1, show (2 : Nat) ^ 53 = 9007199254740992 from rfl, p10']; omega)
              have a2 : lg (man.toNat * 10 ^ q.toNat) (10 ^ (-q).toNat) < y + u + 64 := by
                rcases Int.lt_or_le (lg (man.toNat * 10 ^ q.toNat) (10 ^ (-q).toNat)) (y + u + 64) with c | c
                · exact c
                · have := fq_ge hden (lg_spec hnum0 (p10n (-q).toNat)) 54 (y + u + (10 : Nat)) (by omega)
                  rw [v1, show (2 : Nat) ^ 54 = 18014398509481984 from rfl, p10'] at this
                  omega
              omega
            rw [F205_ok (l := 0) h (by omega) (by omega) hnum0 (p10n _) (by omega) (by rw [hlg]; omega) (fun j hj => by
              have := hfl j hj
              rw [← g4] at this
              rw [show y + (u : Int) - ((0 : Nat) : Int) + j = y + u + j from by omega, Nat.pow_zero, Nat.mul_one]
              exact this)]
            exact ⟨_, _, rfl, fun _ => hPT.symm⟩
          unfold F102_18
          by_cases c3 : -27 ≤ q ∧ q < 0
          · rw [bt (by rw [decide_eq_true c3.1, decide_eq_true c3.2]; rfl)]
            have w1 : w16 (0 - q) = (((-q).toNat : Nat) : Int) := by rw [w16_id (by omega)]; omega
            obtain ⟨r, b, f1, f2⟩ := F204_ok (N := N) hN man (k := (-q).toNat) (by omega)
            rw [w1, f1]
            simp only [Option.bind_some]
            unfold F102_19
            rcases f2 with ⟨b1, b2⟩ | ⟨b1, b2⟩
            · rw [b1, bt rfl]
              have hr0 : r.toNat ≠ 0 := fun k => c0 (by rw [b2, k, Nat.zero_mul])
              have hbr := blen64 r
              have hbrp := blen_pos hr0
              obtain ⟨l', hl'⟩ : ∃ l', l' = 64 - blen r.toNat := ⟨_, rfl⟩
              have hnorm := blen_norm hr0 hbr
              rw [← hl'] at hnorm
              have hR0 : r.toNat * 2 ^ l' ≠ 0 := Nat.mul_ne_zero hr0 (pne _)
              -- k * 2^q
              have hcr : man.toNat * 10 ^ q.toNat * 2 ^ (-(q - (l' : Int))).toNat = r.toNat * 2 ^ l' * 2 ^ (q - (l' : Int)).toNat * 10 ^ (-q).toNat := by
                rw [b2, ← ten_eq, ← ten_eq, show q.toNat = 0 from by omega, show (q - (l' : Int)).toNat = 0 from by omega, show (-(q - (l' : Int))).toNat = (-q).toNat + l' from by omega, Nat.pow_add]
                simp only [Nat.pow_zero, Nat.mul_one]
                generalize 2 ^ (-q).toNat = A1
                generalize 5 ^ (-q).toNat = A2
                generalize 2 ^ l' = A3
                grind
              have hfc := fun d => fq_cross (num := man.toNat * 10 ^ q.toNat) (den := 10 ^ (-q).toNat) (num' := r.toNat * 2 ^ l' * 2 ^ (q - (l' : Int)).toNat) (den' := 2 ^ (-(q - (l' : Int))).toNat) (p10 _) (pow_pos2 _) hcr d
              have hlg : lg (man.toNat * 10 ^ q.toNat) (10 ^ (-q).toNat) = q - l' + 63 := by
                have := (Lg_pow hR0 (q - (l' : Int))).cross (num' := man.toNat * 10 ^ q.toNat) (den' := 10 ^ (-q).toNat) (pow_pos2 _) (p10 _) hcr.symm
                rw [this.eq (p10n _), hnorm]; omega
              rw [F205_ok h hr0 (by omega) hnum0 (p10n _) hl' hlg (fun j hj => by
                have f3 := hfc (q - l' + j)
                have f4 := fq_pow (r.toNat * 2 ^ l') (q - (l' : Int)) j
                rw [f3.1, f3.2, f4.1, f4.2, Bool.or_false]
                exact ⟨rfl, rfl⟩)]
              exact ⟨_, _, rfl, fun _ => hPT.symm⟩
            · rw [b1, bf rfl]
              exact htab (.inr b2)
          · rw [bf (by
              by_cases k : -27 ≤ q
              · rw [decide_eq_false (show ¬ q < 0 from fun z => c3 ⟨k, z⟩)]; simp
              · rw [decide_eq_false k]; rfl)]
            exact htab (.inl c3)
  unfold F102
  have hyes : F102_1 N t e m man q true = some (0#64, false) := rfl
  cases (!((e == F13.1) && (m == F13.2))) with
  | false => exact main
  | true =>
    simp only [cond_true]
    cases (!((e == F14.1) && (m == F14.2))) with
    | false => exact main
    | true => rw [hyes]; exact hno
end
end Go.Proofs.YfwaawGreat
