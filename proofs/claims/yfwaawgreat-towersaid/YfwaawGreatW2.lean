/-
  Package wide, plain: division of two words by one.
-/
import Derived.Test.YfwaawGreatW1
import Derived.Test.YfwaawGreatG29
namespace Go.Proofs.YfwaawGreat
open Go.Aw
set_option linter.unusedVariables false
set_option linter.unusedSimpArgs false

theorem F372_ok {N : Nat} (hN : 4 ≤ N) {hi next d : BitVec 64} (hd : 2 ^ 63 ≤ d.toNat) (hh : hi.toNat < d.toNat) (hn : next.toNat < 4294967296) :
    ∃ q r, F372 N hi next d = some (q, r) ∧ q.toNat = (hi.toNat * 4294967296 + next.toNat) / d.toNat ∧ r.toNat = (hi.toNat * 4294967296 + next.toNat) % d.toNat := by
  have hdl := d.isLt
  have p63 : (2 : Nat) ^ 63 = 9223372036854775808 := rfl
  rw [p63] at hd
  unfold F372 F372_1
  have e1 : (d >>> 32).toNat = d.toNat / 4294967296 := shr_nat _ _
  have e0 : (d &&& 4294967295#64).toNat = d.toNat % 4294967296 := and_low _
  have hdd := Nat.div_add_mod d.toNat 4294967296
  have hd0 := Nat.mod_lt d.toNat (show 0 < 4294967296 by decide)
  generalize d >>> 32 = d1 at *
  generalize d &&& 4294967295#64 = d0 at *
  rw [← e1, ← e0] at hdd
  rw [← e0] at hd0
  have hd1 : 2147483648 ≤ d1.toNat := by omega
  have hd1' : d1.toNat < 4294967296 := by omega
  have hz : (d1 != 0#64) = true := by rw [ne_bv]; simp; omega
  rw [hz, bt rfl, bt rfl]
  -- the true quotient
  obtain ⟨X, hX⟩ : ∃ X, X = hi.toNat * 4294967296 + next.toNat := ⟨_, rfl⟩
  rw [← hX]
  have hdpos : 0 < d.toNat := by omega
  have hQ1 := Nat.div_add_mod X d.toNat
  have hQ2 := Nat.mod_lt X hdpos
  have hQ : X / d.toNat < 4294967296 := by
    rw [Nat.div_lt_iff_lt_mul hdpos]; omega
  have hQle : ∀ q : Nat, q * d.toNat ≤ X → q ≤ X / d.toNat := fun q h => (Nat.le_div_iff_mul_le hdpos).2 h
  have hQlt : ∀ q : Nat, X < q * d.toNat → X / d.toNat < q := fun q h => (Nat.div_lt_iff_lt_mul hdpos).2 h
  generalize X / d.toNat = Q at *
  generalize X % d.toNat = R at *
  -- what is left at q
  have hleft : ∀ q rest : Nat, hi.toNat = d1.toNat * q + rest → q * d.toNat + (rest * 4294967296 + next.toNat) = X + q * d0.toNat := by
    intro q rest h
    rw [hX, h]
    have : q * d.toNat = q * (4294967296 * d1.toNat + d0.toNat) := by rw [hdd]
    rw [this]; grind
  -- the end
  have hend : ∀ q : BitVec 64, q.toNat = Q → ∃ q' r, F372_3 N hi next d q = some (q', r) ∧ q'.toNat = Q ∧ r.toNat = R := by
    intro q hq
    refine ⟨_, _, rfl, hq, ?_⟩
    rw [sub64, add64, mul64, BitVec.toNat_shiftLeft, Nat.shiftLeft_eq, p64, show (2 : Nat) ^ 32 = 4294967296 from rfl, hq]
    rw [Nat.mul_comm] at hQ1
    generalize Q * d.toNat = Y at *
    omega
  -- the loop
  obtain ⟨r, hr, hp⟩ := iter_inv (L := F372_L4 N hi next d d1 d0)
    (fun v : BitVec 64 × BitVec 64 => hi.toNat = d1.toNat * v.1.toNat + v.2.toNat ∧ v.2.toNat < 4294967296 ∧ Q ≤ v.1.toNat)
    (fun v => (4294967296 - v.2.toNat) / 2147483648)
    (fun r : BitVec 64 × BitVec 64 => r.1.toNat = Q ∧ r.2.toNat = R)
    (by
      rintro ⟨q, rest⟩ ⟨h1, h2, h3⟩
      simp only at h1 h2 h3
      have hl := hleft _ _ h1
      have hor : ((rest <<< 32) ||| next).toNat = rest.toNat * 4294967296 + next.toNat := by
        have es : (rest <<< 32).toNat = rest.toNat * 4294967296 := shl_nat _ _ (by
          show rest.toNat * 4294967296 < 18446744073709551616
          omega)
        rw [BitVec.or_comm, or_add _ _ 32 hn (by rw [es]; exact Nat.dvd_mul_left _ _), es]; omega
      have hcond : ((decide ((4294967295#64).toNat < q.toNat)) || (decide (((rest <<< 32) ||| next).toNat < (q * d0).toNat))) = decide (X < q.toNat * d.toNat) := by
        rw [← Bool.decide_or, hor, mul64]
        refine decide_eq_decide.2 ?_
        show (4294967295 < q.toNat ∨ _) ↔ _
        by_cases c : 4294967295 < q.toNat
        · refine ⟨fun _ => ?_, fun _ => .inl c⟩
          have h5 := Nat.mul_le_mul_right d.toNat (show 4294967296 ≤ q.toNat from c)
          omega
        · have h5 : q.toNat * d0.toNat ≤ 4294967295 * 4294967295 := Nat.mul_le_mul (by omega) (by omega)
          rw [Nat.mod_eq_of_lt (by omega)]
          generalize q.toNat * d.toNat = Y at *
          generalize q.toNat * d0.toNat = Z at *
          omega
      unfold F372_L4 F372_L4b F372_5
      rw [hcond]
      by_cases c : X < q.toNat * d.toNat
      · rw [bt (by simpa using c)]
        have hq1 := hQlt _ c
        have ed : (q - 1#64).toNat = q.toNat - 1 := by
          rw [sub64, show (1#64).toNat = 1 from rfl]
          have := q.isLt
          omega
        have ea : (rest + d1).toNat = rest.toNat + d1.toNat := by rw [add64]; omega
        have h1' : hi.toNat = d1.toNat * (q.toNat - 1) + (rest.toNat + d1.toNat) := by
          obtain ⟨k, hk⟩ : ∃ k, q.toNat = k + 1 := ⟨q.toNat - 1, by omega⟩
          rw [hk] at h1 ⊢
          rw [Nat.mul_add, Nat.mul_one] at h1
          rw [Nat.add_sub_cancel]
          omega
        unfold F372_6 F372_7 F372_8
        by_cases cb : 4294967295 < rest.toNat + d1.toNat
        · rw [bt (by rw [ea]; simpa using cb)]
          have hl' := hleft _ _ h1'
          have hqs : q.toNat - 1 < 4294967296 := by
            rcases Nat.lt_or_ge (q.toNat - 1) 4294967296 with k | k
            · exact k
            · have h5 := Nat.mul_le_mul_left d1.toNat k
              omega
          have h6 : (q.toNat - 1) * d0.toNat ≤ 4294967295 * 4294967295 := Nat.mul_le_mul (by omega) (by omega)
          have h7 : (q.toNat - 1) * d.toNat ≤ X := by
            generalize (q.toNat - 1) * d.toNat = Y at *
            generalize (q.toNat - 1) * d0.toNat = Z at *
            omega
          have h8 := hQle _ h7
          obtain ⟨q', r', g1, g2, g3⟩ := hend (q - 1#64) (by rw [ed]; omega)
          rw [g1]
          exact .inr ⟨(q', r'), rfl, g2, g3⟩
        · rw [bf (by rw [ea]; simpa using cb)]
          refine .inl ⟨(q - 1#64, rest + d1), rfl, ⟨?_, ?_, ?_⟩, ?_⟩
          · simp only []; rw [ed, ea]; exact h1'
          · simp only []; rw [ea]; omega
          · simp only []; rw [ed]; omega
          · simp only []; rw [ea]; omega
      · rw [bf (by simpa using c)]
        have h8 := hQle q.toNat (by omega)
        obtain ⟨q', r', g1, g2, g3⟩ := hend q (by omega)
        rw [g1]
        exact .inr ⟨(q', r'), rfl, g2, g3⟩)
    N (hi / d1, hi % d1) ⟨by
        simp only [BitVec.toNat_udiv, BitVec.toNat_umod]
        exact (Nat.div_add_mod _ _).symm, by
        simp only [BitVec.toNat_umod]
        have := Nat.mod_lt hi.toNat (show 0 < d1.toNat by omega)
        omega, by
        simp only [BitVec.toNat_udiv]
        have h9 := Nat.div_add_mod hi.toNat d1.toNat
        have h10 := Nat.mod_lt hi.toNat (show 0 < d1.toNat by omega)
        have h11 := hleft _ _ h9.symm
        -- X < (q0+1) d
        have h12 : X < (hi.toNat / d1.toNat + 1) * d.toNat := by
          rw [Nat.add_mul, Nat.one_mul]
          have : hi.toNat % d1.toNat * 4294967296 + 4294967296 ≤ d1.toNat * 4294967296 := by
            have := Nat.mul_le_mul_right 4294967296 (show hi.toNat % d1.toNat + 1 ≤ d1.toNat from h10)
            omega
          omega
        have := hQlt _ h12
        omega⟩ (by simp only []; omega)
  exact ⟨r.1, r.2, hr, hp.1, hp.2⟩

theorem div_two {A d D b l1 l0 h q1 r1 q0 r0 : Nat} (hd : 0 < d) (hA : A = (h * b + l1) * b + l0) (h1 : q1 = (h * b + l1) / d) (h2 : r1 = (h * b + l1) % d)
    (h3 : q0 = (r1 * b + l0) / d) (h4 : r0 = (r1 * b + l0) % d) : A / d = q1 * b + q0 ∧ A % d = r0 := by
  have e1 := Nat.div_add_mod (h * b + l1) d
  have e2 := Nat.div_add_mod (r1 * b + l0) d
  have l := Nat.mod_lt (r1 * b + l0) hd
  rw [← h1, ← h2] at e1
  rw [← h3, ← h4] at e2
  rw [← h4] at l
  have : A = r0 + d * (q1 * b + q0) := by
    rw [hA, ← e1]
    have : (d * q1 + r1) * b + l0 = d * q1 * b + (r1 * b + l0) := by grind
    rw [this, ← e2]; grind
  rw [this, Nat.add_mul_div_left _ _ hd, Nat.add_mul_mod_self_left, Nat.div_eq_of_lt l, Nat.mod_eq_of_lt l, Nat.zero_add]
  exact ⟨rfl, rfl⟩

theorem F280_ok {N : Nat} (hN : 4 ≤ N) {h l d : BitVec 64} (hh : h.toNat < d.toNat) : ∃ q r, F280 N h l d = some (q, r, true) ∧ q.toNat = v2 h l / d.toNat ∧ r.toNat = v2 h l % d.toNat := by
  have hd0 : d.toNat ≠ 0 := by omega
  have hb := blen64 d
  have hbp := blen_pos hd0
  have hbl := blen_lt d.toNat
  unfold F280 F280_1
  rw [bf (by simpa using hh), F164_ok]
  simp only [Option.bind_some, F280_2, F280_3, lt]
  have hs : (BitVec.ofNat 8 (64 - blen d.toNat)).toNat = 64 - blen d.toNat := by
    rw [BitVec.toNat_ofNat]; exact Nat.mod_eq_of_lt (by omega)
  have hsh := F206_ok h l (BitVec.ofNat 8 (64 - blen d.toNat))
  rw [hs] at hsh ⊢
  have hnorm := blen_norm hd0 hb
  have hd' : (d <<< (64 - blen d.toNat)).toNat = d.toNat * 2 ^ (64 - blen d.toNat) := shl_nat _ _ (by
    have := blen_lt (d.toNat * 2 ^ (64 - blen d.toNat))
    rw [hnorm] at this; exact this)
  have hdge : 2 ^ 63 ≤ (d <<< (64 - blen d.toNat)).toNat := by
    rw [hd']
    have := blen_le (Nat.mul_ne_zero hd0 (pne (64 - blen d.toNat)))
    rw [hnorm] at this; exact this
  have ps := pow_pos2 (64 - blen d.toNat)
  have hl := l.isLt
  -- no bit is lost
  have hv : v2 h l < d.toNat * 18446744073709551616 := by
    unfold v2
    have := Nat.mul_le_mul_right 18446744073709551616 (show h.toNat + 1 ≤ d.toNat from hh)
    omega
  have hv' : v2 h l * 2 ^ (64 - blen d.toNat) < (d <<< (64 - blen d.toNat)).toNat * 18446744073709551616 := by
    have := Nat.mul_lt_mul_of_pos_right hv ps
    rw [hd']
    have e : d.toNat * 18446744073709551616 * 2 ^ (64 - blen d.toNat) = d.toNat * 2 ^ (64 - blen d.toNat) * 18446744073709551616 := by grind
    omega
  have hdl := (d <<< (64 - blen d.toNat)).isLt
  rw [Nat.mod_eq_of_lt (by omega)] at hsh
  generalize F206 h l (BitVec.ofNat 8 (64 - blen d.toNat)) = a at *
  generalize hD : d <<< (64 - blen d.toNat) = D at *
  have hal := a.2.isLt
  have hah : a.1.toNat < D.toNat := by
    rw [← hsh] at hv'
    unfold v2 at hv'
    exact Nat.lt_of_mul_lt_mul_right (a := 18446744073709551616) (Nat.lt_of_le_of_lt (Nat.le_add_right _ _) hv')
  have e1 : (a.2 >>> 32).toNat = a.2.toNat / 4294967296 := shr_nat _ _
  have e0 : (a.2 &&& 4294967295#64).toNat = a.2.toNat % 4294967296 := and_low _
  obtain ⟨q1, r1, f1, g1, g2⟩ := F372_ok hN hdge hah (show (a.2 >>> 32).toNat < 4294967296 by omega)
  have hDp : 0 < D.toNat := by omega
  have hr1 : r1.toNat < D.toNat := by rw [g2]; exact Nat.mod_lt _ hDp
  obtain ⟨q0, r0, f2, g3, g4⟩ := F372_ok hN hdge hr1 (show (a.2 &&& 4294967295#64).toNat < 4294967296 by omega)
  unfold F280_4
  rw [f1]
  simp only [Option.bind_some, F280_5]
  rw [f2]
  simp only [Option.bind_some, F280_6]
  have hq1 : q1.toNat < 4294967296 := by
    rw [g1, Nat.div_lt_iff_lt_mul hDp]
    have := Nat.mul_le_mul_right 4294967296 (show a.1.toNat + 1 ≤ D.toNat from hah)
    omega
  have hq0 : q0.toNat < 4294967296 := by
    rw [g3, Nat.div_lt_iff_lt_mul hDp]
    have := Nat.mul_le_mul_right 4294967296 (show r1.toNat + 1 ≤ D.toNat from hr1)
    omega
  obtain ⟨t1, t2⟩ := div_two (A := v2 a.1 a.2) (D := 0) hDp (by unfold v2; omega) g1 g2 g3 g4
  rw [hsh, hd'] at t1 t2
  rw [Nat.mul_div_mul_right _ _ ps] at t1
  rw [Nat.mul_mod_mul_right] at t2
  refine ⟨_, _, rfl, ?_, ?_⟩
  · have es : (q1 <<< 32).toNat = q1.toNat * 4294967296 := shl_nat _ _ (by
      show q1.toNat * 4294967296 < 18446744073709551616
      omega)
    rw [BitVec.or_comm, or_add _ _ 32 hq0 (by rw [es]; exact Nat.dvd_mul_left _ _), es, t1]; omega
  · rw [shr_nat, ← t2, hs, Nat.mul_div_cancel _ ps]
end Go.Proofs.YfwaawGreat
