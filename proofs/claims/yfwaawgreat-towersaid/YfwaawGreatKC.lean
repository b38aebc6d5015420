/-
  ryu.Shortest = exact.Shortest: the function.
-/
import Derived.Test.YfwaawGreatKB
namespace Go.Proofs.YfwaawGreat
open Go.Aw
set_option linter.unusedVariables false
set_option linter.unusedSimpArgs false

section
variable {N : Nat} {e m : BitVec 8} {x : BitVec 64} {neg : Bool} {num den sig ex : Nat} {a : Int}
/-- From the significand on. -/
theorem NB.ryu (h : NB e m x neg num den sig ex a) (hN : 900 ≤ N) {t : Tab} (ht : TabOk t) {s b : BitVec 64} (hs : s.toNat = sig) (hb : b.toNat = bel m.toNat ex sig) : ∃ r, F94_9 N t neg a s b = some r ∧ F82 N e m x = some r := by
  have hab := h.ab
  have hp := h.hp
  have hsl := h.hs
  have h4 := h.f.m52
  have hk : 2 ^ (m.toNat + 1) ≤ 2 ^ 53 := pow_le (by omega)
  rw [show (2 : Nat) ^ 53 = 9007199254740992 from rfl] at hk
  have hbel : bel m.toNat ex sig = 1 ∨ bel m.toNat ex sig = 2 := by unfold bel; split <;> omega
  have e4 : (4#64 * s).toNat = 4 * sig := by
    rw [BitVec.toNat_mul, hs, show (4#64).toNat = 4 from rfl, p64]; exact Nat.mod_eq_of_lt (by omega)
  have eh : (4#64 * s + 2#64).toNat = 4 * sig + 2 := by
    rw [BitVec.toNat_add, e4, show (2#64).toNat = 2 from rfl, p64]; exact Nat.mod_eq_of_lt (by omega)
  have el : (4#64 * s - b).toNat = 4 * sig - bel m.toNat ex sig := by
    rw [BitVec.toNat_sub_of_le (by rw [BitVec.le_def, e4, hb]; omega), e4, hb]
  have fm := F117_ok (N := N) (by omega) ht (x := 4#64 * s) (e := a) hab.1 hab.2 (by omega) (by omega)
  have fh := F117_ok (N := N) (by omega) ht (x := 4#64 * s + 2#64) (e := a) hab.1 hab.2 (by omega) (by omega)
  have fl := F117_ok (N := N) (by omega) ht (x := 4#64 * s - b) (e := a) hab.1 hab.2 (by omega) (by omega)
  rw [e4] at fm
  rw [eh] at fh
  rw [el] at fl
  have hsAB := sAB hab.1 hab.2
  have small : ∀ z : Nat, z ≤ 36028797018963968 → z * sA a / sB a < 4611686018427387904 := by
    intro z hz
    rw [Nat.div_lt_iff_lt_mul (sB_pos a)]
    have k2 : z * sA a ≤ 36028797018963968 * (100 * sB a) := Nat.mul_le_mul hz (by omega)
    have := sB_pos a
    omega
  have tn : ∀ z : Nat, z ≤ 36028797018963968 → (BitVec.ofNat 64 (z * sA a / sB a)).toNat = z * sA a / sB a := by
    intro z hz
    have := small z hz
    rw [BitVec.toNat_ofNat, p64]; exact Nat.mod_eq_of_lt (by omega)
  have hbit : ((s &&& 1#64) == 0#64) = decide (sig % 2 = 0) := by
    rw [eq_bv, BitVec.toNat_and, hs, show (1#64).toNat = 2 ^ 1 - 1 from rfl, Nat.and_two_pow_sub_one_eq_mod]; rfl
  obtain ⟨jt, hl10, hjt, hjb⟩ := h.top (N := N) (by omega)
  obtain ⟨HH, hHH⟩ : ∃ HH, HH = bif decide (sB a ∣ (4 * sig + 2) * sA a) && !decide (sig % 2 = 0) then (4 * sig + 2) * sA a / sB a - 1 else (4 * sig + 2) * sA a / sB a := ⟨_, rfl⟩
  have H := h.ends hHH
  unfold F94_9
  rw [fm, Option.bind_some]
  unfold F94_10
  rw [fh, Option.bind_some]
  unfold F94_11
  rw [fl, Option.bind_some]
  simp only []
  unfold F94_12
  rw [hbit]
  unfold F94_13
  have hhi : ∃ hw : BitVec 64, hw.toNat = HH ∧ F94_17 N neg a (BitVec.ofNat 64 (4 * sig * sA a / sB a)) (decide (sB a ∣ 4 * sig * sA a)) (BitVec.ofNat 64 ((4 * sig + 2) * sA a / sB a)) (BitVec.ofNat 64 ((4 * sig - bel m.toNat ex sig) * sA a / sB a)) (decide (sB a ∣ (4 * sig - bel m.toNat ex sig) * sA a)) (decide (sig % 2 = 0)) (decide (sB a ∣ (4 * sig + 2) * sA a) && !decide (sig % 2 = 0))
      = F94_14 N neg a (BitVec.ofNat 64 (4 * sig * sA a / sB a)) (decide (sB a ∣ 4 * sig * sA a)) (BitVec.ofNat 64 ((4 * sig - bel m.toNat ex sig) * sA a / sB a)) (decide (sB a ∣ (4 * sig - bel m.toNat ex sig) * sA a)) (decide (sig % 2 = 0)) hw := by
    unfold F94_17
    have hone : 1 ≤ (4 * sig + 2) * sA a / sB a := by
      rw [Nat.le_div_iff_mul_le (sB_pos a), Nat.one_mul]
      have := Nat.mul_le_mul_right (sA a) (show 1 ≤ 4 * sig + 2 by omega)
      omega
    cases hc : decide (sB a ∣ (4 * sig + 2) * sA a) && !decide (sig % 2 = 0) with
    | true =>
      rw [hc] at hHH
      refine ⟨_, ?_, rfl⟩
      have k := tn (4 * sig + 2) (by omega)
      rw [BitVec.toNat_sub_of_le (by rw [BitVec.le_def, k]; exact hone), k, hHH]
      rfl
    | false =>
      rw [hc] at hHH
      refine ⟨_, ?_, rfl⟩
      rw [tn _ (by omega), hHH]
      rfl
  obtain ⟨hw, hhw, hrun⟩ := hhi
  rw [hrun]
  unfold F94_14
  obtain ⟨r, j2, r1, r2, r3, r4, r5, r6, r7, r8⟩ := F169_ok (N := N) H (by omega) hjt hjb (by have := small (4 * sig) (by omega); omega) (tn _ (by omega)) (tn _ (by omega)) hhw rfl rfl rfl
  rw [r1, Option.bind_some]
  unfold F94_15
  have hrq := rq_bd hab.1 hab.2
  have hpk : pick (4 * sig - bel m.toNat ex sig) (4 * sig + 2) (sA a) (sB a * 10 ^ j2) (4 * sig) (sig % 2 = 0) < 9223372036854775808 ∧ pick (4 * sig - bel m.toNat ex sig) (4 * sig + 2) (sA a) (sB a * 10 ^ j2) (4 * sig) (sig % 2 = 0) ≠ 0 := by
    have k1 : 4 * sig * sA a / (sB a * 10 ^ j2) ≤ 4 * sig * sA a / sB a := by rw [← Nat.div_div_eq_div_mul]; exact Nat.div_le_self _ _
    have k2 := small (4 * sig) (by omega)
    have k3 := (hjt j2).2 r5
    unfold pick
    generalize 4 * sig * sA a / (sB a * 10 ^ j2) = lo at *
    generalize decide (Rd (4 * sig - bel m.toNat ex sig) (4 * sig + 2) (sA a) (sB a * 10 ^ j2) (sig % 2 = 0) lo) = b1
    generalize decide (Rd (4 * sig - bel m.toNat ex sig) (4 * sig + 2) (sA a) (sB a * 10 ^ j2) (sig % 2 = 0) (lo + 1)) = b2
    generalize near (4 * sig * sA a) (sB a * 10 ^ j2) lo = b3
    generalize 4 * sig * sA a / sB a = w at *
    cases b1 <;> cases b2 <;> cases b3 <;> simp <;> omega
  rw [w64_id (n := (r.1.toNat : Int)) (by rw [r2]; omega), r2, r3]
  simp only [lt]
  rw [F171_ok hab.1 hab.2, show w64 (w16 (w16 (rq a + 1 - 1) + (j2 : Int))) = rq a + j2 by rw [w16_id (n := rq a + 1 - 1) (by omega), w16_id (n := rq a + 1 - 1 + (j2 : Int)) (by omega), w64_id (by omega)]; omega]
  have hex := h.exact (N := N) (by omega) hl10 r5 r6 r7 r8
  obtain ⟨ss, dig, exp, jj, g1, g2, g3, g4, g5, g6, g7⟩ := mkD_ok (N := N) (by omega) (neg := neg) hpk.2 hpk.1 (k := rq a + j2) (by omega)
  rw [hex, g3, g1, Option.bind_some, g2, Option.bind_some]
  exact ⟨_, rfl, rfl⟩
/-- ryu.Shortest = exact.Shortest. -/
theorem short_eq (hf : Fm e m) (hN : 900 ≤ N) {t : Tab} (ht : TabOk t) (x : BitVec 64) : Bo (F94 N t e m x) (F82 N e m x) := by
  have h1 := hf.e2
  have h2 := hf.e11
  have h3 := hf.m2
  have h4 := hf.m52
  have hbi := bia_le h2
  have hbg := bia_ge h1
  have hpE := pow_E h1
  have hpm := pow_pos2 m.toNat
  have hE11 : 2 ^ e.toNat ≤ 2 ^ 11 := pow_le h2
  rw [show (2 : Nat) ^ 11 = 2048 from rfl] at hE11
  have hxm : (x &&& F69 e m).toNat = x.toNat % 2 ^ (e.toNat + m.toNat + 1) := by
    rw [BitVec.toNat_and, F69_ok hf, Nat.and_two_pow_sub_one_eq_mod]
  rw [mod_parts] at hxm
  have hneg : ((x &&& F70 e m) != 0#64) = decide (x.toNat / 2 ^ (e.toNat + m.toNat) % 2 = 1) := by
    rw [ne_bv, F70_eq hf, bit_and _ _ (by omega)]
    have hp := pow_pos2 (e.toNat + m.toNat)
    rcases Nat.mod_two_eq_zero_or_one (x.toNat / 2 ^ (e.toNat + m.toNat)) with hh | hh <;> rw [hh]
    · simp
    · simp
  have hT : ((x >>> m.toNat) &&& ((1#64 <<< e.toNat) - 1#64)).toNat = x.toNat / 2 ^ m.toNat % 2 ^ e.toNat := by
    rw [and_mask64 _ (by omega), shr_nat]
  have hF : (x &&& ((1#64 <<< m.toNat) - 1#64)).toNat = x.toNat % 2 ^ m.toNat := and_mask64 _ (by omega)
  have hFl : x.toNat % 2 ^ m.toNat < 2 ^ m.toNat := Nat.mod_lt _ hpm
  have hTl : x.toNat / 2 ^ m.toNat % 2 ^ e.toNat < 2 ^ e.toNat := Nat.mod_lt _ (pow_pos2 _)
  unfold F94
  simp only [lt]
  rw [hf.ok, Bool.not_true]
  unfold F94_1
  rw [bf rfl]
  simp only [lt]
  rw [hneg]
  unfold F94_2
  rw [hT]
  unfold F94_3
  generalize (x &&& ((1#64 <<< m.toNat) - 1#64)) = f at *
  generalize x.toNat / 2 ^ m.toNat % 2 ^ e.toNat = T at *
  generalize x.toNat % 2 ^ m.toNat = F at *
  generalize decide (x.toNat / 2 ^ (e.toNat + m.toNat) % 2 = 1) = S at *
  rw [w16_id (n := (T : Int)) (by omega)]
  unfold F94_4
  have wE : w16 (w16 (1 * 2 ^ (min e.toNat 16)) - 1) = ((2 ^ e.toNat - 1 : Nat) : Int) := by
    rw [show min e.toNat 16 = e.toNat by omega, Int.one_mul]
    have hc : ((2 : Int) ^ e.toNat) = ((2 ^ e.toNat : Nat) : Int) := by rw [Int.natCast_pow]; rfl
    have := pow_pos2 e.toNat
    rw [hc, w16_id (n := ((2 ^ e.toNat : Nat) : Int)) (by omega), w16_id (by omega)]
    omega
  rw [wE]
  have hinf : infP e.toNat m.toNat = (2 ^ e.toNat - 1) * 2 ^ m.toNat := rfl
  have hPl : T * 2 ^ m.toNat + F < 2 ^ (e.toNat + m.toNat) := by
    have := Nat.mul_le_mul_right (2 ^ m.toNat) (show T + 1 ≤ 2 ^ e.toNat from hTl)
    rw [Nat.add_mul, Nat.one_mul, ← Nat.pow_add] at this
    omega
  have hcls : ∀ (P : Nat) (ng : Bool), P < 2 ^ (e.toNat + m.toNat) → (x &&& F69 e m).toNat = P + sgn e.toNat m.toNat ng → P = T * 2 ^ m.toNat + F ∧ ng = S := by
    intro P ng hP hx
    rw [hxm] at hx
    unfold sgn at hx
    cases ng <;> cases S <;> simp at hx <;> first | exact ⟨by omega, rfl⟩ | (exfalso; omega)
  have hinfl := infP_lt' e.toNat m.toNat
  have hinfp := infP_pos hf
  have f82sp : ∀ (c : Int) (b : BitVec 64) (ng nn : Bool) (n d : Nat), (c = 3 ∨ c = 4) → (∀ N, F144 N e m x = some (b, ng, c, nn, n, d)) → F82 N e m x = some (false, [], 0) := by
    intro c b ng nn n d hc h144
    unfold F82
    simp only [lt]
    rw [hf.ok, Bool.not_true]
    unfold F82_1
    rw [bf rfl, h144, Option.bind_some]
    unfold F82_2 F82_3 F82_17 F82_4
    simp only []
    rcases hc with k | k <;> subst k <;> rfl
  have f82z : ∀ (b : BitVec 64) (ng nn : Bool) (n d : Nat), (∀ N, F144 N e m x = some (b, ng, 0, nn, n, d)) → F82 N e m x = some (ng, [], 0) := by
    intro b ng nn n d h144
    unfold F82
    simp only [lt]
    rw [hf.ok, Bool.not_true]
    unfold F82_1
    rw [bf rfl, h144, Option.bind_some]
    unfold F82_2 F82_3
    rfl
  rcases opn hf x with ⟨ng, o1, o2, o3⟩ | ⟨ng, o1, o2, o3⟩ | ⟨ng, o1, o2, o3⟩ | ⟨ng, c, ex', man, P, o⟩
  · -- NaN
    have hTe : T = 2 ^ e.toNat - 1 := by
      rw [hxm] at o2
      have : (T * 2 ^ m.toNat + F + sgn e.toNat m.toNat S) % 2 ^ (e.toNat + m.toNat) = T * 2 ^ m.toNat + F := by
        unfold sgn
        cases S
        · exact Nat.mod_eq_of_lt hPl
        · show (T * 2 ^ m.toNat + F + 2 ^ (e.toNat + m.toNat)) % 2 ^ (e.toNat + m.toNat) = _
          rw [Nat.add_mod_right]; exact Nat.mod_eq_of_lt hPl
      rw [this, hinf] at o2
      have k : (2 ^ e.toNat - 1) * 2 ^ m.toNat < (T + 1) * 2 ^ m.toNat := by rw [Nat.add_mul, Nat.one_mul]; omega
      have := Nat.lt_of_mul_lt_mul_right k
      omega
    unfold F94_5
    rw [bt (by rw [beq_iff_eq]; omega)]
    exact ⟨_, rfl, f82sp 4 _ _ _ _ _ (Or.inr rfl) o3⟩
  · have hv := hcls (infP e.toNat m.toNat) ng hinfl (by rw [o2, F67_ok hf])
    have hTe : T = 2 ^ e.toNat - 1 := by
      have k : (2 ^ e.toNat - 1) * 2 ^ m.toNat < (T + 1) * 2 ^ m.toNat := by rw [← hinf, Nat.add_mul, Nat.one_mul]; omega
      have := Nat.lt_of_mul_lt_mul_right k
      omega
    unfold F94_5
    rw [bt (by rw [beq_iff_eq]; omega)]
    exact ⟨_, rfl, f82sp 3 _ _ _ _ _ (Or.inl rfl) o3⟩
  · have hv := hcls 0 ng (pow_pos2 _) (by rw [o2, F251_ok hf, Nat.zero_add])
    have hT0 : T = 0 := by
      rcases Nat.eq_zero_or_pos T with z | z
      · exact z
      · exfalso
        have := Nat.mul_le_mul_right (2 ^ m.toNat) (show 1 ≤ T from z)
        omega
    have hF0 : F = 0 := by omega
    unfold F94_5
    rw [bf (by rw [beq_eq_false_iff_ne]; omega)]
    unfold F94_6
    rw [bt (by rw [eq_bv, hF, hT0, hF0]; rfl)]
    rw [← hv.2]
    exact ⟨_, rfl, f82z _ _ _ _ _ o3⟩
  · have hv := hcls P ng (by have := o.pi; omega) o.xm
    obtain ⟨hP, hS⟩ := hv
    subst hS
    have hTn : T ≠ 2 ^ e.toNat - 1 := by
      intro k
      have := o.pi
      rw [hP, k, hinf] at this
      omega
    have hnz : ¬ (T = 0 ∧ F = 0) := by
      rintro ⟨k1, k2⟩
      have := o.p0
      rw [hP, k1, k2] at this
      omega
    unfold F94_5
    rw [bf (by rw [beq_eq_false_iff_ne]; omega)]
    unfold F94_6
    have c2 : (((T : Int) == 0) && (f == 0#64)) = false := by
      rw [Bool.and_eq_false_iff, beq_eq_false_iff_ne, eq_bv, hF, decide_eq_false_iff_not, show (0#64).toNat = 0 from rfl]
      omega
    rw [c2, bf rfl]
    simp only [lt]
    rw [F71_ok hf]
    obtain ⟨a, ha⟩ : ∃ a : Int, a = max (T : Int) 1 - bia e.toNat - m.toNat - 2 := ⟨_, rfl⟩
    have wa : w16 (w16 (w16 (max (T : Int) 1 - (bia e.toNat : Int)) - w16 (m.toNat : Int)) - 2) = a := by
      rw [w16_id (n := (m.toNat : Int)) (by omega), w16_id (n := max (T : Int) 1 - (bia e.toNat : Int)) (by omega), w16_id (n := max (T : Int) 1 - (bia e.toNat : Int) - (m.toNat : Int)) (by omega), w16_id (by omega), ha]
    rw [wa]
    unfold F94_7 F94_19
    by_cases hT0 : T = 0
    · subst hT0
      rw [bf (decide_eq_false (by omega))]
      rw [Nat.zero_mul, Nat.zero_add] at hP
      have hnb := o.nb hf (sig := F) (ex := 0) (a := a) (by rw [Nat.pow_succ]; omega) (Or.inl rfl) (by omega) (by rw [hP, Nat.zero_mul, Nat.zero_add]) (by rw [ha]; omega)
      have hbel : bel m.toNat 0 F = 2 := by unfold bel; rw [if_neg (by omega)]
      unfold F94_8 F94_18
      rw [decide_eq_false (show ¬ ((0 : Nat) : Int) > 1 by omega), Bool.and_false, bf rfl]
      exact hnb.ryu hN ht hF (by rw [hbel]; rfl)
    · rw [bt (decide_eq_true (by omega))]
      have hor : (f ||| (1#64 <<< m.toNat)).toNat = F + 2 ^ m.toNat := by
        have h := Nat.two_pow_add_eq_or_of_lt hFl 1
        rw [Nat.mul_one] at h
        rw [BitVec.toNat_or, one_shl (by omega), hF, Nat.or_comm, ← h, Nat.add_comm]
      have hnb := o.nb hf (sig := F + 2 ^ m.toNat) (ex := T - 1) (a := a) (by rw [Nat.pow_succ]; omega) (Or.inr (by omega)) (by omega) (by
        rw [hP]
        obtain ⟨k, hk⟩ : ∃ k, T = k + 1 := ⟨T - 1, by omega⟩
        rw [hk, Nat.add_sub_cancel, Nat.add_mul, Nat.one_mul]; omega) (by rw [ha]; omega)
      unfold F94_8 F94_18
      have hb2 : ((f == 0#64) && decide ((T : Int) > 1)) = decide (F + 2 ^ m.toNat = 2 ^ m.toNat ∧ 1 ≤ T - 1) := by
        rw [eq_bv, hF, show (0#64).toNat = 0 from rfl, Bool.eq_iff_iff, Bool.and_eq_true, decide_eq_true_eq, decide_eq_true_eq, decide_eq_true_eq]
        omega
      rw [hb2]
      by_cases k : F + 2 ^ m.toNat = 2 ^ m.toNat ∧ 1 ≤ T - 1
      · rw [decide_eq_true k, bt rfl]
        have hbel : bel m.toNat (T - 1) (F + 2 ^ m.toNat) = 1 := by unfold bel; rw [if_pos k]
        exact hnb.ryu hN ht hor (by rw [hbel]; rfl)
      · rw [decide_eq_false k, bf rfl]
        have hbel : bel m.toNat (T - 1) (F + 2 ^ m.toNat) = 2 := by unfold bel; rw [if_neg k]
        exact hnb.ryu hN ht hor (by rw [hbel]; rfl)
end
end Go.Proofs.YfwaawGreat
