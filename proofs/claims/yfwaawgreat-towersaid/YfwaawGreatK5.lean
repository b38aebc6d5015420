/-
  ryu.Scale, the function.
-/
import Derived.Test.YfwaawGreatK4
namespace Go.Proofs.YfwaawGreat
open Go.Aw
set_option linter.unusedVariables false
set_option linter.unusedSimpArgs false

theorem lo_mod (h l : BitVec 64) : l.toNat = v2 h l % 18446744073709551616 := by
  have := l.isLt
  unfold v2; omega
theorem hiword (u w : BitVec 64) (z : Nat) (h : v2 u w = z) (hw : w.toNat < 18446744073709551616) : v2 0#64 u = z / 18446744073709551616 := by
  unfold v2 at *
  rw [show (0#64).toNat = 0 from rfl, Nat.zero_mul, Nat.zero_add]
  omega
/-- The words of the product, shifted. -/
theorem sc_words {x a b : BitVec 64} {s : Nat} (hx : x.toNat < 36028797018963968) (h1 : 64 ≤ s) (h2 : s ≤ 191) (hv : x.toNat * v2 a b / 2 ^ s < 18446744073709551616) :
    (F217 (F166 (F165 x a).1 (F165 x a).2 0#64 (F165 x b).1).1 (F166 (F165 x a).1 (F165 x a).2 0#64 (F165 x b).1).2.1 (BitVec.ofInt 8 (w16 ((s : Int) - 64)))).2 = BitVec.ofNat 64 (x.toNat * v2 a b / 2 ^ s) := by
  have hk : (BitVec.ofInt 8 (w16 ((s : Int) - 64))).toNat = s - 64 := by
    rw [w16_id (by omega), show (s : Int) - 64 = ((s - 64 : Nat) : Int) by omega, ofInt_nat, BitVec.toNat_ofNat]
    exact Nat.mod_eq_of_lt (by omega)
  refine BitVec.eq_of_toNat_eq ?_
  rw [lo_mod (F217 (F166 (F165 x a).1 (F165 x a).2 0#64 (F165 x b).1).1 (F166 (F165 x a).1 (F165 x a).2 0#64 (F165 x b).1).2.1 (BitVec.ofInt 8 (w16 ((s : Int) - 64)))).1, F217_ok, hk, (F166_ok _ _ _ _).1, F165_ok, BitVec.toNat_ofNat, p64, Nat.mod_eq_of_lt hv]
  have hb := F165_ok x b
  have hl : v2 0#64 (F165 x b).1 = x.toNat * b.toNat / 18446744073709551616 := by
    have h2 := (F165 x b).2.isLt
    rw [p64] at h2
    exact hiword _ _ _ hb h2
  rw [hl]
  have ha := a.isLt
  have hb' := b.isLt
  have ha2 : x.toNat * a.toNat ≤ 36028797018963968 * 18446744073709551616 := Nat.mul_le_mul (by omega) (by omega)
  have hb2 : x.toNat * b.toNat ≤ 36028797018963968 * 18446744073709551616 := Nat.mul_le_mul (by omega) (by omega)
  have e1 : x.toNat * v2 a b = x.toNat * a.toNat * 18446744073709551616 + x.toNat * b.toNat := by
    unfold v2; rw [Nat.mul_add]; grind
  have e2 : x.toNat * v2 a b / 2 ^ s = (x.toNat * a.toNat + x.toNat * b.toNat / 18446744073709551616) / 2 ^ (s - 64) := by
    rw [show 2 ^ s = 18446744073709551616 * 2 ^ (s - 64) by
      rw [← p64, ← Nat.pow_add]; exact congrArg (fun t => 2 ^ t) (by omega), ← Nat.div_div_eq_div_mul]
    exact congrArg (fun t => t / 2 ^ (s - 64)) (by rw [e1]; omega)
  rw [e2] at hv ⊢
  rw [Nat.mod_eq_of_lt (a := x.toNat * a.toNat + x.toNat * b.toNat / 18446744073709551616) (by omega), Nat.mod_eq_of_lt hv]
theorem whole_ok {N : Nat} (hN : 30 ≤ N) {x v : BitVec 64} {e : Int} (h1 : -1100 ≤ e) (h2 : e < 1031) (hx0 : 0 < x.toNat) (hx : x.toNat < 36028797018963968) :
    F117_9 N x e (rq e) v = some (v, decide (sB e ∣ x.toNat * sA e)) := by
  have hb := rq_bd h1 h2
  unfold F117_9 F117_11
  by_cases c : 0 < rq e
  · rw [decide_eq_true (show rq e ≥ 1 by omega), bt rfl]
    have hd := whole_up c x.toNat
    unfold F218 F218_1
    by_cases c2 : rq e ≥ 24
    · rw [decide_eq_true c2, bt rfl]
      have : ¬ sB e ∣ x.toNat * sA e := by
        rw [hd]
        intro k
        have k1 := Nat.le_of_dvd hx0 k
        have k2 : 5 ^ 24 ≤ 5 ^ (rq e).toNat := Nat.pow_le_pow_right (by decide) (by omega)
        have k3 : (5 : Nat) ^ 24 = 59604644775390625 := by decide +kernel
        omega
      rw [decide_eq_false this]
      rfl
    · have hq := F218_ok (N := N) (rq e).toNat x (by omega) (by omega)
      rw [show (((rq e).toNat : Nat) : Int) = rq e by omega] at hq
      rw [decide_eq_false c2, bf rfl, hq, decide_eq_decide.2 hd]
      rfl
  · rw [decide_eq_false (show ¬ rq e ≥ 1 by omega), bf rfl]
    unfold F117_12
    have w1 : w16 (rq e - e) = rq e - e := w16_id (by unfold rq at *; omega)
    rw [w1]
    by_cases c2 : rq e - e ≤ 0
    · rw [decide_eq_true c2, bt rfl, decide_eq_true (whole_int (by omega) c2 _)]
      rfl
    · rw [decide_eq_false c2, bf rfl]
      have hd := whole_dn (e := e) (by omega) (by omega) x.toNat
      by_cases c3 : rq e - e < 55
      · rw [decide_eq_true c3, bt rfl, decide_eq_true (show 0 ≤ rq e - e by omega), bt rfl]
        unfold F117_10
        rw [eq_bv, and_mask64 x (k := (rq e - e).toNat) (by omega)]
        refine congrArg (fun t => some (v, t)) ?_
        rw [decide_eq_decide, hd, Nat.dvd_iff_mod_eq_zero]
        rfl
      · rw [decide_eq_false c3, bf rfl]
        have : ¬ sB e ∣ x.toNat * sA e := by
          rw [hd]
          intro k
          have k1 := Nat.le_of_dvd hx0 k
          have k2 : 2 ^ 55 ≤ 2 ^ (rq e - e).toNat := pow_le (by omega)
          have k3 : (2 : Nat) ^ 55 = 36028797018963968 := by decide +kernel
          omega
        rw [decide_eq_false this]
        rfl
theorem F117_ok {N : Nat} (hN : 30 ≤ N) {t : Tab} (ht : TabOk t) {x : BitVec 64} {e : Int} (h1 : -1100 ≤ e) (h2 : e < 1031) (hx0 : 0 < x.toNat) (hx : x.toNat < 36028797018963968) :
    F117 N t x e = some (BitVec.ofNat 64 (x.toNat * sA e / sB e), decide (sB e ∣ x.toNat * sA e)) := by
  have hb := rq_bd h1 h2
  obtain ⟨hf, hen⟩ := ht (-rq e) (by omega) (by omega)
  unfold F117 F117_1
  have c1 : ((((x == 0#64) || decide ((36028797018963968#64).toNat ≤ x.toNat)) || decide (e < -1100)) || decide (e > 1030)) = false := by
    rw [eq_bv, decide_eq_false (show ¬ x.toNat = (0#64).toNat by rw [show (0#64).toNat = 0 from rfl]; omega), decide_eq_false (show ¬ (36028797018963968#64).toNat ≤ x.toNat by rw [show (36028797018963968#64).toNat = 36028797018963968 from rfl]; omega), decide_eq_false (show ¬ e < -1100 by omega), decide_eq_false (show ¬ e > 1030 by omega)]
    rfl
  rw [c1, bf rfl]
  simp only [lt]
  rw [F171_ok h1 h2, show w16 (rq e + 1 - 1) = rq e by rw [w16_id (by omega)]; omega]
  unfold F117_2
  rw [show w16 (0 - rq e) = -rq e by rw [w16_id (by omega)]; omega, F116_ok (by omega) (by omega), Option.bind_some]
  simp only []
  generalize (t.man (-rq e + 348).toNat).1 = hi at *
  generalize (t.man (-rq e + 348).toNat).2 = lo at *
  generalize t.ex (-rq e + 348).toNat = xx at *
  obtain ⟨hv, hxl, hxh⟩ := F27_parts hf
  have hs := shift_bd h1 h2 hen
  unfold F117_3 F117_4
  rw [show w16 (0 - w16 (e + xx)) = -(e + xx) by rw [w16_id (n := e + xx) (by omega), w16_id (by omega)]; omega]
  simp only [lt]
  rw [hf]
  unfold F117_5
  rw [decide_eq_false (show ¬ -(e + xx) < 1 by omega), decide_eq_false (show ¬ -(e + xx) > 191 by omega), show ((!true || false) || false) = false from rfl, bf rfl]
  obtain ⟨s, hsv⟩ : ∃ s : Nat, (s : Int) = -(e + xx) := ⟨(-(e + xx)).toNat, by omega⟩
  rw [← hsv]
  have fin : ∀ a b : BitVec 64, x.toNat * v2 a b / 2 ^ s = x.toNat * sA e / sB e → F117_6 N x e (rq e) (s : Int) a b = some (BitVec.ofNat 64 (x.toNat * sA e / sB e), decide (sB e ∣ x.toNat * sA e)) := by
    intro a b hab
    unfold F117_6 F117_7 F117_8 F117_13
    simp only [lt]
    rw [decide_eq_true (show (s : Int) ≥ 64 by omega), bt rfl, sc_words hx (by omega) (by omega), whole_ok hN h1 h2 hx0 hx, hab]
    have k1 := v2_lt a b
    have k2 : x.toNat * v2 a b < 36028797018963968 * 340282366920938463463374607431768211456 := Nat.mul_lt_mul'' hx k1
    have k3 : 2 ^ 121 ≤ 2 ^ s := pow_le (by omega)
    have k4 : (2 : Nat) ^ 121 = 2658455991569831745807614120560689152 := by decide +kernel
    refine (Nat.div_lt_iff_lt_mul (pow_pos2 s)).2 (Nat.lt_of_lt_of_le k2 ?_)
    refine Nat.le_trans ?_ (Nat.mul_le_mul_left _ k3)
    rw [k4]
    decide +kernel
  unfold F117_14
  by_cases c : rq e > 0
  · rw [decide_eq_true c, bt rfl]
    simp only [lt]
    refine fin _ _ ?_
    rw [(F166_ok _ _ _ _).1, show v2 0#64 1#64 = 1 from rfl, Nat.mod_eq_of_lt hv]
    exact scale_up h1 h2 hen c hsv hx0 hx
  · rw [decide_eq_false c, bf rfl]
    exact fin _ _ (scale_dn h1 h2 hen (by omega) hsv hx0 hx)
end Go.Proofs.YfwaawGreat
