/-
  Lemire; Parse = RoundDec.
-/
import Derived.Test.YfwaawGreatE1
import Derived.Test.YfwaawGreatL7
import Derived.Test.YfwaawGreatG40
namespace Go.Proofs.YfwaawGreat
open Go.Aw
set_option linter.unusedVariables false
set_option linter.unusedSimpArgs false
section
variable {e m mode : BitVec 8} {neg : Bool} {dig : List UInt8} {exp : Int}

/-- man * 10^q to nearest: the pattern. -/
def PT (e m : BitVec 8) (man : Nat) (q : Int) : BitVec 64 := if man = 0 then 0#64 else (RQ e m 0#8 false (man * 10 ^ q.toNat) (10 ^ (-q).toNat)).1

theorem PT_big (h : Fm e m) {man : Nat} (hm : man ≠ 0) {q : Int} (hq : 347 < q) : PT e m man q = F67 e m false := by
  have hb := bia_le h.e11
  unfold PT
  rw [if_neg hm]
  have hn : man * 10 ^ q.toNat ≠ 0 := Nat.mul_ne_zero hm (p10n _)
  obtain ⟨u, hu⟩ : ∃ u : Nat, u = 1024 := ⟨_, rfl⟩
  have e2 : (u : Int) ≤ lg (man * 10 ^ q.toNat) (10 ^ (-q).toNat) := by
    refine lg_ge_of hn (p10n _) ?_
    rw [show (-(u : Int)).toNat = 0 from by omega, Int.toNat_natCast, show (-q).toNat = 0 from by omega, Nat.pow_zero, Nat.mul_one, Nat.one_mul]
    have h1 : 2 ^ u ≤ 10 ^ q.toNat := ten_ge (by omega)
    exact Nat.le_trans h1 (Nat.le_mul_of_pos_left _ (by omega))
  rw [RQ_big h (by omega)]
  rfl
theorem PT_small (h : Fm e m) {man : Nat} (hm : man < 2 ^ 64) {q : Int} (hq : q < -348) : PT e m man q = 0#64 := by
  have hb := bia_le h.e11
  have h4 := h.m52
  unfold PT
  by_cases h0 : man = 0
  · rw [if_pos h0]
  · rw [if_neg h0]
    have hn : man * 10 ^ q.toNat ≠ 0 := Nat.mul_ne_zero h0 (p10n _)
    obtain ⟨u, hu⟩ : ∃ u : Nat, u = 1080 := ⟨_, rfl⟩
    have e2 : lg (man * 10 ^ q.toNat) (10 ^ (-q).toNat) < -(u : Int) := by
      refine lg_le_of hn (p10n _) ?_
      rw [show (-(u : Int)).toNat = 0 from by omega, show (-(-(u : Int))).toNat = u from by omega, show q.toNat = 0 from by omega, Nat.pow_zero, Nat.mul_one, Nat.mul_one]
      have h1 : 2 ^ (64 + u) ≤ 10 ^ (-q).toNat := ten_ge (by omega)
      rw [Nat.pow_add] at h1
      exact Nat.lt_of_lt_of_le (Nat.mul_lt_mul_of_pos_right hm (pow_pos2 u)) h1
    rw [RQ_small h hn (p10n _) (by omega)]
    rfl

theorem lw_aux {P a b c d : Nat} (h : a * 18446744073709551616 + b = c + d) : (P + a) * 18446744073709551616 + b = P * 18446744073709551616 + c + d := by rw [Nat.add_mul, Nat.add_assoc, h, Nat.add_assoc]
theorem lemire_ok {N : Nat} {t : Tab} (ht : TabOk t) (h : Fm e m) (man : BitVec 64) (q : Int) : ∃ bits ok, F91 N t e m man q = some (bits, ok) ∧ (ok = true → bits = PT e m man.toNat q) := by
  have hml := man.isLt
  have hno : ∃ bits ok, (some (0#64, false) : Option (BitVec 64 × Bool)) = some (bits, ok) ∧ (ok = true → bits = PT e m man.toNat q) := ⟨_, _, rfl, fun k => by cases k⟩
  have main : ∃ bits ok, F91_1 N t e m man q false = some (bits, ok) ∧ (ok = true → bits = PT e m man.toNat q) := by
    unfold F91_1 F91_2
    rw [bf rfl, eq_bv, show (0#64).toNat = 0 from rfl]
    by_cases c0 : man.toNat = 0
    · rw [bt (by rw [decide_eq_true c0]; rfl)]
      refine ⟨_, _, rfl, fun _ => ?_⟩
      unfold PT; rw [if_pos c0]
    · by_cases c1 : q < -348
      · rw [bt (by rw [decide_eq_true c1]; simp)]
        exact ⟨_, _, rfl, fun _ => (PT_small h hml c1).symm⟩
      · rw [bf (by rw [decide_eq_false c0, decide_eq_false c1]; rfl)]
        unfold F91_3
        by_cases c2 : q > 347
        · rw [bt (decide_eq_true c2)]
          exact ⟨_, _, rfl, fun _ => (PT_big h c0 c2).symm⟩
        · rw [bf (decide_eq_false c2), F116_ok (by omega) (by omega)]
          obtain ⟨hfit, hen⟩ := ht q (by omega) (by omega)
          obtain ⟨f1, f2, f3⟩ := F27_parts hfit
          simp only [Option.bind_some]
          generalize (t.man (q + 348).toNat).1 = th at *
          generalize (t.man (q + 348).toNat).2 = tl at *
          generalize t.ex (q + 348).toNat = x at *
          unfold F91_4
          simp only [lt]
          rw [hfit, Bool.not_true]
          unfold F91_5
          rw [bf rfl, F164_ok]
          simp only [Option.bind_some]
          have hb := blen64 man
          have hbp := blen_pos c0
          obtain ⟨l, hl⟩ : ∃ l, l = 64 - blen man.toNat := ⟨_, rfl⟩
          have hl8 : (BitVec.ofNat 8 (64 - blen man.toNat)).toNat = l := by rw [BitVec.toNat_ofNat, ← hl]; exact Nat.mod_eq_of_lt (by omega)
          have hnorm := blen_norm c0 hb
          rw [← hl] at hnorm
          have hw : (man <<< l).toNat = man.toNat * 2 ^ l := shl_nat _ _ (by
            have := blen_lt (man.toNat * 2 ^ l)
            rw [hnorm] at this; exact this)
          have hwg : 9223372036854775808 ≤ (man <<< l).toNat := by
            rw [hw]
            have := blen_le (Nat.mul_ne_zero c0 (pne l))
            rw [hnorm] at this; exact this
          unfold F91_6 F91_7
          rw [hl8]
          obtain ⟨y, hy⟩ : ∃ y : Int, y = x - l := ⟨_, rfl⟩
          have w1 : w16 (l : Int) = l := w16_id (by omega)
          have w2 : w16 (x - l) = y := by rw [hy]; exact w16_id (by omega)
          rw [w1, w2]
          generalize hwv : man <<< l = w at *
          have hwl := w.isLt
          have hthl := th.isLt
          have htll := tl.isLt
          have hge := hen.ge
          have hth : 9223372036854775808 ≤ th.toNat := by unfold v2 at hge; omega
          -- both ways on
          have go : ∀ sl : BitVec 64, (sl = w ∨ (0 ≤ q ∧ q ≤ 55 ∧ sl.toNat = 0)) → ∃ bits ok, F91_9 N e m th tl w y sl = some (bits, ok) ∧ (ok = true → bits = PT e m man.toNat q) := by
            intro sl hsl
            unfold F91_9
            simp only [lt]
            have ha := F165_ok w th
            generalize F165 w th = a at *
            unfold F91_10
            simp only [lt]
            have hb1 := (F166_ok a.1 a.2 0#64 w).1
            have hvw : ∀ z : BitVec 64, v2 0#64 z = z.toNat := fun z => by unfold v2; simp
            have hp1 : w.toNat * th.toNat ≤ 18446744073709551615 * 18446744073709551615 := Nat.mul_le_mul (by omega) (by omega)
            have hp2 : 9223372036854775808 * 9223372036854775808 ≤ w.toNat * th.toNat := Nat.mul_le_mul hwg hth
            rw [hvw, ha, Nat.mod_eq_of_lt (by omega)] at hb1
            generalize F166 a.1 a.2 0#64 w = b at *
            unfold F91_11
            have ha62 : 2 ^ 62 ≤ a.1.toNat := by
              show 4611686018427387904 ≤ _
              have := a.2.isLt
              unfold v2 at ha; omega
            have hb62 : 2 ^ 62 ≤ b.1.toNat := by
              show 4611686018427387904 ≤ _
              have := b.2.1.isLt
              unfold v2 at hb1; omega
            rw [F167_ok h ha62 (by omega)]
            simp only [Option.bind_some, F91_12]
            rw [F167_ok h hb62 (by omega)]
            simp only [Option.bind_some, F91_13]
            rw [ha, hb1, show (0#64).toNat = 0 from rfl, Nat.add_zero, Nat.add_zero]
            have hwT : man.toNat * 2 ^ l * v2 th tl = w.toNat * th.toNat * 18446744073709551616 + w.toNat * tl.toNat := by
              rw [← hw]; unfold v2; grind
            have hwT1 : man.toNat * 2 ^ l * (v2 th tl + 1) = w.toNat * th.toNat * 18446744073709551616 + w.toNat * tl.toNat + w.toNat := by
              rw [Nat.mul_add, hwT, Nat.mul_one, hw]
            have hmt : w.toNat * tl.toNat + w.toNat ≤ w.toNat * 18446744073709551616 := by
              have := Nat.mul_le_mul_left w.toNat (show tl.toNat + 1 ≤ 18446744073709551616 from htll)
              rw [Nat.mul_add, Nat.mul_one] at this; exact this
            by_cases hc1 : (RQ e m 0#8 false (w.toNat * th.toNat * 18446744073709551616 * 2 ^ y.toNat) (2 ^ (-y).toNat)).1 = (RQ e m 0#8 false ((w.toNat * th.toNat + w.toNat) * 18446744073709551616 * 2 ^ y.toNat) (2 ^ (-y).toNat)).1
            · rw [bt (by simpa using hc1)]
              refine ⟨_, _, rfl, fun _ => ?_⟩
              unfold PT
              rw [if_neg c0]
              exact (lem_between h hen hy c0 (Nat.mul_ne_zero (by omega) (by decide)) (by rw [hwT]; exact Nat.le_add_right _ _) (.inl (by rw [hwT1, Nat.add_mul, Nat.add_assoc]; exact Nat.add_le_add_left hmt _)) hc1).symm
            · rw [bf (by simpa using hc1)]
              simp only [lt]
              have hc := F165_ok w tl
              generalize F165 w tl = cc at *
              unfold F91_14
              simp only [lt]
              have hccl := cc.2.isLt
              have ha2 := (F166_ok a.1 a.2 0#64 cc.1).1
              have hcc1 : cc.1.toNat < w.toNat := by
                unfold v2 at hc
                rcases Nat.lt_or_ge cc.1.toNat w.toNat with k | k
                · exact k
                · have := Nat.mul_le_mul_right 18446744073709551616 k; omega
              have hple : w.toNat * th.toNat + w.toNat ≤ 340282366920938463463374607431768211455 := by
                have := Nat.mul_le_mul (show w.toNat ≤ 18446744073709551615 by omega) (show th.toNat + 1 ≤ 18446744073709551616 by omega)
                rw [Nat.mul_add, Nat.mul_one] at this
                omega
              rw [hvw, ha, Nat.mod_eq_of_lt (by omega)] at ha2
              generalize F166 a.1 a.2 0#64 cc.1 = a' at *
              have hlow := (F166_ok 0#64 cc.2 0#64 sl).1
              have hsll := sl.isLt
              rw [hvw, hvw, Nat.mod_eq_of_lt (by omega)] at hlow
              unfold F91_15
              have ha62' : 2 ^ 62 ≤ a'.1.toNat := by
                show 4611686018427387904 ≤ _
                have := a'.2.1.isLt
                unfold v2 at ha2; omega
              rw [F167_ok h ha62' (by omega)]
              simp only [Option.bind_some, F91_16, lt]
              generalize F166 0#64 cc.2 0#64 sl = lw at *
              unfold F91_17
              simp only [lt]
              have hb2 := (F166_ok a'.1 a'.2.1 0#64 lw.1).1
              have hlw1 : lw.1.toNat ≤ 1 := by unfold v2 at hlow; omega
              rw [hvw, ha2, Nat.mod_eq_of_lt (by omega)] at hb2
              generalize F166 a'.1 a'.2.1 0#64 lw.1 = b' at *
              unfold F91_18
              have hb62' : 2 ^ 62 ≤ b'.1.toNat := by
                show 4611686018427387904 ≤ _
                have := b'.2.1.isLt
                unfold v2 at hb2; omega
              rw [F167_ok h hb62' (by omega)]
              simp only [Option.bind_some, F91_19]
              have hZ1 : v2 a'.1 a'.2.1 * 18446744073709551616 + cc.2.toNat = man.toNat * 2 ^ l * v2 th tl := by
                rw [ha2, hwT, ← hc]; unfold v2; omega
              have hZ2 : v2 b'.1 b'.2.1 * 18446744073709551616 + lw.2.1.toNat = man.toNat * 2 ^ l * v2 th tl + sl.toNat := by
                rw [hb2, ← hZ1, ha2]
                unfold v2 at hlow
                exact lw_aux hlow
              rw [hZ1, hZ2]
              by_cases hc2 : (RQ e m 0#8 false (man.toNat * 2 ^ l * v2 th tl * 2 ^ y.toNat) (2 ^ (-y).toNat)).1 = (RQ e m 0#8 false ((man.toNat * 2 ^ l * v2 th tl + sl.toNat) * 2 ^ y.toNat) (2 ^ (-y).toNat)).1
              · rw [bf (by simp [hc2])]
                refine ⟨_, _, rfl, fun _ => ?_⟩
                unfold PT
                rw [if_neg c0]
                refine (lem_between h hen hy c0 (by omega) (Nat.le_refl _) ?_ hc2).symm
                rcases hsl with k | ⟨k1, k2, k3⟩
                · left; rw [Nat.mul_add, Nat.mul_one, k, hw]; exact Nat.le_refl _
                · right; exact ⟨k1, k2, by omega⟩
              · rw [bt (by simpa using hc2)]
                exact hno
          unfold F91_8 F91_20
          by_cases c3 : 0 ≤ q ∧ q ≤ 55
          · rw [bt (by rw [decide_eq_true c3.1, decide_eq_true c3.2]; rfl)]
            exact go 0#64 (.inr ⟨c3.1, c3.2, rfl⟩)
          · rw [bf (by
              by_cases k : 0 ≤ q
              · rw [decide_eq_false (show ¬ q ≤ 55 from fun j => c3 ⟨k, j⟩)]; simp
              · rw [decide_eq_false k]; rfl)]
            exact go w (.inl rfl)
  unfold F91
  have hyes : F91_1 N t e m man q true = some (0#64, false) := rfl
  cases (!((e == F13.1) && (m == F13.2))) with
  | false => exact main
  | true =>
    simp only [cond_true]
    cases (!((e == F14.1) && (m == F14.2))) with
    | false => exact main
    | true => rw [hyes]; exact hno
end
end Go.Proofs.YfwaawGreat
