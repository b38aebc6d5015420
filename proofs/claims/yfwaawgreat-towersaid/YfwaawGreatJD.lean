/-
  parse/clinger: one operation on floats.
-/
import Derived.Test.YfwaawGreatJC
import Derived.Test.YfwaawGreatE7
namespace Go.Proofs.YfwaawGreat
open Go.Aw
set_option linter.unusedVariables false
set_option linter.unusedSimpArgs false

section
variable {X Y V W N : Nat} {s t : Bool} {i : Int} {e m mode : BitVec 8} {f : Ieee.Format}
/-- The model's quotient of two numbers is the rounded fraction. -/
theorem quot_RQ (k : Kd e m f) (hm : NE mode) {na nb : Bool} {ma mb an ad bn bd : Nat} {pa pb : Int} (za : ma ≠ 0) (zb : mb ≠ 0) (hA : an * 2 ^ (-pa).toNat = ma * 2 ^ pa.toNat * ad) (hB : bn * 2 ^ (-pb).toNat = mb * 2 ^ pb.toNat * bd) (hd : ad * bn ≠ 0) (z2 : an * bd ≠ 0) :
    can e m ((Ieee.Datum.quotient (m.toNat + 2) (.number na ma pa) (.number nb mb pb)).map f.write) = (RQ e m mode (na ^^ nb) (an * bd) (ad * bn)).1 := by
  obtain ⟨more, hmore⟩ : ∃ more, more = m.toNat + 2 + mb.log2 - ma.log2 := ⟨_, rfl⟩
  obtain ⟨K, hK⟩ : ∃ K : Int, K = pa - pb - more - 1 := ⟨_, rfl⟩
  have hR : (Ieee.Datum.quotient (m.toNat + 2) (.number na ma pa) (.number nb mb pb)).map f.write = some (f.write (.number (na ^^ nb) (2 * (ma * 2 ^ more / mb) + (decide (ma * 2 ^ more % mb ≠ 0)).toNat) K)) := by
    have : Ieee.Datum.quotient (m.toNat + 2) (.number na ma pa) (.number nb mb pb) = if mb = 0 then (if ma = 0 then none else some (.infinity (na ^^ nb))) else some (.number (na ^^ nb) (2 * ((ma <<< (m.toNat + 2 + mb.log2 - ma.log2)) / mb) + ((ma <<< (m.toNat + 2 + mb.log2 - ma.log2)) % mb != 0).toNat) (pa - pb - ((m.toNat + 2 + mb.log2 - ma.log2 : Nat) : Int) - 1)) := rfl
    rw [this, if_neg zb, ← hmore, ← hK, Nat.shiftLeft_eq, Option.map_some]
    have hb : (ma * 2 ^ more % mb != 0) = decide (ma * 2 ^ more % mb ≠ 0) := by
      rw [Bool.eq_iff_iff, bne_iff_ne, decide_eq_true_eq]
    rw [hb]
  rw [hR]
  symm
  -- the same fraction, from the model's dividend
  have hmbp : 0 < mb := by omega
  have hcr : an * bd * (mb * 2 ^ (-(K + 1)).toNat) = ma * 2 ^ more * 2 ^ (K + 1).toNat * (ad * bn) := by
    refine Nat.mul_right_cancel (Nat.mul_pos (pow_pos2 (-pa).toNat) (pow_pos2 (pb).toNat)) ?_
    have e1 : 2 ^ pa.toNat * 2 ^ (-(K + 1)).toNat * 2 ^ (-pb).toNat = 2 ^ more * 2 ^ (K + 1).toNat * 2 ^ (-pa).toNat * 2 ^ pb.toNat := by
      rw [← Nat.pow_add, ← Nat.pow_add, ← Nat.pow_add, ← Nat.pow_add, ← Nat.pow_add]
      exact congrArg (fun t => 2 ^ t) (by omega)
    generalize 2 ^ pa.toNat = p1 at *
    generalize 2 ^ pb.toNat = p2 at *
    generalize 2 ^ (-pa).toNat = p3 at *
    generalize 2 ^ (-pb).toNat = p4 at *
    generalize 2 ^ (K + 1).toNat = p5 at *
    generalize 2 ^ (-(K + 1)).toNat = p6 at *
    generalize 2 ^ more = p7 at *
    calc an * bd * (mb * p6) * (p3 * p2) = (an * p3) * (mb * p2 * bd) * p6 := by grind
      _ = (ma * p1 * ad) * (bn * p4) * p6 := by rw [hA, ← hB]
      _ = ma * ad * bn * (p1 * p6 * p4) := by grind
      _ = ma * ad * bn * (p7 * p5 * p3 * p2) := by rw [e1]
      _ = ma * p7 * p5 * (ad * bn) * (p3 * p2) := by grind
  have hden : 0 < mb * 2 ^ (-(K + 1)).toNat := Nat.mul_pos hmbp (pow_pos2 _)
  have hDne : ma * 2 ^ more ≠ 0 := Nat.mul_ne_zero za (pne _)
  rw [RQ_cross z2 hd (by omega) hcr]
  have hnum : ma * 2 ^ more * 2 ^ (K + 1).toNat ≠ 0 := Nat.mul_ne_zero hDne (pne _)
  -- the size
  have hlg : K + (m.toNat : Int) + 2 ≤ lg (ma * 2 ^ more * 2 ^ (K + 1).toNat) (mb * 2 ^ (-(K + 1)).toNat) := by
    refine lg_ge_of hnum (by omega) ?_
    have h1 : 2 ^ (m.toNat + 1) * mb ≤ ma * 2 ^ more := by
      have l1 := Nat.log2_self_le za
      have l2 := Nat.lt_log2_self (n := mb)
      have l3 : 2 ^ (m.toNat + 1) * mb ≤ 2 ^ (m.toNat + 1) * 2 ^ (mb.log2 + 1) := Nat.mul_le_mul_left _ (Nat.le_of_lt l2)
      have l4 : 2 ^ ma.log2 * 2 ^ more ≤ ma * 2 ^ more := Nat.mul_le_mul_right _ l1
      refine Nat.le_trans l3 (Nat.le_trans ?_ l4)
      rw [← Nat.pow_add, ← Nat.pow_add]; exact pow_le (by omega)
    have e1 : 2 ^ (-(K + 1)).toNat * 2 ^ (K + m.toNat + 2).toNat = 2 ^ (m.toNat + 1) * 2 ^ (K + 1).toNat * 2 ^ (-(K + (m.toNat : Int) + 2)).toNat := by
      rw [← Nat.pow_add, ← Nat.pow_add, ← Nat.pow_add]; exact congrArg (fun t => 2 ^ t) (by omega)
    have h2 := Nat.mul_le_mul_right (2 ^ (K + 1).toNat * 2 ^ (-(K + (m.toNat : Int) + 2)).toNat) h1
    generalize 2 ^ (-(K + 1)).toNat = p1 at *
    generalize 2 ^ (K + (m.toNat : Int) + 2).toNat = p2 at *
    generalize 2 ^ (K + 1).toNat = p3 at *
    generalize 2 ^ (-(K + (m.toNat : Int) + 2)).toNat = p4 at *
    generalize 2 ^ (m.toNat + 1) = p5 at *
    generalize 2 ^ more = p6 at *
    calc mb * p1 * p2 = mb * (p1 * p2) := by grind
      _ = p5 * mb * (p3 * p4) := by rw [e1]; grind
      _ ≤ ma * p6 * (p3 * p4) := h2
      _ = ma * p6 * p3 * p4 := by grind
  rw [RQ_jam2 hnum (by omega) hlg]
  have hfq : fq (ma * 2 ^ more * 2 ^ (K + 1).toNat) (mb * 2 ^ (-(K + 1)).toNat) (K + 1) = ma * 2 ^ more / mb ∧ eq (ma * 2 ^ more * 2 ^ (K + 1).toNat) (mb * 2 ^ (-(K + 1)).toNat) (K + 1) = decide (ma * 2 ^ more % mb ≠ 0) := by
    unfold fq eq
    rw [Nat.mul_assoc (ma * 2 ^ more), Nat.mul_assoc mb, Nat.mul_comm (2 ^ (K + 1).toNat)]
    have hq : 0 < 2 ^ (-(K + 1)).toNat * 2 ^ (K + 1).toNat := Nat.mul_pos (pow_pos2 _) (pow_pos2 _)
    generalize 2 ^ (-(K + 1)).toNat * 2 ^ (K + 1).toNat = q at *
    have hc := div_cross (a := ma * 2 ^ more * q) (b := mb * q) (c := ma * 2 ^ more) (d := mb) (Nat.mul_pos hmbp hq) hmbp (by rw [Nat.mul_right_comm, Nat.mul_assoc (ma * 2 ^ more) mb q])
    exact ⟨hc.1, decide_eq_decide.2 (not_congr hc.2)⟩
  rw [hfq.1, hfq.2]
  have hz : 2 * (ma * 2 ^ more / mb) + (decide (ma * 2 ^ more % mb ≠ 0)).toNat ≠ 0 := by
    by_cases c : ma * 2 ^ more % mb = 0
    · have : ma * 2 ^ more / mb ≠ 0 := by
        intro g
        have := Nat.div_add_mod (ma * 2 ^ more) mb
        rw [g, c, Nat.mul_zero] at this
        omega
      omega
    · rw [decide_eq_true c]
      show _ + 1 ≠ 0
      omega
  rw [can_num k hm hz]
/-- A short whole number, written, reads as itself. -/
theorem whole_rd (k : Kd e m f) (hbm : m.toNat + 1 ≤ bia e.toNat) {n : Nat} (h0 : n ≠ 0) (hn : n ≤ 2 ^ (m.toNat + 1)) : ∃ mag p, f.read (f.write (.number false n 0)) = .number false mag p ∧ mag ≠ 0 ∧ n * 2 ^ (-p).toNat = mag * 2 ^ p.toNat * 1 := by
  have hb := bia_ge k.fm.e2
  have hQ : ∃ Q, 0 < Q ∧ Q < infP e.toNat m.toNat ∧ n * 2 ^ (bia e.toNat + m.toNat - 1) = uv m.toNat Q := by
    rcases Nat.eq_or_lt_of_le hn with c | c
    · obtain ⟨Q, q1, q2, q3, _⟩ := uvR m.toNat (n := 1) (t := m.toNat + 1 + (bia e.toNat + m.toNat - 1)) (by decide) (by have := pow_lt (show 0 < m.toNat + 1 by omega); rw [Nat.pow_zero] at this; exact this)
      refine ⟨Q, q1, q3 e.toNat k.fm.e2 ?_, ?_⟩
      · rw [show blen 1 = 1 from rfl]; omega
      · rw [q2, c, Nat.one_mul, ← Nat.pow_add]
    · obtain ⟨Q, q1, q2, q3, _⟩ := uvR m.toNat (n := n) (t := bia e.toNat + m.toNat - 1) h0 c
      refine ⟨Q, q1, q3 e.toNat k.fm.e2 ?_, q2.symm⟩
      have : blen n ≤ m.toNat + 1 := blen_le_iff.2 c
      omega
  obtain ⟨Q, q1, q2, q3⟩ := hQ
  have hw : f.write (.number false n 0) = Q + sgn e.toNat m.toNat false := by
    refine wr_uv k q1 q2 ?_
    rw [show (0 : Int).toNat = 0 from rfl, show (-(0 : Int)).toNat = 0 from rfl, Nat.pow_zero, Nat.mul_one, Nat.mul_one]
    exact q3
  obtain ⟨mag, p, r1, r2⟩ := k.rnum (neg := false) q1 q2
  refine ⟨mag, p, by rw [hw]; exact r1, r2.m0, ?_⟩
  have hu := r2.u
  have hpl := r2.pl
  rw [k.lp] at hu hpl
  refine Nat.mul_right_cancel (pow_pos2 (bia e.toNat + m.toNat - 1)) ?_
  rw [Nat.mul_right_comm, q3, ← hu, Nat.mul_one, Nat.mul_assoc, Nat.mul_assoc, ← Nat.pow_add, ← Nat.pow_add]
  exact congrArg (fun z => mag * 2 ^ z) (by omega)
theorem clin_mul (k : Kd e m f) {n T ma mb : Nat} {pa pb : Int} (hn : n ≠ 0) (hT : T ≠ 0) (hX : f.read X = .number false ma pa) (hY : f.read Y = .number false mb pb) (h0 : ma ≠ 0) (h0' : mb ≠ 0) (hA : n * 2 ^ (-pa).toNat = ma * 2 ^ pa.toNat * 1) (hB : T * 2 ^ (-pb).toNat = mb * 2 ^ pb.toNat * 1) : can e m (f.mul X Y) = (RQ e m 0#8 false (n * T) 1).1 := by
  unfold Ieee.Format.mul
  rw [hX, hY]
  have hR : (Ieee.Datum.product (.number false ma pa) (.number false mb pb)).map f.write = some (f.write (.number false (ma * mb) (pa + pb))) := rfl
  rw [hR, can_num k ne_zero (Nat.mul_ne_zero h0 h0')]
  refine congrArg Prod.fst (RQ_cross (Nat.mul_ne_zero (Nat.mul_ne_zero h0 h0') (pne _)) (pne _) (by decide) ?_)
  have hp := pow_int_add pa pb
  rw [Nat.mul_one] at hA hB
  refine Nat.mul_right_cancel (Nat.mul_pos (pow_pos2 (-pa).toNat) (pow_pos2 (-pb).toNat)) ?_
  generalize 2 ^ pa.toNat = p1 at *
  generalize 2 ^ pb.toNat = p2 at *
  generalize 2 ^ (-pa).toNat = p3 at *
  generalize 2 ^ (-pb).toNat = p4 at *
  generalize 2 ^ (pa + pb).toNat = p5 at *
  generalize 2 ^ (-(pa + pb)).toNat = p6 at *
  calc ma * mb * p5 * 1 * (p3 * p4) = ma * mb * (p3 * p4 * p5) := by grind
    _ = ma * mb * (p1 * p2 * p6) := by rw [hp]
    _ = (ma * p1) * (mb * p2) * p6 := by grind
    _ = (n * p3) * (T * p4) * p6 := by rw [hA, hB]
    _ = n * T * p6 * (p3 * p4) := by grind
theorem clin_div (k : Kd e m f) {n T ma mb : Nat} {pa pb : Int} (hn : n ≠ 0) (hT : T ≠ 0) (hX : f.read X = .number false ma pa) (hY : f.read Y = .number false mb pb) (h0 : ma ≠ 0) (h0' : mb ≠ 0) (hA : n * 2 ^ (-pa).toNat = ma * 2 ^ pa.toNat * 1) (hB : T * 2 ^ (-pb).toNat = mb * 2 ^ pb.toNat * 1) : can e m (f.div X Y) = (RQ e m 0#8 false n T).1 := by
  unfold Ieee.Format.div
  rw [hX, hY, k.mm, quot_RQ k ne_zero h0 h0' hA hB (by rw [Nat.one_mul]; exact hT) (by rw [Nat.mul_one]; exact hn), Nat.mul_one, Nat.one_mul]
  rfl
/-- The constants. -/
def chkT (f : Ieee.Format) (c : Option Nat) (q : Nat) : Bool := match c with
  | some c => match f.read c with
    | .number false mag p => decide (mag ≠ 0) && decide (10 ^ q * 2 ^ (-p).toNat = mag * 2 ^ p.toNat * 1)
    | _ => false
  | none => false
theorem chk64 : ∀ q : Fin 23, chkT Ieee.double (F161 (q.val : Int)) q.val = true := by decide +kernel
theorem chk32 : ∀ q : Fin 11, chkT Ieee.single (F163 (q.val : Int)) q.val = true := by decide +kernel
theorem chk_ok {o : Option Nat} {q : Nat} (h : chkT f o q = true) : ∃ c mag p, o = some c ∧ f.read c = .number false mag p ∧ mag ≠ 0 ∧ 10 ^ q * 2 ^ (-p).toNat = mag * 2 ^ p.toNat * 1 := by
  unfold chkT at h
  cases o with
  | none => cases h
  | some c =>
    simp only [] at h
    cases hr : f.read c with
    | nan => rw [hr] at h; cases h
    | infinity => rw [hr] at h; cases h
    | number g mag p =>
      rw [hr] at h
      cases g with
      | true => cases h
      | false =>
        simp only [Bool.and_eq_true, decide_eq_true_eq] at h
        exact ⟨c, mag, p, rfl, hr, h.1, h.2⟩
theorem opt_can {o : Option Nat} {z : BitVec 64} (h : can e m o = z) (hz : z ≠ F66 e m) : ∃ r, o = some r ∧ BitVec.ofNat 64 r = z := by
  cases o with
  | none => exact absurd h.symm hz
  | some r => exact ⟨r, rfl, h⟩
theorem RQ_nn (k : Kd e m f) (hb : infP e.toNat m.toNat < (F66 e m).toNat % 2 ^ (e.toNat + m.toNat)) {num den : Nat} (hn : num ≠ 0) (hd : den ≠ 0) : (RQ e m 0#8 false num den).1 ≠ F66 e m :=
  F66_big k.fm hb (RQ_ne k.fm ne_zero hn hd) (Nat.min_le_right _ _)
/-- Both directions of Clinger's way, given the format's constants. -/
theorem clin_both (k : Kd e m f) (hb : infP e.toNat m.toNat < (F66 e m).toNat % 2 ^ (e.toNat + m.toNat)) (hbm : m.toNat + 1 ≤ bia e.toNat) {man : Nat} (hman : man ≤ 2 ^ (m.toNat + 1)) {c mag : Nat} {p : Int} {q : Nat} (hr : f.read c = .number false mag p) (h0 : mag ≠ 0) (hv : 10 ^ q * 2 ^ (-p).toNat = mag * 2 ^ p.toNat * 1) :
    (∃ r, f.mul (f.write (.number false man 0)) c = some r ∧ BitVec.ofNat 64 r = PT e m man q) ∧ (∃ r, f.div (f.write (.number false man 0)) c = some r ∧ BitVec.ofNat 64 r = PT e m man (-(q : Int))) := by
  have hT : 10 ^ q ≠ 0 := by have := Nat.pow_pos (n := q) (show 0 < 10 by decide); omega
  unfold PT
  by_cases z : man = 0
  · have hw : f.write (.number false man 0) = sgn e.toNat m.toNat false := by rw [z]; exact wr_zero k false 0
    have hw0 : f.read (f.write (.number false man 0)) = .number false 0 f.leastPlace := by rw [hw]; exact k.rzero
    have hz0 : BitVec.ofNat 64 (sgn e.toNat m.toNat false) = 0#64 := rfl
    rw [if_pos z, if_pos z]
    constructor
    · unfold Ieee.Format.mul
      rw [hw0, hr]
      have hR : (Ieee.Datum.product (.number false 0 f.leastPlace) (.number false mag p)).map f.write = some (f.write (.number false (0 * mag) (f.leastPlace + p))) := rfl
      rw [hR, Nat.zero_mul, wr_zero k]
      exact ⟨_, rfl, hz0⟩
    · unfold Ieee.Format.div
      rw [hw0, hr]
      have hR : Ieee.Datum.quotient (f.fractionBits + 2) (.number false 0 f.leastPlace) (.number false mag p) = if mag = 0 then (if 0 = 0 then none else some (.infinity (false ^^ false))) else some (.number (false ^^ false) (2 * ((0 <<< (f.fractionBits + 2 + mag.log2 - Nat.log2 0)) / mag) + ((0 <<< (f.fractionBits + 2 + mag.log2 - Nat.log2 0)) % mag != 0).toNat) (f.leastPlace - p - ((f.fractionBits + 2 + mag.log2 - Nat.log2 0 : Nat) : Int) - 1)) := rfl
      rw [hR, if_neg h0, Nat.shiftLeft_eq, Nat.zero_mul, Nat.zero_div, Nat.zero_mod, Option.map_some]
      have : f.write (.number (false ^^ false) (2 * 0 + ((0 : Nat) != 0).toNat) (f.leastPlace - p - ((f.fractionBits + 2 + mag.log2 - Nat.log2 0 : Nat) : Int) - 1)) = sgn e.toNat m.toNat false := wr_zero k false _
      rw [this]
      exact ⟨_, rfl, hz0⟩
  · obtain ⟨ma, pa, r1, r2, r3⟩ := whole_rd k hbm z hman
    rw [if_neg z, if_neg z]
    constructor
    · have h := clin_mul k z hT r1 hr r2 h0 r3 hv
      have e1 : (RQ e m 0#8 false (man * 10 ^ ((q : Int)).toNat) (10 ^ (-(q : Int)).toNat)).1 = (RQ e m 0#8 false (man * 10 ^ q) 1).1 := by
        rw [show ((q : Int)).toNat = q by omega, show (-(q : Int)).toNat = 0 by omega, Nat.pow_zero]
      rw [e1]
      exact opt_can h (RQ_nn k hb (Nat.mul_ne_zero z hT) (by decide))
    · have h := clin_div k z hT r1 hr r2 h0 r3 hv
      have e1 : (RQ e m 0#8 false (man * 10 ^ (-(q : Int)).toNat) (10 ^ (-(-(q : Int))).toNat)).1 = (RQ e m 0#8 false man (10 ^ q)).1 := by
        rw [show (-(q : Int)).toNat = 0 by omega, show (-(-(q : Int))).toNat = q by omega, Nat.pow_zero, Nat.mul_one]
      rw [e1]
      exact opt_can h (RQ_nn k hb z hT)
theorem PT_lt32 {r man : Nat} {q : Int} (hr : r < 4294967296) (h : BitVec.ofNat 64 r = PT 8#8 23#8 man q) : BitVec.ofInt 64 ((BitVec.ofNat 32 r).toNat : Int) = PT 8#8 23#8 man q := by
  rw [← h, BitVec.toNat_ofNat, show (2 : Nat) ^ 32 = 4294967296 from rfl, Nat.mod_eq_of_lt hr, ofInt_nat]
/-- clinger.Clinger. -/
theorem clinger_ok (man : BitVec 64) (q : Int) : ∃ bits ok, F90 N e m man q = some (bits, ok) ∧ (ok = true → bits = PT e m man.toNat q) := by
  have hno : ∃ bits ok, (some (0#64, false) : Option (BitVec 64 × Bool)) = some (bits, ok) ∧ (ok = true → bits = PT e m man.toNat q) := ⟨_, _, rfl, fun h => by cases h⟩
  have h3f : F90_3 N man q false = some (0#64, false) := by unfold F90_3; rfl
  -- the second format
  have h32 : ∃ bits ok, F90_1 N e m man q false = some (bits, ok) ∧ (ok = true → bits = PT e m man.toNat q) := by
    unfold F90_1
    rw [bf rfl, F14_val]
    by_cases c1 : e = 8#8 ∧ m = 23#8
    · rw [show ((e == (8#8, 23#8).1) && (m == (8#8, 23#8).2)) = true by rw [c1.1, c1.2]; rfl, bt rfl]
      by_cases c2 : man.toNat ≤ 16777216
      · rw [decide_eq_true (show man.toNat ≤ (16777216#64).toNat from c2), bt rfl]
        by_cases c3 : -10 ≤ q
        · rw [decide_eq_true c3, bt rfl]
          by_cases c4 : q ≤ 10
          · rw [decide_eq_true c4]
            unfold F90_3 F90_4
            rw [bt rfl, near_nat]
            simp only [lt]
            rw [c1.1, c1.2]
            by_cases c5 : q < 0
            · rw [decide_eq_true c5, bt rfl]
              obtain ⟨j, hj⟩ : ∃ j : Nat, q = -(j : Int) := ⟨(-q).toNat, by omega⟩
              have hc := chk32 ⟨j, by omega⟩
              obtain ⟨c, mag, p, k1, k2, k3, k4⟩ := chk_ok hc
              have hq : w16 (0 - q) = (j : Int) := by rw [w16_id (by omega)]; omega
              have hk1 : F163 (j : Int) = some c := k1
              obtain ⟨_, r, r1, r2⟩ := clin_both kd32 nb32 (by decide) (man := man.toNat) c2 k2 k3 k4
              have hf : fbits .quo .f32 (some (FloatKind.f32.format.write (.number false man.toNat 0))) (some c) = some r := r1
              rw [hq, hk1, hf]
              have hlt : r < 4294967296 := by
                have : Ieee.single.div _ c = some r := r1
                exact Ieee.Format.div_lt Ieee.single this
              refine ⟨_, true, rfl, fun _ => ?_⟩
              rw [hj]; exact PT_lt32 hlt r2
            · rw [decide_eq_false c5, bf rfl]
              obtain ⟨j, hj⟩ : ∃ j : Nat, q = (j : Int) := ⟨q.toNat, by omega⟩
              have hc := chk32 ⟨j, by omega⟩
              obtain ⟨c, mag, p, k1, k2, k3, k4⟩ := chk_ok hc
              have hk1 : F163 q = some c := by rw [hj]; exact k1
              obtain ⟨⟨r, r1, r2⟩, _⟩ := clin_both kd32 nb32 (by decide) (man := man.toNat) c2 k2 k3 k4
              have hf : fbits .mul .f32 (some (FloatKind.f32.format.write (.number false man.toNat 0))) (some c) = some r := r1
              rw [hk1, hf]
              have hlt : r < 4294967296 := by
                have : Ieee.single.mul _ c = some r := r1
                exact Ieee.Format.mul_lt Ieee.single this
              refine ⟨_, true, rfl, fun _ => ?_⟩
              rw [hj]; exact PT_lt32 hlt r2
          · rw [decide_eq_false c4, h3f]; exact hno
        · rw [decide_eq_false c3, bf rfl, h3f]; exact hno
      · rw [decide_eq_false (show ¬ man.toNat ≤ (16777216#64).toNat from c2), bf rfl, h3f]; exact hno
    · have hc1 : ((e == (8#8, 23#8).1) && (m == (8#8, 23#8).2)) = false := by
        rw [Bool.and_eq_false_iff, beq_eq_false_iff_ne, beq_eq_false_iff_ne]
        by_cases g : e = 8#8
        · exact Or.inr fun w => c1 ⟨g, w⟩
        · exact Or.inl g
      rw [hc1, bf rfl, h3f]; exact hno
  unfold F90
  rw [F13_val]
  by_cases c1 : e = 11#8 ∧ m = 52#8
  · rw [show ((e == (11#8, 52#8).1) && (m == (11#8, 52#8).2)) = true by rw [c1.1, c1.2]; rfl, bt rfl]
    by_cases c2 : man.toNat ≤ 9007199254740992
    · rw [decide_eq_true (show man.toNat ≤ (9007199254740992#64).toNat from c2), bt rfl]
      by_cases c3 : -22 ≤ q
      · rw [decide_eq_true c3, bt rfl]
        by_cases c4 : q ≤ 22
        · rw [decide_eq_true c4]
          unfold F90_1 F90_2
          rw [bt rfl, near_nat]
          simp only [lt]
          rw [c1.1, c1.2]
          by_cases c5 : q < 0
          · rw [decide_eq_true c5, bt rfl]
            obtain ⟨j, hj⟩ : ∃ j : Nat, q = -(j : Int) := ⟨(-q).toNat, by omega⟩
            have hc := chk64 ⟨j, by omega⟩
            obtain ⟨c, mag, p, k1, k2, k3, k4⟩ := chk_ok hc
            have hq : w16 (0 - q) = (j : Int) := by rw [w16_id (by omega)]; omega
            have hk1 : F161 (j : Int) = some c := k1
            obtain ⟨_, r, r1, r2⟩ := clin_both kd64 nb64 (by decide) (man := man.toNat) c2 k2 k3 k4
            have hf : fbits .quo .f64 (some (FloatKind.f64.format.write (.number false man.toNat 0))) (some c) = some r := r1
            rw [hq, hk1, hf]
            refine ⟨_, true, rfl, fun _ => ?_⟩
            rw [hj]; exact r2
          · rw [decide_eq_false c5, bf rfl]
            obtain ⟨j, hj⟩ : ∃ j : Nat, q = (j : Int) := ⟨q.toNat, by omega⟩
            have hc := chk64 ⟨j, by omega⟩
            obtain ⟨c, mag, p, k1, k2, k3, k4⟩ := chk_ok hc
            have hk1 : F161 q = some c := by rw [hj]; exact k1
            obtain ⟨⟨r, r1, r2⟩, _⟩ := clin_both kd64 nb64 (by decide) (man := man.toNat) c2 k2 k3 k4
            have hf : fbits .mul .f64 (some (FloatKind.f64.format.write (.number false man.toNat 0))) (some c) = some r := r1
            rw [hk1, hf]
            refine ⟨_, true, rfl, fun _ => ?_⟩
            rw [hj]; exact r2
        · rw [decide_eq_false c4]; exact h32
      · rw [decide_eq_false c3, bf rfl]; exact h32
    · rw [decide_eq_false (show ¬ man.toNat ≤ (9007199254740992#64).toNat from c2), bf rfl]; exact h32
  · have hc1 : ((e == (11#8, 52#8).1) && (m == (11#8, 52#8).2)) = false := by
      rw [Bool.and_eq_false_iff, beq_eq_false_iff_ne, beq_eq_false_iff_ne]
      by_cases g : e = 11#8
      · exact Or.inr fun w => c1 ⟨g, w⟩
      · exact Or.inl g
    rw [hc1, bf rfl]; exact h32
end
end Go.Proofs.YfwaawGreat
