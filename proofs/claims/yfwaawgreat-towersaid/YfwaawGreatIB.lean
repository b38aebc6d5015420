/-
  native: whole numbers to floats and back.
-/
import Derived.Test.YfwaawGreatIA
import Derived.Test.YfwaawGreatD3
namespace Go.Proofs.YfwaawGreat
open Go.Aw
set_option linter.unusedVariables false
set_option linter.unusedSimpArgs false

section
variable {e m mode : BitVec 8} {f : Ieee.Format} {neg na nb : Bool} {x : BitVec 64} {N : Nat}
/-- A whole number rounded, by exact. -/
theorem ex_whole (k : Kd e m f) (hm : NE mode) (s : Bool) {n : Nat} (hn : blen n ≤ 1000) : ∃ z, F136 N e m mode s n 1 = some z ∧ z.1 = can e m (some (f.write (.number s n 0))) := by
  have z1 := bl1
  by_cases c : n = 0
  · subst c
    rw [F136_zero k.fm (by decide) (by omega)]
    exact ⟨_, rfl, (can_zero k 0).symm⟩
  · rw [F136_RQ k.fm c (by decide) (by omega) (by omega)]
    refine ⟨_, rfl, ?_⟩
    rw [can_num k hm c]
    rw [show (0 : Int).toNat = 0 from rfl, show (-(0 : Int)).toNat = 0 from rfl, Nat.pow_zero, Nat.mul_one]
theorem nfromI (k : Kd e m f) (hm : NE mode) {i : Int} (h1 : -9223372036854775808 ≤ i) (h2 : i < 9223372036854775808) : ∃ z, F133 N e m mode i = some z ∧ z.1 = can e m (some (f.write (.number (decide (i < 0)) i.natAbs 0))) := by
  unfold F133 F133_1 F129
  simp only [lt]
  have hb : blen i.natAbs ≤ 1000 := by
    have : blen i.natAbs ≤ 64 := blen_le_iff.2 (by rw [p64]; omega)
    omega
  by_cases c : i < 0
  · have e1 : (-BitVec.ofInt 64 i).toNat = i.natAbs := by
      rw [← BitVec.ofInt_neg, show -i = ((i.natAbs : Nat) : Int) by omega, ofInt_nat, BitVec.toNat_ofNat, p64]
      exact Nat.mod_eq_of_lt (by omega)
    rw [decide_eq_true c, bt rfl, e1]
    obtain ⟨z, g1, g2⟩ := ex_whole (N := N) k hm true hb
    refine ⟨(z.1, z.2), ?_, g2⟩
    rw [show (1#64).toNat = 1 from rfl, g1]; rfl
  · have e1 : (BitVec.ofInt 64 i).toNat = i.natAbs := by
      rw [show BitVec.ofInt 64 i = BitVec.ofInt 64 ((i.natAbs : Nat) : Int) by rw [show ((i.natAbs : Nat) : Int) = i by omega], ofInt_nat, BitVec.toNat_ofNat, p64]
      exact Nat.mod_eq_of_lt (by omega)
    rw [decide_eq_false c, bf rfl, e1]
    obtain ⟨z, g1, g2⟩ := ex_whole (N := N) k hm false hb
    refine ⟨(z.1, z.2), ?_, g2⟩
    rw [show (1#64).toNat = 1 from rfl, g1]; rfl
theorem nfromU (k : Kd e m f) (hm : NE mode) (u : BitVec 64) : ∃ z, F134 N e m mode u = some z ∧ z.1 = can e m (some (f.write (.number false u.toNat 0))) := by
  unfold F134 F129
  simp only [lt]
  obtain ⟨z, g1, g2⟩ := ex_whole (N := N) k hm false (n := u.toNat) (by have := blen64 u; omega)
  refine ⟨(z.1, z.2), ?_, g2⟩
  rw [show (1#64).toNat = 1 from rfl, g1]; rfl
theorem put_num (k : Kd e m f) (s : Bool) (n : Nat) (p : Int) : put e m f (some (f.write (.number s n p))) = can e m (some (f.write (.number s n p))) :=
  put_write k (o := some (.number s n p)) fun d h => by cases h; rfl
theorem near_nat (k : FloatKind) (n : Nat) : k.nearest (n : Int) = k.format.write (.number false n 0) := by
  have h : k.nearest (n : Int) = k.format.write (.number (decide ((n : Int) < 0)) (n : Int).natAbs 0) := rfl
  rw [h, decide_eq_false (by omega), show (n : Int).natAbs = n by omega]
theorem near_int (k : FloatKind) (i : Int) : k.nearest i = k.format.write (.number (decide (i < 0)) i.natAbs 0) := rfl
/-- na.from is exact's. -/
theorem from64 (hm : NE mode) (g : Bool) (u : BitVec 64) : ∃ z, (bif g then F133 N 11#8 52#8 mode (w64 (u.toNat : Int)) else F134 N 11#8 52#8 mode u) = some z ∧ F238 N true g u = some z.1 := by
  unfold F238 F238_1 F339 F340
  simp only [F385_ok]
  cases g
  · obtain ⟨z, h1, h2⟩ := nfromU (N := N) kd64 hm u
    refine ⟨z, (bf rfl).trans h1, ?_⟩
    rw [h2, ← put_num kd64, near_nat]
    rfl
  · have hw : -9223372036854775808 ≤ w64 (u.toNat : Int) ∧ w64 (u.toNat : Int) < 9223372036854775808 := w64_range _
    obtain ⟨z, h1, h2⟩ := nfromI (N := N) kd64 hm hw.1 hw.2
    refine ⟨z, (bt rfl).trans h1, ?_⟩
    rw [h2, ← put_num kd64, near_int]
    rfl
theorem from32 (hm : NE mode) (g : Bool) (u : BitVec 64) : ∃ z, (bif g then F133 N 8#8 23#8 mode (w64 (u.toNat : Int)) else F134 N 8#8 23#8 mode u) = some z ∧ F238 N false g u = some z.1 := by
  unfold F238 F238_1 F341 F342
  cases g
  · obtain ⟨z, h1, h2⟩ := nfromU (N := N) kd32 hm u
    refine ⟨z, (bf rfl).trans h1, ?_⟩
    obtain ⟨y, y1, y2, y3⟩ := F387_ok (N := N) (some (FloatKind.f32.nearest (u.toNat : Int))) (fun r hr => by rw [near_nat] at hr; cases hr; exact Ieee.Format.write_lt Ieee.single _)
    simp only [Bool.and_self, cond_false, Bool.false_and]
    rw [y1, h2, ← put_num kd32]
    show some (BitVec.ofInt 64 (y.toNat : Int)) = _
    rw [y2, near_nat]; rfl
  · have hw : -9223372036854775808 ≤ w64 (u.toNat : Int) ∧ w64 (u.toNat : Int) < 9223372036854775808 := w64_range _
    obtain ⟨z, h1, h2⟩ := nfromI (N := N) kd32 hm hw.1 hw.2
    refine ⟨z, (bt rfl).trans h1, ?_⟩
    obtain ⟨y, y1, y2, y3⟩ := F387_ok (N := N) (some (FloatKind.f32.nearest (w64 (u.toNat : Int)))) (fun r hr => by rw [near_int] at hr; cases hr; exact Ieee.Format.write_lt Ieee.single _)
    simp only [Bool.and_self, cond_false, cond_true, Bool.false_and]
    rw [y1, h2, ← put_num kd32]
    show some (BitVec.ofInt 64 (y.toNat : Int)) = _
    rw [y2, near_int]; rfl

/-! ### To whole numbers -/
def sg (s : Bool) (n : Nat) : Int := if s then -(n : Int) else (n : Int)
theorem ord_num {s t : Bool} {ma mb : Nat} {i j : Int} {L : Nat} (hi : -(L : Int) ≤ i) (hj : -(L : Int) ≤ j) : (Ieee.Datum.number s ma i).order (.number t mb j) = some (compare (sg s (ma * 2 ^ (i + L).toNat)) (sg t (mb * 2 ^ (j + L).toNat))) := by
  obtain ⟨base, hbase⟩ : ∃ base, base = min i j := ⟨_, rfl⟩
  show some (compare (Ieee.signed s ma (i - min i j).toNat) (Ieee.signed t mb (j - min i j).toNat)) = _
  rw [← hbase]
  obtain ⟨U, hU⟩ : ∃ U, U = 2 ^ (base + L).toNat := ⟨_, rfl⟩
  have hUp : 0 < U := by rw [hU]; exact pow_pos2 _
  have e1 : ma * 2 ^ (i + L).toNat = ma * 2 ^ (i - base).toNat * U := by
    rw [hU, Nat.mul_assoc, ← Nat.pow_add]; exact congrArg (fun t => ma * 2 ^ t) (by omega)
  have e2 : mb * 2 ^ (j + L).toNat = mb * 2 ^ (j - base).toNat * U := by
    rw [hU, Nat.mul_assoc, ← Nat.pow_add]; exact congrArg (fun t => mb * 2 ^ t) (by omega)
  rw [e1, e2]
  have hs : ∀ (s : Bool) (q u : Nat), Ieee.signed s q u = sg s (q * 2 ^ u) := fun s q u => by
    unfold Ieee.signed sg; rw [Nat.shiftLeft_eq]
  rw [hs, hs, cmpI, cmpI]
  have hm : ∀ (s : Bool) (q : Nat), sg s (q * U) = sg s q * U := fun s q => by
    unfold sg; cases s
    · simp
    · simp [Int.neg_mul]
  rw [hm, hm]
  generalize sg s (ma * 2 ^ (i - base).toNat) = A
  generalize sg t (mb * 2 ^ (j - base).toNat) = B
  have hU' : (0 : Int) < (U : Int) := by omega
  have l1 : A * (U : Int) < B * U ↔ A < B := ⟨fun h => Int.lt_of_mul_lt_mul_right h (by omega), fun h => Int.mul_lt_mul_of_pos_right h hU'⟩
  have l2 : A * (U : Int) = B * U ↔ A = B := ⟨fun h => Int.eq_of_mul_eq_mul_right (by omega) h, fun h => by rw [h]⟩
  by_cases c : A < B
  · rw [if_pos c, if_pos (l1.2 c)]
  · rw [if_neg c, if_neg (mt l1.1 c)]
    by_cases d : A = B
    · rw [if_pos d, if_pos (l2.2 d)]
    · rw [if_neg d, if_neg (mt l2.1 d)]
theorem cut_zero (neg : Bool) (n d : Nat) : Ieee.Toward.zero.cut neg n d = n / 2 ^ d := by
  unfold Ieee.Toward.cut
  simp only [Nat.one_shiftLeft]
  show n / 2 ^ min d (n.log2 + 2) + 0 = _
  rw [Nat.add_zero]
  rcases Nat.lt_or_ge (n.log2 + 2) d with c | c
  · rw [Nat.min_eq_right (by omega)]
    have hl : n < 2 ^ (n.log2 + 1) := Nat.lt_log2_self
    have h1 : 2 ^ (n.log2 + 1) ≤ 2 ^ (n.log2 + 2) := pow_le (by omega)
    have h2 : 2 ^ (n.log2 + 2) ≤ 2 ^ d := pow_le (by omega)
    rw [Nat.div_eq_of_lt (by omega), Nat.div_eq_of_lt (by omega)]
  · rw [Nat.min_eq_left c]
theorem rn_zero (neg : Bool) (n2 : Nat) (s : Bool) : rn 2#8 neg n2 s = n2 / 2 := by
  unfold rn
  have : rz 2#8 neg n2 s = false := rfl
  rw [this]
  rfl
/-- The float's test for an int64, and its value: native.ToInt64. -/
theorem toInt_num {k : FloatKind} {s : Bool} {mag : Nat} {place pc : Int} {C X c1 c2 L : Nat} (hX : k.format.read X = .number s mag place) (h1 : k.format.read c1 = .number true C pc) (h2 : k.format.read c2 = .number false C pc) (hL : -(L : Int) ≤ place) (hp : -(L : Int) ≤ pc)
    (hC : C * 2 ^ (pc + L).toNat = 9223372036854775808 * 2 ^ L) (hm : mag < 9007199254740992) :
    (bif (fcmp .geq k (some X) (some c1)) && (fcmp .lss k (some X) (some c2)) then (bif fiOk k .i64 (some X) then some (fiVal k .i64 (some X), true) else none) else some (0, false) : Option (Int × Bool)) = some ((ti s (mag * 2 ^ place.toNat / 2 ^ (-place).toNat) false).1, (ti s (mag * 2 ^ place.toNat / 2 ^ (-place).toNat) false).2.1) := by
  have o1 : k.format.order X c1 = some (compare (sg s (mag * 2 ^ (place + L).toNat)) (sg true (C * 2 ^ (pc + L).toNat))) := by
    unfold Ieee.Format.order; rw [hX, h1]; exact ord_num hL hp
  have o2 : k.format.order X c2 = some (compare (sg s (mag * 2 ^ (place + L).toNat)) (sg false (C * 2 ^ (pc + L).toNat))) := by
    unfold Ieee.Format.order; rw [hX, h2]; exact ord_num hL hp
  have f1 : fcmp .geq k (some X) (some c1) = decide (sg true (C * 2 ^ (pc + L).toNat) ≤ sg s (mag * 2 ^ (place + L).toNat)) := by
    show (k.format.order X c1 == some .gt || k.format.order X c1 == some .eq) = _
    rw [o1, cmpI]
    generalize sg s (mag * 2 ^ (place + L).toNat) = a
    generalize sg true (C * 2 ^ (pc + L).toNat) = b
    by_cases c : a < b
    · rw [if_pos c, decide_eq_false (by omega)]; rfl
    · rw [if_neg c, decide_eq_true (by omega)]
      by_cases d : a = b
      · rw [if_pos d]; rfl
      · rw [if_neg d]; rfl
  have f2 : fcmp .lss k (some X) (some c2) = decide (sg s (mag * 2 ^ (place + L).toNat) < sg false (C * 2 ^ (pc + L).toNat)) := by
    show (k.format.order X c2 == some .lt) = _
    rw [o2, cmpI]
    generalize sg s (mag * 2 ^ (place + L).toNat) = a
    generalize sg false (C * 2 ^ (pc + L).toNat) = b
    by_cases c : a < b
    · rw [if_pos c, decide_eq_true c]; rfl
    · rw [if_neg c, decide_eq_false c]
      by_cases d : a = b
      · rw [if_pos d]; rfl
      · rw [if_neg d]; rfl
  rw [f1, f2, hC]
  obtain ⟨n, hn⟩ : ∃ n, n = mag * 2 ^ place.toNat / 2 ^ (-place).toNat := ⟨_, rfl⟩
  rw [← hn]
  have hfi : (some X).bind (fun b => floatToIntVal k b .i64) = if -9223372036854775808 ≤ sg s n ∧ sg s n ≤ 9223372036854775807 then some (sg s n) else none := by
    show floatToIntVal k X .i64 = _
    unfold floatToIntVal FloatKind.decode
    rw [hX]
    have : (Ieee.Datum.number s mag place).toInt .zero = some (Ieee.signed s (Ieee.Toward.zero.cut s (mag <<< place.toNat) (-place).toNat) 0) := rfl
    rw [this, cut_zero, Nat.shiftLeft_eq, ← hn]
    have e0 : Ieee.signed s n 0 = sg s n := by unfold Ieee.signed sg; rw [Nat.shiftLeft_zero]
    rw [e0]
    rfl
  -- the bounds, in whole numbers
  have key : ∀ V : Nat, (mag * 2 ^ (place + L).toNat ≤ V * 2 ^ L → n ≤ V) ∧ (9007199254740992 ≤ V → n ≤ V → mag * 2 ^ (place + L).toNat ≤ V * 2 ^ L) ∧ (mag * 2 ^ (place + L).toNat < V * 2 ^ L → n < V) ∧ (9007199254740992 ≤ V → n < V → mag * 2 ^ (place + L).toNat < V * 2 ^ L) := by
    intro V
    have hlp := pow_pos2 L
    rcases Int.lt_or_le place 0 with c | c
    · have e1 : 2 ^ L = 2 ^ (place + L).toNat * 2 ^ (-place).toNat := by
        rw [← Nat.pow_add]; exact congrArg (fun t => 2 ^ t) (by omega)
      rw [show place.toNat = 0 by omega, Nat.pow_zero, Nat.mul_one] at hn
      have hq := pow_pos2 (-place).toNat
      have hu := pow_pos2 (place + L).toNat
      have hnm : n ≤ mag := by rw [hn]; exact Nat.div_le_self _ _
      rw [e1]
      generalize 2 ^ (place + L).toNat = u at *
      generalize 2 ^ (-place).toNat = q at *
      have hml : mag * u ≤ mag * (u * q) := Nat.mul_le_mul_left _ (by
        have := Nat.mul_le_mul_left u (show 1 ≤ q from hq); omega)
      refine ⟨fun h => ?_, fun hV h => ?_, fun h => ?_, fun hV h => ?_⟩
      · have h2 : mag * u ≤ (V * q) * u := by rw [show V * q * u = V * (u * q) by rw [Nat.mul_assoc, Nat.mul_comm q]]; exact h
        have h3 := Nat.le_of_mul_le_mul_right h2 hu
        rw [hn]
        exact (Nat.div_le_iff_le_mul_add_pred hq).2 (by rw [Nat.mul_comm]; omega)
      · refine Nat.le_trans hml (Nat.mul_le_mul_right _ (by omega))
      · have h2 : mag * u < (V * q) * u := by rw [show V * q * u = V * (u * q) by rw [Nat.mul_assoc, Nat.mul_comm q]]; exact h
        have h3 := Nat.lt_of_mul_lt_mul_right h2
        rw [hn]
        exact (Nat.div_lt_iff_lt_mul hq).2 h3
      · refine Nat.lt_of_le_of_lt hml (Nat.mul_lt_mul_of_pos_right (by omega) (Nat.mul_pos hu hq))
    · have e1 : 2 ^ (place + L).toNat = 2 ^ place.toNat * 2 ^ L := by
        rw [← Nat.pow_add]; exact congrArg (fun t => 2 ^ t) (by omega)
      rw [show (-place).toNat = 0 by omega, Nat.pow_zero, Nat.div_one] at hn
      rw [e1, ← Nat.mul_assoc, ← hn]
      exact ⟨fun h => Nat.le_of_mul_le_mul_right h hlp, fun _ h => Nat.mul_le_mul_right _ h, fun h => Nat.lt_of_mul_lt_mul_right h, fun _ h => Nat.mul_lt_mul_of_pos_right h hlp⟩
  obtain ⟨k1, k2, k3, k4⟩ := key 9223372036854775808
  unfold fiOk fiVal
  rw [hfi]
  have hbp0 : 0 < 9223372036854775808 * 2 ^ L := Nat.mul_pos (by decide) (pow_pos2 L)
  clear key
  generalize mag * 2 ^ (place + L).toNat = a at *
  generalize 9223372036854775808 * 2 ^ L = b at *
  have st : ∀ n : Nat, sg true n = -(n : Int) := fun n => rfl
  have sf : ∀ n : Nat, sg false n = (n : Int) := fun n => rfl
  have hbp : 0 < b := hbp0
  unfold ti
  cases s with
  | true =>
    rw [st, st, sf, st, cond_true]
    by_cases c : n ≤ 9223372036854775808
    · have := k2 (by decide) c
      rw [if_pos c, decide_eq_true (by omega), if_pos (by omega), decide_eq_true (by omega)]
      show some (-(n : Int), true) = some (w64 (0 - w64 (n : Int)), true)
      rcases Nat.eq_or_lt_of_le c with d | d
      · rw [d]; rfl
      · rw [w64_id (n := (n : Int)) (by omega), w64_id (by omega), Int.zero_sub]
    · rw [if_neg c, decide_eq_false (fun g => c (k1 (by omega)))]
      rfl
  | false =>
    rw [sf, st, sf, sf, cond_false]
    by_cases c : n < 9223372036854775808
    · have := k4 (by decide) c
      rw [if_pos c, decide_eq_true (by omega), decide_eq_true (by omega), if_pos (by omega)]
      show some ((n : Int), true) = some (w64 (n : Int), true)
      rw [w64_id (by omega)]
    · rw [if_neg c, decide_eq_false (show ¬ (a : Int) < (b : Int) from fun g => c (k3 (by omega))), Bool.and_false]
      rfl
end
end Go.Proofs.YfwaawGreat
