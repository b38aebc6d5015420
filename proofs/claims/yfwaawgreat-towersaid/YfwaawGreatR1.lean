/-
  soft = exact: the remainder.
-/
import Derived.Test.YfwaawGreatA3
namespace Go.Proofs.YfwaawGreat
open Go.Aw
set_option linter.unusedVariables false
set_option linter.unusedSimpArgs false
section
variable {e m mode : BitVec 8} {neg : Bool}
variable {a b c : BitVec 64} {na nb nc : Bool} {ca cb cc ea eb ec : Int} {ma mb mc : BitVec 64} {pa pb pc : Nat}

theorem mul_pow_parts {X Y K : Nat} (hY : 0 < Y) : X * K / Y = X / Y * K + X % Y * K / Y ∧ X * K % Y = X % Y * K % Y := by
  have h := Nat.div_add_mod X Y
  have e : X * K = X % Y * K + Y * (X / Y * K) := by
    have : X * K = (Y * (X / Y) + X % Y) * K := by rw [h]
    rw [this]; grind
  constructor
  · rw [e, Nat.add_mul_div_left _ _ hY, Nat.add_comm]
  · rw [e, Nat.add_mul_mod_self_left]

theorem F275_ok {N : Nat} (h : Fm e m) {x y : BitVec 64} (hy : y.toNat ≠ 0) (hyl : y.toNat < 2 ^ (m.toNat + 1)) {g : Nat} (hg : g < 20000) (hN : g + 1 ≤ N) :
    ∃ left odd, F275 N e m x y (g : Int) = some (left, odd) ∧ left.toNat = x.toNat * 2 ^ g % y.toNat ∧ odd = decide (x.toNat * 2 ^ g / y.toNat % 2 = 1) := by
  have h4 := h.m52
  have hyp : 0 < y.toNat := by omega
  have hz : (y != 0#64) = true := by rw [ne_bv]; exact decide_eq_true hy
  unfold F275 F275_1 F275_2 F275_3
  rw [hz, bt rfl, bt rfl]
  have w1 : w16 (m.toNat : Int) = m.toNat := w16_id (by omega)
  have w2 : w16 (63 - (m.toNat : Int)) = 63 - m.toNat := w16_id (by omega)
  rw [w1, w2]
  obtain ⟨r, hr, hp⟩ := iter_inv (L := F275_L5 N y (63 - (m.toNat : Int)))
    (fun v : Int × BitVec 64 × BitVec 64 => 0 ≤ v.1 ∧ ∃ d : Nat, v.1 + d = g ∧ v.2.2.toNat = x.toNat * 2 ^ d % y.toNat ∧ v.2.1.toNat % 2 = x.toNat * 2 ^ d / y.toNat % 2)
    (fun v => v.1.toNat)
    (fun r : BitVec 64 × Bool => r.1.toNat = x.toNat * 2 ^ g % y.toNat ∧ r.2 = decide (x.toNat * 2 ^ g / y.toNat % 2 = 1))
    (by
      rintro ⟨gp, q, left⟩ ⟨h1, d, h2, h3, h5⟩
      simp only at h1 h2 h3 h5
      unfold F275_L5 F275_L5b F275_6
      by_cases hgp : gp > 0
      · rw [bt (by simpa using hgp)]
        unfold F275_7 F275_8 F275_9 F275_10
        obtain ⟨k, hk⟩ : ∃ k : Nat, min gp (63 - (m.toNat : Int)) = k := ⟨(min gp (63 - (m.toNat : Int))).toNat, by omega⟩
        rw [hk, bt (by simp), hz, bt rfl, bt rfl, Int.toNat_natCast]
        have hll : left.toNat < y.toNat := by rw [h3]; exact Nat.mod_lt _ hyp
        have hsh : (left <<< k).toNat = left.toNat * 2 ^ k := shl_nat _ _ (by
          have := Nat.mul_lt_mul_of_pos_right (Nat.lt_trans hll hyl) (pow_pos2 k)
          rw [← Nat.pow_add] at this
          exact Nat.lt_of_lt_of_le this (pow_le (by omega)))
        have w3 : w16 (gp - k) = gp - k := w16_id (by omega)
        rw [w3]
        refine .inl ⟨_, rfl, ⟨by simp only []; omega, d + k, by simp only []; omega, ?_, ?_⟩, by simp only []; omega⟩
        · simp only [BitVec.toNat_umod]
          rw [hsh, h3, Nat.pow_add, ← Nat.mul_assoc, ← (mul_pow_parts hyp).2]
        · simp only [BitVec.toNat_udiv]
          rw [hsh, h3, Nat.pow_add, ← Nat.mul_assoc, (mul_pow_parts (X := x.toNat * 2 ^ d) hyp).1]
          obtain ⟨k', hk'⟩ : ∃ k', k = k' + 1 := ⟨k - 1, by omega⟩
          have ev : x.toNat * 2 ^ d / y.toNat * 2 ^ k % 2 = 0 := by
            rw [hk', Nat.pow_succ, ← Nat.mul_assoc]; exact Nat.mul_mod_left _ _
          generalize x.toNat * 2 ^ d / y.toNat * 2 ^ k = A at *
          generalize x.toNat * 2 ^ d % y.toNat * 2 ^ k / y.toNat = B at *
          omega
      · rw [bf (by simpa using hgp)]
        have hd : d = g := by omega
        subst hd
        refine .inr ⟨_, rfl, h3, ?_⟩
        show ((q &&& 1#64) == 1#64) = _
        rw [eq_bv, BitVec.toNat_and, show (1#64).toNat = 1 from rfl, Nat.and_one_is_mod, h5])
    N ((g : Int), x / y, x % y) ⟨by simp only []; omega, 0, by simp, by simp only [BitVec.toNat_umod, Nat.pow_zero, Nat.mul_one], by simp only [BitVec.toNat_udiv, Nat.pow_zero, Nat.mul_one]⟩ (by simp only []; omega)
  exact ⟨r.1, r.2, hr, hp.1, hp.2⟩

/-- The remainder in units of 2^-L: sign and size. -/
def rm (neg : Bool) (X Y : Nat) : Bool × Nat := if Y < 2 * (X % Y) ∨ (2 * (X % Y) = Y ∧ X / Y % 2 = 1) then (!neg, Y - X % Y) else (neg, X % Y)
/-- A size in units of 2^-L, rounded; zero too. -/
def RZ (e m mode : BitVec 8) (neg : Bool) (V L : Nat) : BitVec 64 × BitVec 8 := if V = 0 then (F251 e m neg, 0#8) else RQ e m mode neg V (2 ^ L)

theorem F136_RZ {N num den V L : Nat} (h : Fm e m) (hd : den ≠ 0) (bn : blen num ≤ 1000000) (bd : blen den ≤ 1000000) (hV : num * 2 ^ L = V * den) :
    F136 N e m mode neg num den = some (RZ e m mode neg V L) := by
  unfold RZ
  by_cases hn : num = 0
  · have hv : V = 0 := by
      rw [hn, Nat.zero_mul] at hV
      rcases Nat.mul_eq_zero.1 hV.symm with k | k
      · exact k
      · exact (hd k).elim
    rw [if_pos hv, hn, F136_zero h hd bd]
  · have hv : V ≠ 0 := fun k => by
      rw [k, Nat.zero_mul] at hV
      rcases Nat.mul_eq_zero.1 hV with k | k
      · exact hn k
      · exact (pne L k).elim
    rw [if_neg hv, F136_RQ h hn hd bn bd, RQ_cross hn hd (pne L) hV]
theorem F215_RZ {N L : Nat} {x : Int} {s : BitVec 64} (h : Fm e m) (hx : -5000 < x ∧ x < 5000) (hL : 5000 ≤ L) : F215 N e m mode neg x s = some (RZ e m mode neg (s.toNat * 2 ^ (x + L).toNat) L) := by
  unfold RZ
  by_cases hs : s.toNat = 0
  · have : s = 0#64 := BitVec.eq_of_toNat_eq hs
    rw [this, F215_zero, if_pos (by simp)]
  · rw [if_neg (Nat.mul_ne_zero hs (pne _)), F215_ok h hs (by omega), RQ_L (L := L) hs (by omega)]

theorem rm_scale {X Y K : Nat} (hK : 0 < K) : rm neg (X * K) (Y * K) = ((rm neg X Y).1, (rm neg X Y).2 * K) := by
  unfold rm
  rw [Nat.mul_mod_mul_right, Nat.mul_div_mul_right _ _ hK]
  have e1 : Y * K < 2 * (X % Y * K) ↔ Y < 2 * (X % Y) := by
    rw [← Nat.mul_assoc]; exact Nat.mul_lt_mul_right hK
  have e2 : 2 * (X % Y * K) = Y * K ↔ 2 * (X % Y) = Y := by
    rw [← Nat.mul_assoc]
    exact ⟨fun h => Nat.mul_right_cancel hK h, fun h => by rw [h]⟩
  by_cases c : Y < 2 * (X % Y) ∨ (2 * (X % Y) = Y ∧ X / Y % 2 = 1)
  · rw [if_pos c, if_pos (by rw [e1, e2]; exact c), ← Nat.sub_mul]
  · rw [if_neg c, if_neg (by rw [e1, e2]; exact c)]

/-- The end of soft's remainder. -/
theorem F173_tail {N L : Nat} (h : Fm e m) {x3 x4 : Int} {x5 left by' : BitVec 64} {odd : Bool} {x : Int} {X : Nat} (hx : -5000 < x ∧ x < 5000) (hL : 5000 ≤ L) (hb : by'.toNat ≠ 0)
    (hl : left.toNat = X % by'.toNat) (ho : odd = decide (X / by'.toNat % 2 = 1)) :
    F173_7 N e m neg x3 x4 x5 left by' odd x = some (RZ e m 0#8 (rm neg X by'.toNat).1 ((rm neg X by'.toNat).2 * 2 ^ (x + L).toNat) L) := by
  have hlt : left.toNat < by'.toNat := by rw [hl]; exact Nat.mod_lt _ (by omega)
  have hbl := by'.isLt
  have hs : (by' - left).toNat = by'.toNat - left.toNat := by rw [sub64]; omega
  unfold F173_7 F173_8 F173_9
  have hc : ((decide ((by' - left).toNat < left.toNat)) || ((left == (by' - left)) && odd)) = decide (by'.toNat < 2 * (X % by'.toNat) ∨ (2 * (X % by'.toNat) = by'.toNat ∧ X / by'.toNat % 2 = 1)) := by
    rw [eq_bv, hs, ho, ← Bool.decide_and, ← Bool.decide_or, ← hl]
    exact decide_eq_decide.2 (by omega)
  rw [hc]
  unfold rm
  by_cases c : by'.toNat < 2 * (X % by'.toNat) ∨ (2 * (X % by'.toNat) = by'.toNat ∧ X / by'.toNat % 2 = 1)
  · rw [bt (by simpa using c), if_pos c, F215_RZ (L := L) h hx hL, hs, hl]; rfl
  · rw [bf (by simpa using c), if_neg c, F215_RZ (L := L) h hx hL, hl]; rfl

theorem rm_units {X Y num by' den L : Nat} (hY : Y ≠ 0) (hd : 0 < den) (h1 : num * 2 ^ L = X * den) (h2 : by' * 2 ^ L = Y * den) :
    num / by' = X / Y ∧ num % by' * 2 ^ L = X % Y * den ∧ by' ≠ 0 := by
  have hb : by' ≠ 0 := fun k => by
    rw [k, Nat.zero_mul] at h2
    rcases Nat.mul_eq_zero.1 h2.symm with k | k
    · exact hY k
    · omega
  have hc := div_cross (a := num) (b := by') (c := X) (d := Y) (by omega) (by omega) (by
    refine Nat.mul_right_cancel (Nat.mul_pos hd (pow_pos2 L)) ?_
    have e1 : num * Y * (den * 2 ^ L) = num * 2 ^ L * (Y * den) := by grind
    have e2 : X * by' * (den * 2 ^ L) = X * den * (by' * 2 ^ L) := by grind
    rw [e1, e2, h1, h2])
  refine ⟨hc.1, ?_, hb⟩
  have d1 := Nat.div_add_mod num by'
  have d2 := Nat.div_add_mod X Y
  rw [hc.1] at d1
  have e1 : num * 2 ^ L = by' * 2 ^ L * (X / Y) + num % by' * 2 ^ L := by
    have : num * 2 ^ L = (by' * (X / Y) + num % by') * 2 ^ L := by rw [d1]
    rw [this]; grind
  have e2 : X * den = Y * den * (X / Y) + X % Y * den := by
    have : X * den = (Y * (X / Y) + X % Y) * den := by rw [d2]
    rw [this]; grind
  rw [h1, h2, e2] at e1
  omega

/-- exact's remainder of finite numbers. -/
theorem F181_tail {N L : Nat} (h : Fm e m) {x2 : BitVec 64} {x4 : Int} {x5 : Bool} {x6 x7 num by' den X Y : Nat} (hY : Y ≠ 0) (hd : den ≠ 0) (h1 : num * 2 ^ L = X * den) (h2 : by' * 2 ^ L = Y * den)
    (b1 : blen num ≤ 100000) (b2 : blen by' ≤ 100000) (b3 : blen den ≤ 100000) :
    F181_7 N e m x2 neg x4 x5 x6 x7 num by' den = some (RZ e m 0#8 (rm neg X Y).1 (rm neg X Y).2 L) := by
  obtain ⟨q1, q2, q3⟩ := rm_units hY (by omega) h1 h2
  have hm : nmod num by' = num % by' := if_neg q3
  have l1 : blen (num % by') ≤ blen by' := blen_mono (Nat.le_of_lt (Nat.mod_lt _ (by omega)))
  have l2 := blen_shl (num % by') 1
  have l3 : blen (num / by') ≤ blen num := blen_mono (Nat.div_le_self _ _)
  have l4 : blen (by' - num % by') ≤ blen by' := blen_mono (Nat.sub_le _ _)
  have hlt : num % by' < by' := Nat.mod_lt _ (by omega)
  unfold F181_7 F181_8
  rw [bt (limand (by omega) (by omega)), hm, bt (lim_blen (by omega)), show (1#16).toNat = 1 from rfl, bt (limand (by omega) (by omega)), Nat.pow_one]
  -- comparison in units
  have hcmp : (by' < 2 * (num % by') ↔ Y < 2 * (X % Y)) ∧ (2 * (num % by') = by' ↔ 2 * (X % Y) = Y) := by
    have e1 : 2 * (num % by') * 2 ^ L = 2 * (X % Y) * den := by rw [Nat.mul_assoc, q2, ← Nat.mul_assoc]
    have pl := pow_pos2 L
    constructor
    · constructor
      · intro k
        have := Nat.mul_lt_mul_of_pos_right k pl
        rw [h2, e1] at this
        exact Nat.lt_of_mul_lt_mul_right this
      · intro k
        have := Nat.mul_lt_mul_of_pos_right k (show 0 < den by omega)
        rw [← h2, ← e1] at this
        exact Nat.lt_of_mul_lt_mul_right this
    · constructor
      · intro k
        refine Nat.mul_right_cancel (show 0 < den by omega) ?_
        rw [← e1, ← h2, k]
      · intro k
        refine Nat.mul_right_cancel pl ?_
        rw [e1, h2, k]
  have hbit : nbit (num / by') 0 = decide (X / Y % 2 = 1) := by
    unfold nbit
    rw [show (0 : Int).toNat = 0 from rfl, Nat.testBit_eq_decide_div_mod_eq, q1]; simp
  have hA : F181_10 N e m x2 neg x4 x5 x6 x7 by' den (num % by') true = some (RZ e m 0#8 (!neg) (Y - X % Y) L) := by
    unfold F181_10 F181_11
    rw [bt rfl, bt (limand (by omega) (by omega)), F136_RZ h hd (by omega) (by omega) (V := Y - X % Y) (L := L) (by rw [Nat.sub_mul, h2, q2, Nat.sub_mul])]
    rfl
  have hB : F181_10 N e m x2 neg x4 x5 x6 x7 by' den (num % by') false = some (RZ e m 0#8 neg (X % Y) L) := by
    unfold F181_10
    rw [bf rfl, F136_RZ h hd (by omega) (by omega) q2]
    rfl
  unfold F181_9
  rw [ncmp_pos, hbit]
  unfold rm
  by_cases c1 : by' < num % by' * 2
  · rw [bt (decide_eq_true c1), hA, if_pos (.inl (hcmp.1.1 (by omega)))]
  · rw [bf (decide_eq_false c1)]
    have c1' : ¬ Y < 2 * (X % Y) := fun k => c1 (by have := hcmp.1.2 k; omega)
    by_cases c2 : num % by' * 2 = by'
    · have c2' : 2 * (X % Y) = Y := hcmp.2.1 (by omega)
      rw [bt (by unfold ncmp; rw [if_neg (by omega), if_pos c2]; rfl), bt (by rw [lim_blen (by omega)]; rfl)]
      by_cases c3 : X / Y % 2 = 1
      · rw [decide_eq_true c3, hA, if_pos (.inr ⟨c2', c3⟩)]
      · rw [decide_eq_false c3, hB, if_neg (fun k => by rcases k with k | k; exact c1' k; exact c3 k.2)]
    · have c2' : ¬ 2 * (X % Y) = Y := fun k => c2 (by have := hcmp.2.2 k; omega)
      rw [bf (by unfold ncmp; rw [if_pos (by omega)]; rfl), hB, if_neg (fun k => by rcases k with k | k; exact c1' k; exact c2' k.1)]

theorem rem_eq (h : Fm e m) (a b : BitVec 64) {N : Nat} (hN : 3000 ≤ N) : Bo (F173 N e m a b) (F181 N e m a b) := by
  unfold F173 F173_1 F181 F181_1
  simp only [lt]
  rw [h.ok, Bool.not_true, bf rfl, bf rfl]
  obtain ⟨L, hL⟩ : ∃ L : Nat, L = 12000 := ⟨_, rfl⟩
  have z0 := bl0
  have z1 := bl1
  have h4 := h.m52
  obtain ⟨na, ca, ea, ma, ba, ga, va, an, ad, ha, ha', alta⟩ := opd h a
  obtain ⟨nb, cb, eb, mb, bb, gb, vb, bn, bd, hb, hb', altb⟩ := opd h b
  rw [ha, hb, ha', hb']
  simp only [Option.bind_some, F173_2, F173_3, F173_4, F173_5, F173_6, F181_2, F181_3, F181_4, F181_5, F181_6, lt]
  rcases alta with ⟨a4, a3, a0⟩ | ⟨a4, a3, a0, rfl, rfl⟩ | ⟨a4, a3, a0, rfl, rfl, rfl, rfl, rfl, rfl, rfl⟩ | ⟨a4, a3, a0, rfl, rfl, rfl, rfl, rfl, pa, fa⟩ <;>
  rcases altb with ⟨b4, b3, b0⟩ | ⟨b4, b3, b0, rfl, rfl⟩ | ⟨b4, b3, b0, rfl, rfl, rfl, rfl, rfl, rfl, rfl⟩ | ⟨b4, b3, b0, rfl, rfl, rfl, rfl, rfl, pb, fb⟩ <;>
  simp only [a4, a3, a0, b4, b3, b0, klit, cond_true, cond_false]
  case inr.inr.inr.inr.inr.inr =>
    have r1 := fa.range h
    have r2 := fb.range h
    have n1 := fa.bnum h
    have n2 := fb.bnum h
    have d1 := fa.bden h
    have d2 := fb.bden h
    have b1 := blen_mul (ma.toNat * 2 ^ ea.toNat) (2 ^ (-eb).toNat)
    have b2 := blen_mul (mb.toNat * 2 ^ eb.toNat) (2 ^ (-ea).toNat)
    have b3' := blen_mul (2 ^ (-ea).toNat) (2 ^ (-eb).toNat)
    have hY : mb.toNat * 2 ^ (eb + L).toNat ≠ 0 := Nat.mul_ne_zero fb.ne (pne _)
    have u1 := fa.units (L := L) (by omega)
    have u2 := fb.units (L := L) (by omega)
    rw [bt (limand (by omega) (by omega)), bt (limand (by omega) (by omega)), bt (limand (by omega) (by omega)),
      F181_tail (X := ma.toNat * 2 ^ (ea + L).toNat) (Y := mb.toNat * 2 ^ (eb + L).toNat) (L := L) h hY (Nat.mul_ne_zero (pne _) (pne _)) (by
        have : ma.toNat * 2 ^ ea.toNat * 2 ^ (-eb).toNat * 2 ^ L = ma.toNat * 2 ^ ea.toNat * 2 ^ L * 2 ^ (-eb).toNat := by grind
        rw [this, u1, Nat.mul_assoc]) (by
        have : mb.toNat * 2 ^ eb.toNat * 2 ^ (-ea).toNat * 2 ^ L = mb.toNat * 2 ^ eb.toNat * 2 ^ L * 2 ^ (-ea).toNat := by grind
        rw [this, u2, Nat.mul_assoc, Nat.mul_comm (2 ^ (-eb).toNat)]) (by omega) (by omega) (by omega)]
    refine ⟨_, ?_, rfl⟩
    have w1 : w16 (eb - 1) = eb - 1 := w16_id (by omega)
    rw [w1]
    have hs1 := Nat.pow_succ 2 m.toNat
    have hlo := fb.lo
    have hhi := fa.hi
    by_cases c1 : ea < eb - 1
    · -- far below
      rw [bt (by simpa using c1), F215_RZ (L := L) h (by omega) (by omega)]
      have hlt : 2 * (ma.toNat * 2 ^ (ea + L).toNat) < mb.toNat * 2 ^ (eb + L).toNat := by
        obtain ⟨t, ht⟩ : ∃ t : Nat, eb = ea + (t + 2 : Nat) := ⟨(eb - ea - 2).toNat, by omega⟩
        have e1 : 2 ^ (eb + L).toNat = 2 ^ (ea + L).toNat * (2 ^ t * 4) := by
          rw [show (4 : Nat) = 2 ^ 2 from rfl, ← Nat.pow_add, ← Nat.pow_add]
          exact congrArg (fun t => 2 ^ t) (by omega)
        have e2 : mb.toNat * (2 ^ (ea + L).toNat * (2 ^ t * 4)) = 4 * mb.toNat * 2 ^ t * 2 ^ (ea + L).toNat := by grind
        have e3 : 2 * (ma.toNat * 2 ^ (ea + L).toNat) = 2 * ma.toNat * 2 ^ (ea + L).toNat := by grind
        rw [e1, e2, e3]
        refine Nat.mul_lt_mul_of_pos_right ?_ (pow_pos2 _)
        have h5 : 4 * mb.toNat * 1 ≤ 4 * mb.toNat * 2 ^ t := Nat.mul_le_mul_left _ (pow_pos2 t)
        omega
      have hmod : ma.toNat * 2 ^ (ea + L).toNat % (mb.toNat * 2 ^ (eb + L).toNat) = ma.toNat * 2 ^ (ea + L).toNat := Nat.mod_eq_of_lt (by omega)
      have hrm : rm na (ma.toNat * 2 ^ (ea + L).toNat) (mb.toNat * 2 ^ (eb + L).toNat) = (na, ma.toNat * 2 ^ (ea + L).toNat) := by
        unfold rm
        rw [hmod, if_neg (by omega)]
      rw [hrm]; rfl
    · rw [bf (by simpa using c1)]
      unfold F173_10
      by_cases c2 : ea < eb
      · -- one below
        rw [bt (by simpa using c2)]
        unfold F173_11
        have he : eb = ea + 1 := by omega
        have hb2 : (mb <<< 1).toNat = mb.toNat * 2 := shl_nat mb 1 (by
          have := fb.hi
          have : 2 ^ (m.toNat + 1) ≤ 2 ^ 53 := pow_le (by omega)
          rw [p64]; omega)
        rw [F173_tail (L := L) (X := ma.toNat) h (by omega) (by omega) (by rw [hb2]; have := fb.ne; omega) (by rw [hb2, Nat.mod_eq_of_lt (by omega)]) (by rw [hb2, Nat.div_eq_of_lt (by omega)]; rfl), hb2]
        have e1 : mb.toNat * 2 ^ (eb + L).toNat = mb.toNat * 2 * 2 ^ (ea + L).toNat := by
          rw [Nat.mul_assoc, ← Nat.pow_succ']
          exact congrArg (fun t => mb.toNat * 2 ^ t) (by omega)
        rw [e1, rm_scale (pow_pos2 _)]
      · rw [bf (by simpa using c2)]
        have w2 : w16 (ea - eb) = ea - eb := w16_id (by omega)
        obtain ⟨g, hg⟩ : ∃ g : Nat, ea - eb = g := ⟨(ea - eb).toNat, by omega⟩
        rw [w2, hg]
        obtain ⟨left, odd, f1, f2, f3⟩ := F275_ok (N := N) h (x := ma) (y := mb) fb.ne fb.hi (g := g) (by omega) (by omega)
        rw [f1]
        simp only [Option.bind_some]
        rw [F173_tail (L := L) (X := ma.toNat * 2 ^ g) h (by omega) (by omega) fb.ne f2 f3]
        have e1 : ma.toNat * 2 ^ (ea + L).toNat = ma.toNat * 2 ^ g * 2 ^ (eb + L).toNat := by
          rw [Nat.mul_assoc, ← Nat.pow_add]
          exact congrArg (fun t => ma.toNat * 2 ^ t) (by omega)
        rw [e1, rm_scale (pow_pos2 _)]
  case inr.inr.inr.inr.inl =>
    rw [(round_eq h fa h).1, RQ_self h fa]
    exact ⟨_, rfl, rfl⟩
  all_goals exact ⟨_, rfl, rfl⟩
end
end Go.Proofs.YfwaawGreat
