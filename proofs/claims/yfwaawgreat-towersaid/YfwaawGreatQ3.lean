/-
  Fractions rounded: crossing, jamming; soft's roundPack follows the rule.
-/
import Derived.Test.YfwaawGreatQ2
import Derived.Test.YfwaawGreatG25
namespace Go.Proofs.YfwaawGreat
open Go.Aw
set_option linter.unusedVariables false
set_option linter.unusedSimpArgs false

/-! ### Crossing -/
theorem div_cross {a b c d : Nat} (hb : 0 < b) (hd : 0 < d) (h : a * d = c * b) : a / b = c / d ∧ (a % b = 0 ↔ c % d = 0) := by
  have e1 : a * d / (b * d) = a / b := Nat.mul_div_mul_right a b hd
  have e2 : c * b / (d * b) = c / d := Nat.mul_div_mul_right c d hb
  have m1 : a * d % (b * d) = a % b * d := Nat.mul_mod_mul_right d a b
  have m2 : c * b % (d * b) = c % d * b := Nat.mul_mod_mul_right b c d
  rw [Nat.mul_comm d b] at e2 m2
  rw [h] at e1 m1
  refine ⟨by rw [← e1, ← e2], ?_⟩
  have m3 : a % b * d = c % d * b := by rw [← m1, ← m2]
  constructor
  · intro hz
    rw [hz, Nat.zero_mul] at m3
    rcases Nat.mul_eq_zero.1 m3.symm with h | h
    · exact h
    · omega
  · intro hz
    rw [hz, Nat.zero_mul] at m3
    rcases Nat.mul_eq_zero.1 m3 with h | h
    · exact h
    · omega
theorem fq_cross {num den num' den' : Nat} (hd : 0 < den) (hd' : 0 < den') (h : num * den' = num' * den) (d : Int) : fq num den d = fq num' den' d ∧ eq num den d = eq num' den' d := by
  unfold fq eq
  have hc := div_cross (a := num * 2 ^ (-d).toNat) (b := den * 2 ^ d.toNat) (c := num' * 2 ^ (-d).toNat) (d := den' * 2 ^ d.toNat) (Nat.mul_pos hd (pow_pos2 _)) (Nat.mul_pos hd' (pow_pos2 _)) (by grind)
  refine ⟨hc.1, ?_⟩
  exact decide_eq_decide.2 (not_congr hc.2)
theorem Lg.cross {num den num' den' : Nat} {r : Int} (hd : 0 < den) (hd' : 0 < den') (h : num * den' = num' * den) (l : Lg num den r) : Lg num' den' r := by
  constructor
  · have := Nat.mul_le_mul_right den' l.lo
    have e1 : den * 2 ^ r.toNat * den' = den * (den' * 2 ^ r.toNat) := by grind
    have e2 : num * 2 ^ (-r).toNat * den' = den * (num' * 2 ^ (-r).toNat) := by grind
    rw [e1, e2] at this
    exact Nat.le_of_mul_le_mul_left this hd
  · have := Nat.mul_lt_mul_of_pos_right l.hi hd'
    have e1 : num * 2 ^ (-(r + 1)).toNat * den' = den * (num' * 2 ^ (-(r + 1)).toNat) := by grind
    have e2 : den * 2 ^ (r + 1).toNat * den' = den * (den' * 2 ^ (r + 1).toNat) := by grind
    rw [e1, e2] at this
    exact Nat.lt_of_mul_lt_mul_left this

/-- The logarithm's floor. -/
def lg (num den : Nat) : Int := if num * 2 ^ (-((blen num : Int) - blen den)).toNat < den * 2 ^ ((blen num : Int) - blen den).toNat then (blen num : Int) - blen den - 1 else (blen num : Int) - blen den
theorem lg_spec {num den : Nat} (hn : num ≠ 0) (hd : den ≠ 0) : Lg num den (lg num den) := by
  have h := lg_est hn hd
  unfold lg
  split
  · exact h.1 ‹_›
  · exact h.2 ‹_›
theorem Lg.eq {num den : Nat} {r : Int} (hd : den ≠ 0) (l : Lg num den r) : lg num den = r := (lg_spec (l.num_ne hd) hd).unique l

/-- The fraction num/den rounded. -/
def RQ (e m mode : BitVec 8) (neg : Bool) (num den : Nat) : BitVec 64 × BitVec 8 := RS e m mode neg (lg num den) (fq num den) (eq num den)
section
variable {e m mode : BitVec 8} {neg : Bool}
theorem RQ_cross {num den num' den' : Nat} (hn : num ≠ 0) (hd : den ≠ 0) (hd' : den' ≠ 0) (h : num * den' = num' * den) : RQ e m mode neg num den = RQ e m mode neg num' den' := by
  unfold RQ
  have l := (lg_spec hn hd).cross (by omega) (by omega) h
  rw [l.eq hd']
  exact RS_congr fun d _ => fq_cross (by omega) (by omega) h d
theorem F136_RQ {N num den : Nat} (h : Fm e m) (hn : num ≠ 0) (hd : den ≠ 0) (bn : blen num ≤ 1000000) (bd : blen den ≤ 1000000) :
    F136 N e m mode neg num den = some (RQ e m mode neg num den) := by
  obtain ⟨real, hl, he⟩ := F136_ok (N := N) (mode := mode) (neg := neg) h hn hd bn bd
  rw [he]; unfold RQ; rw [hl.eq hd]

/-! ### Coarser units -/
theorem fq_comp {num den : Nat} (hd : 0 < den) (d : Int) (k : Nat) : fq num den (d + k) = fq num den d / 2 ^ k ∧ eq num den (d + k) = (eq num den d || decide (fq num den d % 2 ^ k ≠ 0)) := by
  unfold fq eq
  have hB : 0 < den * 2 ^ d.toNat := Nat.mul_pos hd (pow_pos2 _)
  have hp := pow_pos2 k
  have hc := div_cross (a := num * 2 ^ (-(d + k)).toNat) (b := den * 2 ^ (d + k).toNat) (c := num * 2 ^ (-d).toNat) (d := den * 2 ^ d.toNat * 2 ^ k) (Nat.mul_pos hd (pow_pos2 _)) (Nat.mul_pos hB hp) (by
    have : 2 ^ (-(d + k)).toNat * (2 ^ d.toNat * 2 ^ k) = 2 ^ (-d).toNat * 2 ^ (d + k).toNat := by
      simp only [← Nat.pow_add]; congr 1; omega
    grind)
  generalize num * 2 ^ (-d).toNat = A at *
  generalize den * 2 ^ d.toNat = B at *
  refine ⟨by rw [hc.1, Nat.div_div_eq_div_mul], ?_⟩
  have hm := Nat.mod_mul (x := A) (a := B) (b := 2 ^ k)
  have h1 : (A % (B * 2 ^ k) = 0) ↔ (A % B = 0 ∧ A / B % 2 ^ k = 0) := by
    rw [hm]
    constructor
    · intro h
      have h0 : A % B = 0 := by omega
      have h2 : B * (A / B % 2 ^ k) = 0 := by omega
      rcases Nat.mul_eq_zero.1 h2 with h3 | h3
      · omega
      · exact ⟨h0, h3⟩
    · rintro ⟨a, b⟩; rw [a, b, Nat.mul_zero]
  have h2 := hc.2.trans h1
  by_cases a : A % B = 0 <;> by_cases b : A / B % 2 ^ k = 0
  all_goals simp [h2, a, b]

/-- A whole multiple of a power of two. -/
theorem fq_pow (J : Nat) (u : Int) (j : Nat) : fq (J * 2 ^ u.toNat) (2 ^ (-u).toNat) (u + j) = J / 2 ^ j ∧ eq (J * 2 ^ u.toNat) (2 ^ (-u).toNat) (u + j) = decide (J % 2 ^ j ≠ 0) := by
  unfold fq eq
  have hc := div_cross (a := J * 2 ^ u.toNat * 2 ^ (-(u + j)).toNat) (b := 2 ^ (-u).toNat * 2 ^ (u + j).toNat) (c := J) (d := 2 ^ j) (Nat.mul_pos (pow_pos2 _) (pow_pos2 _)) (pow_pos2 _) (by
    have : 2 ^ u.toNat * 2 ^ (-(u + j)).toNat * 2 ^ j = 2 ^ (-u).toNat * 2 ^ (u + j).toNat := by
      simp only [← Nat.pow_add]; congr 1; omega
    grind)
  exact ⟨hc.1, decide_eq_decide.2 (not_congr hc.2)⟩
theorem Lg_pow {J : Nat} (hJ : J ≠ 0) (u : Int) : Lg (J * 2 ^ u.toNat) (2 ^ (-u).toNat) (blen J - 1 + u) := by
  have a := blen_le hJ
  have b := blen_lt J
  have c := blen_pos hJ
  generalize blen J = x at *
  constructor
  · have h1 : 2 ^ (-u).toNat * 2 ^ ((x : Int) - 1 + u).toNat = 2 ^ (x - 1) * (2 ^ u.toNat * 2 ^ (-((x : Int) - 1 + u)).toNat) := by
      simp only [← Nat.pow_add]; congr 1; omega
    rw [h1, Nat.mul_assoc]
    exact Nat.mul_le_mul_right _ a
  · have h1 : 2 ^ (-u).toNat * 2 ^ ((x : Int) - 1 + u + 1).toNat = 2 ^ x * (2 ^ u.toNat * 2 ^ (-((x : Int) - 1 + u + 1)).toNat) := by
      simp only [← Nat.pow_add]; congr 1; omega
    rw [h1, Nat.mul_assoc]
    exact Nat.mul_lt_mul_of_pos_right b (Nat.mul_pos (pow_pos2 _) (pow_pos2 _))
theorem lg_pow {J : Nat} (hJ : J ≠ 0) (u : Int) : lg (J * 2 ^ u.toNat) (2 ^ (-u).toNat) = blen J - 1 + u := (Lg_pow hJ u).eq (by have := pow_pos2 (-u).toNat; omega)

/-! ### Jamming -/
/-- The floor n with a last bit that tells of the rest. -/
def jm (n : Nat) (s : Bool) : Nat := bif s then 2 * (n / 2) + 1 else n
theorem or_one (n : Nat) : n ||| 1 = 2 * (n / 2) + 1 := by
  refine Nat.eq_of_testBit_eq fun i => ?_
  rw [Nat.testBit_or]
  cases i with
  | zero => simp [Nat.testBit_zero]
  | succ i =>
    rw [Nat.testBit_add_one, Nat.testBit_add_one, Nat.testBit_add_one, show (2 * (n / 2) + 1) / 2 = n / 2 from by omega]
    simp
theorem or_one64 (x : BitVec 64) : (x ||| 1#64).toNat = 2 * (x.toNat / 2) + 1 := by
  rw [BitVec.toNat_or, show (1#64).toNat = 1 from rfl, or_one]
theorem jm_div {n : Nat} {s : Bool} {j : Nat} (hj : 1 ≤ j) : jm n s / 2 ^ j = n / 2 ^ j ∧ decide (jm n s % 2 ^ j ≠ 0) = (s || decide (n % 2 ^ j ≠ 0)) := by
  cases s with
  | false => exact ⟨rfl, rfl⟩
  | true =>
    obtain ⟨i, rfl⟩ : ∃ i, j = i + 1 := ⟨j - 1, by omega⟩
    have hp := pow_pos2 i
    unfold jm
    simp only [cond_true, Bool.true_or]
    rw [Nat.pow_succ', ← Nat.div_div_eq_div_mul, ← Nat.div_div_eq_div_mul, show (2 * (n / 2) + 1) / 2 = n / 2 from by omega]
    refine ⟨rfl, ?_⟩
    refine decide_eq_true ?_
    have := Nat.mod_mul (x := 2 * (n / 2) + 1) (a := 2) (b := 2 ^ i)
    omega
theorem blen_jm {n : Nat} {s : Bool} (h : n ≠ 0) : blen (jm n s) = blen n := by
  cases s with
  | false => rfl
  | true =>
    unfold jm
    simp only [cond_true]
    have a := blen_le h
    have b := blen_lt n
    have c := blen_pos h
    have d : blen (2 * (n / 2) + 1) ≤ blen n := by
      rw [blen_le_iff]
      have e : 2 ^ blen n = 2 * 2 ^ (blen n - 1) := by rw [← Nat.pow_succ', Nat.succ_eq_add_one, show blen n - 1 + 1 = blen n from by omega]
      rw [e] at b ⊢
      omega
    have e : blen n ≤ blen (2 * (n / 2) + 1) := blen_mono (by omega)
    omega
theorem jm_ne {n : Nat} {s : Bool} (h : n ≠ 0) : jm n s ≠ 0 := by
  cases s with
  | false => exact h
  | true => unfold jm; simp

theorem lg_fq {num den : Nat} (hn : num ≠ 0) (hd : den ≠ 0) {k : Int} (hk : k ≤ lg num den) : fq num den k ≠ 0 ∧ lg num den = blen (fq num den k) - 1 + k := by
  have l := lg_spec hn hd
  generalize lg num den = r at *
  have a := fq_ge (by omega) l (r - k).toNat k (by omega)
  have b := fq_lt (by omega) l ((r - k).toNat + 1) k (by omega)
  have p := pow_pos2 (r - k).toNat
  refine ⟨by omega, ?_⟩
  have c : blen (fq num den k) ≤ (r - k).toNat + 1 := blen_le_iff.2 b
  have d : ¬ blen (fq num den k) ≤ (r - k).toNat := fun c => by have := blen_le_iff.1 c; omega
  omega

/-- Where the floor at 2^k has two bits more than the rule asks for, the jammed floor rounds alike. -/
theorem RQ_sticky {num den : Nat} (hn : num ≠ 0) (hd : den ≠ 0) {k : Int} (hk : k + m.toNat + 2 ≤ lg num den) :
    RQ e m mode neg num den = RQ e m mode neg (jm (fq num den k) (eq num den k) * 2 ^ k.toNat) (2 ^ (-k).toNat) := by
  have hl := lg_fq hn hd (k := k) (by omega)
  unfold RQ
  rw [lg_pow (jm_ne hl.1), blen_jm hl.1, ← hl.2]
  refine RS_congr fun d hdd => ?_
  obtain ⟨j, rfl⟩ : ∃ j : Nat, d = k + j := ⟨(d - k).toNat, by omega⟩
  have h1 := fq_pow (jm (fq num den k) (eq num den k)) k j
  have h2 := fq_comp (num := num) (den := den) (by omega) k j
  have h3 := jm_div (n := fq num den k) (s := eq num den k) (j := j) (by omega)
  rw [h1.1, h1.2, h2.1, h2.2, h3.1, h3.2]
  exact ⟨rfl, rfl⟩

/-! ### Leading zeros -/
theorem clz_tab : ∀ b : Fin 65, b.val ≠ 0 → F164_7 0 (BitVec.ofNat 64 (2 ^ b.val - 1)) = some (BitVec.ofNat 8 (64 - b.val)) := by decide
theorem F164_ok {N : Nat} (x : BitVec 64) : F164 N x = some (BitVec.ofNat 8 (64 - blen x.toNat)) := by
  unfold F164 F164_1
  by_cases h0 : x = 0#64
  · subst h0; rfl
  · have h0' : x.toNat ≠ 0 := fun h => h0 (BitVec.eq_of_toNat_eq h)
    rw [bf (by simpa using h0)]
    have hb := blen64 x
    have hbp := blen_pos h0'
    have h := (((((Sm.start x).step).step).step).step).step.step
    have e := Sm.end64 hb h
    have := clz_tab ⟨blen x.toNat, by omega⟩ (by show blen x.toNat ≠ 0; omega)
    simp only at this
    rw [← e] at this
    exact this

/-! ### cut, raises -/
/-- What lies behind the cut: r of K. -/
structure Rest (rest : BitVec 64) (r K : Nat) : Prop where
  ge : 9223372036854775808 ≤ rest.toNat ↔ K ≤ 2 * r
  gt : 9223372036854775808 < rest.toNat ↔ K < 2 * r
  z : rest.toNat = 0 ↔ r = 0

theorem F257_ok {N : Nat} (s : BitVec 64) (k : Nat) (hk : k < 32000) : ∃ n rest, F257 N s (k : Int) = some (n, rest) ∧ n.toNat = s.toNat / 2 ^ k ∧ Rest rest (s.toNat % 2 ^ k) (2 ^ k) := by
  unfold F257 F257_1 F257_2 F257_3
  have hs := s.isLt
  by_cases h0 : k = 0
  · subst h0
    refine ⟨_, _, bt rfl, by simp, ?_, ?_, ?_⟩ <;> simp <;> omega
  · rw [bf (by simp; omega)]
    by_cases h1 : k ≤ 64
    · rw [bt (by simp; omega), bt (by simp)]
      have e1 : w16 (64 - (k : Int)) = 64 - (k : Int) := w16_id (by omega)
      rw [e1, bt (by simp; omega), show (64 - (k : Int)).toNat = 64 - k from by omega, Int.toNat_natCast]
      refine ⟨_, _, rfl, shr_nat _ _, ?_⟩
      have hp : 2 ^ 64 = 2 ^ k * 2 ^ (64 - k) := by rw [← Nat.pow_add]; congr 1; omega
      have e2 : (s <<< (64 - k)).toNat = s.toNat % 2 ^ k * 2 ^ (64 - k) := by
        rw [BitVec.toNat_shiftLeft, Nat.shiftLeft_eq, hp, Nat.mul_mod_mul_right]
      have p2 := pow_pos2 (64 - k)
      rw [p64] at hp
      generalize s.toNat % 2 ^ k = r at *
      generalize 2 ^ k = K at *
      generalize 2 ^ (64 - k) = L at *
      have e3 : 2 * (r * L) = 2 * r * L := by grind
      refine ⟨?_, ?_, ?_⟩
      · rw [e2]
        constructor
        · intro h
          refine Nat.le_of_mul_le_mul_right (c := L) ?_ p2
          omega
        · intro h
          have := Nat.mul_le_mul_right L h
          omega
      · rw [e2]
        constructor
        · intro h
          refine Nat.lt_of_mul_lt_mul_right (a := L) ?_
          omega
        · intro h
          have := Nat.mul_lt_mul_of_pos_right h p2
          omega
      · rw [e2, Nat.mul_eq_zero]; omega
    · rw [bf (by simp; omega)]
      have hK : 2 ^ 65 ≤ 2 ^ k := pow_le (by omega)
      have h65 : 2 ^ 65 = 36893488147419103232 := rfl
      rw [h65] at hK
      rw [p64] at hs
      have e4 : s.toNat % 2 ^ k = s.toNat := Nat.mod_eq_of_lt (by omega)
      have e5 : s.toNat / 2 ^ k = 0 := Nat.div_eq_of_lt (by omega)
      rw [e4, e5, eq_bv, show (0#64).toNat = 0 from rfl]
      by_cases h2 : s.toNat = 0
      · rw [bt (by simpa using h2)]
        refine ⟨_, _, rfl, rfl, ?_, ?_, ?_⟩ <;> simp <;> omega
      · rw [bf (by simpa using h2)]
        refine ⟨_, _, rfl, rfl, ?_, ?_, ?_⟩ <;> simp <;> omega

theorem F258_ok {n rest : BitVec 64} {s K : Nat} (hK : 0 < K) (hn : n.toNat = s / K) (hr : Rest rest (s % K) K) :
    F258 mode neg n rest = rz mode neg (2 * s / K) (decide (2 * s % K ≠ 0)) := by
  obtain ⟨h1, h2⟩ := half_div (a := s) hK
  have hl := Nat.mod_lt s hK
  obtain ⟨g1, g2, g3⟩ := hr
  rw [h1, h2]
  have hbit : ((n &&& 1#64) == 1#64) = decide (s / K % 2 = 1) := by
    rw [eq_bv, BitVec.toNat_and, show (1#64).toNat = 1 from rfl, hn, Nat.and_one_is_mod]
  generalize s / K = q at *
  generalize s % K = r at *
  have d2 : (2 * q + if K ≤ 2 * r then 1 else 0) / 2 = q := by split <;> omega
  have c0 : decide ((2 * q + if K ≤ 2 * r then 1 else 0) % 2 = 1) = decide (K ≤ 2 * r) := by
    refine decide_eq_decide.2 ?_
    split <;> omega
  unfold F258 F258_1 F258_2 F258_3 F258_4 rz
  rw [c0, d2, hbit]
  simp only [ne_bv, eq_bv, show (0#64).toNat = 0 from rfl, show (9223372036854775808#64).toNat = 9223372036854775808 from rfl]
  have a1 : decide (9223372036854775808 ≤ rest.toNat) = decide (K ≤ 2 * r) := decide_eq_decide.2 g1
  have a2 : decide (rest.toNat ≠ 0) = (decide (K ≤ 2 * r) || decide ((if K ≤ 2 * r then 2 * r - K else 2 * r) ≠ 0)) := by
    rw [← Bool.decide_or]
    refine decide_eq_decide.2 ?_
    split <;> omega
  have a3 : (decide (9223372036854775808 < rest.toNat) || decide (rest.toNat = 9223372036854775808) && decide (q % 2 = 1)) = (decide (K ≤ 2 * r) && (decide ((if K ≤ 2 * r then 2 * r - K else 2 * r) ≠ 0) || decide (q % 2 = 1))) := by
    rw [← Bool.decide_and, ← Bool.decide_or, ← Bool.decide_or, ← Bool.decide_and]
    refine decide_eq_decide.2 ?_
    split <;> omega
  rw [a1, a2, a3]
end
end Go.Proofs.YfwaawGreat
