/-
  The rounding rule, plain; exact's RoundFlags follows it.
-/
import Derived.Test.YfwaawGreatQ1
import Derived.Test.YfwaawGreatG4
namespace Go.Proofs.YfwaawGreat
open Go.Aw
set_option linter.unusedVariables false
set_option linter.unusedSimpArgs false

/-! ### Sizes -/
theorem pow_lim {k : Nat} (h : k < 1048576) : 2 ^ k < Lim := by
  unfold Lim; exact @pow_lt k 1048576 h
theorem lim_blen {n : Nat} (h : blen n ≤ 1048575) : lim n = true := by
  unfold lim
  have := blen_lt n
  have h2 : 2 ^ blen n < Lim := pow_lim (by omega)
  simp; omega
theorem blen_shl (n k : Nat) : blen (n * 2 ^ k) ≤ blen n + k := by
  rw [blen_le_iff, Nat.pow_add]
  exact Nat.mul_lt_mul_of_pos_right (blen_lt n) (pow_pos2 k)
theorem blen_mono {a b : Nat} (h : a ≤ b) : blen a ≤ blen b := blen_le_iff.2 (Nat.lt_of_le_of_lt h (blen_lt b))
theorem blen_mul (a b : Nat) : blen (a * b) ≤ blen a + blen b := by
  rw [blen_le_iff, Nat.pow_add]
  exact Nat.mul_lt_mul'' (blen_lt a) (blen_lt b)
theorem blen_add (a b : Nat) : blen (a + b) ≤ max (blen a) (blen b) + 1 := by
  rw [blen_le_iff, Nat.pow_succ]
  have h1 : a < 2 ^ max (blen a) (blen b) := Nat.lt_of_lt_of_le (blen_lt a) (pow_le (Nat.le_max_left _ _))
  have h2 : b < 2 ^ max (blen a) (blen b) := Nat.lt_of_lt_of_le (blen_lt b) (pow_le (Nat.le_max_right _ _))
  omega

/-! ### The rule -/
/-- Does the half of n2 go up? n2 is the floor in half units, s tells whether more lies below. -/
def rz (mode : BitVec 8) (neg : Bool) (n2 : Nat) (s : Bool) : Bool :=
  bif mode == 1#8 then decide (n2 % 2 = 1)
  else bif mode == 2#8 then false
  else bif mode == 3#8 then (decide (n2 % 2 = 1) || s) && !neg
  else bif mode == 4#8 then (decide (n2 % 2 = 1) || s) && neg
  else decide (n2 % 2 = 1) && (s || decide (n2 / 2 % 2 = 1))
def rn (mode : BitVec 8) (neg : Bool) (n2 : Nat) (s : Bool) : Nat := n2 / 2 + (bif rz mode neg n2 s then 1 else 0)
theorem rn_le (mode : BitVec 8) (neg : Bool) (n2 : Nat) (s : Bool) : rn mode neg n2 s ≤ n2 / 2 + 1 := by
  unfold rn; cases rz mode neg n2 s <;> simp
theorem rn_exact {mode : BitVec 8} {neg : Bool} {n2 : Nat} {s : Bool} (h : n2 % 2 = 0) (hs : s = false) : rn mode neg n2 s = n2 / 2 := by
  have : rz mode neg n2 s = false := by
    unfold rz
    rw [hs, h]
    simp
  unfold rn; rw [this]; rfl

/-- A value rounded once: real is its logarithm's floor, φ d its floor in units of 2^d, ε d whether that floor left something. -/
def RS (e m mode : BitVec 8) (neg : Bool) (real : Int) (φ : Int → Nat) (ε : Int → Bool) : BitVec 64 × BitVec 8 :=
  if (bia e.toNat : Int) < max real (1 - bia e.toNat) then F252 e m mode neg else
  if infP e.toNat m.toNat ≤ (max real (1 - bia e.toNat) - (1 - bia e.toNat)).toNat * 2 ^ m.toNat + rn mode neg (φ (max real (1 - bia e.toNat) - m.toNat - 1)) (ε (max real (1 - bia e.toNat) - m.toNat - 1)) then F252 e m mode neg else
  (BitVec.ofNat 64 ((max real (1 - bia e.toNat) - (1 - bia e.toNat)).toNat * 2 ^ m.toNat + rn mode neg (φ (max real (1 - bia e.toNat) - m.toNat - 1)) (ε (max real (1 - bia e.toNat) - m.toNat - 1)) + sgn e.toNat m.toNat neg),
    if φ (max real (1 - bia e.toNat) - m.toNat - 1) % 2 = 0 ∧ ε (max real (1 - bia e.toNat) - m.toNat - 1) = false then 0#8
    else if real < 1 - bia e.toNat ∧ (real = 1 - bia e.toNat - 1 → rn mode neg (φ (real - m.toNat - 1)) (ε (real - m.toNat - 1)) < 2 ^ (m.toNat + 1)) then 24#8 else 16#8)

/-- Only two units count. -/
theorem RS_congr {e m mode : BitVec 8} {neg : Bool} {real : Int} {φ φ' : Int → Nat} {ε ε' : Int → Bool}
    (h : ∀ d, real - m.toNat - 1 ≤ d → φ d = φ' d ∧ ε d = ε' d) : RS e m mode neg real φ ε = RS e m mode neg real φ' ε' := by
  unfold RS
  have h1 := h (real - m.toNat - 1) (by omega)
  have h2 := h (max real (1 - bia e.toNat) - m.toNat - 1) (by omega)
  rw [h1.1, h1.2, h2.1, h2.2]

/-! ### Fractions -/
/-- The floor of num/den in units of 2^d, and whether it left something. -/
def fq (num den : Nat) (d : Int) : Nat := num * 2 ^ (-d).toNat / (den * 2 ^ d.toNat)
def eq (num den : Nat) (d : Int) : Bool := decide (num * 2 ^ (-d).toNat % (den * 2 ^ d.toNat) ≠ 0)
/-- 2^r ≤ num/den < 2^(r+1). -/
structure Lg (num den : Nat) (r : Int) : Prop where
  lo : den * 2 ^ r.toNat ≤ num * 2 ^ (-r).toNat
  hi : num * 2 ^ (-(r + 1)).toNat < den * 2 ^ (r + 1).toNat

theorem pow_int_add (a b : Int) : 2 ^ a.toNat * 2 ^ b.toNat * 2 ^ (-(a + b)).toNat = 2 ^ (-a).toNat * 2 ^ (-b).toNat * 2 ^ (a + b).toNat := by
  simp only [← Nat.pow_add]
  congr 1
  omega
/-- A bound at r holds below r too. -/
theorem lo_mono {num den : Nat} {r s : Int} (hs : s ≤ r) (h : den * 2 ^ r.toNat ≤ num * 2 ^ (-r).toNat) : den * 2 ^ s.toNat ≤ num * 2 ^ (-s).toNat := by
  obtain ⟨k, hk⟩ : ∃ k : Nat, r = s + k := ⟨(r - s).toNat, by omega⟩
  have hp : 0 < 2 ^ (-r).toNat := pow_pos2 _
  have h1 := Nat.mul_le_mul_right (2 ^ (-s).toNat) h
  -- 2^r⁺ 2^(-s)⁺ = 2^k 2^s⁺ 2^(-r)⁺
  have e1 : 2 ^ r.toNat * 2 ^ (-s).toNat = 2 ^ k * (2 ^ s.toNat * 2 ^ (-r).toNat) := by
    simp only [← Nat.pow_add]; congr 1; omega
  have h2 : den * (2 ^ s.toNat * 2 ^ (-r).toNat) ≤ num * (2 ^ (-s).toNat * 2 ^ (-r).toNat) := by
    have h3 : den * (2 ^ s.toNat * 2 ^ (-r).toNat) ≤ 2 ^ k * (den * (2 ^ s.toNat * 2 ^ (-r).toNat)) := Nat.le_mul_of_pos_left _ (pow_pos2 k)
    have h4 : 2 ^ k * (den * (2 ^ s.toNat * 2 ^ (-r).toNat)) = den * 2 ^ r.toNat * 2 ^ (-s).toNat := by
      rw [Nat.mul_assoc den, e1]; grind
    have h5 : num * 2 ^ (-r).toNat * 2 ^ (-s).toNat = num * (2 ^ (-s).toNat * 2 ^ (-r).toNat) := by grind
    omega
  rw [← Nat.mul_assoc, ← Nat.mul_assoc] at h2
  exact Nat.le_of_mul_le_mul_right h2 hp
theorem Lg.unique {num den : Nat} {r s : Int} (h : Lg num den r) (k : Lg num den s) : r = s := by
  rcases Int.lt_or_le r s with h1 | h1
  · have := lo_mono (num := num) (den := den) (show r + 1 ≤ s by omega) k.lo
    have := h.hi
    omega
  · rcases Int.lt_or_le s r with h2 | h2
    · have := lo_mono (num := num) (den := den) (show s + 1 ≤ r by omega) h.lo
      have := k.hi
      omega
    · omega
theorem Lg.num_ne {num den : Nat} {r : Int} (h : Lg num den r) (hd : den ≠ 0) : num ≠ 0 := by
  intro h0
  have h1 := h.lo
  have : 0 < den * 2 ^ r.toNat := Nat.mul_pos (by omega) (pow_pos2 _)
  rw [h0, Nat.zero_mul] at h1
  omega

/-- The first estimate of the logarithm is right or one too great. -/
theorem lg_est {num den : Nat} (hn : num ≠ 0) (hd : den ≠ 0) :
    (num * 2 ^ (-((blen num : Int) - blen den)).toNat < den * 2 ^ ((blen num : Int) - blen den).toNat → Lg num den ((blen num : Int) - blen den - 1)) ∧
    (¬ num * 2 ^ (-((blen num : Int) - blen den)).toNat < den * 2 ^ ((blen num : Int) - blen den).toNat → Lg num den ((blen num : Int) - blen den)) := by
  have a1 := blen_le hn
  have a2 := blen_lt num
  have b1 := blen_le hd
  have b2 := blen_lt den
  have pa := blen_pos hn
  have pb := blen_pos hd
  generalize blen num = x at *
  generalize blen den = y at *
  -- num/den lies between 2^(x-y-1) and 2^(x-y+1)
  have lo : den * 2 ^ ((x : Int) - y - 1).toNat ≤ num * 2 ^ (-((x : Int) - y - 1)).toNat := by
    have h1 : den * 2 ^ ((x : Int) - y - 1).toNat ≤ 2 ^ y * 2 ^ ((x : Int) - y - 1).toNat := Nat.mul_le_mul_right _ (by omega)
    have h2 : 2 ^ (x - 1) * 2 ^ (-((x : Int) - y - 1)).toNat ≤ num * 2 ^ (-((x : Int) - y - 1)).toNat := Nat.mul_le_mul_right _ a1
    have h3 : 2 ^ y * 2 ^ ((x : Int) - y - 1).toNat = 2 ^ (x - 1) * 2 ^ (-((x : Int) - y - 1)).toNat := by
      simp only [← Nat.pow_add]; congr 1; omega
    omega
  have hi : num * 2 ^ (-((x : Int) - y + 1)).toNat < den * 2 ^ ((x : Int) - y + 1).toNat := by
    have h1 : num * 2 ^ (-((x : Int) - y + 1)).toNat < 2 ^ x * 2 ^ (-((x : Int) - y + 1)).toNat := Nat.mul_lt_mul_of_pos_right a2 (pow_pos2 _)
    have h2 : 2 ^ (y - 1) * 2 ^ ((x : Int) - y + 1).toNat ≤ den * 2 ^ ((x : Int) - y + 1).toNat := Nat.mul_le_mul_right _ b1
    have h3 : 2 ^ x * 2 ^ (-((x : Int) - y + 1)).toNat = 2 ^ (y - 1) * 2 ^ ((x : Int) - y + 1).toNat := by
      simp only [← Nat.pow_add]; congr 1; omega
    omega
  refine ⟨fun h => ⟨lo, ?_⟩, fun h => ⟨by omega, hi⟩⟩
  rw [show (x : Int) - y - 1 + 1 = x - y from by omega]; exact h

theorem u16_of {k : Int} (h : 0 ≤ k ∧ k < 65536) : (BitVec.ofInt 16 k).toNat = k.toNat := by
  obtain ⟨n, rfl⟩ : ∃ n : Nat, k = (n : Int) := ⟨k.toNat, by omega⟩
  rw [ofInt_nat, BitVec.toNat_ofNat, Int.toNat_natCast]; exact Nat.mod_eq_of_lt (by omega)

theorem F208_ok {N num den : Nat} {k : Int} (hk : -60000 < k ∧ k < 60000) (hn : blen num ≤ 1048575) (hd : blen den ≤ 1048575) : F208 N num den k = some (num * 2 ^ k.toNat, den * 2 ^ (-k).toNat) := by
  unfold F208 F208_1
  by_cases h : k < 0
  · rw [bt (by simpa using h), bt (lim_blen hd), w64_id (by omega), u16_of (by omega), show k.toNat = 0 from by omega, show 0 - k = -k from by omega]
    simp
  · rw [bf (by simpa using h), bt (lim_blen hn), u16_of (by omega), show (-k).toNat = 0 from by omega]
    simp

theorem F207_ok {N num den : Nat} {lo hi : Int} (hn : num ≠ 0) (hd : den ≠ 0) (bn : blen num ≤ 1000000) (bd : blen den ≤ 1000000) (hlo : -40000 < lo) (hhi : hi < 40000) (hle : lo ≤ hi + 2) :
    ∃ r real, F207 N num den lo hi = some r ∧ Lg num den real ∧ (r = real ∨ (r = hi + 1 ∧ hi + 1 ≤ real) ∨ (r = lo - 1 ∧ real ≤ lo - 1)) := by
  unfold F207
  have pa := blen_pos hn
  have pb := blen_pos hd
  rw [bt (lim_blen (by omega)), bt (lim_blen (by omega)), w64_id (by omega)]
  unfold F207_1 F207_2 F207_3
  have est := lg_est hn hd
  generalize hx : (blen num : Int) - blen den = x at *
  rw [w64_id (by omega), w64_id (by omega)]
  have hreal : ∃ real, Lg num den real ∧ (real = x ∨ real = x - 1) := by
    by_cases h : num * 2 ^ (-x).toNat < den * 2 ^ x.toNat
    · exact ⟨_, est.1 h, .inr rfl⟩
    · exact ⟨_, est.2 h, .inl rfl⟩
  obtain ⟨real, hr, hrx⟩ := hreal
  by_cases h1 : x > hi + 1
  · rw [bt (by simpa using h1)]
    exact ⟨_, real, rfl, hr, .inr (.inl ⟨rfl, by omega⟩)⟩
  · rw [bf (by simpa using h1)]
    by_cases h2 : x < lo
    · rw [bt (by simpa using h2)]
      exact ⟨_, real, rfl, hr, .inr (.inr ⟨rfl, by omega⟩)⟩
    · rw [bf (by simpa using h2), w64_id (by omega), F208_ok (by omega) (by omega) (by omega)]
      simp only [Option.bind_some, F207_4, F207_6, F207_5]
      have e1 : (0 - x).toNat = (-x).toNat := by omega
      have e2 : (-(0 - x)).toNat = x.toNat := by omega
      rw [e1, e2]
      have s1 := blen_shl num (-x).toNat
      have s2 := blen_shl den x.toNat
      rw [bt (by rw [lim_blen (by omega), lim_blen (by omega)]; rfl)]
      by_cases h3 : num * 2 ^ (-x).toNat < den * 2 ^ x.toNat
      · rw [bt (by unfold ncmp; rw [if_pos h3]; rfl), w64_id (by omega)]
        exact ⟨_, _, rfl, est.1 h3, .inl rfl⟩
      · rw [bf (by unfold ncmp; rw [if_neg h3]; split <;> rfl)]
        exact ⟨_, _, rfl, est.2 h3, .inl rfl⟩

/-! ### Halves -/
theorem half_div {a b : Nat} (hb : 0 < b) : 2 * a / b = 2 * (a / b) + (if b ≤ 2 * (a % b) then 1 else 0) ∧ 2 * a % b = if b ≤ 2 * (a % b) then 2 * (a % b) - b else 2 * (a % b) := by
  have h1 := Nat.div_add_mod a b
  have h2 := Nat.mod_lt a hb
  generalize a / b = q at *
  generalize a % b = r at *
  by_cases h : b ≤ 2 * r
  · rw [if_pos h, if_pos h]
    have e : 2 * a = (2 * r - b) + b * (2 * q + 1) := by
      have : b * (2 * q + 1) = 2 * (b * q) + b := by grind
      omega
    constructor
    · rw [e, Nat.add_mul_div_left _ _ hb, Nat.div_eq_of_lt (by omega)]; omega
    · rw [e, Nat.add_mul_mod_self_left, Nat.mod_eq_of_lt (by omega)]
  · rw [if_neg h, if_neg h]
    have e : 2 * a = 2 * r + b * (2 * q) := by
      have : b * (2 * q) = 2 * (b * q) := by grind
      omega
    constructor
    · rw [e, Nat.add_mul_div_left _ _ hb, Nat.div_eq_of_lt (by omega)]; omega
    · rw [e, Nat.add_mul_mod_self_left, Nat.mod_eq_of_lt (by omega)]

theorem mode_eq (mode : BitVec 8) (k : BitVec 8) : (mode == k) = decide (mode = k) := by
  by_cases h : mode = k <;> simp [h]

/-- exact's rule is the rule. -/
theorem F358_ok (mode : BitVec 8) (neg : Bool) {a b : Nat} (hb : 0 < b) : F358 mode neg (nbit (a / b) 0) (ncmp (a % b * 2) b) (a % b != 0) = rz mode neg (2 * a / b) (decide (2 * a % b ≠ 0)) := by
  obtain ⟨h1, h2⟩ := half_div (a := a) hb
  have hl := Nat.mod_lt a hb
  rw [h1, h2]
  have hbit : nbit (a / b) 0 = decide (a / b % 2 = 1) := by
    unfold nbit
    rw [show (0 : Int).toNat = 0 from rfl, Nat.testBit_eq_decide_div_mod_eq]; simp
  rw [hbit]
  generalize a / b = q
  generalize a % b = r at *
  have key : ∀ (odd s : Bool) (h : Int), odd = decide (b ≤ 2 * r) → s = decide ((if b ≤ 2 * r then 2 * r - b else 2 * r) ≠ 0) → h = ncmp (r * 2) b →
      F358 mode neg (decide (q % 2 = 1)) h (r != 0) = rz mode neg (2 * q + if b ≤ 2 * r then 1 else 0) s := by
    intro odd s h ho hs hh
    have m2 : (2 * q + if b ≤ 2 * r then 1 else 0) % 2 = (if b ≤ 2 * r then 1 else 0) := by split <;> omega
    have d2 : (2 * q + if b ≤ 2 * r then 1 else 0) / 2 = q := by split <;> omega
    unfold F358 F358_1 F358_2 F358_3 F358_4 rz
    rw [m2, d2]
    have c0 : decide ((if b ≤ 2 * r then 1 else 0) = 1) = decide (b ≤ 2 * r) := by split <;> simp_all
    rw [c0]
    have c1 : decide (h ≥ 0) = decide (b ≤ 2 * r) := by
      rw [hh]; unfold ncmp; split
      · simp; omega
      · split <;> simp <;> omega
    have c2 : (r != 0) = (decide (b ≤ 2 * r) || s) := by
      rw [hs]
      by_cases h' : b ≤ 2 * r
      · simp [h']; omega
      · rw [if_neg h', decide_eq_false h', Bool.false_or]
        by_cases h'' : r = 0
        · subst h''; rfl
        · have h3 : 2 * r ≠ 0 := by omega
          rw [decide_eq_true h3]; simpa using h''
    have c3 : (decide (h > 0) || (h == 0) && decide (q % 2 = 1)) = (decide (b ≤ 2 * r) && (s || decide (q % 2 = 1))) := by
      rw [hh, hs]; unfold ncmp
      by_cases h' : r * 2 < b
      · rw [if_pos h', if_neg (by omega)]
        have : ¬ b ≤ 2 * r := by omega
        simp [this]
      · rw [if_neg h']
        by_cases h'' : r * 2 = b
        · rw [if_pos h'', if_pos (by omega)]
          have : b ≤ 2 * r := by omega
          have h3 : 2 * r - b = 0 := by omega
          simp [this, h3]
        · rw [if_neg h'', if_pos (by omega)]
          have : b ≤ 2 * r := by omega
          have h3 : 2 * r - b ≠ 0 := by omega
          simp [this, h3]
    rw [c1, c2, c3]
  exact key _ _ _ rfl rfl rfl

theorem F209_ok {N a b : Nat} (hb : 0 < b) (ha : blen a ≤ 1048574) (hbl : blen b ≤ 1048574) : F209 N a b = some (a / b, ncmp (a % b * 2) b, a % b != 0) := by
  unfold F209 F209_1
  have hm : nmod a b = a % b := if_neg (by omega)
  have h1 : blen (a % b) ≤ blen b := blen_mono (Nat.le_of_lt (Nat.mod_lt _ hb))
  have h2 := blen_shl (a % b) 1
  rw [bt (by rw [lim_blen (by omega), lim_blen (by omega)]; rfl), hm, bt (lim_blen (by omega)), show (1#16).toNat = 1 from rfl, bt (by rw [lim_blen (by omega), lim_blen (by omega)]; rfl), Nat.pow_one]

theorem F245_ok {N : Nat} {mode : BitVec 8} {neg : Bool} {a b : Nat} (hb : 0 < b) (ha : blen a ≤ 1048574) (hbl : blen b ≤ 1048574) :
    F245 N mode neg a b = some (rn mode neg (2 * a / b) (decide (2 * a % b ≠ 0)), ncmp (a % b * 2) b, a % b != 0) := by
  unfold F245
  rw [F209_ok hb ha hbl]
  simp only [Option.bind_some, F245_1, lt]
  have h1 : blen (a / b) ≤ blen a := blen_mono (Nat.div_le_self _ _)
  rw [bt (by rw [lim_blen (by omega)]; rfl), F358_ok mode neg hb]
  unfold F245_3 F245_2 rn
  have hd := (half_div (a := a) hb).1
  have hq : 2 * a / b / 2 = a / b := by rw [hd]; split <;> omega
  rw [hq]
  cases rz mode neg (2 * a / b) (decide (2 * a % b ≠ 0)) with
  | true => simp only [cond_true]; rw [bt (lim_blen (by omega))]
  | false => simp only [cond_false]; rfl

/-! ### RoundFlags -/
section
variable {e m mode : BitVec 8} {neg : Bool}
theorem F246_ok (h : Fm e m) : F246 e m = 1 - (bia e.toNat : Int) := by
  have := bia_le h.e11
  unfold F246
  simp only [lt]
  have e1 : w64 (bia e.toNat : Int) = bia e.toNat := w64_id (by omega)
  rw [F71_ok h, e1, w64_id (by omega)]
theorem F247_ok (h : Fm e m) : F247 e m = (bia e.toNat : Int) := by
  have := bia_le h.e11
  unfold F247
  simp only [lt]
  rw [F71_ok h, w64_id (by omega)]
theorem F251_ok (h : Fm e m) : (F251 e m neg).toNat = sgn e.toNat m.toNat neg := by
  unfold F251 sgn
  cases neg with
  | false => rfl
  | true => simp only [cond_true, lt]; exact F70_ok h

/-- The end of a rounding: x is the pattern without its sign. -/
def pk (e m mode : BitVec 8) (neg : Bool) (x : Nat) (inex tiny : Bool) : BitVec 64 × BitVec 8 :=
  if infP e.toNat m.toNat ≤ x then F252 e m mode neg else
  (BitVec.ofNat 64 (x + sgn e.toNat m.toNat neg), bif !inex then 0#8 else bif tiny then 24#8 else 16#8)

theorem or_sgn (h : Fm e m) {x : BitVec 64} (hx : x.toNat < 2 ^ (e.toNat + m.toNat)) {y : BitVec 64} (hy : y.toNat = sgn e.toNat m.toNat neg) : x ||| y = BitVec.ofNat 64 (x.toNat + sgn e.toNat m.toNat neg) := by
  refine BitVec.eq_of_toNat_eq ?_
  have h2 := h.e11
  have h4 := h.m52
  have hl : 2 ^ (e.toNat + m.toNat) * 2 ≤ 2 ^ 64 := by rw [← Nat.pow_succ]; exact pow_le (by omega)
  have hd : 2 ^ (e.toNat + m.toNat) ∣ y.toNat := by
    rw [hy]; unfold sgn
    cases neg with
    | false => exact Nat.dvd_zero _
    | true => exact Nat.dvd_refl _
  rw [or_add x y _ hx hd, hy, BitVec.toNat_ofNat]
  refine (Nat.mod_eq_of_lt ?_).symm
  have : sgn e.toNat m.toNat neg ≤ 2 ^ (e.toNat + m.toNat) := by
    unfold sgn; cases neg <;> simp
  omega

theorem F249_ok (h : Fm e m) {ex : Int} {n : Nat} {hf : Int} {inex tiny : Bool} (he : 1 - (bia e.toNat : Int) ≤ ex ∧ ex ≤ bia e.toNat) (hn : n ≤ 2 ^ (m.toNat + 1)) :
    F249 e m mode neg ex (BitVec.ofNat 64 n) hf inex tiny = pk e m mode neg ((ex - (1 - bia e.toNat)).toNat * 2 ^ m.toNat + n) inex tiny := by
  have h2 := h.e11
  have h4 := h.m52
  have hb := bia_le h.e11
  unfold F249
  simp only [lt]
  rw [F246_ok h, w64_id (by omega)]
  obtain ⟨k, hk⟩ : ∃ k : Nat, ex - (1 - (bia e.toNat : Int)) = k := ⟨(ex - (1 - (bia e.toNat : Int))).toNat, by omega⟩
  rw [hk, ofInt_nat, Int.toNat_natCast]
  have hkl : k ≤ 2 ^ e.toNat - 2 := by have := pow_E h.e2; omega
  have hs1 := Nat.pow_succ 2 m.toNat
  have hEp := pow_E h.e2
  have hbp := bia_ge h.e2
  have hkm : k * 2 ^ m.toNat + 2 ^ m.toNat ≤ infP e.toNat m.toNat := by
    unfold infP
    have : (k + 1) * 2 ^ m.toNat ≤ (2 ^ e.toNat - 1) * 2 ^ m.toNat := Nat.mul_le_mul_right _ (by omega)
    rw [Nat.add_mul, Nat.one_mul] at this; exact this
  have hil := infP_lt e.toNat m.toNat
  have hl : 2 ^ (e.toNat + m.toNat) * 2 ≤ 2 ^ 64 := by rw [← Nat.pow_succ]; exact pow_le (by omega)
  rw [p64] at hl
  have hx : (BitVec.ofNat 64 k <<< m.toNat + BitVec.ofNat 64 n).toNat = k * 2 ^ m.toNat + n := by
    rw [BitVec.toNat_add, BitVec.toNat_shiftLeft, Nat.shiftLeft_eq, BitVec.toNat_ofNat, BitVec.toNat_ofNat]
    have e1 : k % 2 ^ 64 = k := Nat.mod_eq_of_lt (by
      have : 2 ^ e.toNat ≤ 2 ^ 11 := pow_le h2
      rw [p64]; omega)
    rw [e1, p64, Nat.mod_eq_of_lt (a := k * 2 ^ m.toNat) (by omega), Nat.mod_eq_of_lt (a := n) (by omega), Nat.mod_eq_of_lt (by omega)]
  generalize BitVec.ofNat 64 k <<< m.toNat + BitVec.ofNat 64 n = x at *
  unfold F249_1
  simp only [lt]
  rw [F67_ok h, show sgn e.toNat m.toNat false = 0 from rfl, Nat.add_zero, hx]
  unfold F249_2 pk
  simp only [lt]
  by_cases ho : infP e.toNat m.toNat ≤ k * 2 ^ m.toNat + n
  · rw [bt (by simpa using ho), if_pos ho]
  · rw [bf (by simpa using ho), if_neg ho]
    unfold F249_3
    simp only [lt]
    have hxl : x.toNat < 2 ^ (e.toNat + m.toNat) := by rw [hx]; omega
    rw [or_sgn h hxl (F251_ok h), hx]
    cases inex <;> cases tiny <;> rfl

theorem RS_pk {real : Int} {φ : Int → Nat} {ε : Int → Bool} : RS e m mode neg real φ ε =
    if (bia e.toNat : Int) < max real (1 - bia e.toNat) then F252 e m mode neg else
    pk e m mode neg ((max real (1 - bia e.toNat) - (1 - bia e.toNat)).toNat * 2 ^ m.toNat + rn mode neg (φ (max real (1 - bia e.toNat) - m.toNat - 1)) (ε (max real (1 - bia e.toNat) - m.toNat - 1)))
      (decide (φ (max real (1 - bia e.toNat) - m.toNat - 1) % 2 = 1) || ε (max real (1 - bia e.toNat) - m.toNat - 1))
      (decide (real < 1 - bia e.toNat ∧ (real = 1 - bia e.toNat - 1 → rn mode neg (φ (real - m.toNat - 1)) (ε (real - m.toNat - 1)) < 2 ^ (m.toNat + 1)))) := by
  unfold RS pk
  split
  · rfl
  · split
    · rfl
    · congr 1
      generalize φ (max real (1 - bia e.toNat) - m.toNat - 1) = a
      generalize ε (max real (1 - bia e.toNat) - m.toNat - 1) = b
      rcases Nat.mod_two_eq_zero_or_one a with h | h
      · cases b
        · rw [if_pos ⟨h, rfl⟩, h]; rfl
        · rw [if_neg (fun c => by cases c.2), h]
          split <;> rename_i hc
          · rw [decide_eq_true hc]; rfl
          · rw [decide_eq_false hc]; rfl
      · rw [if_neg (fun c => by omega), h]
        split <;> rename_i hc
        · rw [decide_eq_true hc]; rfl
        · rw [decide_eq_false hc]; rfl

/-- The fraction in units of 2^(-(s+1)) is its double at s. -/
theorem fq_half {num den : Nat} (hd : 0 < den) (s : Int) : fq num den (-s - 1) = 2 * (num * 2 ^ s.toNat) / (den * 2 ^ (-s).toNat) ∧ eq num den (-s - 1) = decide (2 * (num * 2 ^ s.toNat) % (den * 2 ^ (-s).toNat) ≠ 0) := by
  unfold fq eq
  by_cases h : 0 ≤ s
  · have e1 : (-(-s - 1)).toNat = s.toNat + 1 := by omega
    have e2 : (-s - 1).toNat = 0 := by omega
    have e3 : (-s).toNat = 0 := by omega
    rw [e1, e2, e3, Nat.pow_succ, show num * (2 ^ s.toNat * 2) = 2 * (num * 2 ^ s.toNat) from by grind]
    exact ⟨rfl, rfl⟩
  · have e1 : (-(-s - 1)).toNat = 0 := by omega
    have e2 : s.toNat = 0 := by omega
    have e3 : (-s).toNat = (-s - 1).toNat + 1 := by omega
    rw [e1, e2, e3, Nat.pow_succ, Nat.pow_zero, Nat.mul_one, show den * (2 ^ (-s - 1).toNat * 2) = 2 * (den * 2 ^ (-s - 1).toNat) from by grind, Nat.mul_div_mul_left _ _ (by decide), Nat.mul_mod_mul_left]
    refine ⟨rfl, ?_⟩
    congr 1
    have : (2 * (num % (den * 2 ^ (-s - 1).toNat)) ≠ 0) = (num % (den * 2 ^ (-s - 1).toNat) ≠ 0) := by
      generalize num % (den * 2 ^ (-s - 1).toNat) = r
      exact propext (by omega)
    exact this.symm

theorem fq_lt {num den : Nat} {real : Int} (hd : 0 < den) (h : Lg num den real) (j : Nat) (d : Int) (hj : real - d < j) : fq num den d < 2 ^ j := by
  unfold fq
  rw [Nat.div_lt_iff_lt_mul (Nat.mul_pos hd (pow_pos2 _))]
  -- num/den < 2^(real+1) ≤ 2^(d+j)
  have hi := h.hi
  have hp : 0 < 2 ^ (-(real + 1)).toNat := pow_pos2 _
  have h1 : num * 2 ^ (-(real + 1)).toNat * 2 ^ (-d).toNat < den * 2 ^ (real + 1).toNat * 2 ^ (-d).toNat := Nat.mul_lt_mul_of_pos_right hi (pow_pos2 _)
  have h2 : 2 ^ (real + 1).toNat * 2 ^ (-d).toNat ≤ 2 ^ j * (2 ^ d.toNat * 2 ^ (-(real + 1)).toNat) := by
    simp only [← Nat.pow_add]; exact pow_le (by omega)
  have h3 : den * (2 ^ (real + 1).toNat * 2 ^ (-d).toNat) ≤ den * (2 ^ j * (2 ^ d.toNat * 2 ^ (-(real + 1)).toNat)) := Nat.mul_le_mul_left _ h2
  have h4 : num * 2 ^ (-d).toNat * 2 ^ (-(real + 1)).toNat < 2 ^ j * (den * 2 ^ d.toNat) * 2 ^ (-(real + 1)).toNat := by
    have e1 : num * 2 ^ (-(real + 1)).toNat * 2 ^ (-d).toNat = num * 2 ^ (-d).toNat * 2 ^ (-(real + 1)).toNat := by grind
    have e2 : den * 2 ^ (real + 1).toNat * 2 ^ (-d).toNat = den * (2 ^ (real + 1).toNat * 2 ^ (-d).toNat) := by grind
    have e3 : den * (2 ^ j * (2 ^ d.toNat * 2 ^ (-(real + 1)).toNat)) = 2 ^ j * (den * 2 ^ d.toNat) * 2 ^ (-(real + 1)).toNat := by grind
    omega
  exact Nat.lt_of_mul_lt_mul_right h4

theorem fq_ge {num den : Nat} {real : Int} (hd : 0 < den) (h : Lg num den real) (j : Nat) (d : Int) (hj : j ≤ real - d) : 2 ^ j ≤ fq num den d := by
  unfold fq
  rw [Nat.le_div_iff_mul_le (Nat.mul_pos hd (pow_pos2 _))]
  have hlo := h.lo
  have k1 := Nat.mul_le_mul_right (2 ^ (-d).toNat) hlo
  have k2 : 2 ^ j * 2 ^ d.toNat * 2 ^ (-real).toNat ≤ 2 ^ real.toNat * 2 ^ (-d).toNat := by
    simp only [← Nat.pow_add]; exact pow_le (by omega)
  have k3 : 2 ^ j * (den * 2 ^ d.toNat) * 2 ^ (-real).toNat ≤ num * 2 ^ (-d).toNat * 2 ^ (-real).toNat := by
    have q1 : 2 ^ j * (den * 2 ^ d.toNat) * 2 ^ (-real).toNat = den * (2 ^ j * 2 ^ d.toNat * 2 ^ (-real).toNat) := by grind
    have q2 : den * (2 ^ j * 2 ^ d.toNat * 2 ^ (-real).toNat) ≤ den * (2 ^ real.toNat * 2 ^ (-d).toNat) := Nat.mul_le_mul_left _ k2
    have q3 : den * (2 ^ real.toNat * 2 ^ (-d).toNat) = den * 2 ^ real.toNat * 2 ^ (-d).toNat := by grind
    have q4 : num * 2 ^ (-real).toNat * 2 ^ (-d).toNat = num * 2 ^ (-d).toNat * 2 ^ (-real).toNat := by grind
    omega
  exact Nat.le_of_mul_le_mul_right k3 (pow_pos2 _)

theorem rn_bound {mode : BitVec 8} {neg : Bool} {n2 M : Nat} {s : Bool} (h : n2 < 2 ^ (M + 2)) : rn mode neg n2 s ≤ 2 ^ (M + 1) := by
  have := rn_le mode neg n2 s
  have : 2 ^ (M + 2) = 2 ^ (M + 1) * 2 := Nat.pow_succ _ _
  omega

/-- exact.RoundFlags rounds by the rule. -/
theorem F136_ok {N num den : Nat} (h : Fm e m) (hn : num ≠ 0) (hd : den ≠ 0) (bn : blen num ≤ 1000000) (bd : blen den ≤ 1000000) :
    ∃ real, Lg num den real ∧ F136 N e m mode neg num den = some (RS e m mode neg real (fq num den) (eq num den)) := by
  have h2 := h.e11
  have h4 := h.m52
  have hb := bia_le h.e11
  have hbp := bia_ge h.e2
  unfold F136
  simp only [lt]
  rw [h.ok]
  unfold F136_1
  rw [Bool.not_true, bf rfl]
  unfold F250 F250_2 F250_1
  rw [bt (lim_blen (by omega)), bf (by simpa using hd), bt (lim_blen (by omega))]
  simp only [Option.bind_some, F136_2, F136_3, lt]
  rw [bf (by simpa using hn), F246_ok h, F247_ok h, w64_id (by omega)]
  obtain ⟨r, real, hr, hl, hcase⟩ := F207_ok (N := N) (lo := 1 - (bia e.toNat : Int) - 1) (hi := bia e.toNat) hn hd bn bd (by omega) (by omega) (by omega)
  refine ⟨real, hl, ?_⟩
  rw [hr, RS_pk]
  simp only [Option.bind_some, F136_4, F136_5, lt]
  rw [F246_ok h, F247_ok h]
  unfold F136_6
  simp only [lt]
  have hemax : (bia e.toNat : Int) < max real (1 - bia e.toNat) ↔ (bia e.toNat : Int) < max r (1 - bia e.toNat) := by omega
  by_cases ho : (bia e.toNat : Int) < max real (1 - bia e.toNat)
  · rw [bt (by simpa using hemax.1 ho), if_pos ho]
  · have ho' : ¬ (bia e.toNat : Int) < max r (1 - bia e.toNat) := fun c => ho (hemax.2 c)
    rw [bf (by simpa using ho'), if_neg ho]
    have hmax : max r (1 - (bia e.toNat : Int)) = max real (1 - bia e.toNat) := by omega
    rw [hmax]
    generalize hex : max real (1 - (bia e.toNat : Int)) = ex at *
    have wm : w64 (m.toNat : Int) = m.toNat := w64_id (by omega)
    have wm2 : w64 ((m.toNat : Int) - ex) = m.toNat - ex := w64_id (by omega)
    rw [wm, wm2, F208_ok (by omega) (by omega) (by omega)]
    simp only [Option.bind_some, F136_7]
    have s1 := blen_shl num ((m.toNat : Int) - ex).toNat
    have s2 := blen_shl den (-((m.toNat : Int) - ex)).toNat
    have hdp : 0 < den := by omega
    rw [F245_ok (Nat.mul_pos hdp (pow_pos2 _)) (by omega) (by omega)]
    simp only [Option.bind_some, F136_8, F136_9, lt]
    rw [F246_ok h, w64_id (by omega)]
    have hf := fq_half (num := num) hdp ((m.toNat : Int) - ex)
    rw [show -((m.toNat : Int) - ex) - 1 = ex - m.toNat - 1 from by omega] at hf
    rw [← hf.1, ← hf.2]
    have hinex : ((num * 2 ^ ((m.toNat : Int) - ex).toNat % (den * 2 ^ (-((m.toNat : Int) - ex)).toNat)) != 0) = (decide (fq num den (ex - m.toNat - 1) % 2 = 1) || eq num den (ex - m.toNat - 1)) := by
      rw [hf.1, hf.2]
      have hb2 : 0 < den * 2 ^ (-((m.toNat : Int) - ex)).toNat := Nat.mul_pos hdp (pow_pos2 _)
      generalize den * 2 ^ (-((m.toNat : Int) - ex)).toNat = B at *
      generalize num * 2 ^ ((m.toNat : Int) - ex).toNat = A at *
      obtain ⟨g1, g2⟩ := half_div (a := A) hb2
      have g3 := Nat.mod_lt A hb2
      rw [g1, g2]
      generalize A % B = R at *
      by_cases hR : B ≤ 2 * R
      · have : R ≠ 0 := by omega
        simp [hR, this]
      · by_cases h0 : R = 0
        · subst h0; simp [hR]
        · have h3 : 2 * R ≠ 0 := by omega
          rw [if_neg hR, if_neg hR, decide_eq_true h3]; simpa using h0
    rw [hinex]
    have hrn : rn mode neg (fq num den (ex - m.toNat - 1)) (eq num den (ex - m.toNat - 1)) ≤ 2 ^ (m.toNat + 1) := rn_bound (fq_lt hdp hl _ _ (by omega))
    have hpl : 2 ^ (m.toNat + 1) ≤ 2 ^ 53 := pow_le (by omega)
    have hlim1 : lim (rn mode neg (fq num den (ex - m.toNat - 1)) (eq num den (ex - m.toNat - 1))) = true := lim_blen (by
      have := blen_mono hrn
      have h5 : blen (2 ^ (m.toNat + 1)) ≤ m.toNat + 2 := blen_le_iff.2 (pow_lt (by omega))
      omega)
    unfold F136_11
    by_cases hr1 : r = 1 - (bia e.toNat : Int) - 1
    · have hrr : r = real := by omega
      subst hrr
      rw [bt (by simpa using hr1), wm, w64_id (by omega), F208_ok (by omega) (by omega) (by omega)]
      simp only [Option.bind_some, F136_12]
      have s3 := blen_shl num ((m.toNat : Int) - r).toNat
      have s4 := blen_shl den (-((m.toNat : Int) - r)).toNat
      rw [F245_ok (Nat.mul_pos hdp (pow_pos2 _)) (by omega) (by omega)]
      simp only [Option.bind_some, F136_13, F136_10, lt]
      have hg := fq_half (num := num) hdp ((m.toNat : Int) - r)
      rw [show -((m.toNat : Int) - r) - 1 = r - m.toNat - 1 from by omega] at hg
      rw [← hg.1, ← hg.2]
      have hrn2 : rn mode neg (fq num den (r - m.toNat - 1)) (eq num den (r - m.toNat - 1)) ≤ 2 ^ (m.toNat + 1) := rn_bound (fq_lt hdp hl _ _ (by omega))
      have hlow : 2 ^ m.toNat ≤ rn mode neg (fq num den (r - m.toNat - 1)) (eq num den (r - m.toNat - 1)) := by
        -- the floor has M+1 bits
        have : 2 ^ (m.toNat + 1) ≤ fq num den (r - m.toNat - 1) := fq_ge hdp hl _ _ (by omega)
        rw [Nat.pow_succ] at this
        unfold rn
        omega
      have hlim2 : lim (rn mode neg (fq num den (r - m.toNat - 1)) (eq num den (r - m.toNat - 1))) = true := lim_blen (by
        have := blen_mono hrn2
        have h5 : blen (2 ^ (m.toNat + 1)) ≤ m.toNat + 2 := blen_le_iff.2 (pow_lt (by omega))
        omega)
      rw [bt hlim2, bt hlim1, F249_ok h (by omega) hrn]
      have htiny : ((blen (rn mode neg (fq num den (r - m.toNat - 1)) (eq num den (r - m.toNat - 1))) : Int) == w64 (w64 (m.toNat : Int) + 1)) = decide (r < 1 - bia e.toNat ∧ (r = 1 - bia e.toNat - 1 → rn mode neg (fq num den (r - m.toNat - 1)) (eq num den (r - m.toNat - 1)) < 2 ^ (m.toNat + 1))) := by
        rw [wm, w64_id (by omega)]
        generalize rn mode neg (fq num den (r - m.toNat - 1)) (eq num den (r - m.toNat - 1)) = n at *
        by_cases hlt : n < 2 ^ (m.toNat + 1)
        · have e1 : blen n = m.toNat + 1 := blen_unique hlow hlt
          rw [e1, decide_eq_true ⟨by omega, fun _ => hlt⟩]
          simp
        · have e1 : n = 2 ^ (m.toNat + 1) := by omega
          have e2 : blen n = m.toNat + 1 + 1 := blen_unique (by omega) (by rw [e1]; exact pow_lt (by omega))
          rw [e2, decide_eq_false (fun c => hlt (c.2 hr1))]
          simp; omega
      rw [htiny]
    · rw [bf (by simpa using hr1)]
      unfold F136_10
      simp only [lt]
      rw [bt hlim1, F249_ok h (by omega) hrn]
      have htiny : decide (r < 1 - (bia e.toNat : Int)) = decide (real < 1 - bia e.toNat ∧ (real = 1 - bia e.toNat - 1 → rn mode neg (fq num den (real - m.toNat - 1)) (eq num den (real - m.toNat - 1)) < 2 ^ (m.toNat + 1))) := by
        by_cases c : r < 1 - (bia e.toNat : Int)
        · rw [decide_eq_true c, decide_eq_true ⟨by omega, fun c2 => by omega⟩]
        · rw [decide_eq_false c, decide_eq_false fun c2 => by omega]
      rw [htiny]
end
end Go.Proofs.YfwaawGreat
