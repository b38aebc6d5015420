/-
  native.Sqrt32.
-/
import Derived.Test.YfwaawGreatJF
namespace Go.Proofs.YfwaawGreat
open Go.Aw
set_option linter.unusedVariables false
set_option linter.unusedSimpArgs false

section
variable {X Y V W N : Nat} {s t : Bool} {i : Int} {e m mode : BitVec 8} {f : Ieee.Format}
theorem sqrt_neg (k : Kd e m f) {mag : Nat} {place : Int} (h0 : mag ≠ 0) (h : f.read X = .number true mag place) : f.sqrt X = none := by
  unfold Ieee.Format.sqrt
  rw [h]
  have : Ieee.Datum.root (f.fractionBits + 2) (.number true mag place) = if mag = 0 then some (.number true mag place) else none := rfl
  rw [this, if_neg h0]; rfl
theorem sqrt_zero (k : Kd e m f) {s : Bool} {place : Int} (h : f.read X = .number s 0 place) : f.sqrt X = some (f.write (.number s 0 place)) := by
  unfold Ieee.Format.sqrt
  rw [h]; rfl
theorem sqrt_inf (k : Kd e m f) {s : Bool} (h : f.read X = .infinity s) : f.sqrt X = if s then none else some (f.write (.infinity s)) := by
  unfold Ieee.Format.sqrt
  rw [h]
  cases s <;> rfl
/-- The model's root of a positive number, by the rounding rule. -/
theorem root_RS (k : Kd e m f) {mag : Nat} {place : Int} (h0 : mag ≠ 0) (h : f.read X = .number false mag place) {num den : Nat} (hd : den ≠ 0) (hv : num * 2 ^ (-place).toNat = mag * 2 ^ place.toNat * den) :
    can e m (f.sqrt X) = (RS e m 0#8 false (lg num den / 2) (sq num den) (se num den)).1 := by
  unfold Ieee.Format.sqrt
  rw [h, k.mm]
  obtain ⟨m0, hm0⟩ : ∃ m0, m0 = 2 * (m.toNat + 2) - mag.log2 := ⟨_, rfl⟩
  obtain ⟨more, hmore⟩ : ∃ more, more = m0 + ((place - (m0 : Int)) % 2).toNat := ⟨_, rfl⟩
  have hR : Ieee.Datum.root (m.toNat + 2) (.number false mag place) = some (.number false (2 * isq (mag * 2 ^ more) + (decide (isq (mag * 2 ^ more) * isq (mag * 2 ^ more) ≠ mag * 2 ^ more)).toNat) ((place - (more : Int)) / 2 - 1)) := by
    have : Ieee.Datum.root (m.toNat + 2) (.number false mag place) = if mag = 0 then some (.number false mag place) else some (.number false (2 * Ieee.Datum.rootFrom (mag <<< (2 * (m.toNat + 2) - mag.log2 + ((place - ((2 * (m.toNat + 2) - mag.log2 : Nat) : Int)) % 2).toNat)) ((mag <<< (2 * (m.toNat + 2) - mag.log2 + ((place - ((2 * (m.toNat + 2) - mag.log2 : Nat) : Int)) % 2).toNat)).log2 / 2 + 1) 0 + (Ieee.Datum.rootFrom (mag <<< (2 * (m.toNat + 2) - mag.log2 + ((place - ((2 * (m.toNat + 2) - mag.log2 : Nat) : Int)) % 2).toNat)) ((mag <<< (2 * (m.toNat + 2) - mag.log2 + ((place - ((2 * (m.toNat + 2) - mag.log2 : Nat) : Int)) % 2).toNat)).log2 / 2 + 1) 0 * Ieee.Datum.rootFrom (mag <<< (2 * (m.toNat + 2) - mag.log2 + ((place - ((2 * (m.toNat + 2) - mag.log2 : Nat) : Int)) % 2).toNat)) ((mag <<< (2 * (m.toNat + 2) - mag.log2 + ((place - ((2 * (m.toNat + 2) - mag.log2 : Nat) : Int)) % 2).toNat)).log2 / 2 + 1) 0 != mag <<< (2 * (m.toNat + 2) - mag.log2 + ((place - ((2 * (m.toNat + 2) - mag.log2 : Nat) : Int)) % 2).toNat)).toNat) ((place - ((2 * (m.toNat + 2) - mag.log2 + ((place - ((2 * (m.toNat + 2) - mag.log2 : Nat) : Int)) % 2).toNat : Nat) : Int)) / 2 - 1)) := rfl
    rw [this, if_neg h0, ← hm0, ← hmore, Nat.shiftLeft_eq, root_isq (Nat.mul_ne_zero h0 (pne _))]
    have hb : (isq (mag * 2 ^ more) * isq (mag * 2 ^ more) != mag * 2 ^ more) = decide (isq (mag * 2 ^ more) * isq (mag * 2 ^ more) ≠ mag * 2 ^ more) := by
      rw [Bool.eq_iff_iff, bne_iff_ne, decide_eq_true_eq]
    rw [hb]
  rw [hR, Option.map_some]
  have hz : 2 * isq (mag * 2 ^ more) + (decide (isq (mag * 2 ^ more) * isq (mag * 2 ^ more) ≠ mag * 2 ^ more)).toNat ≠ 0 := by
    have h5 := isq_lt (mag * 2 ^ more)
    have h6 : mag * 2 ^ more ≠ 0 := Nat.mul_ne_zero h0 (pne _)
    intro g
    have g1 : isq (mag * 2 ^ more) = 0 := by omega
    rw [g1] at h5
    omega
  rw [can_num k ne_zero hz]
  exact (congrArg Prod.fst (RS_root (more := more) h0 hd hv (by omega) (by omega))).symm
/-- The root of a single, rounded to a double and then to a single. -/
theorem root_twice {mag : Nat} {place : Int} (h0 : mag ≠ 0) (hmag : mag < 16777216) (hp1 : -149 ≤ place) (hp2 : place ≤ 104) {num den : Nat} (hd : den ≠ 0) (hv : num * 2 ^ (-place).toNat = mag * 2 ^ place.toNat * den)
    {D : Nat} (hD : D = 1074) : ∃ Q, 0 < Q ∧ Q < 9218868437227405312 ∧ (RS 11#8 52#8 0#8 false (lg num den / 2) (sq num den) (se num den)).1.toNat = Q ∧ (RQ 8#8 23#8 0#8 false (uv 52 Q) (2 ^ D)).1 = (RS 8#8 23#8 0#8 false (lg num den / 2) (sq num den) (se num den)).1 ∧ blen (uv 52 Q) ≤ D + 66 := by
  obtain ⟨L, hL⟩ : ∃ L : Nat, L = 1100 := ⟨_, rfl⟩
  have hn : num ≠ 0 := by
    intro g
    rw [g, Nat.zero_mul] at hv
    exact Nat.mul_ne_zero (Nat.mul_ne_zero h0 (pne _)) hd hv.symm
  have hlg : lg num den = (blen mag : Int) - 1 + place := by
    refine ((Lg_pow h0 place).cross (pow_pos2 _) (by omega) ?_).eq hd
    rw [hv]
  have hbm : blen mag ≤ 24 := blen_le_iff.2 hmag
  have hbp := blen_pos h0
  obtain ⟨h, hh⟩ : ∃ h : Int, h = lg num den / 2 := ⟨_, rfl⟩
  obtain ⟨k, hk⟩ : ∃ k : Int, k = h - 60 := ⟨_, rfl⟩
  rw [← hh]
  -- the square below the root
  obtain ⟨j, hj⟩ : ∃ j : Nat, (j : Int) = place - 2 * k - 97 := ⟨(place - 2 * k - 97).toNat, by omega⟩
  have hfq : fq num den (2 * k) = 2 ^ 97 * (mag * 2 ^ j) ∧ eq num den (2 * k) = false := by
    have hb := bnd_fq0 (2 ^ 97 * (mag * 2 ^ j)) (2 * k)
    have hc := fq_cross (num := num) (den := den) (num' := 2 ^ 97 * (mag * 2 ^ j) * 2 ^ (2 * k).toNat) (den' := 2 ^ (-(2 * k)).toNat) (by omega) (pow_pos2 _) (by
      refine Nat.mul_right_cancel (pow_pos2 (-place).toNat) ?_
      have e1 : 2 ^ place.toNat * 2 ^ (-(2 * k)).toNat = 2 ^ 97 * 2 ^ j * 2 ^ (2 * k).toNat * 2 ^ (-place).toNat := by
        rw [← Nat.pow_add, ← Nat.pow_add, ← Nat.pow_add, ← Nat.pow_add]; exact congrArg (fun t => 2 ^ t) (by omega)
      generalize 2 ^ place.toNat = p1 at *
      generalize 2 ^ (-place).toNat = p2 at *
      generalize 2 ^ (-(2 * k)).toNat = p3 at *
      generalize 2 ^ (2 * k).toNat = p4 at *
      generalize 2 ^ j = p5 at *
      generalize 2 ^ 97 = p6 at *
      calc num * p3 * p2 = (num * p2) * p3 := by grind
        _ = mag * p1 * den * p3 := by rw [hv]
        _ = mag * den * (p1 * p3) := by grind
        _ = mag * den * (p6 * p5 * p4 * p2) := by rw [e1]
        _ = p6 * (mag * p5) * p4 * den * p2 := by grind) (2 * k)
    rw [hc.1, hc.2]
    exact hb
  obtain ⟨R, hR⟩ : ∃ R, R = sq num den k := ⟨_, rfl⟩
  have hRi : R = isq (2 ^ 97 * (mag * 2 ^ j)) := by rw [hR]; unfold sq; rw [hfq.1]
  have hR1 := isq_le (2 ^ 97 * (mag * 2 ^ j))
  have hR2 := isq_lt (2 ^ 97 * (mag * 2 ^ j))
  rw [← hRi] at hR1 hR2
  have g1 := sq_ge hn hd 60 k (by omega)
  have g2 := sq_lt hn hd 61 k (by omega)
  rw [← hR] at g1 g2
  have hRne : R ≠ 0 := by
    have : (2 : Nat) ^ 60 = 1152921504606846976 := rfl
    omega
  have hbl : blen R = 61 := by
    have a := blen_le_iff.2 g2
    have b := blen_ge g1
    omega
  obtain ⟨J, hJ⟩ : ∃ J, J = jm R (se num den k) := ⟨_, rfl⟩
  have hJor : J = R ∨ J = R + 1 := by
    rw [hJ]
    unfold jm
    cases se num den k
    · exact Or.inl rfl
    · rw [cond_true]; omega
  have hJne : J ≠ 0 := by rw [hJ]; exact jm_ne hRne
  have hst : ∀ (e m : BitVec 8), m.toNat ≤ 52 → RS e m 0#8 false h (sq num den) (se num den) = RQ e m 0#8 false (J * 2 ^ k.toNat) (2 ^ (-k).toNat) := by
    intro e m hm
    rw [RS_sticky (k := k) (by rw [← hR]; exact hRne) (by omega) (by rw [← hR, hbl]; omega) (fun j => sq_comp (by omega) k j), ← hR, ← hJ]
  have hblJ : blen J = 61 := by rw [hJ, blen_jm hRne]; exact hbl
  rw [hst 11#8 52#8 (by decide), hst 8#8 23#8 (by decide)]
  have hJn : J * 2 ^ k.toNat ≠ 0 := Nat.mul_ne_zero hJne (pne _)
  have hJhi : J < 2 ^ 61 := by have := blen_lt J; rw [hblJ] at this; exact this
  have hJlo : 2 ^ 60 ≤ J := by have := blen_le hJne; rw [hblJ] at this; exact this
  -- the double
  have hhi := UP_hi kd64.fm hJn (pne (-k).toNat)
  rw [lg_pow hJne, hblJ, show bia (11#8).toNat = 1023 by decide, show 2 ^ ((52#8).toNat + 1) = 2 * 4503599627370496 by decide, show 2 ^ (52#8).toNat = 4503599627370496 by decide] at hhi
  have hmx : (max (((61 : Nat) : Int) - 1 + k) (1 - ((1023 : Nat) : Int)) - (1 - ((1023 : Nat) : Int))).toNat ≤ 1085 := by omega
  have hmul := Nat.mul_le_mul_right 4503599627370496 hmx
  have hrq := RQ_ne (neg := false) kd64.fm ne_zero hJn (pne (-k).toNat)
  rw [inf64v, show sgn (11#8).toNat (52#8).toNat false = 0 from rfl, Nat.add_zero, Nat.min_eq_left (by omega)] at hrq
  obtain ⟨Q, hQ⟩ : ∃ Q, Q = UP 11#8 52#8 (J * 2 ^ k.toNat) (2 ^ (-k).toNat) := ⟨_, rfl⟩
  rw [← hQ] at hrq hhi
  obtain ⟨ex, sig, p1, p2, p3⟩ := rung_parts 52 Q
  obtain ⟨a, ha⟩ : ∃ a : Int, a = ex - ((1023 : Nat) : Int) - (52 : Nat) - 1 := ⟨_, rfl⟩
  have hlgk : -135 ≤ k ∧ k ≤ 4 := by omega
  have hexb : ex ≤ 1087 := by
    rw [show (2 : Nat) ^ 52 = 4503599627370496 from rfl] at p1
    omega
  -- the ends of the double
  have hin : ∀ hp : 1 ≤ sig, ((4 * sig - bel 52 ex sig) * 2 ^ a.toNat * 2 ^ (-k).toNat ≤ J * 2 ^ k.toNat * 2 ^ (-a).toNat) ∧ (J * 2 ^ k.toNat * 2 ^ (-a).toNat ≤ (4 * sig + 2) * 2 ^ a.toNat * 2 ^ (-k).toNat) := by
    intro hp
    have hr := reads (neg := false) kd64.fm (sig := sig) (ex := ex) p2 p3 hp (by
      have : ex * 2 ^ (52#8).toNat + sig = Q := p1.symm
      rw [this, inf64v]; omega) (a := a) (by rw [ha, show bia (11#8).toNat = 1023 by decide]; rfl) hJn (pne (-k).toNat)
    have hr2 := hr.1 (by rw [hrq, show sgn (11#8).toNat (52#8).toNat false = 0 from rfl, Nat.add_zero]; exact p1)
    constructor
    · rcases hr2.1 with q | q
      · exact Nat.le_of_lt q
      · exact Nat.le_of_eq q.1
    · rcases hr2.2 with q | q
      · exact Nat.le_of_lt q
      · exact Nat.le_of_eq q.1.symm
  have hQlow : 2 ^ 52 ≤ sig := by
    rcases p3 with z | z
    · -- a subnormal double is far too small
      exfalso
      have hsb : sig < 2 ^ 53 := p2
      rcases Nat.eq_zero_or_pos sig with y | y
      · have hQ0 : Q = 0 := by rw [p1, z, y, Nat.zero_mul]
        have hl := UP_lo kd64.fm hJn (pne (-k).toNat) (by rw [lg_pow hJne, hblJ, show bia (11#8).toNat = 1023 by decide]; omega)
        rw [← hQ, hQ0] at hl
        have := pow_pos2 (52#8).toNat
        omega
      · have h4 := (hin y).2
        rw [zle (L := L) (by omega) (by omega)] at h4
        have h5 : 2 ^ 60 * 2 ^ (k + L).toNat ≤ J * 2 ^ (k + L).toNat := Nat.mul_le_mul_right _ hJlo
        have h6 : (4 * sig + 2) * 2 ^ (a + L).toNat ≤ 2 ^ 56 * 2 ^ (a + L).toNat := Nat.mul_le_mul_right _ (by
          rw [show (2 : Nat) ^ 53 = 9007199254740992 from rfl] at hsb
          rw [show (2 : Nat) ^ 56 = 72057594037927936 from rfl]; omega)
        have h7 := Nat.le_trans (Nat.le_trans h5 h4) h6
        rw [← Nat.pow_add, ← Nat.pow_add] at h7
        have h8 := (Nat.pow_le_pow_iff_right (show 1 < 2 by decide)).1 h7
        omega
    · exact z
  have hQpos : 0 < Q := by
    rw [p1]
    have := pow_pos2 52
    omega
  have p52 : (2 : Nat) ^ 52 = 4503599627370496 := rfl
  have p53 : (2 : Nat) ^ (52 + 1) = 9007199254740992 := rfl
  rw [p52] at hQlow
  rw [p53] at p2
  obtain ⟨hlo, hhi2⟩ := hin (by omega)
  rw [zle (L := L) (by omega) (by omega)] at hlo hhi2
  obtain ⟨K, hK⟩ : ∃ K, K = (k + L).toNat := ⟨_, rfl⟩
  obtain ⟨A, hA⟩ : ∃ A, A = (a + L).toNat := ⟨_, rfl⟩
  have hbelv : bel 52 ex sig = 1 ∨ bel 52 ex sig = 2 := by unfold bel; split <;> omega
  have hAK : A ≤ K + 7 := by
    have h5 : 2 ^ 53 * 2 ^ A ≤ (4 * sig - bel 52 ex sig) * 2 ^ A := Nat.mul_le_mul_right _ (by
      rw [show (2 : Nat) ^ 53 = 9007199254740992 from rfl]; omega)
    have h6 : J * 2 ^ K < 2 ^ 61 * 2 ^ K := Nat.mul_lt_mul_of_pos_right hJhi (pow_pos2 _)
    rw [← hA, ← hK] at hlo
    have h7 := Nat.lt_of_le_of_lt (Nat.le_trans h5 hlo) h6
    rw [← Nat.pow_add, ← Nat.pow_add] at h7
    have h8 := (Nat.pow_lt_pow_iff_right (show 1 < 2 by decide)).1 h7
    omega
  have huvQ : uv 52 Q = sig * 2 ^ ex := by
    rw [p1, p52, uv_norm hQlow (by omega)]
  -- both ends round alike
  have hlone : (4 * sig - bel 52 ex sig) * 2 ^ a.toNat ≠ 0 := Nat.mul_ne_zero (by omega) (pne _)
  have hhine : (4 * sig + 2) * 2 ^ a.toNat ≠ 0 := Nat.mul_ne_zero (by omega) (pne _)
  have hends : UP 8#8 23#8 ((4 * sig - bel 52 ex sig) * 2 ^ a.toNat) (2 ^ (-a).toNat) = UP 8#8 23#8 ((4 * sig + 2) * 2 ^ a.toNat) (2 ^ (-a).toNat) := by
    refine UP_gap kd32.fm hlone (pne _) hhine (pne _) (Nat.mul_le_mul_right _ (Nat.mul_le_mul_right _ (by omega))) ?_
    intro sg ex' q1 q2 t ht b1 b2
    have ht2 : t = (ex' : Int) - 127 - 23 := by rw [ht, show bia (8#8).toNat = 127 by decide]; rfl
    have b1' : (4 * sig - bel 52 ex sig) * 2 ^ a.toNat * 2 ^ (-t).toNat ≤ (2 * sg + 1) * 2 ^ t.toNat * 2 ^ (-a).toNat := b1
    have b2' : (2 * sg + 1) * 2 ^ t.toNat * 2 ^ (-a).toNat ≤ (4 * sig + 2) * 2 ^ a.toNat * 2 ^ (-t).toNat := b2
    rw [zle (L := L) (by omega) (by omega)] at b1' b2'
    obtain ⟨T, hT⟩ : ∃ T, T = (t + L).toNat := ⟨_, rfl⟩
    rw [← hA, ← hT] at b1' b2'
    rw [← hA, ← hK] at hlo hhi2
    have hsgb : sg < 16777216 := q1
    -- one unit of the double
    have hunit : 4 * 2 ^ A ≤ 512 * 2 ^ K := by
      have : 2 ^ A ≤ 2 ^ (K + 7) := pow_le hAK
      rw [Nat.pow_add, show (2 : Nat) ^ 7 = 128 from rfl] at this
      omega
    have hspan : (4 * sig + 2) * 2 ^ A ≤ (4 * sig - bel 52 ex sig) * 2 ^ A + 4 * 2 ^ A := by
      rw [← Nat.add_mul]; exact Nat.mul_le_mul_right _ (by omega)
    have hb1 : (2 * sg + 1) * 2 ^ T ≤ J * 2 ^ K + 512 * 2 ^ K := by omega
    have hb2 : J * 2 ^ K ≤ (2 * sg + 1) * 2 ^ T + 512 * 2 ^ K := by omega
    have hTK : K + 34 ≤ T := by
      have h5 : 2 ^ 59 * 2 ^ K ≤ (2 * sg + 1) * 2 ^ T := by
        have h6 : (2 ^ 59 + 512) * 2 ^ K ≤ J * 2 ^ K := Nat.mul_le_mul_right _ (by
          rw [show (2 : Nat) ^ 60 = 1152921504606846976 from rfl] at hJlo
          rw [show (2 : Nat) ^ 59 = 576460752303423488 from rfl]; omega)
        rw [Nat.add_mul] at h6
        omega
      have h7 : (2 * sg + 1) * 2 ^ T < 2 ^ 25 * 2 ^ T := Nat.mul_lt_mul_of_pos_right (by rw [show (2 : Nat) ^ 25 = 33554432 from rfl]; omega) (pow_pos2 _)
      have h8 := Nat.lt_of_le_of_lt h5 h7
      rw [← Nat.pow_add, ← Nat.pow_add] at h8
      have h9 := (Nat.pow_lt_pow_iff_right (show 1 < 2 by decide)).1 h8
      omega
    have hsg2 : 8388608 ≤ sg := by
      rcases q2 with z | z
      · exfalso; omega
      · exact z
    obtain ⟨w, hw⟩ : ∃ w, T = w + K := ⟨T - K, by omega⟩
    rw [hw, Nat.pow_add, ← Nat.mul_assoc, ← Nat.add_mul] at hb1
    rw [hw, Nat.pow_add, ← Nat.mul_assoc, ← Nat.add_mul] at hb2
    exact no_mid hR1 hR2 hJor hJlo (by omega) rfl hsgb hsg2 (Nat.le_of_mul_le_mul_right hb1 (pow_pos2 K)) (Nat.le_of_mul_le_mul_right hb2 (pow_pos2 K))
  have hrqe : (RQ 8#8 23#8 0#8 false ((4 * sig - bel 52 ex sig) * 2 ^ a.toNat) (2 ^ (-a).toNat)).1 = (RQ 8#8 23#8 0#8 false ((4 * sig + 2) * 2 ^ a.toNat) (2 ^ (-a).toNat)).1 := by
    refine BitVec.eq_of_toNat_eq ?_
    rw [RQ_ne kd32.fm ne_zero hlone (pne _), RQ_ne kd32.fm ne_zero hhine (pne _), hends]
  have hVne : uv 52 Q ≠ 0 := by have := uv_pos (M := 52) hQpos; omega
  refine ⟨Q, hQpos, by omega, hrq, ?_, ?_⟩
  · have h1 := RQ_between kd32.fm hlone (pne _) hhine (pne _) hJn (pne (-k).toNat) ((zle (L := L) (by omega) (by omega)).2 hlo) ((zle (L := L) (by omega) (by omega)).2 hhi2) hrqe
    have h2 := RQ_between kd32.fm (num := uv 52 Q) (den := 2 ^ D) hlone (pne _) hhine (pne _) hVne (pne D) (by
      rw [huvQ]
      have e1 : (4 * sig - bel 52 ex sig) * 2 ^ a.toNat * 2 ^ D ≤ 4 * sig * 2 ^ a.toNat * 2 ^ D := Nat.mul_le_mul_right _ (Nat.mul_le_mul_right _ (by omega))
      refine Nat.le_trans e1 (Nat.le_of_eq ?_)
      rw [show (4 : Nat) = 2 ^ 2 from rfl, Nat.mul_comm (2 ^ 2)]
      simp only [Nat.mul_assoc, ← Nat.pow_add]
      exact congrArg (fun z => sig * 2 ^ z) (by omega)) (by
      rw [huvQ]
      have e1 : 4 * sig * 2 ^ a.toNat * 2 ^ D ≤ (4 * sig + 2) * 2 ^ a.toNat * 2 ^ D := Nat.mul_le_mul_right _ (Nat.mul_le_mul_right _ (by omega))
      refine Nat.le_trans (Nat.le_of_eq ?_) e1
      rw [show (4 : Nat) = 2 ^ 2 from rfl, Nat.mul_comm (2 ^ 2)]
      simp only [Nat.mul_assoc, ← Nat.pow_add]
      exact congrArg (fun z => sig * 2 ^ z) (by omega)) hrqe
    rw [h1, h2]
  · rw [huvQ, blen_pow _ (by omega)]
    have : blen sig ≤ 53 := blen_le_iff.2 (by rw [show (2 : Nat) ^ 53 = 9007199254740992 from rfl]; exact p2)
    have hA2 : (A : Int) = a + L := by omega
    have hK2 : (K : Int) = k + L := by omega
    omega
end
end Go.Proofs.YfwaawGreat
