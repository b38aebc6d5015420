/-
  native: conversions between the two formats.
-/
import Derived.Test.YfwaawGreatIC
import Derived.Test.YfwaawGreatK3
namespace Go.Proofs.YfwaawGreat
open Go.Aw
set_option linter.unusedVariables false
set_option linter.unusedSimpArgs false

section
variable {e m e' m' mode : BitVec 8} {f f' : Ieee.Format} {neg na nb : Bool} {x : BitVec 64} {N : Nat}
/-- A word of f as a word of g. -/
def cv (f g : Ieee.Format) (X : Nat) : Option Nat := match f.read X with
  | .nan _ _ => none
  | .infinity s => some (g.write (.infinity s))
  | .number s n p => some (g.write (.number s n p))
theorem cv_nan {X : Nat} {s : Bool} {t : Nat} (h : f.read X = .nan s t) : cv f f' X = none := by unfold cv; rw [h]
theorem cv_inf {X : Nat} {s : Bool} (h : f.read X = .infinity s) : cv f f' X = some (f'.write (.infinity s)) := by unfold cv; rw [h]
theorem cv_num {X : Nat} {s : Bool} {n : Nat} {p : Int} (h : f.read X = .number s n p) : cv f f' X = some (f'.write (.number s n p)) := by unfold cv; rw [h]
/-- exact.Convert. -/
theorem nconv (k : Kd e m f) (k' : Kd e' m' f') (hm : NE mode) (a : BitVec 64) : ∃ z, F114 N e m e' m' mode a = some z ∧ z.1 = can e' m' (cv f f' (wd e m a)) := by
  unfold F114 F114_1
  simp only [lt]
  rw [k.fm.ok, k'.fm.ok, Bool.not_true, Bool.or_self, bf rfl]
  obtain ⟨na, ca, ba, ga, va, an, ad, ha', alta⟩ := k.opd a
  rw [ha']
  simp only [Option.bind_some, F114_2, F114_3, F114_4, lt]
  rcases alta with ⟨a4, a3, a0, s, t, ra⟩ | ⟨a4, a3, a0, rfl, rfl, ra⟩ | ⟨rfl, rfl, mag, place, ra, A⟩
  · rw [a4, cv_nan ra]
    exact ⟨_, rfl, rfl⟩
  · rw [a4, a3, cv_inf ra, can_inf k']
    exact ⟨_, rfl, rfl⟩
  · rw [A.c4, A.c3, bf rfl, bf rfl, cv_num ra]
    have n1 := A.bn
    have d1 := A.bd
    have hd : ad ≠ 0 := by have := A.d0; omega
    by_cases c : mag = 0
    · rw [A.n0.2 c, F136_zero k'.fm hd (by omega), c]
      exact ⟨_, rfl, (can_zero k' _).symm⟩
    · have hn : an ≠ 0 := fun g => c (A.n0.1 g)
      rw [F136_RQ k'.fm hn hd (by omega) (by omega)]
      refine ⟨_, rfl, ?_⟩
      rw [can_num k' hm c]
      exact congrArg Prod.fst (RQ_cross hn hd (pne _) A.v)
/-- Whether a number is past the format's range. -/
theorem inf_iff (k : Kd e m f) {s : Bool} {mag : Nat} (h0 : mag ≠ 0) (p : Int) : (f.read (f.write (.number s mag p))).isInfinity = decide (infP e.toNat m.toNat ≤ UP e m (mag * 2 ^ p.toNat) (2 ^ (-p).toNat)) := by
  have hn : mag * 2 ^ p.toNat ≠ 0 := Nat.mul_ne_zero h0 (pne _)
  have hw : f.write (.number s mag p) = min (UP e m (mag * 2 ^ p.toNat) (2 ^ (-p).toNat)) (infP e.toNat m.toNat) + sgn e.toNat m.toNat s := by
    show f.nearest s mag p = _
    rw [k.near ne_zero h0, RQ_ne k.fm ne_zero hn (pne _)]
  have hi := infP_lt' e.toNat m.toNat
  have hip := infP_pos k.fm
  have hpm := pow_pos2 m.toNat
  rw [hw]
  generalize UP e m (mag * 2 ^ p.toNat) (2 ^ (-p).toNat) = u
  by_cases c : infP e.toNat m.toNat ≤ u
  · rw [Nat.min_eq_right c, k.rinf, decide_eq_true c]; rfl
  · rw [Nat.min_eq_left (by omega), k.read (by omega), decide_eq_false c]
    split
    · rfl
    · rw [if_pos (by omega)]; rfl
theorem zero_fin (k : Kd e m f) (s : Bool) (p : Int) : (f.read (f.write (.number s 0 p))).isInfinity = false := by
  have hw : f.write (.number s 0 p) = sgn e.toNat m.toNat s := by
    show f.nearest s 0 p = _
    unfold Ieee.Format.nearest
    rw [if_pos rfl, k.word, Nat.zero_add]
  rw [hw, k.rzero]; rfl
theorem fcOk_some (s d : FloatKind) (X : Nat) : fcOk s d (some X) = if s = d then true else match s.format.read X with | .nan _ _ => true | .infinity _ => true | .number g n p => !(d.format.read (d.format.write (.number g n p))).isInfinity := rfl
theorem fcVal_eq {s d : FloatKind} (h : s ≠ d) {X : Nat} (hok : fcOk s d (some X) = true) : fcVal s d (some X) = cv s.format d.format X := by
  rw [fcOk_some, if_neg h] at hok
  unfold fcVal cv
  show floatToFloatBits s X d = _
  unfold floatToFloatBits
  rw [if_neg h]
  unfold FloatKind.decode FloatKind.encode at *
  cases hr : s.format.read X with
  | nan => rfl
  | infinity => rfl
  | number g n p =>
    rw [hr] at hok
    simp only [] at hok ⊢
    rw [Bool.not_eq_true'] at hok
    rw [hok]; rfl
theorem put_cv (k' : Kd e' m' f') (X : Nat) : put e' m' f' (cv f f' X) = can e' m' (cv f f' X) := by
  cases hr : f.read X with
  | nan => rw [cv_nan hr]; rfl
  | infinity s => rw [cv_inf hr]; exact put_write k' (o := some (.infinity s)) fun d h => by cases h; rfl
  | number s n p => rw [cv_num hr]; exact put_num k' s n p
theorem ok3264 (y : BitVec 32) : fcOk .f32 .f64 (some y.toNat) = true := by
  rw [fcOk_some, if_neg (by decide)]
  show (match Ieee.single.read y.toNat with | .nan _ _ => true | .infinity _ => true | .number s n p => !(Ieee.double.read (Ieee.double.write (.number s n p))).isInfinity) = true
  have hy : wd 8#8 23#8 (BitVec.ofNat 64 y.toNat) = y.toNat := by
    unfold wd
    rw [BitVec.toNat_and, F69_ok kd32.fm, Nat.and_two_pow_sub_one_eq_mod, BitVec.toNat_ofNat]
    have := y.isLt
    show y.toNat % 2 ^ 64 % 2 ^ 32 = y.toNat
    omega
  have ho := kd32.opn (BitVec.ofNat 64 y.toNat)
  rw [hy] at ho
  rcases ho with ⟨ng, s, t, h1, _⟩ | ⟨s, h1, _⟩ | ⟨s, h1, _⟩ | ⟨s, c, ex, man, P, mag, place, h1, h2, h3⟩
  · rw [h1]
  · rw [h1]
  · rw [h1]
    show (!(Ieee.double.read (Ieee.double.write (.number s 0 _))).isInfinity) = true
    rw [zero_fin kd64]; rfl
  · rw [h1]
    show (!(Ieee.double.read (Ieee.double.write (.number s mag place))).isInfinity) = true
    rw [inf_iff kd64 h3.m0, Bool.not_eq_true', decide_eq_false_iff_not]
    have hu := UP_hi kd64.fm (Nat.mul_ne_zero h3.m0 (pne place.toNat)) (pne (-place).toNat)
    rw [lg_pow h3.m0] at hu
    have hb : blen mag ≤ 24 := blen_le_iff.2 h3.hi
    have hph := h3.ph
    have hpl := h3.pl
    have e1 : bia (8#8).toNat = 127 := by decide
    have e2 : bia (11#8).toNat = 1023 := by decide
    rw [e1] at hph
    rw [e2] at hu
    have hm23 : ((23#8).toNat : Int) = 23 := rfl
    have hk : (max ((blen mag : Int) - 1 + place) (1 - ((1023 : Nat) : Int)) - (1 - ((1023 : Nat) : Int))).toNat ≤ 1149 := by omega
    have hl : infP (11#8).toNat (52#8).toNat = 2047 * 2 ^ (52#8).toNat := by decide
    have hmul := Nat.mul_le_mul_right (2 ^ (52#8).toNat) hk
    have hs : 2 ^ ((52#8).toNat + 1) = 2 * 2 ^ (52#8).toNat := by decide
    have hp := pow_pos2 (52#8).toNat
    rw [hs] at hu
    rw [hl]
    generalize 2 ^ (52#8).toNat = p at *
    omega
/-- A single as a double. -/
theorem F346_ok (y : BitVec 32) : F346 N y = some (can 11#8 52#8 (cv Ieee.single Ieee.double y.toNat)) := by
  unfold F346 F386
  simp only [lt]
  have hok := ok3264 y
  rw [hok, bt rfl, F385_ok, fcVal_eq (by decide) hok, ← put_cv kd64]
  rfl
theorem cT1 : Ieee.double.read 5183643170835005440 = .number false 9007198986305536 75 := by decide +kernel
theorem cT2 : Ieee.double.read 14407015207689781248 = .number true 9007198986305536 75 := by decide +kernel
/-- A number is past single's range from the midpoint on. -/
theorem big32 {mag : Nat} (h0 : mag ≠ 0) {p : Int} {L : Nat} (hL : -(L : Int) ≤ p) : infP (8#8).toNat (23#8).toNat ≤ UP 8#8 23#8 (mag * 2 ^ p.toNat) (2 ^ (-p).toNat) ↔ 9007198986305536 * 2 ^ ((75 : Int) + L).toNat ≤ mag * 2 ^ (p + L).toNat := by
  have hr := rb kd32.fm (sig := 16777215) (ex := 253) (by decide) (Or.inr (by decide)) (t := 103) (by decide) (Nat.mul_ne_zero h0 (pne p.toNat)) (pne (-p).toNat)
  have hi : infP (8#8).toNat (23#8).toNat = 253 * 2 ^ (23#8).toNat + 16777215 + 1 := by decide
  rw [hi, hr]
  have e1 : (103 : Int).toNat = 103 := rfl
  have e2 : (-(103 : Int)).toNat = 0 := rfl
  rw [e1, e2, Nat.pow_zero, Nat.mul_one]
  have e3 : (2 * 16777215 + 1) * 2 ^ 103 = 9007198986305536 * 2 ^ 75 := by decide +kernel
  rw [e3]
  have e4 : 9007198986305536 * 2 ^ ((75 : Int) + L).toNat = 9007198986305536 * 2 ^ 75 * 2 ^ L := by
    rw [show ((75 : Int) + L).toNat = 75 + L by omega, Nat.pow_add, Nat.mul_assoc]
  have e5 : mag * 2 ^ (p + L).toNat * 2 ^ (-p).toNat = mag * 2 ^ p.toNat * 2 ^ L := by
    rw [Nat.mul_assoc, Nat.mul_assoc, ← Nat.pow_add, ← Nat.pow_add]; exact congrArg (fun t => mag * 2 ^ t) (by omega)
  rw [e4]
  have hq := pow_pos2 (-p).toNat
  have hl := pow_pos2 L
  generalize 9007198986305536 * 2 ^ 75 = T at *
  generalize mag * 2 ^ p.toNat = V at *
  generalize mag * 2 ^ (p + L).toNat = W at *
  generalize 2 ^ (-p).toNat = q at *
  generalize 2 ^ L = l at *
  constructor
  · intro h
    have h1 : T * q ≤ V := by omega
    have h2 := Nat.mul_le_mul_right l h1
    rw [← e5, Nat.mul_right_comm] at h2
    exact Nat.le_of_mul_le_mul_right h2 hq
  · intro h
    have h2 := Nat.mul_le_mul_right q h
    rw [e5, Nat.mul_right_comm] at h2
    have h3 := Nat.le_of_mul_le_mul_right h2 hl
    rcases Nat.eq_or_lt_of_le h3 with g | g
    · exact Or.inr ⟨g, by decide⟩
    · exact Or.inl g
theorem inf32f : F67 8#8 23#8 false = 2139095040#64 := by decide
theorem inf32t : F67 8#8 23#8 true = 4286578688#64 := by decide
theorem y32 {y : BitVec 32} {z : BitVec 64} (h : y.toNat = z.toNat) : BitVec.ofInt 64 (y.toNat : Int) = z ∧ y.toNat = wd 8#8 23#8 z := by
  have hy := y.isLt
  constructor
  · refine BitVec.eq_of_toNat_eq ?_
    rw [ofInt_nat, BitVec.toNat_ofNat, h]
    exact Nat.mod_eq_of_lt z.isLt
  · unfold wd
    rw [BitVec.toNat_and, F69_ok kd32.fm, Nat.and_two_pow_sub_one_eq_mod, ← h]
    exact (Nat.mod_eq_of_lt hy).symm
theorem cv_lt {X r : Nat} (h : cv f Ieee.single X = some r) : r < 4294967296 := by
  unfold cv at h
  split at h
  · cases h
  · cases h; exact Ieee.Format.write_lt Ieee.single _
  · cases h; exact Ieee.Format.write_lt Ieee.single _
/-- A double rounded to a single. -/
theorem F347_ok (a : BitVec 64) : ∃ y, F347 N a = some y ∧ BitVec.ofInt 64 (y.toNat : Int) = can 8#8 23#8 (cv Ieee.double Ieee.single (wd 11#8 52#8 a)) ∧ y.toNat = wd 8#8 23#8 (can 8#8 23#8 (cv Ieee.double Ieee.single (wd 11#8 52#8 a))) := by
  obtain ⟨L, hL⟩ : ∃ L : Nat, L = 1200 := ⟨_, rfl⟩
  unfold F347 F347_1 F347_2 F347_3 F384
  simp only [lt]
  have hneg : fneg .f64 (some (5183643170835005440#64).toNat) = some 14407015207689781248 := by decide +kernel
  rw [hneg, ← wd64 a]
  have hge : fcmp .geq .f64 (some (wd 11#8 52#8 a)) (some (5183643170835005440#64).toNat) = (Ieee.double.order (wd 11#8 52#8 a) 5183643170835005440 == some .gt || Ieee.double.order (wd 11#8 52#8 a) 5183643170835005440 == some .eq) := rfl
  have hle : fcmp .leq .f64 (some (wd 11#8 52#8 a)) (some 14407015207689781248) = (Ieee.double.order (wd 11#8 52#8 a) 14407015207689781248 == some .lt || Ieee.double.order (wd 11#8 52#8 a) 14407015207689781248 == some .eq) := rfl
  rw [hge, hle]
  have fin : fcOk .f64 .f32 (some (wd 11#8 52#8 a)) = true → ∃ y, (bif fcOk .f64 .f32 (some (wd 11#8 52#8 a)) then (F387 N (fcVal .f64 .f32 (some (wd 11#8 52#8 a)))).bind fun y4 => some y4 else none) = some y ∧ BitVec.ofInt 64 (y.toNat : Int) = can 8#8 23#8 (cv Ieee.double Ieee.single (wd 11#8 52#8 a)) ∧ y.toNat = wd 8#8 23#8 (can 8#8 23#8 (cv Ieee.double Ieee.single (wd 11#8 52#8 a))) := by
    intro hok
    rw [hok, bt rfl, fcVal_eq (by decide) hok]
    obtain ⟨y, y1, y2, y3⟩ := F387_ok (N := N) (cv Ieee.double Ieee.single (wd 11#8 52#8 a)) (fun r hr => cv_lt hr)
    rw [put_cv kd32] at y2 y3
    exact ⟨y, by rw [show FloatKind.f64.format = Ieee.double from rfl, show FloatKind.f32.format = Ieee.single from rfl, y1]; rfl, y2, y3⟩
  have hfc : ∀ o, fcOk .f64 .f32 (some (wd 11#8 52#8 a)) = o → o = (match Ieee.double.read (wd 11#8 52#8 a) with | .nan _ _ => true | .infinity _ => true | .number s n p => !(Ieee.single.read (Ieee.single.write (.number s n p))).isInfinity) := by
    intro o ho
    rw [← ho, fcOk_some, if_neg (by decide)]
    rfl
  have hcok := hfc _ rfl
  rcases kd64.opd a with ⟨na, ca, ba, ga, va, an, ad, ha', alta⟩
  rcases alta with ⟨a4, a3, a0, s, t, ra⟩ | ⟨a4, a3, a0, rfl, rfl, ra⟩ | ⟨rfl, rfl, mag, place, ra, A⟩
  · rw [ord_nanl ⟨s, t, ra⟩, ord_nanl ⟨s, t, ra⟩]
    exact fin (by rw [hcok, ra])
  · have o1 : Ieee.double.order (wd 11#8 52#8 a) 5183643170835005440 = some (if na then .lt else .gt) := by
      unfold Ieee.Format.order; rw [ra, cT1]; rfl
    have o2 : Ieee.double.order (wd 11#8 52#8 a) 14407015207689781248 = some (if na then .lt else .gt) := by
      unfold Ieee.Format.order; rw [ra, cT2]; rfl
    rw [o1, o2, cv_inf ra, can_inf kd32]
    cases na
    · refine ⟨_, rfl, ?_⟩
      rw [inf32f]; exact y32 rfl
    · refine ⟨_, rfl, ?_⟩
      rw [inf32t]; exact y32 rfl
  · have hpl := A.pl
    have o1 : Ieee.double.order (wd 11#8 52#8 a) 5183643170835005440 = some (compare (sg na (mag * 2 ^ (place + L).toNat)) (sg false (9007198986305536 * 2 ^ ((75 : Int) + L).toNat))) := by
      unfold Ieee.Format.order; rw [ra, cT1]; exact ord_num (by omega) (by omega)
    have o2 : Ieee.double.order (wd 11#8 52#8 a) 14407015207689781248 = some (compare (sg na (mag * 2 ^ (place + L).toNat)) (sg true (9007198986305536 * 2 ^ ((75 : Int) + L).toNat))) := by
      unfold Ieee.Format.order; rw [ra, cT2]; exact ord_num (by omega) (by omega)
    rw [o1, o2, cmpI, cmpI]
    have st : ∀ n : Nat, sg true n = -(n : Int) := fun n => rfl
    have sf : ∀ n : Nat, sg false n = (n : Int) := fun n => rfl
    have hTp : 0 < 9007198986305536 * 2 ^ ((75 : Int) + L).toNat := Nat.mul_pos (by decide) (pow_pos2 _)
    have hok : mag * 2 ^ (place + L).toNat < 9007198986305536 * 2 ^ ((75 : Int) + L).toNat → fcOk .f64 .f32 (some (wd 11#8 52#8 a)) = true := by
      intro hlt
      rw [hcok, ra]
      show (!(Ieee.single.read (Ieee.single.write (.number na mag place))).isInfinity) = true
      by_cases c : mag = 0
      · rw [c, zero_fin kd32]; rfl
      · rw [inf_iff kd32 c, Bool.not_eq_true', decide_eq_false_iff_not, big32 c (L := L) (by omega)]
        omega
    have hinf : 9007198986305536 * 2 ^ ((75 : Int) + L).toNat ≤ mag * 2 ^ (place + L).toNat → can 8#8 23#8 (cv Ieee.double Ieee.single (wd 11#8 52#8 a)) = F67 8#8 23#8 na := by
      intro hge
      have c : mag ≠ 0 := by
        intro c
        rw [c, Nat.zero_mul] at hge
        omega
      rw [cv_num ra, can_num kd32 ne_zero c]
      refine BitVec.eq_of_toNat_eq ?_
      rw [RQ_ne kd32.fm ne_zero (Nat.mul_ne_zero c (pne _)) (pne _), Nat.min_eq_right ((big32 c (L := L) (by omega)).2 hge), F67_ok kd32.fm]
    generalize mag * 2 ^ (place + L).toNat = V at *
    generalize 9007198986305536 * 2 ^ ((75 : Int) + L).toNat = T at *
    by_cases c : V < T
    · have g := fin (hok c)
      cases na
      · rw [sf, sf, st, if_pos (show (V : Int) < (T : Int) by omega), if_neg (show ¬ (V : Int) < -(T : Int) by omega), if_neg (show ¬ (V : Int) = -(T : Int) by omega)]
        exact g
      · rw [st, sf, st, if_pos (show -(V : Int) < (T : Int) by omega), if_neg (show ¬ -(V : Int) < -(T : Int) by omega), if_neg (show ¬ -(V : Int) = -(T : Int) by omega)]
        exact g
    · rw [hinf (by omega)]
      cases na
      · rw [sf, sf, st, if_neg (show ¬ (V : Int) < (T : Int) by omega)]
        refine ⟨2139095040#32, ?_, ?_⟩
        · by_cases d : (V : Int) = (T : Int)
          · rw [if_pos d]; rfl
          · rw [if_neg d]; rfl
        · rw [inf32f]; exact y32 rfl
      · rw [st, sf, st, if_pos (show -(V : Int) < (T : Int) by omega)]
        refine ⟨4286578688#32, ?_, ?_⟩
        · by_cases d : -(V : Int) < -(T : Int)
          · rw [if_pos d]; rfl
          · rw [if_neg d, if_pos (show -(V : Int) = -(T : Int) by omega)]; rfl
        · rw [inf32t]; exact y32 rfl
end
end Go.Proofs.YfwaawGreat
