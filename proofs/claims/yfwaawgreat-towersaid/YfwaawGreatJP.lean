import Derived.Test.YfwaawGreatJO
/-! The native engine's operations, both formats. -/
namespace Go.Proofs.YfwaawGreat
open Go.Aw
set_option linter.unusedVariables false
set_option linter.unusedSimpArgs false
section
variable {N : Nat} {e m mode : BitVec 8} {w : Bool} {f : Ieee.Format} {R : Nat → BitVec 64} {O : NS (List UInt8)}
/-- A format of the machine. -/
def NaF (e m : BitVec 8) (w : Bool) : Prop := (e = 11#8 ∧ m = 52#8 ∧ w = true) ∨ (e = 8#8 ∧ m = 23#8 ∧ w = false)
theorem NaF.fm (h : NaF e m w) : Fm e m := by
  rcases h with ⟨rfl, rfl, rfl⟩ | ⟨rfl, rfl, rfl⟩
  · exact kd64.fm
  · exact kd32.fm
theorem bo_of {x : Option (BitVec 64)} {y : Option (BitVec 64 × BitVec 8)} {z : BitVec 64 × BitVec 8} (h1 : y = some z) (h2 : x = some z.1) : Bo x (y.bind fun v => some v.1) := ⟨z.1, h2, by rw [h1]; rfl⟩
theorem na_add (h : NaF e m w) (hm : NE mode) (a b : BitVec 64) : Bo (F235 N w 0#8 a b) (F140 N e m mode a b) := by
  rcases h with ⟨rfl, rfl, rfl⟩ | ⟨rfl, rfl, rfl⟩
  · obtain ⟨z, z1, z2⟩ := nadd (N := N) kd64 hm a b
    refine bo_of z1 ?_
    unfold F235
    rw [bt rfl, F330_ok, if_pos rfl, z2, put_add kd64, wd64, wd64]; rfl
  · obtain ⟨z, z1, z2⟩ := nadd (N := N) kd32 hm a b
    obtain ⟨y, y1, y2⟩ := F331_ok (N := N) 0#8 a b
    refine bo_of z1 ?_
    unfold F235
    rw [bf rfl, y1, Option.bind_some, y2, if_pos rfl, z2, put_add kd32]
theorem na_sub (h : NaF e m w) (hm : NE mode) (a b : BitVec 64) : Bo (F235 N w 1#8 a b) (F141 N e m mode a b) := by
  rcases h with ⟨rfl, rfl, rfl⟩ | ⟨rfl, rfl, rfl⟩
  · obtain ⟨z, z1, z2⟩ := nsub (N := N) kd64 hm a b
    refine bo_of z1 ?_
    unfold F235
    rw [bt rfl, F330_ok, if_neg (by decide), if_pos rfl, z2, put_sub kd64, wd64, wd64]; rfl
  · obtain ⟨z, z1, z2⟩ := nsub (N := N) kd32 hm a b
    obtain ⟨y, y1, y2⟩ := F331_ok (N := N) 1#8 a b
    refine bo_of z1 ?_
    unfold F235
    rw [bf rfl, y1, Option.bind_some, y2, if_neg (by decide), if_pos rfl, z2, put_sub kd32]
theorem na_mul (h : NaF e m w) (hm : NE mode) (a b : BitVec 64) : Bo (F235 N w 2#8 a b) (F142 N e m mode a b) := by
  rcases h with ⟨rfl, rfl, rfl⟩ | ⟨rfl, rfl, rfl⟩
  · obtain ⟨z, z1, z2⟩ := nmul (N := N) kd64 hm a b
    refine bo_of z1 ?_
    unfold F235
    rw [bt rfl, F330_ok, if_neg (by decide), if_neg (by decide), if_pos rfl, z2, put_mul kd64, wd64, wd64]; rfl
  · obtain ⟨z, z1, z2⟩ := nmul (N := N) kd32 hm a b
    obtain ⟨y, y1, y2⟩ := F331_ok (N := N) 2#8 a b
    refine bo_of z1 ?_
    unfold F235
    rw [bf rfl, y1, Option.bind_some, y2, if_neg (by decide), if_neg (by decide), if_pos rfl, z2, put_mul kd32]
theorem na_div (h : NaF e m w) (hm : NE mode) (a b : BitVec 64) : Bo (F235 N w 3#8 a b) (F143 N e m mode a b) := by
  rcases h with ⟨rfl, rfl, rfl⟩ | ⟨rfl, rfl, rfl⟩
  · obtain ⟨z, z1, z2⟩ := ndiv (N := N) kd64 hm a b
    refine bo_of z1 ?_
    unfold F235
    rw [bt rfl, F330_ok, if_neg (by decide), if_neg (by decide), if_neg (by decide), if_pos rfl, z2, put_div kd64, wd64, wd64]; rfl
  · obtain ⟨z, z1, z2⟩ := ndiv (N := N) kd32 hm a b
    obtain ⟨y, y1, y2⟩ := F331_ok (N := N) 3#8 a b
    refine bo_of z1 ?_
    unfold F235
    rw [bf rfl, y1, Option.bind_some, y2, if_neg (by decide), if_neg (by decide), if_neg (by decide), if_pos rfl, z2, put_div kd32]
theorem nan_read (k : Kd e m f) {x : BitVec 64} (h : (F65 e m x).2.1 = 4) : ∃ s t, f.read (wd e m x) = .nan s t := by
  rcases k.opn x with ⟨ng, s, t, h1, h2, h3⟩ | ⟨neg, h1, h2, h3, h4⟩ | ⟨neg, h1, h2, h3, h4⟩ | ⟨neg, c, ex, man, P, mag, place, h1, h2, h3⟩
  · exact ⟨s, t, h1⟩
  · rw [h2] at h; exact absurd (show (3 : Int) = 4 from h) (by decide)
  · rw [h2] at h; exact absurd (show (0 : Int) = 4 from h) (by decide)
  · rw [h2.f65] at h
    have h : c = 4 := h
    rcases h2.c12 with q | q <;> rw [q] at h <;> exact absurd h (by decide)
theorem sqrt_clean (k : Kd e m f) (hN : (F65 e m (F66 e m)).2.1 = 4) (x : BitVec 64) : f.sqrt (wd e m (F222 e m x)) = f.sqrt (wd e m x) := by
  rw [clean_val]
  by_cases c : (F65 e m x).2.1 = 4
  · rw [if_pos c]
    obtain ⟨s, t, h1⟩ := nan_read k hN
    obtain ⟨s', t', h2⟩ := nan_read k c
    unfold Ieee.Format.sqrt
    rw [h1, h2]; rfl
  · rw [if_neg c]
    have : wd e m (x &&& F69 e m) = wd e m x := by unfold wd; rw [and_idem]
    rw [this]
theorem na_sqrt (h : NaF e m w) (hm : NE mode) (x : BitVec 64) : Bo (F236 N w 5#8 (F222 e m x)) (F74 N e m mode x) := by
  rcases h with ⟨rfl, rfl, rfl⟩ | ⟨rfl, rfl, rfl⟩
  · obtain ⟨z, z1, z2⟩ := nsqrt (N := N) kd64 hm x
    obtain ⟨y, y1, y2⟩ := nsqrt (N := N) kd64 hm (F222 11#8 52#8 x)
    refine bo_of z1 ?_
    obtain ⟨r, r1, r2⟩ := unary64 (N := N) hm 5#8 (Or.inl rfl) (F222 11#8 52#8 x)
    rw [r2]
    rw [bt (by rfl), y1] at r1
    rw [← r1, z2, ← sqrt_clean kd64 nan65_64 x, ← y2]; rfl
  · obtain ⟨z, z1, z2⟩ := nsqrt (N := N) kd32 hm x
    obtain ⟨y, y1, y2⟩ := nsqrt (N := N) kd32 hm (F222 8#8 23#8 x)
    refine bo_of z1 ?_
    obtain ⟨r, r1, r2⟩ := unary32 (N := N) hm 5#8 (Or.inl rfl) (F222 8#8 23#8 x)
    rw [r2]
    rw [bt (by rfl), y1] at r1
    rw [← r1, z2, ← sqrt_clean kd32 nan65_32 x, ← y2]; rfl
theorem na_neg (h : NaF e m w) (x : BitVec 64) : F236 N w 6#8 x = some (F222 e m (x ^^^ F70 e m)) := by
  rcases h with ⟨rfl, rfl, rfl⟩ | ⟨rfl, rfl, rfl⟩
  · obtain ⟨r, r1, r2⟩ := unary64 (N := N) (mode := 0#8) ne_zero 6#8 (Or.inr (Or.inl rfl)) x
    rw [r2, ← r1]; rfl
  · obtain ⟨r, r1, r2⟩ := unary32 (N := N) (mode := 0#8) ne_zero 6#8 (Or.inr (Or.inl rfl)) x
    rw [r2, ← r1]; rfl
theorem na_abs (h : NaF e m w) (x : BitVec 64) : F236 N w 7#8 x = some (F222 e m (x &&& ~~~F70 e m)) := by
  rcases h with ⟨rfl, rfl, rfl⟩ | ⟨rfl, rfl, rfl⟩
  · obtain ⟨r, r1, r2⟩ := unary64 (N := N) (mode := 0#8) ne_zero 7#8 (Or.inr (Or.inr rfl)) x
    rw [r2, ← r1]; rfl
  · obtain ⟨r, r1, r2⟩ := unary32 (N := N) (mode := 0#8) ne_zero 7#8 (Or.inr (Or.inr rfl)) x
    rw [r2, ← r1]; rfl
theorem na_cmp (h : NaF e m w) (a b : BitVec 64) : F237 w a b = F223 (F88 e m a b) := by
  rcases h with ⟨rfl, rfl, rfl⟩ | ⟨rfl, rfl, rfl⟩
  · exact F237_64 a b
  · exact F237_32 a b
theorem na_fromI (h : NaF e m w) (hm : NE mode) (u : BitVec 64) : Bo (F238 N w true u) (F75 N e m mode (w64 (u.toNat : Int))) := by
  rcases h with ⟨rfl, rfl, rfl⟩ | ⟨rfl, rfl, rfl⟩
  · obtain ⟨z, z1, z2⟩ := from64 (N := N) hm true u
    exact bo_of z1 z2
  · obtain ⟨z, z1, z2⟩ := from32 (N := N) hm true u
    exact bo_of z1 z2
theorem na_fromU (h : NaF e m w) (hm : NE mode) (u : BitVec 64) : Bo (F238 N w false u) (F76 N e m mode u) := by
  rcases h with ⟨rfl, rfl, rfl⟩ | ⟨rfl, rfl, rfl⟩
  · obtain ⟨z, z1, z2⟩ := from64 (N := N) hm false u
    rw [bf rfl] at z1
    exact bo_of z1 z2
  · obtain ⟨z, z1, z2⟩ := from32 (N := N) hm false u
    rw [bf rfl] at z1
    exact bo_of z1 z2
theorem F224_ends (hN : 30 ≤ N) (hf : Fm e m) (a : BitVec 64) : ∃ s, F224 N e m a = some s := by
  obtain ⟨v, v1, v2⟩ := toInt_eq (N := N) (mode := 2#8) hf a
  unfold F224 F73
  rw [v2]
  simp only [Option.bind_some, F73_1]
  obtain ⟨s, hs⟩ := F290_ends (N := N) hN v.2.1 (F151_rg N e m _ _ _ v1)
  exact ⟨s, by rw [hs]; rfl⟩
theorem na_toInt (hN : 30 ≤ N) (h : NaF e m w) (a : BitVec 64) : Bo (F239 N w a) (F224 N e m a) := by
  have hs := F224_ends (N := N) hN h.fm a
  rcases h with ⟨rfl, rfl, rfl⟩ | ⟨rfl, rfl, rfl⟩
  · rw [toInt64n]; exact Bo.same hs
  · rw [toInt32n]; exact Bo.same hs
theorem na_through (h : NaF e m w) (hm : NE mode) {e' m' : BitVec 8} (h' : Fm e' m') (old a : BitVec 64) : ∃ y, F48 N e m e' m' mode a = some y ∧ Bo (F240 N e m e' m' mode old a) (F48 N e' m' e m mode y) := by
  have key : ∃ r, ((F48 N e m e' m' mode a).bind fun y => F48 N e' m' e m mode y) = some r ∧ F240 N e m e' m' mode old a = some r := by
    rcases h with ⟨rfl, rfl, rfl⟩ | ⟨rfl, rfl, rfl⟩
    · exact through64 hm h' old a
    · exact through32 hm h' old a
  obtain ⟨r, r1, r2⟩ := key
  cases hy : F48 N e m e' m' mode a with
  | none => rw [hy] at r1; cases r1
  | some y =>
    rw [hy, Option.bind_some] at r1
    exact ⟨y, rfl, r, r2, r1⟩
theorem na_none (e' m' : BitVec 8) (h' : F40 e' m' = false) (old a : BitVec 64) : F240 N e m e' m' mode old a = some old := by
  unfold F240
  simp only [lt]
  rw [h']
  rfl
theorem na_fma (h : NaF e m w) (hm : NE mode) (a b c : BitVec 64) : Bo (F350 N w a b c) (F294 N e m mode a b c) := by
  rcases h with ⟨rfl, rfl, rfl⟩ | ⟨rfl, rfl, rfl⟩
  · obtain ⟨z, z1, z2⟩ := nfma (N := N) kd64 hm a b c
    refine bo_of z1 ?_
    unfold F350
    rw [bt rfl, F391_ok, z2]; rfl
  · obtain ⟨z, z1, z2⟩ := fma32 (N := N) hm a b c
    exact bo_of z1 z2
theorem na_rem (hN : 3000 ≤ N) (h : NaF e m w) (d a' b' : BitVec 8) (imm : BitVec 64) (tx : List UInt8) (a b : BitVec 64) : Bo (F351 N w 16#8 d a' b' imm tx a b) (F295 N e m a b) := by
  rcases h with ⟨rfl, rfl, rfl⟩ | ⟨rfl, rfl, rfl⟩
  · obtain ⟨z, z1, z2⟩ := byWide64 (N := N) hN 16#8 d a' b' imm tx a b
    exact bo_of z1 z2
  · obtain ⟨z, z1, z2⟩ := byWide32 (N := N) hN 16#8 d a' b' imm tx a b
    exact bo_of z1 z2
theorem na_round (hN : 3000 ≤ N) (h : NaF e m w) (d a' b' : BitVec 8) (imm : BitVec 64) (tx : List UInt8) (a b : BitVec 64) : Bo (F351 N w 17#8 d a' b' imm tx a b) (F296 N e m (BitVec.ofInt 8 (imm.toNat : Int)) a) := by
  rcases h with ⟨rfl, rfl, rfl⟩ | ⟨rfl, rfl, rfl⟩
  · obtain ⟨z, z1, z2⟩ := byWide64 (N := N) hN 17#8 d a' b' imm tx a b
    exact bo_of z1 z2
  · obtain ⟨z, z1, z2⟩ := byWide32 (N := N) hN 17#8 d a' b' imm tx a b
    exact bo_of z1 z2
theorem na_scale (h : NaF e m w) (hm : NE mode) (a : BitVec 64) (n : Int) : Bo (F352 N w a n) (F307 N e m mode a n) := by
  rcases h with ⟨rfl, rfl, rfl⟩ | ⟨rfl, rfl, rfl⟩
  · obtain ⟨z, z1, z2⟩ := scale64 (N := N) hm a n
    exact bo_of z1 z2
  · obtain ⟨z, z1, z2⟩ := scale32 (N := N) hm a n
    exact bo_of z1 z2
theorem na_min (h : NaF e m w) (a b : BitVec 64) : Bo (F354 N w false a b) (F297 N e m a b) := by
  rcases h with ⟨rfl, rfl, rfl⟩ | ⟨rfl, rfl, rfl⟩
  · obtain ⟨z, z1, z2⟩ := choose64 (N := N) false a b
    exact bo_of z1 z2
  · obtain ⟨z, z1, z2⟩ := choose32 (N := N) false a b
    exact bo_of z1 z2
theorem na_max (h : NaF e m w) (a b : BitVec 64) : Bo (F354 N w true a b) (F298 N e m a b) := by
  rcases h with ⟨rfl, rfl, rfl⟩ | ⟨rfl, rfl, rfl⟩
  · obtain ⟨z, z1, z2⟩ := choose64 (N := N) true a b
    exact bo_of z1 z2
  · obtain ⟨z, z1, z2⟩ := choose32 (N := N) true a b
    exact bo_of z1 z2
theorem na_up (h : NaF e m w) (a : BitVec 64) : Bo (F355 N w a (F67 e m false)) (F299 N e m a) := by
  refine bo_of (nextUp_eq h.fm a) ?_
  rcases h with ⟨rfl, rfl, rfl⟩ | ⟨rfl, rfl, rfl⟩
  · exact next64 false a
  · exact next32 false a
theorem na_down (h : NaF e m w) (a : BitVec 64) : Bo (F355 N w a (F67 e m true)) (F300 N e m a) := by
  refine bo_of (nextDown_eq h.fm a) ?_
  rcases h with ⟨rfl, rfl, rfl⟩ | ⟨rfl, rfl, rfl⟩
  · exact next64 true a
  · exact next32 true a
theorem F348_eq {e m : BitVec 8} {k0 d a b : BitVec 8} {imm : BitVec 64} {tx : List UInt8} {x1 : BitVec 8} {x2 : Bool} {x3 : List UInt8} {x4 x5 x6 : Int} {v : BitVec 64} :
    F348 N e m R O k0 d a b imm tx x1 x2 x3 x4 x5 x6 v = F312 N e m R O k0 d a b imm tx x1 x2 x3 x4 x5 x6 v := by
  unfold F348 F348_1 F348_2 F348_3 F348_4 F348_5 F312 F312_1 F312_2 F312_3 F312_4 F312_5; rfl
theorem na_dec (hN : 1100 ≤ N) {t : Tab} (ht : TabOk t) (hf : Fm e m) (hO : O.2.1 < 4294967296) (k0 d a b : BitVec 8) (imm : BitVec 64) (tx : List UInt8) :
    Sp2 O (F241 N t e m mode R O k0 d a b imm tx) (F225 N e m mode R O k0 d a b imm tx) := by
  obtain ⟨r, h1, h2⟩ := decScan_ok hN tx
  unfold F241 F225
  rw [h1, h2]
  simp only [Option.bind_some, F241_1]
  obtain ⟨q, path, q1, q2⟩ := parse_fast (mode := mode) (neg := r.2.1) (dig := r.2.2.1) (exp := r.2.2.2.1) (show 900 ≤ N by omega) ht hf
  rw [q2, Option.bind_some]
  unfold F241_2
  rw [F348_eq]
  exact (dec_take hO q1).left
theorem na_dec2 (hN : 1100 ≤ N) {t : Tab} (ht : TabOk t) (hf : Fm e m) (hO : O.2.1 < 4294967296) (k0 d a b : BitVec 8) (imm : BitVec 64) (tx : List UInt8) :
    Sp2 O (F357 N t e m mode R O k0 d a b imm tx) (F225 N e m mode R O k0 d a b imm tx) := by
  obtain ⟨r, h1, h2⟩ := decScan_ok hN tx
  unfold F357 F225
  rw [h1, h2]
  simp only [Option.bind_some, F357_1]
  obtain ⟨q, path, q1, q2⟩ := second_fast (mode := mode) (neg := r.2.1) (dig := r.2.2.1) (exp := r.2.2.2.1) (show 900 ≤ N by omega) ht hf
  rw [q2, Option.bind_some]
  unfold F357_2
  rw [F348_eq]
  exact (dec_take hO q1).left
theorem na_short (hN : 900 ≤ N) {t : Tab} (ht : TabOk t) (hf : Fm e m) (x : BitVec 64) : Bo (F242 N t e m x) (F226 N e m x) := by
  unfold F242 F226 lt
  refine (short_eq hf hN ht x).bnd fun v _ _ => ?_
  refine (Bo.same (text_ends (show 802 ≤ N by omega) _ _ _)).bnd fun s _ _ => ?_
  rw [F349_eq]; exact Bo.rf _
theorem na_digits (hN : 110000 ≤ N) (hf : Fm e m) (x : BitVec 64) (k0 d a b : BitVec 8) (imm : BitVec 64) (tx : List UInt8) : Bo (F356 N e m x k0 d a b imm tx) (F303 N e m x k0 d a b imm tx) := by
  unfold F356 F356_1 F356_2 F303 F303_1 F303_2 lt
  refine Bo.bif (fun _ => ?_) (fun _ => ?_)
  · refine (digitsF_eq (show 20000 ≤ N by omega) hf x _).bnd fun v h1 h2 => ?_
    refine (Bo.same (textF_ends _ _ (digF_len (by omega) hf x _ h2) hN)).bnd fun s _ _ => ?_
    rw [F349_eq]; exact Bo.rf _
  · refine (digitsE_eq (show 20000 ≤ N by omega) hf x _).bnd fun v h1 h2 => ?_
    unfold F356_3 F303_3 lt
    refine (Bo.same (textE_ends (by omega) _ _ (digE_len (by omega) hf x _ h2))).bnd fun s _ _ => ?_
    rw [F349_eq]; exact Bo.rf _
theorem na_hex (hN : 1100 ≤ N) (hf : Fm e m) (hO : O.2.1 < 4294967296) (d : BitVec 8) (tx : List UInt8) :
    Sp2 O ((F323 N tx).bind fun y18 => F243_14 N e m mode R O d y18.1 y18.2.1 y18.2.2.1 y18.2.2.2.1 y18.2.2.2.2.1 y18.2.2.2.2.2) ((F304 N tx).bind fun y18 => F227_13 N e m mode R O d y18.1 y18.2.1 y18.2.2.1 y18.2.2.2.1 y18.2.2.2.2.1 y18.2.2.2.2.2) := by
  obtain ⟨r, h1, h2, h3⟩ := hexScan_ok hN tx
  rw [h1, h2, Option.bind_some, Option.bind_some]
  unfold F243_14 F243_15 F227_13 F227_14
  refine Sp2.bif (fun c => Sp2.up ?_) (fun _ => ?_)
  · unfold F109 F108
    exact (hexBits_eq (show 900 ≤ N by omega) hf (h3 (beq_iff_eq.1 c))).fst
  · unfold F243_16 F227_15
    exact Sp2.bif (fun _ => Sp2.out1 hO rfl) (fun _ => Sp2.out1 hO rfl)
theorem na_hexText (hN : 30 ≤ N) (hf : Fm e m) (hO : O.2.1 < 4294967296) (x : BitVec 64) :
    Sp2 O ((F106 N e m x).bind fun y13 => lt (F349 e m x y13) fun y14 => bif decide (O.2.1 < 4294967296) then some (R, app O y14) else none) ((F105 N e m x).bind fun y14 => lt (F292 e m x y14) fun y15 => bif decide (O.2.1 < 4294967296) then some (R, app O y15) else none) := by
  unfold lt
  obtain ⟨v, v1, v2⟩ := hexText_eq hN hf x
  rw [v1, v2, Option.bind_some, Option.bind_some, F349_eq]
  exact Sp2.out1 hO rfl
theorem na_logB (hN : 30 ≤ N) (h : NaF e m w) (hO : O.2.1 < 4294967296) (x : BitVec 64) : Sp2 O (F243_8 N R O x (!w)) ((F308 N e m x).bind fun y23 => (F290 N y23.1 y23.2).bind fun y24 => bif decide (O.2.1 < 4294967296) then some (R, app O y24) else none) := by
  have key : F243_8 N R O x (!w) = (F290 N (F112 e m x).1 (F112 e m x).2.1).bind fun y24 => bif decide (O.2.1 < 4294967296) then some (R, app O y24) else none := by
    unfold F243_8 F243_7
    rcases h with ⟨rfl, rfl, rfl⟩ | ⟨rfl, rfl, rfl⟩
    · rw [bf (show (!true) = false from rfl), logB64, Option.bind_some]
      simp only []
      rw [F345_eq]
    · rw [bt (show (!false) = true from rfl), F346_ok, Option.bind_some, wd32]
      have := logB32 (N := N) x
      rw [show can 11#8 52#8 (cv Ieee.single Ieee.double (wd 8#8 23#8 x)) = wide x from rfl, this, Option.bind_some]
      simp only []
      rw [F345_eq]
  rw [key]
  unfold F308
  rw [logB_eq h.fm, Option.bind_some]
  exact Sp2.out hO (Bo.same (F290_ends hN _ (F112_rg e m x _ rfl)))
theorem upd_self (R : Nat → BitVec 64) (i : Nat) : upd R i (R i) = R := by
  funext j
  unfold upd
  cases h : Nat.beq j i with
  | true => rw [Nat.eq_of_beq_eq_true h]; rfl
  | false => rfl
end
end Go.Proofs.YfwaawGreat
