import Derived.Test.YfwaawGreatJP
/-! One step: the machine's floats do what exact does. -/
namespace Go.Proofs.YfwaawGreat
open Go.Aw
set_option linter.unusedVariables false
set_option linter.unusedSimpArgs false
section
variable {N : Nat} {e m mode : BitVec 8} {w : Bool} {R : Nat → BitVec 64} {O : NS (List UInt8)}
theorem NaF.w13 (h : NaF e m w) : ((e == F13.1) && (m == F13.2)) = w := by
  rcases h with ⟨rfl, rfl, rfl⟩ | ⟨rfl, rfl, rfl⟩ <;> rfl
/-- The kinds from 15 on. -/
theorem na_more (hN : 110000 ≤ N) {t : Tab} (ht : TabOk t) (h : NaF e m w) (hm : NE mode) (hO : O.2.1 < 4294967296) (k0 d a b : BitVec 8) (imm : BitVec 64) (tx : List UInt8)
    (u22 : k0 ≠ 22#8) (u28 : k0 ≠ 28#8) (u29 : k0 ≠ 29#8) (u30 : k0 ≠ 30#8) (u33 : k0 ≠ 33#8) :
    Sp2 O (F243 N t e m mode R O k0 d a b imm tx) (F227 N e m mode R O k0 d a b imm tx) := by
  unfold F243 F243_1
  simp only [lt]
  rw [h.w13]
  have hf := h.fm
  by_cases c15 : k0 = 15#8
  · subst c15
    exact Sp2.up (R := R) (i := (d &&& 7#8).toNat) (na_fma h hm _ _ _)
  by_cases c16 : k0 = 16#8
  · subst c16
    exact Sp2.up (R := R) (i := (d &&& 7#8).toNat) (na_rem (by omega) h d a b imm tx _ _)
  by_cases c17 : k0 = 17#8
  · subst c17
    exact Sp2.up (R := R) (i := (d &&& 7#8).toNat) (na_round (by omega) h d a b imm tx _ (R (b &&& 7#8).toNat))
  by_cases c31 : k0 = 31#8
  · subst c31
    exact Sp2.up (R := R) (i := (d &&& 7#8).toNat) (na_scale h hm _ _)
  by_cases c32 : k0 = 32#8
  · subst c32
    exact na_logB (by omega) h hO _
  by_cases c18 : k0 = 18#8
  · subst c18
    exact Sp2.up (R := R) (i := (d &&& 7#8).toNat) (na_min h _ _)
  by_cases c19 : k0 = 19#8
  · subst c19
    exact Sp2.up (R := R) (i := (d &&& 7#8).toNat) (na_max h _ _)
  by_cases c20 : k0 = 20#8
  · subst c20
    exact Sp2.up (R := R) (i := (d &&& 7#8).toNat) (na_up h _)
  by_cases c21 : k0 = 21#8
  · subst c21
    exact Sp2.up (R := R) (i := (d &&& 7#8).toNat) (na_down h _)
  by_cases c23 : k0 = 23#8
  · subst c23
    exact Sp2.out hO (na_digits hN hf _ _ _ _ _ _ _)
  by_cases c24 : k0 = 24#8
  · subst c24
    exact Sp2.out hO (na_digits hN hf _ _ _ _ _ _ _)
  by_cases c25 : k0 = 25#8
  · subst c25
    exact na_hexText (by omega) hf hO _
  by_cases c26 : k0 = 26#8
  · subst c26
    exact na_hex (by omega) hf hO _ _
  by_cases c27 : k0 = 27#8
  · subst c27
    exact (na_dec2 (by omega) ht hf hO _ _ _ _ _ _).pair
  have q : ∀ n : BitVec 8, k0 ≠ n → (k0 == n) = false := fun n h => beq_eq_false_iff_ne.2 h
  have hA : F243_2 N t e m mode R O k0 d a b imm tx (R (a &&& 7#8).toNat) (R (b &&& 7#8).toNat) w = some (R, O) := by
    unfold F243_2 F243_3
    rw [q _ c15, bf rfl]
    unfold F243_21
    rw [q _ c16, bf rfl, q _ c17]
    unfold F243_4
    rw [bf rfl, q _ c31]
    unfold F243_5
    rw [bf rfl, q _ c32]
    unfold F243_6
    rw [bf rfl, q _ c18]
    unfold F243_20
    rw [bf rfl, q _ c19]
    unfold F243_9
    rw [bf rfl, q _ c20]
    unfold F243_19
    rw [bf rfl, q _ c21]
    unfold F243_10
    rw [bf rfl, q _ c23]
    unfold F243_18
    rw [bf rfl, q _ c24]
    unfold F243_11
    rw [bf rfl, q _ c25]
    unfold F243_12
    rw [bf rfl, q _ c26]
    unfold F243_13
    rw [bf rfl, q _ c27]
    unfold F243_17
    rw [bf rfl]
  have hB : F227 N e m mode R O k0 d a b imm tx = some (R, O) := by
    unfold F227 F227_1 F227_2
    rw [q _ c15, bf rfl, q _ c16]
    unfold F227_3
    rw [bf rfl, q _ c17]
    unfold F227_4
    rw [bf rfl, q _ c18]
    unfold F227_5
    rw [bf rfl, q _ c19]
    unfold F227_6
    rw [bf rfl, q _ c20]
    unfold F227_7
    rw [bf rfl, q _ c21]
    unfold F227_8
    rw [bf rfl, q _ u22]
    unfold F227_9
    rw [bf rfl, q _ c23]
    unfold F227_25
    rw [bf rfl, q _ c24]
    unfold F227_10
    rw [bf rfl, q _ c25]
    unfold F227_11
    rw [bf rfl, q _ c26]
    unfold F227_12
    rw [bf rfl, q _ c27]
    unfold F227_16
    rw [bf rfl, q _ u29]
    unfold F227_17
    rw [bf rfl, q _ u30]
    unfold F227_18
    rw [bf rfl, q _ c31]
    unfold F227_19
    rw [bf rfl, q _ c32]
    unfold F227_20
    rw [bf rfl, q _ u33]
    unfold F227_21
    rw [bf rfl, q _ u28]
    unfold F227_23
    rw [bf rfl]
  rw [hA, hB]
  exact Sp2.id
/-- na's guard. -/
theorem na_guard (h : NaF e m w) (hm : mode = 0#8 ∨ 4 < mode.toNat) {t : Tab} {k0 d a b : BitVec 8} {imm : BitVec 64} {tx : List UInt8} :
    F123 N t e m mode R O k0 d a b imm tx = F123_3 N t e m mode R O k0 d a b imm tx (R (a &&& 7#8).toNat) (R (b &&& 7#8).toNat) w := by
  have h1 : ∀ x, F123_1 N t e m mode R O k0 d a b imm tx x = bif x then some (R, O) else F123_3 N t e m mode R O k0 d a b imm tx (R (a &&& 7#8).toNat) (R (b &&& 7#8).toNat) w := by
    intro x
    unfold F123_1 F123_2
    simp only [lt]
    rw [h.w13]
  have h2 : (bif mode != 0#8 then F123_1 N t e m mode R O k0 d a b imm tx (decide (mode.toNat ≤ (4#8).toNat)) else F123_1 N t e m mode R O k0 d a b imm tx false) = F123_3 N t e m mode R O k0 d a b imm tx (R (a &&& 7#8).toNat) (R (b &&& 7#8).toNat) w := by
    rcases hm with rfl | hm
    · rw [bf (by rfl), h1, bf rfl]
    · rw [h1, h1, decide_eq_false (show ¬ mode.toNat ≤ (4#8).toNat from by rw [show (4#8).toNat = 4 from rfl]; omega)]
      cases (mode != 0#8)
      · rw [bf rfl, bf rfl]
      · rw [bt rfl, bf rfl]
  unfold F123
  rcases h with ⟨rfl, rfl, rfl⟩ | ⟨rfl, rfl, rfl⟩
  · rw [bt (by rfl), bf (by rfl), h2]
  · rw [bf (by rfl), h2]
/-- One step of the machine's floats. -/
theorem na_st (hN : 110000 ≤ N) {t : Tab} (ht : TabOk t) (h : NaF e m w) (hmo : mode = 0#8 ∨ 4 < mode.toNat) (hm : NE mode) (hO : O.2.1 < 4294967296) (k0 d a b : BitVec 8) (imm : BitVec 64) (tx : List UInt8)
    (u22 : k0 ≠ 22#8) (u28 : k0 ≠ 28#8) (u29 : k0 ≠ 29#8) (u30 : k0 ≠ 30#8) (u33 : k0 ≠ 33#8) :
    Sp2 O (F123 N t e m mode R O k0 d a b imm tx) (F121 N t e m mode R O k0 d a b imm tx) := by
  have hf := h.fm
  have hE : F121 N t e m mode R O k0 d a b imm tx = F121_2 N e m mode R O k0 d a b imm tx (R (a &&& 7#8).toNat) (R (b &&& 7#8).toNat) := by
    unfold F121
    simp only [lt]
    rw [hf.ok]
    unfold F121_1
    rw [Bool.not_true, bf rfl]
  rw [na_guard h hmo, hE]
  by_cases c0 : k0 = 0#8
  · subst c0
    exact Sp2.up1 (R := R) (i := (d &&& 7#8).toNat) (F234_eq _ _ _)
  by_cases c1 : k0 = 1#8
  · subst c1
    exact Sp2.up (R := R) (i := (d &&& 7#8).toNat) (na_add h hm _ _)
  by_cases c2 : k0 = 2#8
  · subst c2
    exact Sp2.up (R := R) (i := (d &&& 7#8).toNat) (na_sub h hm _ _)
  by_cases c3 : k0 = 3#8
  · subst c3
    exact Sp2.up (R := R) (i := (d &&& 7#8).toNat) (na_mul h hm _ _)
  by_cases c4 : k0 = 4#8
  · subst c4
    exact Sp2.up (R := R) (i := (d &&& 7#8).toNat) (na_div h hm _ _)
  by_cases c5 : k0 = 5#8
  · subst c5
    have hs : Sp2 O ((F236 N w 5#8 (F222 e m (R (a &&& 7#8).toNat))).bind fun v => some (upd R (d &&& 7#8).toNat v, O)) ((F74 N e m mode (R (a &&& 7#8).toNat)).bind fun v => some (upd R (d &&& 7#8).toNat v, O)) := Sp2.up (na_sqrt h hm _)
    rw [← F234_eq] at hs
    exact hs
  by_cases c6 : k0 = 6#8
  · subst c6
    have hs : Sp2 O ((F236 N w 6#8 (F222 e m (R (a &&& 7#8).toNat))).bind fun v => some (upd R (d &&& 7#8).toNat v, O)) (some (upd R (d &&& 7#8).toNat (F222 e m (F222 e m (R (a &&& 7#8).toNat) ^^^ F70 e m)), O)) := by
      rw [na_neg h]; exact Sp2.up1 rfl
    rw [← F234_eq e m (R (a &&& 7#8).toNat)] at hs
    have hs2 := hs
    rw [F234_eq e m (R (a &&& 7#8).toNat)] at hs2
    show Sp2 O ((F236 N w 6#8 (F234 e m (R (a &&& 7#8).toNat))).bind fun v => some (upd R (d &&& 7#8).toNat v, O)) (some (upd R (d &&& 7#8).toNat (F222 e m (F222 e m (R (a &&& 7#8).toNat) ^^^ F70 e m)), O))
    rw [F234_eq]
    exact hs2
  by_cases c7 : k0 = 7#8
  · subst c7
    show Sp2 O ((F236 N w 7#8 (F234 e m (R (a &&& 7#8).toNat))).bind fun v => some (upd R (d &&& 7#8).toNat v, O)) (some (upd R (d &&& 7#8).toNat (F222 e m (F222 e m (R (a &&& 7#8).toNat) &&& ~~~F70 e m)), O))
    rw [F234_eq, na_abs h]
    exact Sp2.up1 rfl
  by_cases c8 : k0 = 8#8
  · subst c8
    show Sp2 O (bif decide (O.2.1 < 4294967296) then some (R, app O (F237 w (R (a &&& 7#8).toNat) (R (b &&& 7#8).toNat))) else none) ((F81 N e m (R (a &&& 7#8).toNat) (R (b &&& 7#8).toNat)).bind fun y22 => bif decide (O.2.1 < 4294967296) then some (R, app O (F223 y22)) else none)
    rw [cmp_ok hf, Option.bind_some]
    exact Sp2.out1 hO (na_cmp h _ _)
  by_cases c9 : k0 = 9#8
  · subst c9
    exact Sp2.up (R := R) (i := (d &&& 7#8).toNat) (na_fromI h hm imm)
  by_cases c10 : k0 = 10#8
  · subst c10
    exact Sp2.up (R := R) (i := (d &&& 7#8).toNat) (na_fromU h hm imm)
  by_cases c11 : k0 = 11#8
  · subst c11
    exact Sp2.out hO (na_toInt (by omega) h _)
  by_cases c12 : k0 = 12#8
  · subst c12
    show Sp2 O ((F240 N e m (BitVec.ofInt 8 (imm.toNat : Int)) (BitVec.ofInt 8 ((imm >>> 8).toNat : Int)) mode (R (d &&& 7#8).toNat) (R (a &&& 7#8).toNat)).bind fun y14 => some (upd R (d &&& 7#8).toNat y14, O)) (F121_16 N e m mode R O d (R (a &&& 7#8).toNat) (BitVec.ofInt 8 (imm.toNat : Int)) (BitVec.ofInt 8 ((imm >>> 8).toNat : Int)))
    unfold F121_16
    simp only [lt]
    unfold F121_17
    cases hc : F40 (BitVec.ofInt 8 (imm.toNat : Int)) (BitVec.ofInt 8 ((imm >>> 8).toNat : Int)) with
    | false =>
      rw [na_none _ _ hc, Option.bind_some, bf rfl, upd_self]
      exact Sp2.id
    | true =>
      obtain ⟨y, y1, y2⟩ := na_through (N := N) h hm (fm_iff.1 hc) (R (d &&& 7#8).toNat) (R (a &&& 7#8).toNat)
      rw [bt rfl, y1, Option.bind_some]
      exact Sp2.up y2
  by_cases c13 : k0 = 13#8
  · subst c13
    exact (na_dec (by omega) ht hf hO _ _ _ _ _ _).pair
  by_cases c14 : k0 = 14#8
  · subst c14
    exact Sp2.out hO (na_short (by omega) ht hf _)
  have q : ∀ n : BitVec 8, k0 ≠ n → (k0 == n) = false := fun n h => beq_eq_false_iff_ne.2 h
  have hA : F123_3 N t e m mode R O k0 d a b imm tx (R (a &&& 7#8).toNat) (R (b &&& 7#8).toNat) w = (F243 N t e m mode R O k0 d a b imm tx).bind fun y => some (y.1, y.2) := by
    unfold F123_3
    rw [q _ c0]
    unfold F123_4
    rw [bf rfl, q _ c1]
    unfold F123_16
    rw [bf rfl, q _ c2]
    unfold F123_17
    rw [bf rfl, q _ c3]
    unfold F123_18
    rw [bf rfl, q _ c4]
    unfold F123_5
    rw [bf rfl, q _ c5]
    unfold F123_14
    rw [bf rfl, q _ c6]
    unfold F123_15
    rw [bf rfl, q _ c7]
    unfold F123_6
    rw [bf rfl, q _ c8]
    unfold F123_7
    rw [bf rfl, q _ c9]
    unfold F123_13
    rw [bf rfl, q _ c10]
    unfold F123_8
    rw [bf rfl, q _ c11]
    unfold F123_9
    rw [bf rfl, q _ c12]
    unfold F123_10
    rw [bf rfl, q _ c13]
    unfold F123_11
    rw [bf rfl, q _ c14]
    unfold F123_12
    rw [bf rfl]
  have hB : F121_2 N e m mode R O k0 d a b imm tx (R (a &&& 7#8).toNat) (R (b &&& 7#8).toNat) = (F227 N e m mode R O k0 d a b imm tx).bind fun y => some (y.1, y.2) := by
    unfold F121_2
    rw [q _ c0]
    unfold F121_3
    rw [bf rfl, q _ c1]
    unfold F121_4
    rw [bf rfl, q _ c2]
    unfold F121_5
    rw [bf rfl, q _ c3]
    unfold F121_6
    rw [bf rfl, q _ c4]
    unfold F121_7
    rw [bf rfl, q _ c5]
    unfold F121_8
    rw [bf rfl, q _ c6]
    unfold F121_9
    rw [bf rfl, q _ c7]
    unfold F121_10
    rw [bf rfl, q _ c8]
    unfold F121_11
    rw [bf rfl, q _ c9]
    unfold F121_12
    rw [bf rfl, q _ c10]
    unfold F121_13
    rw [bf rfl, q _ c11]
    unfold F121_14
    rw [bf rfl, q _ c12]
    unfold F121_15
    rw [bf rfl, q _ c13]
    unfold F121_18
    rw [bf rfl, q _ c14]
    unfold F121_19
    rw [bf rfl]
  rw [hA, hB]
  exact (na_more hN ht h hm hO _ _ _ _ _ _ u22 u28 u29 u30 u33).pair
end
end Go.Proofs.YfwaawGreat
