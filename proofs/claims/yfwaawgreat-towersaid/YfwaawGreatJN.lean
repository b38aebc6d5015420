import Derived.Test.YfwaawGreatJM
import Derived.Test.YfwaawGreatZZ
/-! One step: soft does what exact does. -/
namespace Go.Proofs.YfwaawGreat
open Go.Aw
set_option linter.unusedVariables false
set_option linter.unusedSimpArgs false
section
variable {N : Nat} {e m mode : BitVec 8} {α β γ : Type} {R : Nat → BitVec 64} {O : NS (List UInt8)}
/-- Both steps end alike, with at most one line more. -/
def Sp2 (O : NS (List UInt8)) (A B : Option ((Nat → BitVec 64) × NS (List UInt8))) : Prop := ∃ r, A = some r ∧ B = some r ∧ r.2.2.1 ≤ O.2.1 + 1
variable {A B C D : Option ((Nat → BitVec 64) × NS (List UInt8))}
theorem Sp2.bif {c : Bool} (h1 : c = true → Sp2 O A C) (h2 : c = false → Sp2 O B D) : Sp2 O (bif c then A else B) (bif c then C else D) := by
  cases c
  · exact h2 rfl
  · exact h1 rfl
theorem Sp2.up {i : Nat} {x y : Option (BitVec 64)} (h : Bo x y) : Sp2 O (x.bind fun v => some (upd R i v, O)) (y.bind fun v => some (upd R i v, O)) := by
  obtain ⟨r, h1, h2⟩ := h
  exact ⟨(upd R i r, O), by rw [h1]; rfl, by rw [h2]; rfl, Nat.le_succ _⟩
theorem Sp2.up1 {i : Nat} {v w : BitVec 64} (h : v = w) : Sp2 O (some (upd R i v, O)) (some (upd R i w, O)) := by
  subst h; exact ⟨_, rfl, rfl, Nat.le_succ _⟩
theorem Sp2.out1 (hO : O.2.1 < 4294967296) {v w : List UInt8} (h : v = w) : Sp2 O (bif decide (O.2.1 < 4294967296) then some (R, app O v) else none) (bif decide (O.2.1 < 4294967296) then some (R, app O w) else none) := by
  subst h
  rw [bt (decide_eq_true hO)]
  exact ⟨_, rfl, rfl, Nat.le_refl _⟩
theorem Sp2.out (hO : O.2.1 < 4294967296) {x y : Option (List UInt8)} (h : Bo x y) : Sp2 O (x.bind fun v => bif decide (O.2.1 < 4294967296) then some (R, app O v) else none) (y.bind fun v => bif decide (O.2.1 < 4294967296) then some (R, app O v) else none) := by
  obtain ⟨r, h1, h2⟩ := h
  rw [h1, h2]
  exact Sp2.out1 hO rfl
theorem Sp2.id : Sp2 O (some (R, O)) (some (R, O)) := ⟨_, rfl, rfl, Nat.le_succ _⟩
theorem Sp2.pair (h : Sp2 O A B) : Sp2 O (A.bind fun y => some (y.1, y.2)) (B.bind fun y => some (y.1, y.2)) := by
  obtain ⟨r, h1, h2, h3⟩ := h
  exact ⟨r, by rw [h1]; rfl, by rw [h2]; rfl, h3⟩
theorem Sp2.left (h : Sp2 O A B) : Sp2 O (A.bind fun y => some (y.1, y.2)) B := by
  obtain ⟨r, h1, h2, h3⟩ := h
  exact ⟨r, by rw [h1]; rfl, h2, h3⟩
theorem Bo.bnd {x y : Option α} {f g : α → Option β} (h : Bo x y) (hf : ∀ a, x = some a → y = some a → Bo (f a) (g a)) : Bo (x.bind f) (y.bind g) := by
  obtain ⟨r, h1, h2⟩ := h
  rw [h1, h2]
  exact hf r h1 h2
theorem Bo.rf (v : α) : Bo (some v) (some v) := ⟨v, rfl, rfl⟩
theorem Bo.fst {x y : Option (α × β)} (h : Bo x y) : Bo (x.bind fun v => some v.1) (y.bind fun v => some v.1) := h.bnd fun a _ _ => Bo.rf _
theorem Bo.bif {c : Bool} {x y u v : Option α} (h1 : c = true → Bo x u) (h2 : c = false → Bo y v) : Bo (bif c then x else y) (bif c then u else v) := by
  cases c
  · exact h2 rfl
  · exact h1 rfl
theorem Bo.same {x : Option α} (h : ∃ v, x = some v) : Bo x x := by obtain ⟨v, h⟩ := h; exact ⟨v, h, h⟩
theorem Bo.some {x : Option α} {v : α} (h : x = some v) : Bo (Option.some v) x := ⟨v, rfl, h⟩
theorem F228_eq (e m : BitVec 8) (x : BitVec 64) : F228 e m x = F222 e m x := by unfold F228 F228_1 F222 F222_1; rfl
theorem F229_eq (i : Int) : F229 i = F223 i := by unfold F229 F229_1 F229_2 F229_3 F223 F223_1 F223_2 F223_3; rfl
theorem F310_eq (i : Int) (b : Bool) : F310 N i b = F290 N i b := by unfold F310 F310_1 F290 F290_1; rfl
theorem F313_eq (e m : BitVec 8) (x : BitVec 64) (s : List UInt8) : F313 e m x s = F292 e m x s := by
  unfold F313 F313_1 F313_2 F313_3 F313_4 F292 F292_1 F292_2 F292_3 F292_4; rfl
theorem F349_eq (e m : BitVec 8) (x : BitVec 64) (s : List UInt8) : F349 e m x s = F292 e m x s := by
  unfold F349 F349_1 F349_2 F349_3 F349_4 F292 F292_1 F292_2 F292_3 F292_4; rfl
theorem F290_ends (hN : 30 ≤ N) {i : Int} (b : Bool) (hi : -9223372036854775808 ≤ i ∧ i < 9223372036854775808) : ∃ s, F290 N i b = some s := by
  obtain ⟨s, h, _⟩ := itoa_ends hN hi
  unfold F290 F290_1
  cases b
  · exact ⟨_, rfl⟩
  · exact ⟨s, by rw [h]; rfl⟩
theorem conv_any (h : Fm e m) (e' m' : BitVec 8) (a : BitVec 64) : Bo (F115 N e m e' m' mode a) (F114 N e m e' m' mode a) := by
  cases hc : F40 e' m' with
  | true => exact convert_eq h (fm_iff.1 hc) a
  | false =>
    unfold F115 F114 lt
    rw [h.ok, hc]
    exact Bo.rf _
/-- What the scanner read, taken in. -/
theorem dec_take (hO : O.2.1 < 4294967296) {k0 d a b : BitVec 8} {imm : BitVec 64} {tx : List UInt8} {x1 : BitVec 8} {x2 : Bool} {x3 : List UInt8} {x4 x5 x6 : Int} {r : BitVec 64 × BitVec 8} (h : F135 N e m mode x2 x3 x4 = some r) :
    Sp2 O (F312 N e m R O k0 d a b imm tx x1 x2 x3 x4 x5 x6 r.1) (F225_1 N e m mode R O d x1 x2 x3 x4 x5 x6) := by
  unfold F312 F312_1 F225_1 F225_2
  refine Sp2.bif (fun _ => ?_) (fun _ => ?_)
  · unfold F77
    rw [h]
    exact Sp2.up1 rfl
  · unfold F312_2 F225_3
    refine Sp2.bif (fun _ => Sp2.up1 rfl) (fun _ => ?_)
    unfold F312_3 F225_4
    refine Sp2.bif (fun _ => Sp2.up1 rfl) (fun _ => ?_)
    unfold F312_4 F225_5
    refine Sp2.bif (fun _ => Sp2.out1 hO rfl) (fun _ => ?_)
    unfold F312_5 F225_6
    exact Sp2.bif (fun _ => Sp2.out1 hO rfl) (fun _ => Sp2.id)
theorem dec_st (hN : 1100 ≤ N) {t : Tab} (ht : TabOk t) (hf : Fm e m) (hO : O.2.1 < 4294967296) (k0 d a b : BitVec 8) (imm : BitVec 64) (tx : List UInt8) :
    Sp2 O (F231 N t e m mode R O k0 d a b imm tx) (F225 N e m mode R O k0 d a b imm tx) := by
  obtain ⟨r, h1, h2⟩ := decScan_ok hN tx
  unfold F231 F225
  rw [h1, h2]
  simp only [Option.bind_some, F231_1]
  obtain ⟨q, path, q1, q2⟩ := parse_ok (mode := mode) (neg := r.2.1) (dig := r.2.2.1) (exp := r.2.2.2.1) (show 900 ≤ N by omega) ht hf
  rw [q2, Option.bind_some]
  exact (dec_take hO q1).left
theorem dec2_st (hN : 1100 ≤ N) {t : Tab} (ht : TabOk t) (hf : Fm e m) (hO : O.2.1 < 4294967296) (k0 d a b : BitVec 8) (imm : BitVec 64) (tx : List UInt8) :
    Sp2 O (F324 N t e m mode R O k0 d a b imm tx) (F225 N e m mode R O k0 d a b imm tx) := by
  obtain ⟨r, h1, h2⟩ := decScan_ok hN tx
  unfold F324 F225
  rw [h1, h2]
  simp only [Option.bind_some, F324_1]
  obtain ⟨q, path, q1, q2⟩ := second_ok (mode := mode) (neg := r.2.1) (dig := r.2.2.1) (exp := r.2.2.2.1) (show 900 ≤ N by omega) ht hf
  rw [q2, Option.bind_some]
  exact (dec_take hO q1).left
/-- The hexadecimal text read. -/
theorem hex_take (hN : 1100 ≤ N) (hf : Fm e m) (hO : O.2.1 < 4294967296) (d : BitVec 8) (tx : List UInt8) :
    Sp2 O ((F323 N tx).bind fun y18 => F233_13 N e m mode R O d y18.1 y18.2.1 y18.2.2.1 y18.2.2.2.1 y18.2.2.2.2.1 y18.2.2.2.2.2) ((F304 N tx).bind fun y18 => F227_13 N e m mode R O d y18.1 y18.2.1 y18.2.2.1 y18.2.2.2.1 y18.2.2.2.2.1 y18.2.2.2.2.2) := by
  obtain ⟨r, h1, h2, h3⟩ := hexScan_ok hN tx
  rw [h1, h2, Option.bind_some, Option.bind_some]
  unfold F233_13 F233_14 F227_13 F227_14
  refine Sp2.bif (fun c => Sp2.up ?_) (fun _ => ?_)
  · unfold F109 F108
    exact (hexBits_eq (show 900 ≤ N by omega) hf (h3 (beq_iff_eq.1 c))).fst
  · unfold F233_15 F227_15
    exact Sp2.bif (fun _ => Sp2.out1 hO rfl) (fun _ => Sp2.out1 hO rfl)
theorem flag_txt (hN : 10 ≤ N) {x y : Option (BitVec 8)} (h : Bo x y) : Bo (x.bind fun v => F301 N v) (y.bind fun v => F301 N v) := h.bnd fun a _ _ => Bo.same (flagText_ends hN a)
theorem Bo.snd {x y : Option (α × β)} (h : Bo x y) : Bo (x.bind fun v => Option.some v.2) (y.bind fun v => Option.some v.2) := h.bnd fun a _ _ => Bo.rf _
theorem flags3 (hN : 3000 ≤ N) (hf : Fm e m) (imm a b c : BitVec 64) : Bo (F321 N e m mode imm a b c) (F302 N e m mode imm a b c) := by
  unfold F321 F321_2 F321_3 F302 F302_2 F302_3
  refine Bo.bif (fun _ => (add_eq hf a b).snd) (fun _ => ?_)
  unfold F321_4 F302_4
  refine Bo.bif (fun _ => (sub_eq hf a b).snd) (fun _ => ?_)
  unfold F321_5 F302_5
  refine Bo.bif (fun _ => (mul_eq hf a b).snd) (fun _ => ?_)
  unfold F321_6 F302_6
  refine Bo.bif (fun _ => (div_eq hf a b (by omega)).snd) (fun _ => ?_)
  unfold F321_7 F302_7
  refine Bo.bif (fun _ => (sqrt_eq hf a (by omega)).snd) (fun _ => ?_)
  unfold F321_8 F302_8
  refine Bo.bif (fun _ => (fma_eq hf a b c).snd) (fun _ => ?_)
  unfold F321_9 F302_9
  refine Bo.bif (fun _ => (rem_eq hf a b hN).snd) (fun _ => ?_)
  unfold F321_10 F302_10
  exact Bo.bif (fun _ => (roundInt_eq hf a).snd) (fun _ => Bo.rf _)
/-- Flags of a conversion: what is shown, where it is shown. -/
theorem flags4 (hf : Fm e m) (imm a : BitVec 64) : ∃ u v : BitVec 8 × Bool, F329 N e m mode imm a = some u ∧ F309 N e m mode imm a = some v ∧ u = v := by
  have key : Bo (F329 N e m mode imm a) (F309 N e m mode imm a) := by
    unfold F329 F329_2 F329_3 F309 F309_2 F309_3
    refine Bo.bif (fun _ => ?_) (fun _ => ?_)
    · unfold F329_4 F309_4
      exact (conv_any hf _ _ a).bnd fun v _ _ => Bo.rf _
    · unfold F329_6 F309_6
      refine Bo.bif (fun _ => (toInt_eq hf a).bnd fun v _ _ => Bo.rf _) (fun _ => ?_)
      unfold F329_7 F309_7
      refine Bo.bif (fun _ => (fromI_eq hf _).bnd fun v _ _ => Bo.rf _) (fun _ => ?_)
      unfold F329_8 F309_8
      exact Bo.bif (fun _ => (fromU_eq hf _).bnd fun v _ _ => Bo.rf _) (fun _ => Bo.rf _)
  obtain ⟨r, h1, h2⟩ := key
  exact ⟨r, r, h1, h2, rfl⟩
/-- Digits printed. -/
theorem digits_txt (hN : 110000 ≤ N) (hf : Fm e m) (x : BitVec 64) (k0 d a b : BitVec 8) (imm : BitVec 64) (tx : List UInt8) : Bo (F322 N e m x k0 d a b imm tx) (F303 N e m x k0 d a b imm tx) := by
  unfold F322 F322_1 F322_2 F303 F303_1 F303_2 lt
  refine Bo.bif (fun _ => ?_) (fun _ => ?_)
  · refine (digitsF_eq (show 20000 ≤ N by omega) hf x _).bnd fun v h1 h2 => ?_
    refine (Bo.same (textF_ends _ _ (digF_len (by omega) hf x _ h2) hN)).bnd fun s _ _ => ?_
    rw [F313_eq]; exact Bo.rf _
  · refine (digitsE_eq (show 20000 ≤ N by omega) hf x _).bnd fun v h1 h2 => ?_
    unfold F322_3 F303_3 lt
    refine (Bo.same (textE_ends (by omega) _ _ (digE_len (by omega) hf x _ h2))).bnd fun s _ _ => ?_
    rw [F313_eq]; exact Bo.rf _
end
end Go.Proofs.YfwaawGreat
