/-
  native: comparison, lesser and greater, sign.
-/
import Derived.Test.YfwaawGreatI9
namespace Go.Proofs.YfwaawGreat
open Go.Aw
set_option linter.unusedVariables false
set_option linter.unusedSimpArgs false

section
variable {e m mode : BitVec 8} {f : Ieee.Format} {neg na nb : Bool} {x : BitVec 64} {N : Nat}
/-- A test of two floats by their order. -/
def tst (r : BitVec 8) (o : Option Ordering) : Bool :=
  if r = 0#8 then o == some .eq else if r = 1#8 then !(o == some .eq) else if r = 2#8 then o == some .lt else if r = 3#8 then (o == some .lt || o == some .eq) else if r = 4#8 then o == some .gt else if r = 5#8 then (o == some .gt || o == some .eq) else false
theorem F389_ok (r : BitVec 8) (a b : BitVec 64) : F389 r a b = tst r (Ieee.double.order (wd 11#8 52#8 a) (wd 11#8 52#8 b)) := by
  rw [wd64, wd64]
  unfold F389 F389_1 F389_2 F389_3 F389_4 F389_5 F389_6 F389_7 F384 tst
  simp only [lt]
  by_cases c0 : r = 0#8
  · subst c0; rfl
  rw [if_neg c0, bf (by rw [beq_eq_false_iff_ne]; exact c0)]
  by_cases c1 : r = 1#8
  · subst c1; rfl
  rw [if_neg c1, bf (by rw [beq_eq_false_iff_ne]; exact c1)]
  by_cases c2 : r = 2#8
  · subst c2; rfl
  rw [if_neg c2, bf (by rw [beq_eq_false_iff_ne]; exact c2)]
  by_cases c3 : r = 3#8
  · subst c3; rfl
  rw [if_neg c3, bf (by rw [beq_eq_false_iff_ne]; exact c3)]
  by_cases c4 : r = 4#8
  · subst c4; rfl
  rw [if_neg c4, bf (by rw [beq_eq_false_iff_ne]; exact c4)]
  by_cases c5 : r = 5#8
  · subst c5; rfl
  rw [if_neg c5, bf (by rw [beq_eq_false_iff_ne]; exact c5)]
theorem F390_ok (r : BitVec 8) (a b : BitVec 64) : F390 r (BitVec.ofInt 32 (a.toNat : Int)) (BitVec.ofInt 32 (b.toNat : Int)) = tst r (Ieee.single.order (wd 8#8 23#8 a) (wd 8#8 23#8 b)) := by
  rw [← wd32, ← wd32]
  unfold F390 F390_1 F390_2 F390_3 F390_4 F390_5 F390_6 F390_7 F386 tst
  simp only [lt]
  by_cases c0 : r = 0#8
  · subst c0; rfl
  rw [if_neg c0, bf (by rw [beq_eq_false_iff_ne]; exact c0)]
  by_cases c1 : r = 1#8
  · subst c1; rfl
  rw [if_neg c1, bf (by rw [beq_eq_false_iff_ne]; exact c1)]
  by_cases c2 : r = 2#8
  · subst c2; rfl
  rw [if_neg c2, bf (by rw [beq_eq_false_iff_ne]; exact c2)]
  by_cases c3 : r = 3#8
  · subst c3; rfl
  rw [if_neg c3, bf (by rw [beq_eq_false_iff_ne]; exact c3)]
  by_cases c4 : r = 4#8
  · subst c4; rfl
  rw [if_neg c4, bf (by rw [beq_eq_false_iff_ne]; exact c4)]
  by_cases c5 : r = 5#8
  · subst c5; rfl
  rw [if_neg c5, bf (by rw [beq_eq_false_iff_ne]; exact c5)]
/-- What na puts out for an order is what ex puts out. -/
theorem F237_of {is64 : Bool} {a b : BitVec 64} {o : Option Ordering} {c : Int} (h : ∀ r, F338 is64 r a b = tst r o) (hc : (c = 2 ∧ o = none) ∨ ((c = 0 ∨ c = -1 ∨ c = 1) ∧ o = some (oc c))) : F237 is64 a b = F223 c := by
  unfold F237 F237_1 F237_2 F237_3 F237_4 F237_5 F237_6
  simp only [lt, h]
  rcases hc with ⟨rfl, rfl⟩ | ⟨rfl | rfl | rfl, rfl⟩ <;> rfl
theorem F237_64 (a b : BitVec 64) : F237 true a b = F223 (F88 11#8 52#8 a b) := by
  refine F237_of (fun r => ?_) (ncmp_ok kd64 a b)
  unfold F338
  exact F389_ok r a b
theorem F237_32 (a b : BitVec 64) : F237 false a b = F223 (F88 8#8 23#8 a b) := by
  refine F237_of (fun r => ?_) (ncmp_ok kd32 a b)
  unfold F338
  exact F390_ok r a b

/-! ### The greater and the lesser -/
def mxO (f : Ieee.Format) (X Y : Nat) : Option Nat := match f.order X Y with
  | none => none
  | some .lt => some Y
  | some .gt => some X
  | some .eq => if (f.read X).neg then some Y else some X
def mnO (f : Ieee.Format) (X Y : Nat) : Option Nat := match f.order X Y with
  | none => none
  | some .lt => some X
  | some .gt => some Y
  | some .eq => if (f.read X).neg then some X else some Y
theorem fmax_eq (k : FloatKind) (X Y : Nat) : fmax k (some X) (some Y) = mxO k.format X Y := by
  unfold fmax mxO ford
  show (match k.format.order X Y with | none => none | some .lt => some Y | some .gt => some X | some .eq => (some X).bind fun a => if (k.decode a).neg then some Y else some X) = _
  cases k.format.order X Y with
  | none => rfl
  | some o => cases o <;> rfl
theorem fmin_eq (k : FloatKind) (X Y : Nat) : fmin k (some X) (some Y) = mnO k.format X Y := by
  unfold fmin mnO ford
  show (match k.format.order X Y with | none => none | some .lt => some X | some .gt => some Y | some .eq => (some X).bind fun a => if (k.decode a).neg then some X else some Y) = _
  cases k.format.order X Y with
  | none => rfl
  | some o => cases o <;> rfl
theorem put_wd (k : Kd e m f) (h : (f.read (wd e m x)).isNaN = false) : put e m f (some (wd e m x)) = x &&& F69 e m := by
  unfold put
  simp only [h, cond_false]
  unfold wd
  refine BitVec.eq_of_toNat_eq ?_
  rw [BitVec.toNat_ofNat]
  exact Nat.mod_eq_of_lt (x &&& F69 e m).isLt
theorem read_sign (k : Kd e m f) {P : Nat} {s : Bool} (hP : P ≤ infP e.toNat m.toNat) : (f.read (P + sgn e.toNat m.toNat s)).neg = s := by
  have := infP_lt' e.toNat m.toNat
  rw [k.read (by omega)]
  split
  · rfl
  · split
    · rfl
    · split <;> rfl
/-- The pattern that F144 hands on is the operand's. -/
theorem F144_bits (k : Kd e m f) (x : BitVec 64) : ∃ ng c vn num den, (∀ N, F144 N e m x = some (x &&& F69 e m, ng, c, vn, num, den)) ∧ ((F65 e m x).2.1 ≠ 4 → ng = (F65 e m x).1) := by
  rcases k.opn x with ⟨ng, s, t, h1, h2, h3⟩ | ⟨neg, h1, h2, h3, h4⟩ | ⟨neg, h1, h2, h3, h4⟩ | ⟨neg, c, ex, man, P, mag, place, h1, h2, h3⟩
  · exact ⟨_, _, _, _, _, h3, fun g => absurd (by rw [h2]) g⟩
  · exact ⟨_, _, _, _, _, fun N => by rw [h3]; exact h4 N, fun _ => by rw [h2]⟩
  · exact ⟨_, _, _, _, _, fun N => by rw [h3]; exact h4 N, fun _ => by rw [h2]⟩
  · exact ⟨_, _, _, _, _, h2.f144, fun _ => by rw [h2.f65]⟩
theorem mxmn (k : Kd e m f) (a b : BitVec 64) : (∃ z, F184 N e m a b = some z ∧ z.1 = put e m f (mxO f (wd e m a) (wd e m b))) ∧ (∃ z, F183 N e m a b = some z ∧ z.1 = put e m f (mnO f (wd e m a) (wd e m b))) := by
  obtain ⟨ga, ca, va, an, ad, ha, hsa⟩ := F144_bits k a
  obtain ⟨gb, cb, vb, bn, bd, hb, hsb⟩ := F144_bits k b
  have hc := cmp_ok k.fm a b (N := N)
  unfold F184 F184_1 F183 F183_1
  simp only [lt]
  rw [k.fm.ok, Bool.not_true, bf rfl, bf rfl, ha, hb]
  simp only [Option.bind_some, F184_2, F183_2]
  rw [hc]
  simp only [Option.bind_some, F184_3, F184_4, F184_5, F184_6, F184_7, F183_3, F183_4, F183_5, F183_6, F183_7, F183_8, lt]
  unfold mxO mnO
  have ho := ncmp_ok k a b
  rcases k.cls a with ⟨h1, h2⟩ | ⟨P, s, hP, hw, h4, hs, hn, _⟩
  · have h88 := F88_nan (b := b) k.fm (Or.inl h2)
    rw [h88] at ho ⊢
    rcases ho with ⟨_, ho⟩ | ⟨ho, _⟩
    · rw [ho]; exact ⟨⟨_, rfl, rfl⟩, ⟨_, rfl, rfl⟩⟩
    · omega
  · rcases k.cls b with ⟨g1, g2⟩ | ⟨Q, t, hQ, gw, g4, gt, gn, _⟩
    · have h88 := F88_nan (a := a) k.fm (Or.inr g2)
      rw [h88] at ho ⊢
      rcases ho with ⟨_, ho⟩ | ⟨ho, _⟩
      · rw [ho]; exact ⟨⟨_, rfl, rfl⟩, ⟨_, rfl, rfl⟩⟩
      · omega
    · have hga := hsa h4
      have hra : (f.read (wd e m a)).neg = s := by rw [hw]; exact read_sign k hP
      rw [hs] at hga
      generalize F88 e m a b = c88 at *
      rcases ho with ⟨rfl, ho⟩ | ⟨rfl | rfl | rfl, ho⟩
      · rw [ho]; exact ⟨⟨_, rfl, rfl⟩, ⟨_, rfl, rfl⟩⟩
      · rw [ho, hga]
        show (∃ z, (bif s then some (b &&& F69 e m, 0#8) else some (a &&& F69 e m, 0#8)) = some z ∧ z.1 = put e m f (if (f.read (wd e m a)).neg = true then some (wd e m b) else some (wd e m a))) ∧ (∃ z, (bif !s then some (b &&& F69 e m, 0#8) else some (a &&& F69 e m, 0#8)) = some z ∧ z.1 = put e m f (if (f.read (wd e m a)).neg = true then some (wd e m a) else some (wd e m b)))
        rw [hra]
        cases s
        · exact ⟨⟨_, rfl, (put_wd k hn).symm⟩, ⟨_, rfl, (put_wd k gn).symm⟩⟩
        · exact ⟨⟨_, rfl, (put_wd k gn).symm⟩, ⟨_, rfl, (put_wd k hn).symm⟩⟩
      · rw [ho]
        exact ⟨⟨_, rfl, (put_wd k gn).symm⟩, ⟨_, rfl, (put_wd k hn).symm⟩⟩
      · rw [ho]
        exact ⟨⟨_, rfl, (put_wd k hn).symm⟩, ⟨_, rfl, (put_wd k gn).symm⟩⟩
theorem mx_lt {X Y r : Nat} (hX : X < 4294967296) (hY : Y < 4294967296) (h : mxO f X Y = some r) : r < 4294967296 := by
  unfold mxO at h
  split at h <;> try (cases h; assumption)
  · cases h
  · split at h <;> cases h <;> assumption
theorem mn_lt {X Y r : Nat} (hX : X < 4294967296) (hY : Y < 4294967296) (h : mnO f X Y = some r) : r < 4294967296 := by
  unfold mnO at h
  split at h <;> try (cases h; assumption)
  · cases h
  · split at h <;> cases h <;> assumption
theorem wd32_lt (x : BitVec 64) : wd 8#8 23#8 x < 4294967296 := wd_lt kd32.fm x
/-- na's choice in binary64. -/
theorem choose64 (g : Bool) (a b : BitVec 64) : ∃ z, (bif g then F184 N 11#8 52#8 a b else F183 N 11#8 52#8 a b) = some z ∧ F354 N true g a b = some z.1 := by
  obtain ⟨⟨z1, h1, h2⟩, ⟨z2, h3, h4⟩⟩ := mxmn (N := N) kd64 a b
  unfold F354 F354_1 F396 F397 F384
  simp only [lt, F385_ok]
  cases g
  · refine ⟨z2, h3, ?_⟩
    rw [h4, wd64, wd64, fmin_eq .f64]; rfl
  · refine ⟨z1, h1, ?_⟩
    rw [h2, wd64, wd64, fmax_eq .f64]; rfl
theorem choose32 (g : Bool) (a b : BitVec 64) : ∃ z, (bif g then F184 N 8#8 23#8 a b else F183 N 8#8 23#8 a b) = some z ∧ F354 N false g a b = some z.1 := by
  obtain ⟨⟨z1, h1, h2⟩, ⟨z2, h3, h4⟩⟩ := mxmn (N := N) kd32 a b
  unfold F354 F354_1 F398 F399 F386
  simp only [lt]
  rw [wd32, wd32]
  cases g
  · refine ⟨z2, h3, ?_⟩
    obtain ⟨y, y1, y2, y3⟩ := F387_ok (N := N) (fmin .f32 (some (wd 8#8 23#8 a)) (some (wd 8#8 23#8 b))) (fun r hr => by rw [fmin_eq] at hr; exact mn_lt (wd32_lt a) (wd32_lt b) hr)
    have : (bif (false && false) then (F385 N (fmax FloatKind.f64 (some a.toNat) (some b.toNat))).bind fun y6 => some y6 else none : Option (BitVec 64)) = none := rfl
    simp only [Bool.and_self, cond_false]
    rw [y1, h4]
    show some (BitVec.ofInt 64 (y.toNat : Int)) = _
    rw [y2, fmin_eq]; rfl
  · refine ⟨z1, h1, ?_⟩
    obtain ⟨y, y1, y2, y3⟩ := F387_ok (N := N) (fmax .f32 (some (wd 8#8 23#8 a)) (some (wd 8#8 23#8 b))) (fun r hr => by rw [fmax_eq] at hr; exact mx_lt (wd32_lt a) (wd32_lt b) hr)
    simp only [Bool.false_and, cond_false, cond_true]
    rw [y1, h2]
    show some (BitVec.ofInt 64 (y.toNat : Int)) = _
    rw [y2, fmax_eq]; rfl
end
end Go.Proofs.YfwaawGreat
