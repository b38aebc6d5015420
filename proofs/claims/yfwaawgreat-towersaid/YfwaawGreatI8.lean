/-
  native: putting a float into a pattern; the four operations, root and fused sum.
-/
import Derived.Test.YfwaawGreatI7
import Derived.Test.YfwaawGreatG66
namespace Go.Proofs.YfwaawGreat
open Go.Aw
set_option linter.unusedVariables false
set_option linter.unusedSimpArgs false

section
variable {e m mode : BitVec 8} {f : Ieee.Format} {neg : Bool} {x : BitVec 64} {N : Nat}
/-- A float's pattern, THE NaN for a NaN. -/
def put (e m : BitVec 8) (f : Ieee.Format) (o : Option Nat) : BitVec 64 := match o with
  | some r => bif (f.read r).isNaN then F66 e m else BitVec.ofNat 64 r
  | none => F66 e m
theorem cmp_self (i : Int) : compare i i = .eq := by
  simp [compare, compareOfLessAndEq]
theorem cmp_selfN (i : Nat) : compare i i = .eq := by
  simp [compare, compareOfLessAndEq]
theorem order_self (d : Ieee.Datum) : d.order d = if d.isNaN then none else some .eq := by
  cases d with
  | nan s t => rfl
  | infinity s =>
    show some (compare s.toNat s.toNat) = some .eq
    rw [cmp_selfN]
  | number s m i =>
    show some (compare _ _) = some .eq
    rw [cmp_self]
theorem fneq_self (k : FloatKind) (o : Option Nat) : fcmp .neq k o o = match o with | some r => (k.format.read r).isNaN | none => true := by
  unfold fcmp feq ford
  cases o with
  | none => rfl
  | some r =>
    show (!(k.format.order r r == some .eq)) = (k.format.read r).isNaN
    unfold Ieee.Format.order
    rw [order_self]
    cases (k.format.read r).isNaN <;> rfl
theorem nan64_eq : F66 11#8 52#8 = 9221120237041090560#64 := by decide
theorem nan32_eq : F66 8#8 23#8 = 2143289344#64 := by decide
theorem F385_ok (o : Option Nat) : F385 N o = some (put 11#8 52#8 Ieee.double o) := by
  unfold F385 F385_1
  rw [fneq_self]
  cases o with
  | none => unfold put; rw [nan64_eq]; rfl
  | some r =>
    unfold put
    simp only [show FloatKind.f64.format = Ieee.double from rfl]
    cases (Ieee.double.read r).isNaN
    · unfold F405; rfl
    · rw [nan64_eq]; rfl
theorem F387_ok (o : Option Nat) (h : ∀ r, o = some r → r < 4294967296) : ∃ y, F387 N o = some y ∧ BitVec.ofInt 64 (y.toNat : Int) = put 8#8 23#8 Ieee.single o ∧ y.toNat = wd 8#8 23#8 (put 8#8 23#8 Ieee.single o) := by
  unfold F387 F387_1
  rw [fneq_self]
  have hN : wd 8#8 23#8 (F66 8#8 23#8) = 2143289344 := by decide
  cases o with
  | none => refine ⟨_, rfl, ?_, ?_⟩
            · unfold put; rw [nan32_eq]; rfl
            · unfold put; rw [hN]; rfl
  | some r =>
    have hr := h r rfl
    unfold put
    simp only [show FloatKind.f32.format = Ieee.single from rfl]
    cases (Ieee.single.read r).isNaN
    · unfold F407
      have e1 : (BitVec.ofNat 32 r).toNat = r := by rw [BitVec.toNat_ofNat]; exact Nat.mod_eq_of_lt hr
      refine ⟨_, rfl, ?_, ?_⟩
      · show BitVec.ofInt 64 ((BitVec.ofNat 32 r).toNat : Int) = BitVec.ofNat 64 r
        rw [e1, ofInt_nat]
      · show (BitVec.ofNat 32 r).toNat = wd 8#8 23#8 (BitVec.ofNat 64 r)
        rw [e1]
        unfold wd
        rw [BitVec.toNat_and, F69_ok kd32.fm, Nat.and_two_pow_sub_one_eq_mod, BitVec.toNat_ofNat]
        show r = r % 2 ^ 64 % 2 ^ 32
        omega
    · refine ⟨_, rfl, ?_, ?_⟩
      · rw [nan32_eq]; rfl
      · show _ = wd 8#8 23#8 (F66 8#8 23#8)
        rw [hN]; rfl
theorem wd64 (x : BitVec 64) : wd 11#8 52#8 x = x.toNat := by
  unfold wd
  rw [BitVec.toNat_and, F69_ok kd64.fm, Nat.and_two_pow_sub_one_eq_mod]
  exact Nat.mod_eq_of_lt x.isLt
theorem wd32 (x : BitVec 64) : (BitVec.ofInt 32 (x.toNat : Int)).toNat = wd 8#8 23#8 x := by
  unfold wd
  rw [BitVec.toNat_and, F69_ok kd32.fm, Nat.and_two_pow_sub_one_eq_mod, ofInt_nat, BitVec.toNat_ofNat]
  rfl
/-- What is written from a number or an infinity reads as no NaN. -/
theorem write_nn (k : Kd e m f) {d : Ieee.Datum} (h : d.isNaN = false) : (f.read (f.write d)).isNaN = false := by
  have key : ∀ (s : Bool) (P : Nat), P ≤ infP e.toNat m.toNat → (f.read (f.word s P)).isNaN = false := by
    intro s P hP
    have := infP_lt' e.toNat m.toNat
    rw [k.word, k.read (by omega)]
    split
    · rfl
    · split
      · rfl
      · rw [if_pos (by omega)]; rfl
  cases d with
  | nan s t => cases h
  | infinity s => exact key _ _ (by rw [k.inf]; exact Nat.le_refl _)
  | number s mag p =>
    show (f.read (f.nearest s mag p)).isNaN = false
    unfold Ieee.Format.nearest
    split
    · exact key _ _ (Nat.zero_le _)
    · refine key _ _ ?_
      rw [k.inf]; exact Nat.min_le_right _ _
theorem put_write (k : Kd e m f) {o : Option Ieee.Datum} (h : ∀ d, o = some d → d.isNaN = false) : put e m f (o.map f.write) = can e m (o.map f.write) := by
  cases o with
  | none => rfl
  | some d =>
    show (bif (f.read (f.write d)).isNaN then F66 e m else BitVec.ofNat 64 (f.write d)) = _
    rw [write_nn k (h d rfl)]
    rfl
theorem sum_nn {a b d : Ieee.Datum} (h : a.sum b = some d) : d.isNaN = false := by
  cases a <;> cases b <;> simp only [Ieee.Datum.sum] at h
  all_goals first
    | cases h; rfl
    | (split at h <;> cases h; rfl)
    | cases h
theorem prod_nn {a b d : Ieee.Datum} (h : a.product b = some d) : d.isNaN = false := by
  cases a <;> cases b <;> simp only [Ieee.Datum.product] at h
  all_goals first
    | cases h; rfl
    | (split at h <;> cases h; rfl)
    | cases h
theorem quot_nn {n : Nat} {a b d : Ieee.Datum} (h : Ieee.Datum.quotient n a b = some d) : d.isNaN = false := by
  cases a <;> cases b <;> simp only [Ieee.Datum.quotient] at h
  all_goals first
    | cases h; rfl
    | (split at h <;> (try split at h) <;> cases h <;> rfl)
    | cases h
theorem root_nn {n : Nat} {a d : Ieee.Datum} (h : Ieee.Datum.root n a = some d) : d.isNaN = false := by
  cases a <;> simp only [Ieee.Datum.root] at h
  all_goals first
    | (split at h <;> cases h; rfl)
    | (split at h
       · cases h; rfl
       · split at h
         · cases h
         · cases h; rfl)
    | cases h
theorem fma_nn {a b c d : Ieee.Datum} (h : ((a.product b).bind (·.sum c)) = some d) : d.isNaN = false := by
  cases hp : a.product b with
  | none => rw [hp] at h; cases h
  | some q => rw [hp] at h; exact sum_nn h
theorem put_add (k : Kd e m f) (x y : Nat) : put e m f (f.add x y) = can e m (f.add x y) := put_write k fun d h => sum_nn h
theorem put_sub (k : Kd e m f) (x y : Nat) : put e m f (f.sub x y) = can e m (f.sub x y) := put_write k fun d h => sum_nn h
theorem put_mul (k : Kd e m f) (x y : Nat) : put e m f (f.mul x y) = can e m (f.mul x y) := put_write k fun d h => prod_nn h
theorem put_div (k : Kd e m f) (x y : Nat) : put e m f (f.div x y) = can e m (f.div x y) := put_write k fun d h => quot_nn h
theorem put_sqrt (k : Kd e m f) (x : Nat) : put e m f (f.sqrt x) = can e m (f.sqrt x) := put_write k fun d h => root_nn h
theorem put_fma (k : Kd e m f) (x y z : Nat) : put e m f (f.fma x y z) = can e m (f.fma x y z) := put_write k fun d h => fma_nn h
theorem lt32 {o : Option Ieee.Datum} : ∀ r, o.map Ieee.single.write = some r → r < 4294967296 := by
  intro r h
  cases o with
  | none => cases h
  | some d =>
    cases h
    exact Ieee.Format.write_lt Ieee.single d
/-- native.Op64. -/
theorem F330_ok (op : BitVec 8) (a b : BitVec 64) : F330 N op a b = some (put 11#8 52#8 Ieee.double (if op = 0#8 then Ieee.double.add a.toNat b.toNat else if op = 1#8 then Ieee.double.sub a.toNat b.toNat else if op = 2#8 then Ieee.double.mul a.toNat b.toNat else if op = 3#8 then Ieee.double.div a.toNat b.toNat else none)) := by
  unfold F330 F330_1 F330_2 F330_3 F330_4 F330_5 F384
  simp only [lt]
  by_cases c0 : op = 0#8
  · subst c0; rw [if_pos rfl, bt (beq_self_eq_true _), F385_ok]; rfl
  · rw [if_neg c0, bf (by rw [beq_eq_false_iff_ne]; exact c0)]
    by_cases c1 : op = 1#8
    · subst c1; rw [if_pos rfl, bt (beq_self_eq_true _), F385_ok]; rfl
    · rw [if_neg c1, bf (by rw [beq_eq_false_iff_ne]; exact c1)]
      by_cases c2 : op = 2#8
      · subst c2; rw [if_pos rfl, bt (beq_self_eq_true _), F385_ok]; rfl
      · rw [if_neg c2, bf (by rw [beq_eq_false_iff_ne]; exact c2)]
        by_cases c3 : op = 3#8
        · subst c3; rw [if_pos rfl, bt (beq_self_eq_true _), F385_ok]; rfl
        · rw [if_neg c3, bf (by rw [beq_eq_false_iff_ne]; exact c3)]
          unfold put
          rw [nan64_eq]
/-- native.Op32. -/
theorem F331_ok (op : BitVec 8) (a b : BitVec 64) : ∃ y, F331 N op (BitVec.ofInt 32 (a.toNat : Int)) (BitVec.ofInt 32 (b.toNat : Int)) = some y ∧ BitVec.ofInt 64 (y.toNat : Int) = put 8#8 23#8 Ieee.single (if op = 0#8 then Ieee.single.add (wd 8#8 23#8 a) (wd 8#8 23#8 b) else if op = 1#8 then Ieee.single.sub (wd 8#8 23#8 a) (wd 8#8 23#8 b) else if op = 2#8 then Ieee.single.mul (wd 8#8 23#8 a) (wd 8#8 23#8 b) else if op = 3#8 then Ieee.single.div (wd 8#8 23#8 a) (wd 8#8 23#8 b) else none) := by
  rw [← wd32, ← wd32]
  unfold F331 F331_1 F331_2 F331_3 F331_4 F331_5 F386
  simp only [lt]
  generalize (BitVec.ofInt 32 (a.toNat : Int)) = u
  generalize (BitVec.ofInt 32 (b.toNat : Int)) = v
  by_cases c0 : op = 0#8
  · subst c0
    obtain ⟨y, h1, h2, h3⟩ := F387_ok (N := N) (fbits .add .f32 (some u.toNat) (some v.toNat)) lt32
    rw [if_pos rfl, bt (beq_self_eq_true _), h1]; exact ⟨y, rfl, h2⟩
  · rw [if_neg c0, bf (by rw [beq_eq_false_iff_ne]; exact c0)]
    by_cases c1 : op = 1#8
    · subst c1
      obtain ⟨y, h1, h2, h3⟩ := F387_ok (N := N) (fbits .sub .f32 (some u.toNat) (some v.toNat)) lt32
      rw [if_pos rfl, bt (beq_self_eq_true _), h1]; exact ⟨y, rfl, h2⟩
    · rw [if_neg c1, bf (by rw [beq_eq_false_iff_ne]; exact c1)]
      by_cases c2 : op = 2#8
      · subst c2
        obtain ⟨y, h1, h2, h3⟩ := F387_ok (N := N) (fbits .mul .f32 (some u.toNat) (some v.toNat)) lt32
        rw [if_pos rfl, bt (beq_self_eq_true _), h1]; exact ⟨y, rfl, h2⟩
      · rw [if_neg c2, bf (by rw [beq_eq_false_iff_ne]; exact c2)]
        by_cases c3 : op = 3#8
        · subst c3
          obtain ⟨y, h1, h2, h3⟩ := F387_ok (N := N) (fbits .quo .f32 (some u.toNat) (some v.toNat)) lt32
          rw [if_pos rfl, bt (beq_self_eq_true _), h1]; exact ⟨y, rfl, h2⟩
        · rw [if_neg c3, bf (by rw [beq_eq_false_iff_ne]; exact c3)]
          refine ⟨_, rfl, ?_⟩
          unfold put
          rw [nan32_eq]; rfl
theorem F332_ok (a : BitVec 64) : F332 N a = some (can 11#8 52#8 (Ieee.double.sqrt (wd 11#8 52#8 a))) := by
  unfold F332 F384 F388 F408
  simp only [lt]
  rw [F385_ok, wd64, ← put_sqrt kd64]
  rfl
theorem F391_ok (a b c : BitVec 64) : F391 N a b c = some (can 11#8 52#8 (Ieee.double.fma (wd 11#8 52#8 a) (wd 11#8 52#8 b) (wd 11#8 52#8 c))) := by
  unfold F391 F384 F409
  simp only [lt]
  rw [F385_ok, wd64, wd64, wd64, ← put_fma kd64]
  rfl
end
end Go.Proofs.YfwaawGreat
