/-
  The model's reading of a word.
-/
import Derived.Test.YfwaawGreatI1
namespace Go.Proofs.YfwaawGreat
open Go.Aw
set_option linter.unusedVariables false
set_option linter.unusedSimpArgs false

section
variable {e m : BitVec 8} {f : Ieee.Format} {neg : Bool} {x : BitVec 64}
/-- The pattern within the width. -/
def wd (e m : BitVec 8) (x : BitVec 64) : Nat := (x &&& F69 e m).toNat
theorem Kd.parts (k : Kd e m f) {P : Nat} (hP : P < 2 ^ (e.toNat + m.toNat)) : (P + sgn e.toNat m.toNat neg) % f.signWeight = P ∧ ((P + sgn e.toNat m.toNat neg) / f.signWeight % 2 == 1) = neg := by
  rw [k.sw]
  have hp := pow_pos2 (e.toNat + m.toNat)
  unfold sgn
  cases neg
  · rw [cond_false, Nat.add_zero, Nat.mod_eq_of_lt hP, Nat.div_eq_of_lt hP]
    exact ⟨rfl, rfl⟩
  · rw [cond_true, Nat.add_mod_right, Nat.mod_eq_of_lt hP, Nat.add_div_right _ hp, Nat.div_eq_of_lt hP]
    exact ⟨rfl, rfl⟩
theorem Kd.read (k : Kd e m f) {P : Nat} (hP : P < 2 ^ (e.toNat + m.toNat)) : f.read (P + sgn e.toNat m.toNat neg) =
    if P < 2 ^ m.toNat then .number neg P f.leastPlace
    else if P < infP e.toNat m.toNat then .number neg (2 ^ m.toNat + P % 2 ^ m.toNat) (f.leastPlace + (P / 2 ^ m.toNat - 1 : Nat))
    else if P = infP e.toNat m.toNat then .infinity neg
    else .nan neg (P - infP e.toNat m.toNat) := by
  unfold Ieee.Format.read
  simp only []
  rw [(k.parts hP).1, (k.parts hP).2, k.bin, k.inf]
theorem Kd.rinf (k : Kd e m f) : f.read (infP e.toNat m.toNat + sgn e.toNat m.toNat neg) = .infinity neg := by
  rw [k.read (infP_lt' _ _), if_neg (by have := infP_pos k.fm; omega), if_neg (by omega), if_pos rfl]
theorem Kd.rzero (k : Kd e m f) : f.read (sgn e.toNat m.toNat neg) = .number neg 0 f.leastPlace := by
  have := k.read (neg := neg) (pow_pos2 (e.toNat + m.toNat))
  rw [Nat.zero_add] at this
  rw [this, if_pos (pow_pos2 _)]
theorem Kd.rnan (k : Kd e m f) {X : Nat} (h : infP e.toNat m.toNat < X % 2 ^ (e.toNat + m.toNat)) : ∃ s t, f.read X = .nan s t := by
  unfold Ieee.Format.read
  simp only []
  rw [k.sw, k.bin, k.inf, if_neg (by have := infP_pos k.fm; omega), if_neg (by omega), if_neg (by omega)]
  exact ⟨_, _, rfl⟩
/-- A finite number, not zero, as the model has it. -/
structure Nu (f : Ieee.Format) (e m : BitVec 8) (P mag : Nat) (place : Int) : Prop where
  m0 : mag ≠ 0
  hi : mag < 2 ^ (m.toNat + 1)
  pl : f.leastPlace ≤ place
  u : mag * 2 ^ (place - f.leastPlace).toNat = uv m.toNat P
  ph : place ≤ (bia e.toNat : Int) - m.toNat
  nm : place = f.leastPlace ∨ 2 ^ m.toNat ≤ mag
theorem uv_pos {M P : Nat} (h : 0 < P) : 0 < uv M P := by
  unfold uv
  split
  · exact h
  · exact Nat.mul_pos (by have := pow_pos2 M; omega) (pow_pos2 _)
theorem Kd.rnum (k : Kd e m f) {P : Nat} (h0 : 0 < P) (hP : P < infP e.toNat m.toNat) : ∃ mag place, f.read (P + sgn e.toNat m.toNat neg) = .number neg mag place ∧ Nu f e m P mag place := by
  have hi := infP_lt' e.toNat m.toNat
  have hpm := pow_pos2 m.toNat
  have hp1 := Nat.pow_succ 2 m.toNat
  have hlp := k.lp
  have hbg := bia_ge k.fm.e2
  rw [k.read (by omega)]
  by_cases c : P < 2 ^ m.toNat
  · rw [if_pos c]
    refine ⟨P, f.leastPlace, rfl, by omega, by omega, by omega, ?_, by omega, Or.inl rfl⟩
    unfold uv
    rw [Int.sub_self, Int.toNat_zero, Nat.pow_zero, Nat.mul_one, if_pos (Nat.div_eq_of_lt c)]
  · rw [if_neg c, if_pos hP]
    have hq : P / 2 ^ m.toNat ≠ 0 := by
      have := (Nat.le_div_iff_mul_le hpm (x := 1) (y := P)).2 (by omega)
      omega
    have hq2 : P / 2 ^ m.toNat < 2 ^ e.toNat - 1 := by
      rw [Nat.div_lt_iff_lt_mul hpm]; exact hP
    have hml := Nat.mod_lt P hpm
    have hpE := pow_E k.fm.e2
    refine ⟨_, _, rfl, by omega, by omega, by omega, ?_, by omega, Or.inr (by omega)⟩
    unfold uv
    rw [if_neg hq, show (f.leastPlace + ((P / 2 ^ m.toNat - 1 : Nat) : Int) - f.leastPlace).toNat = P / 2 ^ m.toNat - 1 by omega, Nat.add_comm (2 ^ m.toNat)]
/-- The same number. -/
theorem Nu.cross {c ex : Int} {man : BitVec 64} {P mag : Nat} {place : Int} (k : Kd e m f) (n : Nu f e m P mag place) (o : FinP e m x neg c ex man P) :
    man.toNat * 2 ^ ex.toNat * 2 ^ (-place).toNat = mag * 2 ^ place.toNat * 2 ^ (-ex).toNat := by
  have hv := o.val
  rw [← n.u, k.lp] at hv
  have hexl := o.exl
  have hpl := n.pl
  rw [k.lp] at hpl
  obtain ⟨W, hW⟩ : ∃ W, W = (ex + bia e.toNat + 2 * m.toNat - 1).toNat := ⟨_, rfl⟩
  rw [← hW] at hv
  refine Nat.mul_right_cancel (pow_pos2 W) ?_
  have e1 : man.toNat * 2 ^ ex.toNat * 2 ^ (-place).toNat * 2 ^ W = man.toNat * 2 ^ W * (2 ^ ex.toNat * 2 ^ (-place).toNat) := by
    rw [Nat.mul_right_comm, Nat.mul_right_comm man.toNat, Nat.mul_assoc (man.toNat * 2 ^ W)]
  rw [e1, hv]
  simp only [Nat.mul_assoc]
  rw [← Nat.pow_add, ← Nat.pow_add, ← Nat.pow_add, ← Nat.pow_add, ← Nat.pow_add]
  exact congrArg (fun t => mag * 2 ^ t) (by omega)
/-- An operand of exact's and of the model's. -/
theorem Kd.opn (k : Kd e m f) (x : BitVec 64) :
    (∃ ng s t, f.read (Go.Proofs.YfwaawGreat.wd e m x) = .nan s t ∧ F65 e m x = (false, 4, 0, 0#64) ∧ ∀ N, F144 N e m x = some (x &&& F69 e m, ng, 4, false, 0, 1)) ∨
    (∃ neg, f.read (Go.Proofs.YfwaawGreat.wd e m x) = .infinity neg ∧ F65 e m x = (neg, 3, 0, 0#64) ∧ x &&& F69 e m = F67 e m neg ∧ ∀ N, F144 N e m x = some (F67 e m neg, neg, 3, false, 0, 1)) ∨
    (∃ neg, f.read (Go.Proofs.YfwaawGreat.wd e m x) = .number neg 0 f.leastPlace ∧ F65 e m x = (neg, 0, 0, 0#64) ∧ x &&& F69 e m = F251 e m neg ∧ ∀ N, F144 N e m x = some (F251 e m neg, neg, 0, neg, 0, 1)) ∨
    (∃ neg c ex man P mag place, f.read (Go.Proofs.YfwaawGreat.wd e m x) = .number neg mag place ∧ FinP e m x neg c ex man P ∧ Nu f e m P mag place) := by
  unfold Go.Proofs.YfwaawGreat.wd
  rcases Go.Proofs.YfwaawGreat.opn k.fm x with ⟨ng, o1, o2, o3⟩ | ⟨ng, o1, o2, o3⟩ | ⟨ng, o1, o2, o3⟩ | ⟨ng, c, ex', man, P, o⟩
  · obtain ⟨s, t, h⟩ := k.rnan o2
    exact Or.inl ⟨ng, s, t, h, o1, o3⟩
  · exact Or.inr (Or.inl ⟨ng, by rw [o2, F67_ok k.fm]; exact k.rinf, o1, o2, o3⟩)
  · exact Or.inr (Or.inr (Or.inl ⟨ng, by rw [o2, F251_ok k.fm]; exact k.rzero, o1, o2, o3⟩))
  · obtain ⟨mag, place, h1, h2⟩ := k.rnum (neg := ng) o.p0 o.pi
    exact Or.inr (Or.inr (Or.inr ⟨ng, c, ex', man, P, mag, place, by rw [o.xm]; exact h1, o, h2⟩))
/-- The answer's pattern: THE NaN for none. -/
def can (e m : BitVec 8) (o : Option Nat) : BitVec 64 := match o with
  | some r => BitVec.ofNat 64 r
  | none => F66 e m
theorem can_inf (k : Kd e m f) : can e m (some (f.write (.infinity neg))) = F67 e m neg := by
  refine BitVec.eq_of_toNat_eq ?_
  show (BitVec.ofNat 64 (f.word neg f.infRung)).toNat = _
  rw [k.word, k.inf, F67_ok k.fm, BitVec.toNat_ofNat]
  refine Nat.mod_eq_of_lt ?_
  rw [← F67_ok k.fm]; exact (F67 e m neg).isLt
theorem can_zero (k : Kd e m f) (p : Int) : can e m (some (f.write (.number neg 0 p))) = F251 e m neg := by
  refine BitVec.eq_of_toNat_eq ?_
  show (BitVec.ofNat 64 (f.nearest neg 0 p)).toNat = _
  unfold Ieee.Format.nearest
  rw [if_pos rfl, k.word, Nat.zero_add, F251_ok k.fm, BitVec.toNat_ofNat]
  refine Nat.mod_eq_of_lt ?_
  rw [← F251_ok k.fm]; exact (F251 e m neg).isLt
theorem can_num (k : Kd e m f) {mode : BitVec 8} (hm : NE mode) {mag : Nat} (h0 : mag ≠ 0) (p : Int) : can e m (some (f.write (.number neg mag p))) = (RQ e m mode neg (mag * 2 ^ p.toNat) (2 ^ (-p).toNat)).1 := by
  refine BitVec.eq_of_toNat_eq ?_
  show (BitVec.ofNat 64 (f.nearest neg mag p)).toNat = _
  rw [k.near hm h0, BitVec.toNat_ofNat]
  exact Nat.mod_eq_of_lt (RQ e m mode neg (mag * 2 ^ p.toNat) (2 ^ (-p).toNat)).1.isLt
end
end Go.Proofs.YfwaawGreat
