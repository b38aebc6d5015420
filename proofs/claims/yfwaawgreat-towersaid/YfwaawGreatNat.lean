/-
  What is known of a slice of limbs, of a natural number in memory, of the table.
-/
import Derived.Test.YfwaawGreatEq
namespace Go.Aw
open Go.RowKit

/-- The number that limbs spell, the least first. -/
def val : List (BitVec 32) → Nat
  | [] => 0
  | x :: l => x.toNat + 4294967296 * val l

/-- No zero limb at the top. -/
def Norm (l : List (BitVec 32)) : Prop := ∀ x, l.getLast? = some x → x ≠ 0#32

/-- A slice that is not nil, over quiet memory. -/
def RowAt (H : PH) (v : Value) (ls : List (BitVec 32)) : Prop :=
  ∃ b off cap arr ty fz, v = .slice (some ⟨b, off, none⟩) ls.length cap ∧ H b = some (.cells arr ty fz) ∧ ls.length ≤ cap ∧ ∀ (i : Nat) (x : BitVec 32), ls[i]? = some x → arr[off + i]? = some (U32 x)

theorem RowAt.up {H H' : PH} {v : Value} {ls : List (BitVec 32)} (hle : PH.le H H') : RowAt H v ls → RowAt H' v ls :=
  fun ⟨b, off, cap, arr, ty, fz, h1, h2, h3, h4⟩ => ⟨b, off, cap, arr, ty, fz, h1, hle _ _ h2, h3, h4⟩

/-- A natural number in memory: nil, or limbs with no zero at the top. -/
def big (n : Nat) : AV := ⟨fun H v => ∃ ls, val ls = n ∧ Norm ls ∧ ((ls = [] ∧ v = .slice none 0 0) ∨ (ls ≠ [] ∧ RowAt H v ls)), fun _ _ _ hle ⟨ls, h1, h2, h3⟩ => ⟨ls, h1, h2, h3.imp id fun h => ⟨h.1, h.2.up hle⟩⟩⟩

theorem big_nil (H : PH) : (big 0).p H (.slice none 0 0) := ⟨[], rfl, fun _ h => (by simp at h), .inl ⟨rfl, rfl⟩⟩
theorem one_big (n : Nat) : One (big n) := by
  rintro H v ⟨ls, _, _, ⟨_, rfl⟩ | ⟨_, _, _, _, _, _, _, rfl, _⟩⟩ <;> rfl
theorem at_nil : OpAt (.const (.slice none 0 0)) (.inl (big 0)) [] := fun _ _ _ _ _ _ _ => big_nil _

theorem val_norm {l : List (BitVec 32)} (hn : Norm l) (h : val l = 0) : l = [] := by
  match hl : l.getLast? with
  | none => simpa using hl
  | some x =>
    exfalso
    have hx := hn x hl
    have hpos : x.toNat ≠ 0 := fun e => hx (BitVec.eq_of_toNat_eq (by simpa using e))
    clear hn
    induction l with
    | nil => simp at hl
    | cons y l ih =>
      simp only [val] at h
      cases l with
      | nil => simp at hl; subst hl; omega
      | cons z l => exact ih (by omega) (by simpa using hl)

theorem eqIn_nn {t e : TypeId} {P : Program} (h : P.underlying t = some (.slice e)) (d : Nat) (w : World) : (Op.equalIn (d + 1) t (.slice none 0 0) (.slice none 0 0)).run P w = .ok true w := by simp [Op.equalIn, run_underlying h]
theorem eqIn_sn {t e : TypeId} {P : Program} (h : P.underlying t = some (.slice e)) (d : Nat) (a : Addr) (l c : Nat) (w : World) : (Op.equalIn (d + 1) t (.slice (some a) l c) (.slice none 0 0)).run P w = .ok false w := by simp [Op.equalIn, run_underlying h]
theorem eqIn_pn {t e : TypeId} {P : Program} (h : P.underlying t = some (.pointer e)) (d : Nat) (a : Addr) (w : World) : (Op.equalIn (d + 1) t (.pointer (some a)) (.pointer none)).run P w = .ok false w := by simp [Op.equalIn, run_underlying h]

theorem eqNil {t : TypeId} {e : TypeId} {x y : Operand} {P : Program} (hu : P.underlying t = some (.slice e)) (n : Nat) : ∀ (H : PH) vx vy w, (big n).p H vx → (big 0).p H vy → (do eqGuard .eql t x y vx vy; binOp .eql t vx vy : Sem Value).run P w = .ok (Bl (n == 0)) w := by
  rintro H vx vy w ⟨ls, h1, h2, h3⟩ ⟨us, g1, g2, g3⟩
  have hus : us = [] := val_norm g2 g1
  have hvy : vy = .slice none 0 0 := by rcases g3 with ⟨_, h⟩ | ⟨h, _⟩; exact h; exact (h hus).elim
  subst hvy
  have heq : ∀ v, isCell v = true → (∃ a l c, v = .slice a l c) → (eqGuard .eql t x y v (.slice none 0 0)).run P w = .ok () w := by
    rintro v _ ⟨a, l, c, rfl⟩
    unfold eqGuard; split <;> rfl
  rcases h3 with ⟨hl, rfl⟩ | ⟨hl, b, off, cap, arr, ty, fz, rfl, _⟩
  · have : (n == 0) = true := by subst hl; simp [← h1, val]
    rw [Sem.run_bind, heq _ rfl ⟨_, _, _, rfl⟩, Result.andThen_ok, this]
    show (do pure (Value.bool (← Op.equal t (.slice none 0 0) (.slice none 0 0))) : Sem Value).run P w = _
    rw [Sem.run_bind, Op.equal, Op.maxDepth, eqIn_nn hu]; rfl
  · have : (n == 0) = false := by
      cases hb : n == 0 with
      | false => rfl
      | true => exact (hl (val_norm h2 (h1.trans (by simpa using hb)))).elim
    rw [Sem.run_bind, heq _ rfl ⟨_, _, _, rfl⟩, Result.andThen_ok, this]
    show (do pure (Value.bool (← Op.equal t (.slice (some ⟨b, off, none⟩) ls.length cap) (.slice none 0 0))) : Sem Value).run P w = _
    rw [Sem.run_bind, Op.equal, Op.maxDepth, eqIn_sn hu]; rfl

theorem neqNil {t : TypeId} {e : TypeId} {x y : Operand} {P : Program} (hu : P.underlying t = some (.slice e)) (n : Nat) : ∀ (H : PH) vx vy w, (big n).p H vx → (big 0).p H vy → (do eqGuard .neq t x y vx vy; binOp .neq t vx vy : Sem Value).run P w = .ok (Bl (n != 0)) w := by
  rintro H vx vy w ⟨ls, h1, h2, h3⟩ ⟨us, g1, g2, g3⟩
  have hus : us = [] := val_norm g2 g1
  have hvy : vy = .slice none 0 0 := by rcases g3 with ⟨_, h⟩ | ⟨h, _⟩; exact h; exact (h hus).elim
  subst hvy
  have heq : ∀ v, (∃ a l c, v = .slice a l c) → (eqGuard .neq t x y v (.slice none 0 0)).run P w = .ok () w := by
    rintro v ⟨a, l, c, rfl⟩
    unfold eqGuard; split <;> rfl
  rcases h3 with ⟨hl, rfl⟩ | ⟨hl, b, off, cap, arr, ty, fz, rfl, _⟩
  · have : (n != 0) = false := by subst hl; simp [← h1, val]
    rw [Sem.run_bind, heq _ ⟨_, _, _, rfl⟩, Result.andThen_ok, this]
    show (do pure (Value.bool (!(← Op.equal t (.slice none 0 0) (.slice none 0 0)))) : Sem Value).run P w = _
    rw [Sem.run_bind, Op.equal, Op.maxDepth, eqIn_nn hu]; rfl
  · have : (n != 0) = true := by
      cases hb : n == 0 with
      | false => simp [bne, hb]
      | true => exact (hl (val_norm h2 (h1.trans (by simpa using hb)))).elim
    rw [Sem.run_bind, heq _ ⟨_, _, _, rfl⟩, Result.andThen_ok, this]
    show (do pure (Value.bool (!(← Op.equal t (.slice (some ⟨b, off, none⟩) ls.length cap) (.slice none 0 0)))) : Sem Value).run P w = _
    rw [Sem.run_bind, Op.equal, Op.maxDepth, eqIn_sn hu]; rfl

/-- The table's entries. -/
structure Tab where
  man : Nat → BitVec 64 × BitVec 64
  ex : Nat → Int

/-- A pointer to a table in quiet memory. -/
def tabp (T : Tab) : AV := ⟨fun H v => ∃ b arr ty fz, v = .pointer (some ⟨b, 0, none⟩) ∧ H b = some (.cells arr ty fz) ∧ ∀ i, i < 696 → arr[2 * i]? = some (U64 (T.man i).1) ∧ arr[2 * i + 1]? = some (U64 (T.man i).2) ∧ arr[1392 + i]? = some (I16 (T.ex i)),
  fun _ _ _ hle ⟨b, arr, ty, fz, h1, h2, h3⟩ => ⟨b, arr, ty, fz, h1, hle _ _ h2, h3⟩⟩

theorem eqTabNil {t : TypeId} {e : TypeId} {x y : Operand} {P : Program} (hu : P.underlying t = some (.pointer e)) (T : Tab) : ∀ (H : PH) vx vy w, (tabp T).p H vx → (is (.pointer none)).p H vy → (do eqGuard .eql t x y vx vy; binOp .eql t vx vy : Sem Value).run P w = .ok (Bl false) w := by
  rintro H vx vy w ⟨b, arr, ty, fz, rfl, _⟩ hy
  rw [show vy = .pointer none from hy, Sem.run_bind]
  have : (eqGuard .eql t x y (.pointer (some ⟨b, 0, none⟩)) (.pointer none)).run P w = .ok () w := by
    unfold eqGuard; split <;> rfl
  rw [this, Result.andThen_ok]
  show (do pure (Value.bool (← Op.equal t (.pointer (some ⟨b, 0, none⟩)) (.pointer none))) : Sem Value).run P w = _
  rw [Sem.run_bind, Op.equal, Op.maxDepth, eqIn_pn hu]; rfl
end Go.Aw
