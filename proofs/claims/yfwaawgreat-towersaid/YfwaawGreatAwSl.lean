/-
  Slices: over quiet memory (all is known of them), over boxes of ours; made, cut, measured, read, frozen.
-/
import Derived.Test.YfwaawGreatAwArr
namespace Go.Aw
open Go.RowKit

/-- A slice: is it nil, its length, its elements. -/
abbrev NS (α : Type) := Bool × Nat × (Nat → α)

def ns {α : Type} (K : α → Value) (x : NS α) : AV :=
  ⟨fun H v => (x.1 = true ∧ x.2.1 = 0 ∧ v = .slice none 0 0) ∨ (x.1 = false ∧ ∃ b off cap arr ty fz, v = .slice (some ⟨b, off, none⟩) x.2.1 cap ∧ H b = some (.cells arr ty fz) ∧ x.2.1 ≤ cap ∧ ∀ i, i < x.2.1 → arr[off + i]? = some (K (x.2.2 i))),
   fun _ _ _ hle h => h.imp id fun ⟨e, b, off, cap, arr, ty, fz, h1, h2, h3, h4⟩ => ⟨e, b, off, cap, arr, ty, fz, h1, hle _ _ h2, h3, h4⟩⟩

/-- A pointer to a cell of quiet memory. -/
def qp (u : Value) : AV := ⟨fun H v => ∃ b off arr ty fz, v = .pointer (some ⟨b, off, none⟩) ∧ H b = some (.cells arr ty fz) ∧ arr[off]? = some u,
  fun _ _ _ hle ⟨b, off, arr, ty, fz, h1, h2, h3⟩ => ⟨b, off, arr, ty, fz, h1, hle _ _ h2, h3⟩⟩

section
variable {α : Type} {K : α → Value} {P : Program} {n : Nat} {ops : Array Oper}

theorem addN (b off i : Nat) : Addr.add ⟨b, off, none⟩ i = ⟨b, off + i, none⟩ := by simp [Addr.add]
theorem one_ns (x : NS α) : One (ns K x) := by
  rintro H v (⟨_, _, rfl⟩ | ⟨_, _, _, _, _, _, _, rfl, _⟩) <;> rfl
theorem ns_nil (f : Nat → α) (H : PH) : (ns K (true, 0, f)).p H (.slice none 0 0) := .inl ⟨rfl, rfl, rfl⟩
theorem at_ns0 (f : Nat → α) : OpAt (.const (.slice none 0 0)) (.inl (ns K (true, 0, f))) [] := fun _ _ _ _ _ _ _ => ns_nil _ _

theorem len_run {t e : TypeId} {ty : TypeId} (hu : P.underlying t = some (.slice e)) (b : Option Addr) (l c : Nat) (cs : Array Bool) (w : World) : (builtin .len #[t] ty cs #[.slice b l c]).run P w = .ok (.value (I64 l)) w := by
  show (do pure (Next.value (← Builtin.len_ #[t] ty #[.slice b l c])) : Sem Next).run P w = _
  rw [Sem.run_bind]
  have : (Builtin.len_ #[t] ty #[.slice b l c]).run P w = .ok (I64 l) w := by
    have h1 : Builtin.len_ #[t] ty #[.slice b l c] = (underlying t >>= fun d => match d, Value.slice b l c with
        | .string, .string s => pure (goInt s.size)
        | .array n _, _ => pure (goInt n)
        | .pointer arr, _ => do
          let .array n _ ← underlying arr | stuck "len: pointer to array expected"
          pure (goInt n)
        | .slice _, .slice _ n _ => pure (goInt n)
        | .map _ _, .map none | .chan _ _, .chan none => pure (goInt 0)
        | .map _ _, .map (some r) => do
          let .map entries _ ← getObj r | stuck "len: map expected"
          pure (goInt entries.size)
        | .chan _ _, .chan (some r) => do
          let .chan _ buf _ _ _ timer ← getObj r | stuck "len: channel expected"
          pure (goInt (if timer then 0 else buf.size))
        | _, _ => stuck "len: string, array, pointer to array, slice, map or channel expected") := rfl
    rw [h1, Sem.run_bind, run_underlying hu, Result.andThen_ok]
    rfl
  rw [this]; rfl

theorem len_ns {t e : TypeId} {ty : TypeId} (hu : P.underlying t = some (.slice e)) (x : NS α) : ∀ (H : PH) vx (cs : Array Bool) w, (ns K x).p H vx → (builtin .len #[t] ty cs #[vx]).run P w = .ok (.value (I64 (x.2.1 : Int))) w := by
  rintro H vx cs w (⟨_, h, rfl⟩ | ⟨_, b, off, cap, arr, ty, fz, rfl, _⟩)
  · rw [h]; exact len_run hu _ _ _ _ _
  · exact len_run hu _ _ _ _ _

theorem LR_lenT {x : Operand} {t e : TypeId} {ty : TypeId} {pos : String} {after : Array Edge} {d : Nat} {r : List (Nat × TV)} {k off len cap : Nat} (hx : OpAt x (.inr (.inr (.inl (k, off, len, cap)))) r) (hu : P.underlying t = some (.slice e)) (hn : Nat.blt d n = true) :
    LR P n ops ⟨some d, .call ⟨.builtin .len, #[x], #[t]⟩, ty, pos, after, none⟩ ⟨r, [], []⟩ ⟨[(d, .inl (is (I64 (len : Int))))], []⟩ :=
  LR_val hn fun B bn s a w hs h => ⟨I64 (len : Int), by
    simp only [execOp, resolve]
    rw [Sem.run_bind]
    simp only [Sem.run_pure, Result.andThen_ok, invoke]
    have h1 : a.eval x = .slice (some ⟨(bn k).b, off, none⟩) len cap := hx B bn s a w hs.1 h
    have : (#[x].map a.eval) = #[.slice (some ⟨(bn k).b, off, none⟩) len cap] := by simp [h1]
    rw [this]
    exact len_run hu _ _ _ _ _, rfl⟩

/-- Is it nil? -/
theorem eqNs {t e : TypeId} {x y : Operand} (hu : P.underlying t = some (.slice e)) (u : NS α) (f : Nat → α) : ∀ (H : PH) vx vy w, (ns K u).p H vx → (ns K (true, 0, f)).p H vy → (do eqGuard .eql t x y vx vy; binOp .eql t vx vy : Sem Value).run P w = .ok (Bl u.1) w := by
  rintro H vx vy w hx hy
  have hvy : vy = .slice none 0 0 := by rcases hy with ⟨_, _, h⟩ | ⟨h, _⟩; exact h; cases h
  subst hvy
  have heq : ∀ v, (∃ a l c, v = .slice a l c) → (eqGuard .eql t x y v (.slice none 0 0)).run P w = .ok () w := by
    rintro v ⟨a, l, c, rfl⟩
    unfold eqGuard; split <;> rfl
  rcases hx with ⟨h, _, rfl⟩ | ⟨h, b, off, cap, arr, ty, fz, rfl, _⟩
  · rw [Sem.run_bind, heq _ ⟨_, _, _, rfl⟩, Result.andThen_ok, h]
    show (do pure (Value.bool (← Op.equal t (.slice none 0 0) (.slice none 0 0))) : Sem Value).run P w = _
    rw [Sem.run_bind, Op.equal, Op.maxDepth, eqIn_nn hu]; rfl
  · rw [Sem.run_bind, heq _ ⟨_, _, _, rfl⟩, Result.andThen_ok, h]
    show (do pure (Value.bool (← Op.equal t (.slice (some ⟨b, off, none⟩) u.2.1 cap) (.slice none 0 0))) : Sem Value).run P w = _
    rw [Sem.run_bind, Op.equal, Op.maxDepth, eqIn_sn hu]; rfl

/-- The address of an element. -/
theorem LR_indexAddrQ {t e : TypeId} {x y : Operand} {ty : TypeId} {pos : String} {after : Array Edge} {d : Nat} {rx ry : List (Nat × TV)} {ik : IntKind} {i : Int} {u : NS α} (hu : P.underlying t = some (.slice e)) (hs : ∀ w, (sizeOf e).run P w = .ok 1 w)
    (hx : OpAt x (.inl (ns K u)) rx) (hy : OpAt y (.inl (is (.int ik i))) ry) (hi : 0 ≤ i ∧ i < (u.2.1 : Int)) (hn : Nat.blt d n = true) :
    LR P n ops ⟨some d, .indexAddr t x y, ty, pos, after, none⟩ ⟨rx ++ ry, [], []⟩ ⟨[(d, .inl (qp (K (u.2.2 i.toNat))))], []⟩ :=
  LR_val hn fun B bn s a w hst h => by
    have h0 := SatT_append.1 hst.1
    have h2 : a.eval y = .int ik i := hy B bn s a w h0.2 h
    rcases hx B bn s a w h0.1 h with ⟨_, h1, _⟩ | ⟨_, b, off, cap, arr, ty', fz, h1, h3, _, h4⟩
    · omega
    · refine ⟨.pointer (some ⟨b, off + i.toNat, none⟩), ?_, b, off + i.toNat, arr, ty', fz, rfl, h3, h4 _ (by omega)⟩
      simp only [execOp, h1, h2, Instr.indexAt, asIntOf]
      simp [run_underlying hu, hi, hs, Addr.add]

theorem LR_loadQ {t : TypeId} {x : Operand} {ty : TypeId} {pos : String} {after : Array Edge} {d : Nat} {r : List (Nat × TV)} {u : Value} (hx : OpAt x (.inl (qp u)) r) (ht : ∀ w, (isAgg t).run P w = .ok false w) (hn : Nat.blt d n = true) :
    LR P n ops ⟨some d, .load t x, ty, pos, after, none⟩ ⟨r, [], []⟩ ⟨[(d, .inl (is u))], []⟩ :=
  LR_val hn fun B bn s a w hs h => by
    obtain ⟨b, off, arr, ty', fz, h1, h2, h3⟩ := hx B bn s a w hs.1 h
    have hb := (h.curIn b _ h2).2
    refine ⟨u, ?_, rfl⟩
    simp only [execOp, h1, Instr.loadAt, Instr.sureAddr, loadVar]
    rw [Sem.run_bind, Sem.run_bind]
    simp only [Sem.run_pure, Result.andThen_ok]
    rw [Sem.run_bind, ht]
    have hc : w.cell? ⟨b, off, none⟩ = some u := by simp [World.cell?, hb, h3]
    simp only [Result.andThen_ok, Bool.false_eq_true, if_false, run_load, hc]

/-- The bounds of a cut, told of the operands. -/
def LoAt (lo : Option Operand) (i : Int) (r : List (Nat × TV)) : Prop :=
  ∀ (B : Base) (bn : Nat → Loc) (s : St) (a : Act) (w : World), SatT s r → RelB B bn s a w → (lo.map a.eval = none ∧ i = 0) ∨ ∃ k, lo.map a.eval = some (.int k i)
def HiAt (hi : Option Operand) (j : Int) (len : Nat) (r : List (Nat × TV)) : Prop :=
  ∀ (B : Base) (bn : Nat → Loc) (s : St) (a : Act) (w : World), SatT s r → RelB B bn s a w → (hi.map a.eval = none ∧ j = len) ∨ ∃ k, hi.map a.eval = some (.int k j)
theorem lo_none : LoAt none 0 [] := fun _ _ _ _ _ _ _ => .inl ⟨rfl, rfl⟩
theorem hi_none {len : Nat} : HiAt none (len : Int) len [] := fun _ _ _ _ _ _ _ => .inl ⟨rfl, rfl⟩
theorem lo_some {x : Operand} {k : IntKind} {i : Int} {r : List (Nat × TV)} (h : OpAt x (.inl (is (.int k i))) r) : LoAt (some x) i r := fun B bn s a w hs hr => .inr ⟨k, congrArg some (h B bn s a w hs hr)⟩
theorem hi_some {x : Operand} {k : IntKind} {i : Int} {len : Nat} {r : List (Nat × TV)} (h : OpAt x (.inl (is (.int k i))) r) : HiAt (some x) i len r := fun B bn s a w hs hr => .inr ⟨k, congrArg some (h B bn s a w hs hr)⟩

theorem run_bounds {isS : Bool} {len cap : Nat} {lo hi : Option Value} {i j : Int} {w : World} (hlo : (lo = none ∧ i = 0) ∨ ∃ k, lo = some (.int k i)) (hhi : (hi = none ∧ j = len) ∨ ∃ k, hi = some (.int k j)) (hb : 0 ≤ i ∧ i ≤ j ∧ j ≤ (cap : Int)) :
    (Instr.sliceBounds isS len cap lo hi none).run P w = .ok (i.toNat, j.toNat, cap) w := by
  unfold Instr.sliceBounds
  rcases hlo with ⟨e1, e2⟩ | ⟨k1, e1⟩ <;> rcases hhi with ⟨g1, g2⟩ | ⟨k2, g1⟩ <;> rw [e1, g1] <;> simp [Instr.sliceBound, asIntOf]
  · subst e2; subst g2; simp
  · subst e2; rw [if_pos (by omega)]; simp
  · subst g2; rw [if_pos (by omega)]; simp
  · rw [if_pos (by omega)]; simp; intro h'; exact absurd (h' hb.1) (by omega)

/-- A cut of a slice over quiet memory. -/
theorem LR_sliceQ {t e : TypeId} {x : Operand} {lo hi : Option Operand} {ty : TypeId} {pos : String} {after : Array Edge} {d : Nat} {rx rl rh : List (Nat × TV)} {u : NS α} {i j : Int} (hu : P.underlying t = some (.slice e)) (hs : ∀ w, (sizeOf e).run P w = .ok 1 w) (hx : OpAt x (.inl (ns K u)) rx)
    (hlo : LoAt lo i rl) (hhi : HiAt hi j u.2.1 rh) (hb : 0 ≤ i ∧ i ≤ j ∧ j ≤ (u.2.1 : Int)) (hn : Nat.blt d n = true) :
    LR P n ops ⟨some d, .slice t x lo hi none, ty, pos, after, none⟩ ⟨rx ++ (rl ++ rh), [], []⟩ ⟨[(d, .inl (ns K (u.1, j.toNat - i.toNat, fun m => u.2.2 (i.toNat + m))))], []⟩ :=
  LR_val hn fun B bn s a w hst h => by
    have h0 := SatT_append.1 hst.1
    have h00 := SatT_append.1 h0.2
    rcases hx B bn s a w h0.1 h with ⟨e1, e2, h1⟩ | ⟨e1, b, off, cap, arr, ty', fz, h1, h3, h5, h4⟩
    · have hij : i = 0 ∧ j = 0 := by omega
      obtain ⟨rfl, rfl⟩ := hij
      refine ⟨.slice none 0 0, ?_, .inl ⟨e1, rfl, rfl⟩⟩
      have hbl := run_bounds (P := P) (isS := true) (len := 0) (cap := 0) (w := w) (hlo B bn s a w h00.1 h) (by rw [← e2]; exact hhi B bn s a w h00.2 h) (by omega)
      simp only [execOp, h1, Instr.sliceAt, Option.map_none]
      rw [Sem.run_bind, Sem.run_bind, run_underlying hu, Result.andThen_ok]
      simp only [Instr.slice]
      rw [Sem.run_bind, run_underlying hu, Result.andThen_ok]
      simp only
      rw [Sem.run_bind, hbl, Result.andThen_ok]
      simp only
      rw [Sem.run_bind, hs, Result.andThen_ok]
      simp
    · have hbl := run_bounds (P := P) (isS := true) (len := u.2.1) (cap := cap) (w := w) (hlo B bn s a w h00.1 h) (hhi B bn s a w h00.2 h) (by omega)
      refine ⟨.slice (some (if cap = i.toNat then ⟨b, off, none⟩ else ⟨b, off + i.toNat, none⟩)) (j.toNat - i.toNat) (cap - i.toNat), ?_, .inr ⟨e1, ?_⟩⟩
      · simp only [execOp, h1, Instr.sliceAt, Option.map_none]
        rw [Sem.run_bind, Sem.run_bind, run_underlying hu, Result.andThen_ok]
        simp only [Instr.slice]
        rw [Sem.run_bind, run_underlying hu, Result.andThen_ok]
        simp only
        rw [Sem.run_bind, hbl, Result.andThen_ok]
        simp only
        rw [Sem.run_bind, hs, Result.andThen_ok]
        simp only [Sem.run_pure, Result.andThen_ok, Nat.mul_one, Option.map_some, addN]
        split <;> rfl
      · by_cases hc : cap = i.toNat
        · rw [if_pos hc]
          exact ⟨b, off, cap - i.toNat, arr, ty', fz, rfl, h3, by show j.toNat - i.toNat ≤ _; omega, fun m hm => by have : m < j.toNat - i.toNat := hm; omega⟩
        · rw [if_neg hc]
          refine ⟨b, off + i.toNat, cap - i.toNat, arr, ty', fz, rfl, h3, by show j.toNat - i.toNat ≤ _; omega, fun m hm => ?_⟩
          have hm' : m < j.toNat - i.toNat := hm
          rw [Nat.add_assoc]
          exact h4 _ (by omega)

/-- A cut of a slice over a box. -/
theorem LR_sliceT {t e : TypeId} {x : Operand} {lo hi : Option Operand} {ty : TypeId} {pos : String} {after : Array Edge} {d : Nat} {rx rl rh : List (Nat × TV)} {k off len cap : Nat} {i j : Int} (hu : P.underlying t = some (.slice e)) (hs : ∀ w, (sizeOf e).run P w = .ok 1 w) (hx : OpAt x (.inr (.inr (.inl (k, off, len, cap)))) rx)
    (hlo : LoAt lo i rl) (hhi : HiAt hi j len rh) (hb : 0 ≤ i ∧ i ≤ j ∧ j ≤ (cap : Int)) (hc : i < (cap : Int)) (hn : Nat.blt d n = true) :
    LR P n ops ⟨some d, .slice t x lo hi none, ty, pos, after, none⟩ ⟨rx ++ (rl ++ rh), [], []⟩ ⟨[(d, .inr (.inr (.inl (k, off + i.toNat, j.toNat - i.toNat, cap - i.toNat))))], []⟩ :=
  LR_val hn fun B bn s a w hst h => by
    have h0 := SatT_append.1 hst.1
    have h00 := SatT_append.1 h0.2
    have h1 : a.eval x = .slice (some ⟨(bn k).b, off, none⟩) len cap := hx B bn s a w h0.1 h
    have hbl := run_bounds (P := P) (isS := true) (len := len) (cap := cap) (w := w) (hlo B bn s a w h00.1 h) (hhi B bn s a w h00.2 h) (by omega)
    refine ⟨.slice (some ⟨(bn k).b, off + i.toNat, none⟩) (j.toNat - i.toNat) (cap - i.toNat), ?_, rfl⟩
    simp only [execOp, h1, Instr.sliceAt, Option.map_none]
    rw [Sem.run_bind, Sem.run_bind, run_underlying hu, Result.andThen_ok]
    simp only [Instr.slice]
    rw [Sem.run_bind, run_underlying hu, Result.andThen_ok]
    simp only
    rw [Sem.run_bind, hbl, Result.andThen_ok]
    simp only
    rw [Sem.run_bind, hs, Result.andThen_ok]
    simp only [Sem.run_pure, Result.andThen_ok, Nat.mul_one, Option.map_some, addN]
    rw [if_neg (by omega)]

/-- A cut of an array in a box. -/
theorem LR_sliceA {t e : TypeId} {x : Operand} {lo hi : Option Operand} {ty : TypeId} {pos : String} {after : Array Edge} {d : Nat} {rx rl rh : List (Nat × TV)} {k off len : Nat} {i j : Int} (hu : P.underlying t = some (.array len e)) (hs : ∀ w, (sizeOf e).run P w = .ok 1 w) (hx : OpAt x (.inr (.inl (k, off))) rx)
    (hlo : LoAt lo i rl) (hhi : HiAt hi j len rh) (hb : 0 ≤ i ∧ i ≤ j ∧ j ≤ (len : Int)) (hc : i < (len : Int)) (hn : Nat.blt d n = true) :
    LR P n ops ⟨some d, .slice t x lo hi none, ty, pos, after, none⟩ ⟨rx ++ (rl ++ rh), [], []⟩ ⟨[(d, .inr (.inr (.inl (k, off + i.toNat, j.toNat - i.toNat, len - i.toNat))))], []⟩ :=
  LR_val hn fun B bn s a w hst h => by
    have h0 := SatT_append.1 hst.1
    have h00 := SatT_append.1 h0.2
    have h1 : a.eval x = .pointer (some ⟨(bn k).b, off, none⟩) := hx B bn s a w h0.1 h
    have hbl := run_bounds (P := P) (isS := false) (len := len) (cap := len) (w := w) (hlo B bn s a w h00.1 h) (hhi B bn s a w h00.2 h) (by omega)
    refine ⟨.slice (some ⟨(bn k).b, off + i.toNat, none⟩) (j.toNat - i.toNat) (len - i.toNat), ?_, rfl⟩
    simp only [execOp, h1, Instr.sliceAt, Option.map_none]
    rw [Sem.run_bind, Sem.run_bind, run_underlying hu, Result.andThen_ok]
    simp only
    rw [Sem.run_bind]
    simp only [Instr.sureAddr, Sem.run_pure, Result.andThen_ok]
    rw [Sem.run_bind, hbl, Result.andThen_ok]
    simp only
    rw [Sem.run_bind, hs, Result.andThen_ok]
    simp only [Sem.run_pure, Result.andThen_ok, Nat.mul_one, addN]
    rw [if_neg (by omega)]
end
end Go.Aw
