/-
  More operators: bools, strings (as lists of bytes), min and max, len, values out of a struct; what a function that may panic asks.
-/
import Derived.Test.YfwaawGreatAwRes
namespace Go.Aw
open Go.RowKit

/-- A string, by its bytes. -/
def Sv (l : List UInt8) : Value := .string ⟨l.toArray⟩

theorem bind_some {α β : Type} {o : Option α} {f : α → Option β} {r : β} (h : some r = o.bind f) : ∃ y, some y = o ∧ some r = f y := by
  cases o with
  | none => cases h
  | some y => exact ⟨y, rfl, h⟩
theorem guard_some {α : Type} {c : Bool} {x : Option α} {r : α} (h : some r = bif c then x else none) : c = true ∧ some r = x := by
  cases c with
  | false => cases h
  | true => exact ⟨rfl, h⟩
theorem dand {a b : Prop} [Decidable a] [Decidable b] (h : (decide a && decide b) = true) : a ∧ b := by
  rw [Bool.and_eq_true] at h; exact ⟨of_decide_eq_true h.1, of_decide_eq_true h.2⟩
theorem dand3 {a b c : Prop} [Decidable a] [Decidable b] [Decidable c] (h : (decide a && (decide b && decide c)) = true) : a ∧ b ∧ c := by
  rw [Bool.and_eq_true, Bool.and_eq_true] at h; exact ⟨of_decide_eq_true h.1, of_decide_eq_true h.2.1, of_decide_eq_true h.2.2⟩
theorem dne {w : Nat} {a b : BitVec w} (h : (a != b) = true) : a ≠ b := by rw [bne_iff_ne] at h; exact h
theorem map_inr {σ ρ : Type} {o : Option ρ} {out : σ ⊕ ρ} (h : some out = o.map Sum.inr) : ∃ r, out = .inr r ∧ some r = o := by
  cases o with
  | none => cases h
  | some y => exact ⟨y, Option.some.inj h, rfl⟩

section
variable {P : Program} {B : Base} {Q : Exit → St → Prop} {s : St} {n : Nat} {ops : Array Oper}

theorem AW_iterR {c : Code} {σ α : Type} {emb : σ → St} {L : σ → Option (σ ⊕ α)} {N : Nat} {x0 : σ} {r : α} (hs : Weak B s (emb x0)) (hit : some r = iterL L N x0)
    (round : ∀ x out, some out = L x → AW P B c (thenQ (fun s' => ∃ x', out = .inl x' ∧ Weak B s' (emb x')) (fun e s' => ∃ r', out = .inr r' ∧ (r' = r → Q e s'))) (emb x)) : AW P B (.loop c) Q s :=
  AW_iter emb L (fun r' e s' => r' = r → Q e s') hs hit.symm round fun _ _ h => h rfl

theorem loopNext {σ α : Type} {emb : σ → St} {out : σ ⊕ α} {x' : σ} (h : some out = some (.inl x')) (hw : Weak B s (emb x')) : ∃ x', out = .inl x' ∧ Weak B s (emb x') := ⟨x', Option.some.inj h, hw⟩
theorem loopOut {σ α : Type} {out : σ ⊕ α} {r r0 : α} {p : Prop} (h : out = .inr r) (hq : r = r0 → p) : ∃ r', out = .inr r' ∧ (r' = r0 → p) := ⟨r, h, hq⟩

/-- A binary operation on values that are known in part. -/
theorem LR_binA {op : BinOp} {t yt : TypeId} {x y : Operand} {ty : TypeId} {pos : String} {after : Array Edge} {d : Nat} {rx ry : List (Nat × TV)} {ax ay : AV} {v : Value} (hx : OpAt x (.inl ax) rx) (hy : OpAt y (.inl ay) ry)
    (hrun : ∀ H vx vy w, ax.p H vx → ay.p H vy → (do eqGuard op t x y vx vy; binOp op t vx vy : Sem Value).run P w = .ok v w) (hn : Nat.blt d n = true) :
    LR P n ops ⟨some d, .binOp op t x y yt, ty, pos, after, none⟩ ⟨rx ++ ry, [], []⟩ ⟨[(d, .inl (is v))], []⟩ :=
  LR_val hn fun B bn s a w hs h => by
    have h0 := SatT_append.1 hs.1
    refine ⟨v, ?_, rfl⟩
    have h3 := hrun _ _ _ w (hx B bn s a w h0.1 h) (hy B bn s a w h0.2 h)
    simp only [execOp]
    rw [Sem.run_bind, h3]
    rfl

theorem eqIn_bool {t : TypeId} (h : P.underlying t = some .bool) (d : Nat) (a b : Bool) (w : World) : (Op.equalIn (d + 1) t (.bool a) (.bool b)).run P w = .ok (a == b) w := by simp [Op.equalIn, run_underlying h]
theorem eqIn_int {t : TypeId} {k k' : IntKind} (h : P.underlying t = some (.int k')) (d : Nat) (a b : Int) (w : World) : (Op.equalIn (d + 1) t (.int k a) (.int k b)).run P w = .ok (a == b) w := by simp [Op.equalIn, run_underlying h]
theorem eqIn_str {t : TypeId} (h : P.underlying t = some .string) (d : Nat) (a b : ByteArray) (w : World) : (Op.equalIn (d + 1) t (.string a) (.string b)).run P w = .ok (a == b) w := by simp [Op.equalIn, run_underlying h]

theorem eql_Bl {t : TypeId} {x y : Operand} (hu : P.underlying t = some .bool) (a b : Bool) : ∀ w, (do eqGuard .eql t x y (Bl a) (Bl b); binOp .eql t (Bl a) (Bl b) : Sem Value).run P w = .ok (Bl (a == b)) w :=
  bin_bool fun w => by
    show (do pure (Value.bool (← Op.equal t (.bool a) (.bool b))) : Sem Value).run P w = _
    rw [Sem.run_bind, Op.equal, Op.maxDepth, eqIn_bool hu]; rfl
theorem neq_Bl {t : TypeId} {x y : Operand} (hu : P.underlying t = some .bool) (a b : Bool) : ∀ w, (do eqGuard .neq t x y (Bl a) (Bl b); binOp .neq t (Bl a) (Bl b) : Sem Value).run P w = .ok (Bl (a != b)) w :=
  bin_bool fun w => by
    show (do pure (Value.bool (!(← Op.equal t (.bool a) (.bool b)))) : Sem Value).run P w = _
    rw [Sem.run_bind, Op.equal, Op.maxDepth, eqIn_bool hu]; rfl

theorem bin_str {op : BinOp} {t : TypeId} {x y : Operand} {a b : List UInt8} {v : Value} (h : ∀ w, (Op.stringOp op ⟨a.toArray⟩ ⟨b.toArray⟩).run P w = .ok v w) :
    ∀ w, (do eqGuard op t x y (Sv a) (Sv b); binOp op t (Sv a) (Sv b) : Sem Value).run P w = .ok v w := by
  intro w
  rw [Sem.run_bind]
  have : (eqGuard op t x y (Sv a) (Sv b)).run P w = .ok () w := by
    unfold eqGuard
    split <;> rfl
  rw [this, Result.andThen_ok]
  cases op <;> exact h w

theorem eql_S {t : TypeId} {x y : Operand} (a b : List UInt8) : ∀ w, (do eqGuard .eql t x y (Sv a) (Sv b); binOp .eql t (Sv a) (Sv b) : Sem Value).run P w = .ok (Bl (a == b)) w :=
  bin_str fun w => by
    show (Result.ok (Value.bool ((ByteArray.mk a.toArray).toList == (ByteArray.mk b.toArray).toList)) w : Result Value) = _
    rw [ByteArray.toList_mk, ByteArray.toList_mk]; rfl
theorem neq_S {t : TypeId} {x y : Operand} (a b : List UInt8) : ∀ w, (do eqGuard .neq t x y (Sv a) (Sv b); binOp .neq t (Sv a) (Sv b) : Sem Value).run P w = .ok (Bl (a != b)) w :=
  bin_str fun w => by
    show (Result.ok (Value.bool (!((ByteArray.mk a.toArray).toList == (ByteArray.mk b.toArray).toList))) w : Result Value) = _
    rw [ByteArray.toList_mk, ByteArray.toList_mk]; rfl
theorem mk_append (a b : List UInt8) : (ByteArray.mk a.toArray) ++ (ByteArray.mk b.toArray) = ByteArray.mk (a ++ b).toArray := by
  apply ByteArray.ext
  simp
theorem add_S {t : TypeId} {x y : Operand} (a b : List UInt8) (hl : a.length + b.length ≤ 9223372036854775807) : ∀ w, (do eqGuard .add t x y (Sv a) (Sv b); binOp .add t (Sv a) (Sv b) : Sem Value).run P w = .ok (Sv (a ++ b)) w :=
  bin_str fun w => by
    unfold Op.stringOp
    simp only []
    rw [if_neg (by simp [ByteArray.size, IntKind.max, IntKind.signed, IntKind.bits]; omega), mk_append]
    rfl

/-! ### Built-in functions -/

theorem LR_bi1 {b : Builtin} {x : Operand} {ats : Array TypeId} {ty : TypeId} {pos : String} {after : Array Edge} {d : Nat} {r : List (Nat × TV)} {ax : AV} {v : Value} (hx : OpAt x (.inl ax) r)
    (hrun : ∀ H vx cs w, ax.p H vx → (builtin b ats ty cs #[vx]).run P w = .ok (.value v) w) (hn : Nat.blt d n = true) :
    LR P n ops ⟨some d, .call ⟨.builtin b, #[x], ats⟩, ty, pos, after, none⟩ ⟨r, [], []⟩ ⟨[(d, .inl (is v))], []⟩ :=
  LR_val hn fun B bn s a w hs h => ⟨v, by
    simp only [execOp, resolve]
    rw [Sem.run_bind]
    simp only [Sem.run_pure, Result.andThen_ok, invoke]
    have : (#[x].map a.eval) = #[a.eval x] := by simp
    rw [this]
    exact hrun _ _ _ w (hx B bn s a w hs.1 h), rfl⟩

theorem LR_bi2 {b : Builtin} {x y : Operand} {ats : Array TypeId} {ty : TypeId} {pos : String} {after : Array Edge} {d : Nat} {rx ry : List (Nat × TV)} {vx vy v : Value} (hx : OpAt x (.inl (is vx)) rx) (hy : OpAt y (.inl (is vy)) ry)
    (hrun : ∀ cs w, (builtin b ats ty cs #[vx, vy]).run P w = .ok (.value v) w) (hn : Nat.blt d n = true) :
    LR P n ops ⟨some d, .call ⟨.builtin b, #[x, y], ats⟩, ty, pos, after, none⟩ ⟨rx ++ ry, [], []⟩ ⟨[(d, .inl (is v))], []⟩ :=
  LR_val hn fun B bn s a w hs h => ⟨v, by
    have h0 := SatT_append.1 hs.1
    have h1 : a.eval x = vx := hx B bn s a w h0.1 h
    have h2 : a.eval y = vy := hy B bn s a w h0.2 h
    simp only [execOp, resolve]
    rw [Sem.run_bind]
    simp only [Sem.run_pure, Result.andThen_ok, invoke]
    have : (#[x, y].map a.eval) = #[vx, vy] := by simp [h1, h2]
    rw [this]
    exact hrun _ w, rfl⟩

def umax {w : Nat} (a b : BitVec w) : BitVec w := bif decide (a.toNat < b.toNat) then b else a
def umin {w : Nat} (a b : BitVec w) : BitVec w := bif decide (b.toNat < a.toNat) then b else a

theorem max_I {ats : Array TypeId} {ty : TypeId} (k : IntKind) (a b : Int) (cs : Array Bool) (w : World) : (builtin .max ats ty cs #[.int k a, .int k b]).run P w = .ok (.value (.int k (max a b))) w := by
  show (Result.ok (Next.value (.int k (if b > a then b else a))) w : Result Next) = _
  congr 3
  rw [Int.max_def]; split <;> split <;> omega
theorem min_I {ats : Array TypeId} {ty : TypeId} (k : IntKind) (a b : Int) (cs : Array Bool) (w : World) : (builtin .min ats ty cs #[.int k a, .int k b]).run P w = .ok (.value (.int k (min a b))) w := by
  show (Result.ok (Next.value (.int k (if b < a then b else a))) w : Result Next) = _
  congr 3
  rw [Int.min_def]; split <;> split <;> omega
theorem max_U64 {ats : Array TypeId} {ty : TypeId} (a b : BitVec 64) (cs : Array Bool) (w : World) : (builtin .max ats ty cs #[U64 a, U64 b]).run P w = .ok (.value (U64 (umax a b))) w := by
  show (Result.ok (Next.value (.int .u64 (if (b.toNat : Int) > a.toNat then (b.toNat : Int) else a.toNat))) w : Result Next) = _
  by_cases h : a.toNat < b.toNat
  · rw [if_pos (by omega)]; simp [umax, h, U64]
  · rw [if_neg (by omega)]; simp [umax, h, U64]
theorem min_U64 {ats : Array TypeId} {ty : TypeId} (a b : BitVec 64) (cs : Array Bool) (w : World) : (builtin .min ats ty cs #[U64 a, U64 b]).run P w = .ok (.value (U64 (umin a b))) w := by
  show (Result.ok (Next.value (.int .u64 (if (b.toNat : Int) < a.toNat then (b.toNat : Int) else a.toNat))) w : Result Next) = _
  by_cases h : b.toNat < a.toNat
  · rw [if_pos (by omega)]; simp [umin, h, U64]
  · rw [if_neg (by omega)]; simp [umin, h, U64]

theorem len_S {t : TypeId} {ty : TypeId} (hu : P.underlying t = some .string) (l : List UInt8) : ∀ (H : PH) vx (cs : Array Bool) w, (is (Sv l)).p H vx → (builtin .len #[t] ty cs #[vx]).run P w = .ok (.value (I64 l.length)) w := by
  intro H vx cs w hv
  rw [show vx = Sv l from hv]
  show (do pure (Next.value (← Builtin.len_ #[t] ty #[Sv l])) : Sem Next).run P w = _
  rw [Sem.run_bind]
  have : (Builtin.len_ #[t] ty #[Sv l]).run P w = .ok (I64 l.length) w := by
    have h1 : Builtin.len_ #[t] ty #[Sv l] = (underlying t >>= fun d => match d, Sv l with
        | .string, .string s => pure (goInt s.size)
        | .array n _, _ => pure (goInt n)
        | .pointer arr, _ => do
          let .array n _ ← underlying arr | stuck "len: pointer to array expected"
          pure (goInt n)
        | .slice _, .slice _ n _ => pure (goInt n)
        | .map _ _, .map none | .chan _ _, .chan none => pure (goInt 0)
        | .map _ _, .map (some r) => do
          let .map entries _ ← getObj r | stuck "len: map expected"
          pure (goInt entries.size)
        | .chan _ _, .chan (some r) => do
          let .chan _ buf _ _ _ timer ← getObj r | stuck "len: channel expected"
          pure (goInt (if timer then 0 else buf.size))
        | _, _ => stuck "len: string, array, pointer to array, slice, map or channel expected") := rfl
    rw [h1, Sem.run_bind, run_underlying hu, Result.andThen_ok]
    rfl
  rw [this]; rfl

/-- A byte of a string. -/
theorem LR_indexS {t : TypeId} {x y : Operand} {ty : TypeId} {pos : String} {after : Array Edge} {d : Nat} {rx ry : List (Nat × TV)} {l : List UInt8} {k : IntKind} {i : Int} (hu : P.underlying t = some .string) (hx : OpAt x (.inl (is (Sv l))) rx) (hy : OpAt y (.inl (is (.int k i))) ry)
    (hi : 0 ≤ i ∧ i < (l.length : Int)) (hn : Nat.blt d n = true) :
    LR P n ops ⟨some d, .index t x y, ty, pos, after, none⟩ ⟨rx ++ ry, [], []⟩ ⟨[(d, .inl (is (U8 (l.getD i.toNat 0).toBitVec)))], []⟩ :=
  LR_val hn fun B bn s a w hs h => by
    have h0 := SatT_append.1 hs.1
    have h1 : a.eval x = Sv l := hx B bn s a w h0.1 h
    have h2 : a.eval y = .int k i := hy B bn s a w h0.2 h
    refine ⟨_, ?_, rfl⟩
    simp only [execOp, h1, h2, Instr.index, asIntOf]
    have hlt : i.toNat < l.length := by omega
    have hg : (ByteArray.mk l.toArray)[i.toNat]? = some (l.getD i.toNat 0) := by
      rw [ByteArray.getElem?_lt' _ _ (by simpa [ByteArray.size] using hlt)]
      have : (ByteArray.mk l.toArray)[i.toNat]'(by simpa [ByteArray.size] using hlt) = l[i.toNat] := rfl
      rw [this, List.getD_eq_getElem?_getD, List.getElem?_eq_getElem hlt]; rfl
    rw [Sem.run_bind, Sem.run_bind]
    simp only [Sem.run_pure, Result.andThen_ok]
    rw [Sem.run_bind, run_underlying hu, Result.andThen_ok]
    simp only [Sv, if_pos hi.1, hg]
    rfl

/-- A part of a string. -/
theorem LR_sliceS {t : TypeId} {x : Operand} {lo hi : Option Operand} {ty : TypeId} {pos : String} {after : Array Edge} {d : Nat} {rx : List (Nat × TV)} {l : List UInt8} {i j : Int} (hu : P.underlying t = some .string) (hx : OpAt x (.inl (is (Sv l))) rx)
    {rl rh : List (Nat × TV)} (hlo : ∀ (B : Base) (bn : Nat → Loc) (s : St) (a : Act) (w : World), SatT s rl → RelB B bn s a w → (lo.map a.eval = none ∧ i = 0) ∨ ∃ k, lo.map a.eval = some (.int k i))
    (hhi : ∀ (B : Base) (bn : Nat → Loc) (s : St) (a : Act) (w : World), SatT s rh → RelB B bn s a w → (hi.map a.eval = none ∧ j = l.length) ∨ ∃ k, hi.map a.eval = some (.int k j)) (hb : 0 ≤ i ∧ i ≤ j ∧ j ≤ (l.length : Int)) (hn : Nat.blt d n = true) :
    LR P n ops ⟨some d, .slice t x lo hi none, ty, pos, after, none⟩ ⟨rx ++ (rl ++ rh), [], []⟩ ⟨[(d, .inl (is (Sv ((l.drop i.toNat).take (j.toNat - i.toNat)))))], []⟩ :=
  LR_val hn fun B bn s a w hs h => by
    have h0 := SatT_append.1 hs.1
    have h00 := SatT_append.1 h0.2
    have h1 : a.eval x = Sv l := hx B bn s a w h0.1 h
    refine ⟨_, ?_, rfl⟩
    have hsz : (ByteArray.mk l.toArray).size = l.length := by simp [ByteArray.size]
    have hbl : (Instr.sliceBounds false l.length l.length (lo.map a.eval) (hi.map a.eval) none).run P w = .ok (i.toNat, j.toNat, l.length) w := by
      unfold Instr.sliceBounds
      rcases hlo B bn s a w h00.1 h with ⟨e1, e2⟩ | ⟨k1, e1⟩ <;> rcases hhi B bn s a w h00.2 h with ⟨g1, g2⟩ | ⟨k2, g1⟩ <;> rw [e1, g1] <;> simp [Instr.sliceBound, asIntOf]
      · subst e2; subst g2; simp
      · subst e2; rw [if_pos (by omega)]; simp
      · subst g2; rw [if_pos (by omega)]; simp
      · rw [if_pos (by omega)]; simp; intro h'; exact absurd (h' hb.1) (by omega)
    simp only [execOp, h1, Instr.sliceAt, Option.map_none]
    rw [Sem.run_bind, Sem.run_bind, run_underlying hu, Result.andThen_ok]
    simp only [Instr.slice]
    rw [Sem.run_bind, run_underlying hu, Result.andThen_ok]
    simp only [Sv, hsz]
    simp only [Option.isSome_none, Bool.false_eq_true, if_false]
    rw [Sem.run_bind, hbl, Result.andThen_ok]
    simp only [Sem.run_pure, Result.andThen_ok, ByteArray.extract_mk]

theorem LR_field {t : TypeId} {fld off : Nat} {fields : Array Field} {f : Field} {x : Operand} {ty : TypeId} {pos : String} {after : Array Edge} {d : Nat} {r : List (Nat × TV)} {cells : List AV} {av : AV} (hx : OpAt x (.inl (agg cells)) r) (hu : P.underlying t = some (.struct fields)) (hf : fields[fld]? = some f) (ho : f.offset = off)
    (ht : ∀ w, (isAgg f.type).run P w = .ok false w) (hc : cells[off]? = some av) (hn : Nat.blt d n = true) :
    LR P n ops ⟨some d, .field t x fld, ty, pos, after, none⟩ ⟨r, [], []⟩ ⟨[(d, .inl av)], []⟩ :=
  LR_val hn fun B bn s a w hs h => by
    obtain ⟨vs, h1, h2⟩ := hx B bn s a w hs.1 h
    obtain ⟨v, h3, h4⟩ := h2.get hc
    refine ⟨v, ?_, h4⟩
    simp only [execOp, h1, Instr.field]
    rw [Sem.run_bind, Sem.run_bind, run_underlying hu, Result.andThen_ok]
    simp only [hf, asAgg]
    rw [Sem.run_bind]
    simp only [Sem.run_pure, Result.andThen_ok, part]
    rw [Sem.run_bind, ht, Result.andThen_ok]
    simp only [Bool.false_eq_true, if_false, ho, List.getElem?_toArray, h3, Sem.run_pure, Result.andThen_ok]
end
end Go.Aw
