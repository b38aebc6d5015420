/-
  Arrays within boxes: their cells as a function of the index.
-/
import Derived.Test.YfwaawGreatAwBor
namespace Go.Aw
open Go.RowKit

/-- The cells of an array of n elements. -/
def ar {α : Type} (K : α → Value) (n : Nat) (w : Nat → α) : List AV := (List.range n).map fun i => is (K (w i))
def upd {α : Type} (w : Nat → α) (i : Nat) (x : α) : Nat → α := fun j => bif Nat.beq j i then x else w j

section
variable {α : Type} {K : α → Value} {n i j m : Nat} {w : Nat → α} {r l l' : List AV} {a x : AV} {o : Option AV}

theorem ar_length : (ar K n w).length = n := by simp [ar]
theorem upd_eq {x : α} : upd w i x i = x := by simp [upd]
theorem upd_ne {x : α} (h : j ≠ i) : upd w i x j = w j := by
  have : Nat.beq j i = false := by
    cases hb : Nat.beq j i with
    | false => rfl
    | true => exact (h (Nat.eq_of_beq_eq_true hb)).elim
  simp [upd, this]

theorem g0 : (a :: l)[0]? = some a := rfl
theorem gS (h : l[i]? = o) : (a :: l)[i + 1]? = o := by simpa using h
theorem gA (h : i < n) : (ar K n w ++ r)[i]? = some (is (K (w i))) := by
  rw [List.getElem?_append_left (by simpa [ar] using h)]
  simp [ar, h]
theorem gP (h : r[i]? = o) : (ar K n w ++ r)[n + i]? = o := by
  rw [List.getElem?_append_right (by simp [ar])]
  simpa [ar] using h

theorem ln0 : ([] : List AV).length = 0 := rfl
theorem lnC (h : l.length = m) : (a :: l).length = m + 1 := by simp [h]
theorem lnA (h : r.length = m) : (ar K n w ++ r).length = n + m := by simp [ar, h]
theorem bleLen {c : Nat} (h : l.length = m) (h' : Nat.ble c m = true) : Nat.ble c l.length = true := h ▸ h'

theorem st0 : setSeg (a :: l) 0 [x] = x :: l := rfl
theorem stS (h : setSeg l i [x] = l') : setSeg (a :: l) (i + 1) [x] = a :: l' := by rw [← h]; rfl
theorem stA {y : α} (h : i < n) : setSeg (ar K n w ++ r) i [is (K y)] = ar K n (upd w i y) ++ r := by
  simp only [setSeg]
  rw [List.set_append_left _ _ (by simpa [ar] using h)]
  congr 1
  refine List.ext_getElem? fun k => ?_
  rw [List.getElem?_set]
  by_cases hk : k < n
  · by_cases e : i = k
    · subst e; simp [ar, hk, upd]
    · have : Nat.beq k i = false := by
        cases hb : Nat.beq k i with
        | false => rfl
        | true => exact (e (Nat.eq_of_beq_eq_true hb).symm).elim
      simp [ar, hk, upd, e, this]
  · by_cases e : i = k
    · omega
    · simp [ar, hk, e]
theorem stP (h : setSeg r i [x] = l') : setSeg (ar K n w ++ r) (n + i) [x] = ar K n w ++ l' := by
  simp only [setSeg] at h ⊢
  rw [List.set_append_right _ _ (by simp [ar])]
  simp [ar, ← h]

theorem setSeg_cons : ∀ (us : List AV) (l : List AV) (i : Nat) (b : AV), setSeg (b :: l) (i + 1) us = b :: setSeg l i us
  | [], _, _, _ => rfl
  | u :: us, l, i, b => by
    simp only [setSeg, List.set_cons_succ]
    exact setSeg_cons us _ _ _
theorem setSeg_full : ∀ (us l : List AV), us.length = l.length → setSeg l 0 us = us
  | [], [], _ => rfl
  | u :: us, a :: l, h => by
    simp only [setSeg, List.set_cons_zero]
    rw [setSeg_cons, setSeg_full us l (by simpa using h)]
  | [], _ :: _, h => by simp at h
  | _ :: _, [], h => by simp at h
/-- A segment in front, whole. -/
theorem stW {us : List AV} (h : us.length = l.length) : setSeg (l ++ r) 0 us = us ++ r := by
  induction us generalizing l with
  | nil => cases l with
    | nil => rfl
    | cons => simp at h
  | cons u us ih => cases l with
    | nil => simp at h
    | cons b l =>
      simp only [setSeg, List.cons_append, List.set_cons_zero]
      rw [setSeg_cons, ih (by simpa using h)]
theorem stSs {us : List AV} (h : setSeg l i us = l') : setSeg (a :: l) (i + 1) us = a :: l' := by rw [setSeg_cons, h]

/-- A segment taken out. -/
theorem tkA : ((ar K n w ++ r).drop 0).take n = ar K n w := by
  simp only [List.drop_zero]
  rw [List.take_append_of_le_length (by simp [ar])]
  exact List.take_of_length_le (by simp [ar])
theorem tkS {s : List AV} (h : (l.drop i).take m = s) : ((a :: l).drop (i + 1)).take m = s := by simpa using h
theorem tkP {s : List AV} (h : (r.drop i).take m = s) : ((ar K n w ++ r).drop (n + i)).take m = s := by
  have : (ar K n w ++ r).drop (n + i) = r.drop i := by
    rw [List.drop_append, List.drop_of_length_le (by simp [ar])]
    simp [ar]
  rw [this]; exact h
theorem tkF (h : l.length = m) : (l.drop 0).take m = l := by simp [← h]

theorem ones_ar (hk : ∀ x, isCell (K x) = true) (h : Ones r) : Ones (ar K n w ++ r) := by
  unfold ar
  generalize List.range n = q
  induction q with
  | nil => exact h
  | cons y q ih => exact ⟨one_is (hk _), ih⟩
end

theorem natIx {a n : Nat} (h : a < n) : 0 ≤ (a : Int) ∧ (a : Int) < (n : Int) := ⟨Int.natCast_nonneg _, Int.ofNat_lt.2 h⟩
theorem ltn {i : Int} {n : Nat} (h : 0 ≤ i ∧ i < (n : Int)) : i.toNat < n := by omega
theorem and7 (x : BitVec 8) : (x &&& 7#8).toNat < 8 := by
  rw [BitVec.toNat_and]
  exact Nat.lt_of_le_of_lt Nat.and_le_right (by decide)
theorem at_agg0 {x : Operand} {l : List AV} {r : List (Nat × TV)} (h : OpAt x (.inl (agg (l ++ []))) r) : OpAt x (.inl (agg l)) r := by simpa using h
theorem take_nil {l s : List AV} (h : l = s) : l = s ++ [] := by simpa using h
theorem lenEq {l l' : List AV} {m m' : Nat} (h : l.length = m) (h' : l'.length = m') (e : m = m' := by rfl) : l.length = l'.length := by omega
def arv {α : Type} (K : α → Value) (n : Nat) (w : Nat → α) : List Value := (List.range n).map fun i => K (w i)
theorem all2_ar {α : Type} {K : α → Value} {n : Nat} {w : Nat → α} {H : PH} {r : List AV} {vs : List Value} (h : All2 H r vs) : All2 H (ar K n w ++ r) (arv K n w ++ vs) := by
  unfold ar arv
  generalize List.range n = q
  induction q with
  | nil => exact h
  | cons y q ih => exact ⟨rfl, ih⟩
theorem sB2 {s : St} {k k' : Nat} {c c' : Cont} (h : lk k s.b = some c) (h' : lk k' s.b = some c') : SatB s [(k, c), (k', c')] := ⟨h, h', trivial⟩
theorem weakB {B : Base} {s s' : St} (h : SatT s s'.t) (hb : s'.b.Sublist s.b) (hk : (B.kb.all fun k => s'.b.any fun x => Nat.beq x.1 k) = true) : Weak B s s' :=
  ⟨h, hb, fun k hm => by
    obtain ⟨x, hx, e⟩ := List.any_eq_true.1 (List.all_eq_true.1 hk k hm)
    exact ⟨x, hx, Nat.eq_of_beq_eq_true e⟩⟩
theorem bool_em (b : Bool) : b = false ∨ b = true := by cases b; exact .inl rfl; exact .inr rfl
theorem LR_asB {P : Program} {n d : Nat} {ops : Array Oper} {o : Oper} {R : Req} {e b : Bool} (h : LR P n ops o R ⟨[(d, .inl (is (Bl e)))], []⟩) (hb : e = b) : LR P n ops o R ⟨[(d, .inl (is (Bl b)))], []⟩ := hb ▸ h

section
variable {P : Program} {n : Nat} {ops : Array Oper}

/-- A store, the cells behind it told. -/
theorem LR_storeA {t : TypeId} {x y : Operand} {ty : TypeId} {pos : String} {after : Array Edge} {rx ry : List (Nat × TV)} {k off m : Nat} {el : TypeId} {cells cells' seg : List AV} {av : AV} (hx : OpAt x (.inr (.inl (k, off))) rx) (hy : OpAt y (.inl av) ry)
    (hc : CellsAt av seg) (ho : Ones seg) (hm : ∀ w, (sizeOf t).run P w = .ok m w) (hl : seg.length = m) (hle : Nat.ble (off + m) cells.length = true) (hs : setSeg cells off seg = cells') :
    LR P n ops ⟨none, .store t x y, ty, pos, after, none⟩ ⟨rx ++ ry, [(k, pb el cells)], []⟩ ⟨[], [(k, pb el cells')]⟩ := hs ▸ LR_store hx hy hc ho hm hl hle

theorem ble_dyn {off c L : Nat} {cells : List AV} (hl : cells.length = L) (h : off + c ≤ L) : Nat.ble (off + c) cells.length = true := by rw [hl]; simpa [Nat.ble_eq] using h

/-- The address of an element of an array in a box. -/
theorem LR_indexAddr {t e : TypeId} {x y : Operand} {ty : TypeId} {pos : String} {after : Array Edge} {d : Nat} {rx ry : List (Nat × TV)} {k off o len : Nat} {ik : IntKind} {i : Int} (hu : P.underlying t = some (.array len e)) (hs : ∀ w, (sizeOf e).run P w = .ok 1 w)
    (hx : OpAt x (.inr (.inl (k, off))) rx) (hy : OpAt y (.inl (is (.int ik i))) ry) (hi : 0 ≤ i ∧ i < (len : Int)) (ho : off + i.toNat = o) (hn : Nat.blt d n = true) :
    LR P n ops ⟨some d, .indexAddr t x y, ty, pos, after, none⟩ ⟨rx ++ ry, [], []⟩ ⟨[(d, .inr (.inl (k, o)))], []⟩ :=
  LR_val hn fun B bn s a w hst h => by
    have h0 := SatT_append.1 hst.1
    have h1 : a.eval x = .pointer (some ⟨(bn k).b, off, none⟩) := hx B bn s a w h0.1 h
    have h2 : a.eval y = .int ik i := hy B bn s a w h0.2 h
    refine ⟨.pointer (some ⟨(bn k).b, o, none⟩), ?_, rfl⟩
    simp only [execOp, h1, h2, Instr.indexAt, asIntOf]
    subst ho
    simp [run_underlying hu, Instr.sureAddr, hi, hs, Addr.add]

/-- The address of an element of a slice over a box. -/
theorem LR_indexAddrS {t e : TypeId} {x y : Operand} {ty : TypeId} {pos : String} {after : Array Edge} {d : Nat} {rx ry : List (Nat × TV)} {k off o len cap : Nat} {ik : IntKind} {i : Int} (hu : P.underlying t = some (.slice e)) (hs : ∀ w, (sizeOf e).run P w = .ok 1 w)
    (hx : OpAt x (.inr (.inr (.inl (k, off, len, cap)))) rx) (hy : OpAt y (.inl (is (.int ik i))) ry) (hi : 0 ≤ i ∧ i < (len : Int)) (ho : off + i.toNat = o) (hn : Nat.blt d n = true) :
    LR P n ops ⟨some d, .indexAddr t x y, ty, pos, after, none⟩ ⟨rx ++ ry, [], []⟩ ⟨[(d, .inr (.inl (k, o)))], []⟩ :=
  LR_val hn fun B bn s a w hst h => by
    have h0 := SatT_append.1 hst.1
    have h1 : a.eval x = .slice (some ⟨(bn k).b, off, none⟩) len cap := hx B bn s a w h0.1 h
    have h2 : a.eval y = .int ik i := hy B bn s a w h0.2 h
    refine ⟨.pointer (some ⟨(bn k).b, o, none⟩), ?_, rfl⟩
    simp only [execOp, h1, h2, Instr.indexAt, asIntOf]
    subst ho
    simp [run_underlying hu, hi, hs, Addr.add]

/-- An element of an array value. -/
theorem LR_indexA {α : Type} {K : α → Value} {f : Nat → α} {t e : TypeId} {x y : Operand} {ty : TypeId} {pos : String} {after : Array Edge} {d : Nat} {rx ry : List (Nat × TV)} {len : Nat} {ik : IntKind} {i : Int} (hu : P.underlying t = some (.array len e)) (hs : ∀ w, (sizeOf e).run P w = .ok 1 w) (ht : ∀ w, (isAgg e).run P w = .ok false w)
    (hx : OpAt x (.inl (agg (ar K len f))) rx) (hy : OpAt y (.inl (is (.int ik i))) ry) (hi : 0 ≤ i ∧ i < (len : Int)) (hn : Nat.blt d n = true) :
    LR P n ops ⟨some d, .index t x y, ty, pos, after, none⟩ ⟨rx ++ ry, [], []⟩ ⟨[(d, .inl (is (K (f i.toNat))))], []⟩ :=
  LR_val hn fun B bn s a w hst h => by
    have h0 := SatT_append.1 hst.1
    obtain ⟨vs, h1, h3⟩ := hx B bn s a w h0.1 h
    have h2 : a.eval y = .int ik i := hy B bn s a w h0.2 h
    have hg : (ar K len f)[i.toNat]? = some (is (K (f i.toNat))) := by simpa using gA (K := K) (w := f) (r := []) (i := i.toNat) (n := len) (by omega)
    obtain ⟨v, g1, g2⟩ := h3.get hg
    refine ⟨v, ?_, g2⟩
    simp only [execOp, h1, h2, Instr.index, asIntOf]
    simp [run_underlying hu, hi, hs, ht, part, g1]
end
end Go.Aw
