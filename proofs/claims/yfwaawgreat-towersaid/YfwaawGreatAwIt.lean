/-
  Range over a string: the iterator is a resource of ours. Scopes and labels without jumps.
-/
import Derived.Test.YfwaawGreatAwMisc
import Derived.Laws.RangeAny
import Derived.Scope
namespace Go.Aw
open Go.RowKit

/-- An iterator over a string. -/
def itc (l : List UInt8) (pos : Nat) : Cont :=
  ⟨fun hp _ L => ∃ b, L.xs = [b] ∧ hp b = some (.stringIter ⟨l.toArray⟩ pos),
   fun _ _ _ _ _ _ hb ⟨b, e, h⟩ => ⟨b, e, (hb b (by rw [e]; exact List.mem_singleton.2 rfl)).trans h⟩,
   fun _ _ _ ⟨b, e, h⟩ b' hb' => by rw [e, List.mem_singleton] at hb'; subst hb'; rw [h]; rfl⟩

def runeAt (l : List UInt8) (pos : Nat) : Int := ((Utf8.decode ⟨l.toArray⟩ pos).1 : Int)
def nxt (l : List UInt8) (pos : Nat) : Nat := bif Nat.blt pos l.length then pos + (Utf8.decode ⟨l.toArray⟩ pos).2 else pos

/-- What 'next' answers. -/
def nx (l : List UInt8) (pos : Nat) : AV := is (bif Nat.blt pos l.length then .tuple #[Bl true, I64 (pos : Int), I32 (runeAt l pos)] else .tuple #[Bl false])

section
variable {P : Program} {B : Base} {Q : Exit → St → Prop} {s : St} {n : Nat} {ops : Array Oper}

theorem LR_range {t : TypeId} {x : Operand} {ty : TypeId} {pos : String} {after : Array Edge} {d : Nat} {r : List (Nat × TV)} {l : List UInt8} (hu : P.underlying t = some .string) (hx : OpAt x (.inl (is (Sv l))) r) (hn : Nat.blt d n = true) :
    LR P n ops ⟨some d, .range t x, ty, pos, after, none⟩ ⟨r, [], [d]⟩ ⟨[(d, .inr (.inl (d, 0)))], [(d, itc l 0)]⟩ := by
  refine ⟨?_⟩
  intro B s a w hB hs ⟨bn, hr⟩
  have h1 : a.eval x = .string ⟨l.toArray⟩ := hx B bn s a w hs.1 hr
  unfold OpK
  rw [if_pos (by simp [Region.wanted])]
  have hrun : (execOp a.eval ⟨some d, .range t x, ty, pos, after, none⟩).run P w = .ok (.value (.pointer (some ⟨w.heap.size, 0, none⟩))) (w.iter ⟨l.toArray⟩ 0) := by
    simp only [execOp, h1]
    rw [Sem.run_bind, run_range_string w t _ hu]; rfl
  unfold Oper.wp
  rw [hrun]
  have hge : ∀ b, b < w.heap.size → (w.iter ⟨l.toArray⟩ 0).heap[b]? = w.heap[b]? := fun b hb => heap_alloc_old w _ hb
  exact hr.newRes (c := itc l 0) (L := ⟨[w.heap.size], fun _ => undef⟩) (by rw [hB]; simpa [Nat.blt_eq] using hn) hs.2.2.1 ⟨rfl, rfl, rfl, by simp [World.iter], hge⟩ (fun b hb => by rw [List.mem_singleton] at hb; omega) (by simp) ⟨w.heap.size, rfl, heap_alloc_new w _⟩ (fun H => by simp [TV.holds, Loc.b])

theorem LR_next {x : Operand} {ty : TypeId} {pos : String} {after : Array Edge} {d k p : Nat} {r : List (Nat × TV)} {l : List UInt8} (hx : OpAt x (.inr (.inl (k, 0))) r) (hn : Nat.blt d n = true) :
    LR P n ops ⟨some d, .next x true, ty, pos, after, none⟩ ⟨r, [(k, itc l p)], []⟩ ⟨[(d, .inl (nx l p))], [(k, itc l (nxt l p))]⟩ := by
  refine ⟨?_⟩
  intro B s a w hB hs ⟨bn, hr⟩
  have h1 : a.eval x = .pointer (some ⟨(bn k).b, 0, none⟩) := hx B bn s a w hs.1 hr
  obtain ⟨b, e, hb⟩ := hr.box (k, _) (lk_mem hs.2.1.1)
  have e' : (bn k).xs = [b] := e
  have hb0 : (bn k).b = b := blkB e'
  have hb' : w.heap[b]? = some (.stringIter ⟨l.toArray⟩ p) := hb
  unfold OpK
  rw [if_pos (by simp [Region.wanted])]
  have hlt : b < w.heap.size := (Array.getElem?_eq_some_iff.1 hb').1
  let w' : World := bif Nat.blt p l.length then { w with heap := w.heap.setIfInBounds b (.stringIter ⟨l.toArray⟩ (nxt l p)) } else w
  have hrun : (execOp a.eval ⟨some d, .next x true, ty, pos, after, none⟩).run P w = .ok (.value (bif Nat.blt p l.length then .tuple #[Bl true, I64 (p : Int), I32 (runeAt l p)] else .tuple #[Bl false])) w' := by
    simp only [execOp, h1, hb0]
    rw [Sem.run_bind]
    by_cases hp : p < l.length
    · have hbl : Nat.blt p l.length = true := by simpa [Nat.blt_eq] using hp
      have : (Instr.next (.pointer (some ⟨b, 0, none⟩)) true ty).run P w = .ok (.tuple #[.bool true, .int .i64 p, .int .i32 (Utf8.decode ⟨l.toArray⟩ p).1]) { w with heap := w.heap.setIfInBounds b (.stringIter ⟨l.toArray⟩ (p + (Utf8.decode ⟨l.toArray⟩ p).2)) } := by
        have hsz : p < (⟨l.toArray⟩ : ByteArray).size := hp
        simp [Instr.next, getObj, setObj, Sem.run_bind, Sem.run, hb', hsz, goInt]
      rw [this]
      simp only [w', hbl, cond_true, nxt]
      rfl
    · have hbl : Nat.blt p l.length = false := by
        cases hq : Nat.blt p l.length with
        | false => rfl
        | true => exact (hp (by simpa [Nat.blt_eq] using hq)).elim
      have : (Instr.next (.pointer (some ⟨b, 0, none⟩)) true ty).run P w = .ok (.tuple #[.bool false]) w := by
        have hsz : ¬ p < (⟨l.toArray⟩ : ByteArray).size := hp
        simp [Instr.next, getObj, Sem.run, hb', hsz]
      rw [this]
      simp only [w', hbl, cond_false]
      rfl
  unfold Oper.wp
  rw [hrun]
  have hw : w'.heap[b]? = some (.stringIter ⟨l.toArray⟩ (nxt l p)) ∧ (∀ j, j ≠ b → w'.heap[j]? = w.heap[j]?) ∧ w'.heap.size = w.heap.size ∧ w'.os = w.os ∧ w'.tape = w.tape ∧ w'.output = w.output := by
    simp only [w']
    cases hbl : Nat.blt p l.length with
    | true => exact ⟨by simp [hlt], fun j hj => by simp [Ne.symm hj], by simp, rfl, rfl, rfl⟩
    | false => exact ⟨by simp only [cond_false, nxt, hbl]; exact hb', fun _ _ => rfl, rfl, rfl, rfl, rfl⟩
  obtain ⟨g1, g2, g3, g4, g5, g6⟩ := hw
  have h2 := hr.updRes (L := bn k) (c' := itc l (nxt l p)) (w' := w') hs.2.1.1 rfl (fun b hb => .inl hb) (by rw [e']; simp) (fun j _ hj => g2 j (fun h => hj (by rw [e', h]; simp))) (by omega) g4 g5 g6 (fun H hle => ⟨b, e', g1⟩) (fun i tv _ _ H v hv => by
    have : (fun j => if j = k then bn k else bn j) = bn := by funext j; split <;> simp_all
    rw [this]; exact hv)
  exact ⟨_, h2.put (by rw [hB]; simpa [Nat.blt_eq] using hn) rfl⟩

theorem LR_nx0 {x : Operand} {ty : TypeId} {pos : String} {after : Array Edge} {d p : Nat} {r : List (Nat × TV)} {l : List UInt8} (hx : OpAt x (.inl (nx l p)) r) (hn : Nat.blt d n = true) :
    LR P n ops ⟨some d, .extract x 0, ty, pos, after, none⟩ ⟨r, [], []⟩ ⟨[(d, .inl (is (Bl (Nat.blt p l.length))))], []⟩ :=
  LR_val hn fun B bn s a w hs h => by
    have h1 : a.eval x = (bif Nat.blt p l.length then .tuple #[Bl true, I64 (p : Int), I32 (runeAt l p)] else .tuple #[Bl false]) := hx B bn s a w hs.1 h
    refine ⟨_, ?_, rfl⟩
    simp only [execOp, h1]
    cases Nat.blt p l.length <;> rfl
theorem LR_nx1 {x : Operand} {ty : TypeId} {pos : String} {after : Array Edge} {d p : Nat} {r : List (Nat × TV)} {l : List UInt8} (hx : OpAt x (.inl (nx l p)) r) (hp : Nat.blt p l.length = true) (hn : Nat.blt d n = true) :
    LR P n ops ⟨some d, .extract x 1, ty, pos, after, none⟩ ⟨r, [], []⟩ ⟨[(d, .inl (is (I64 (p : Int))))], []⟩ :=
  LR_val hn fun B bn s a w hs h => by
    have h1 : a.eval x = (bif Nat.blt p l.length then .tuple #[Bl true, I64 (p : Int), I32 (runeAt l p)] else .tuple #[Bl false]) := hx B bn s a w hs.1 h
    refine ⟨_, ?_, rfl⟩
    simp only [execOp, h1, hp]
    rfl
theorem LR_nx2 {x : Operand} {ty : TypeId} {pos : String} {after : Array Edge} {d p : Nat} {r : List (Nat × TV)} {l : List UInt8} (hx : OpAt x (.inl (nx l p)) r) (hp : Nat.blt p l.length = true) (hn : Nat.blt d n = true) :
    LR P n ops ⟨some d, .extract x 2, ty, pos, after, none⟩ ⟨r, [], []⟩ ⟨[(d, .inl (is (I32 (runeAt l p))))], []⟩ :=
  LR_val hn fun B bn s a w hs h => by
    have h1 : a.eval x = (bif Nat.blt p l.length then .tuple #[Bl true, I64 (p : Int), I32 (runeAt l p)] else .tuple #[Bl false]) := hx B bn s a w hs.1 h
    refine ⟨_, ?_, rfl⟩
    simp only [execOp, h1, hp]
    rfl

theorem AW_label {i : Nat} (h : Q .normal s) : AW P B (.label i) Q s := fun _ _ hr => wp_label ⟨s, h, hr⟩
structure scopeQ (Q : Exit → St → Prop) (e : Exit) (s : St) : Prop where
  out : match e with | .goto _ => False | e => Q e s
theorem scN {s : St} (h : Q .normal s) : scopeQ Q .normal s := ⟨h⟩
theorem scR {s : St} (h : Q .ret s) : scopeQ Q .ret s := ⟨h⟩
theorem scX {s : St} {i : Nat} (h : Q (.exit i) s) : scopeQ Q (.exit i) s := ⟨h⟩
theorem AW_scope {c : Code} (h : AW P B c (scopeQ Q) s) : AW P B (.scope c) Q s := by
  intro a w hr
  refine wp_scope_straight (wp_mono (h a w hr) ?_)
  rintro e a' w' ⟨s', ⟨h1⟩, h2⟩
  cases e with
  | goto l => exact h1.elim
  | _ => exact ⟨s', h1, h2⟩
end
end Go.Aw
