/-
  Local rules that touch memory: boxes, loads, stores, calls; entering a function.
-/
import Derived.Test.YfwaawGreatAwOps
namespace Go.Aw
open Go.RowKit

theorem keysNot_mem {k : Nat} : ∀ {l : List Box}, keysNot k l = true → ∀ x, x ∈ l → x.1 ≠ k
  | y :: l, h, x, hx => by
    simp only [keysNot, Bool.and_eq_true] at h
    rcases List.mem_cons.1 hx with rfl | hx
    · intro e; subst e; simp at h
    · exact keysNot_mem h.2 x hx

theorem refsNot_lk {k i : Nat} {tv : TV} : ∀ {l : List (Nat × TV)}, refsNot k l = true → lk i l = some tv → tv.box ≠ some k
  | y :: l, h, e => by
    simp only [refsNot, Bool.and_eq_true] at h
    simp only [lk] at e
    split at e
    · cases e
      have h1 := h.1
      match hy : y.2 with
      | .inl _ => simp [TV.box]
      | .inr (.inl (j, _)) => rw [hy] at h1; simp [TV.box]; intro e; subst e; simp at h1
      | .inr (.inr (.inl (j, _, _, _))) => rw [hy] at h1; simp [TV.box]; intro e; subst e; simp at h1
      | .inr (.inr (.inr (j, _))) => rw [hy] at h1; simp [TV.box]; intro e; subst e; simp at h1
    · exact refsNot_lk h.2 e

theorem setB_fresh {k : Nat} {c : Cont} : ∀ {l : List Box}, keysNot k l = true → setB k c l = l ++ [(k, c)]
  | [], _ => rfl
  | y :: l, h => by
    simp only [keysNot, Bool.and_eq_true, Bool.not_eq_true'] at h
    simp only [setB, h.1, List.cons_append]
    rw [setB_fresh h.2]

theorem lk_mem {α : Type} {k : Nat} {c : α} : ∀ {l : List (Nat × α)}, lk k l = some c → (k, c) ∈ l
  | y :: l, h => by
    simp only [lk] at h
    split at h
    · rename_i hb; cases h; have := beq_true hb; subst this; exact List.mem_cons_self ..
    · exact List.mem_cons_of_mem _ (lk_mem h)

theorem flatMap_congr' {α β : Type} {f g : α → List β} : ∀ {l : List α}, (∀ x, x ∈ l → f x = g x) → l.flatMap f = l.flatMap g
  | [], _ => rfl
  | a :: l, h => by
    simp only [List.flatMap_cons]
    rw [h a (List.mem_cons_self ..), flatMap_congr' fun x hx => h x (List.mem_cons_of_mem _ hx)]

section
variable {P : Program} {n : Nat} {ops : Array Oper}

theorem isSome_lt {w : World} {b : Nat} (h : (hpOf w b).isSome = true) : b < w.heap.size := by
  rcases Nat.lt_or_ge b w.heap.size with h' | h'
  · exact h'
  · simp only [hpOf] at h; rw [Array.getElem?_eq_none h'] at h; cases h

theorem mem_blks {bn : Nat → Loc} {l : List Box} {b : Nat} : b ∈ blks bn l ↔ ∃ x, x ∈ l ∧ b ∈ (bn x.1).xs := by simp only [blks, List.mem_flatMap]

theorem RelB.lt {B : Base} {bn : Nat → Loc} {s : St} {a : Act} {w : World} (h : RelB B bn s a w) {x : Box} (hx : x ∈ s.b) {b : Nat} (hb : b ∈ (bn x.1).xs) : b < w.heap.size :=
  isSome_lt (x.2.dom _ _ _ (h.box x hx) b hb)

/-- The quiet part lies in the heap. -/
theorem RelB.curIn {B : Base} {bn : Nat → Loc} {s : St} {a : Act} {w : World} (h : RelB B bn s a w) : ∀ b o, cur B (blks bn s.b) w b = some o → b ∉ blks bn s.b ∧ w.heap[b]? = some o := by
  intro b o e
  unfold cur at e
  split at e
  · cases e
  · rename_i hb
    refine ⟨hb, ?_⟩
    split at e
    · obtain ⟨h1, h2, h3⟩ := h.base b o e
      rw [h.ext.block b h1 h3]; exact h2
    · exact e

/-- A new resource in new blocks: the world has grown, nothing old has turned. -/
theorem RelB.newRes {B : Base} {bn : Nat → Loc} {s : St} {a : Act} {w w' : World} {d k : Nat} {c : Cont} {L : Loc} {tv : TV} {v : Value} (h : RelB B bn s a w) (hd : d < B.n) (hf : s.fresh k = true)
    (hw : Below w.heap.size w w') (hL : ∀ b, b ∈ L.xs → w.heap.size ≤ b) (hLn : L.xs.Nodup)
    (hc : c.p (hpOf w') (cur B (blks bn s.b ++ L.xs) w') L)
    (htv : ∀ H, TV.holds H (fun j => if j = k then L else bn j) tv v) :
    Rel B ⟨(d, tv) :: s.t, setBs [(k, c)] s.b⟩ (a.put (some d) v) w' := by
  simp only [St.fresh, Bool.and_eq_true] at hf
  have hnk := keysNot_mem hf.1
  have hsb : setBs [(k, c)] s.b = s.b ++ [(k, c)] := setB_fresh hf.1
  let bn' : Nat → Loc := fun j => if j = k then L else bn j
  have hbn : ∀ x, x ∈ s.b → bn' x.1 = bn x.1 := fun x hx => by simp [bn', hnk x hx]
  have hblk : blks bn' (s.b ++ [(k, c)]) = blks bn s.b ++ L.xs := by
    have h1 : blks bn' s.b = blks bn s.b := by
      unfold blks
      exact flatMap_congr' fun x hx => by rw [hbn x hx]
    unfold blks at h1 ⊢
    rw [List.flatMap_append, h1]
    simp [bn']
  have hlt : ∀ x, x ∈ s.b → ∀ b, b ∈ (bn x.1).xs → b < w.heap.size := fun x hx b hb => h.lt hx hb
  have hge : ∀ b, b < w.heap.size → w'.heap[b]? = w.heap[b]? := fun b hb => hw.block b hb
  have hle : PH.le (cur B (blks bn s.b) w) (cur B (blks bn s.b ++ L.xs) w') := by
    intro b o e
    obtain ⟨h1, h2⟩ := h.curIn b o e
    have hb : b < w.heap.size := by
      rcases Nat.lt_or_ge b w.heap.size with h' | h'
      · exact h'
      · rw [Array.getElem?_eq_none h'] at h2; cases h2
    unfold cur at e ⊢
    rw [if_neg h1] at e
    rw [if_neg (fun hm => by rcases List.mem_append.1 hm with hm | hm; exact h1 hm; have := hL b hm; omega)]
    split
    · rename_i h3; rw [if_pos h3] at e; exact e
    · rw [hge b hb]; exact h2
  refine ⟨bn', h.defs, by simp [Act.put, h.size], ?_, h.base, ?_, ?_, ?_, ?_, ?_, ?_, ?_⟩
  · exact ⟨hw.os.trans h.ext.os, hw.tape.trans h.ext.tape, hw.output.trans h.ext.output, Nat.le_trans h.ext.size hw.size, fun j hj hjn => by rw [hge j (Nat.lt_of_lt_of_le hj h.ext.size)]; exact h.ext.block j hj hjn⟩
  · intro j hj
    obtain ⟨x, hx, hxk⟩ := h.here j hj
    have := hbn x hx
    rw [hxk] at this
    rw [this]; exact h.keep j hj
  · intro j hj; obtain ⟨x, hx, hxk⟩ := h.here j hj; exact ⟨x, by rw [hsb]; exact List.mem_append_left _ hx, hxk⟩
  · simp only [hsb, List.map_append, List.map_cons, List.map_nil]
    rw [List.nodup_append]
    refine ⟨h.kn, by simp, fun x hx y hy => ?_⟩
    obtain ⟨z, hz, rfl⟩ := List.mem_map.1 hx
    rw [List.mem_singleton] at hy; subst hy
    exact hnk z hz
  · simp only [hsb, hblk]
    rw [List.nodup_append]
    refine ⟨h.nod, hLn, fun x hx y hy => ?_⟩
    obtain ⟨z, hz, hzx⟩ := mem_blks.1 hx
    have := hlt z hz x hzx
    have := hL y hy
    omega
  · intro x hx b hb
    simp only [hsb] at hx
    rcases List.mem_append.1 hx with hx | hx
    · rw [hbn x hx] at hb; exact h.own x hx b hb
    · rw [List.mem_singleton] at hx; subst hx
      simp only [bn', if_true] at hb
      exact .inl (Nat.le_trans h.ext.size (hL b hb))
  · intro x hx
    simp only [hsb] at hx
    simp only [hsb, hblk]
    rcases List.mem_append.1 hx with hx | hx
    · rw [hbn x hx]
      exact x.2.up _ _ _ _ _ hle (fun b hb => hge b (hlt x hx b hb)) (h.box x hx)
    · rw [List.mem_singleton] at hx; subst hx
      simp only [bn', if_true]
      exact hc
  · intro i tv' e
    simp only [hsb, hblk]
    by_cases hi : d = i
    · subst hi
      rw [lk_cons_eq] at e
      cases e
      rw [getD_put_eq (by rw [h.size]; exact hd)]
      exact htv _
    · rw [lk_cons_ne hi] at e
      rw [getD_put_ne hi]
      refine TV.holds_up hle (fun j hj => ?_) (h.tmp i tv' e)
      have := refsNot_lk hf.2 e
      have hjk : j ≠ k := fun e => this (e ▸ hj)
      show (if j = k then _ else bn j) = bn j
      rw [if_neg hjk]

/-- A new box. -/
theorem RelB.newBox {B : Base} {bn : Nat → Loc} {s : St} {a : Act} {w w' : World} {d k : Nat} {ty : TypeId} {cells : List AV} {vs : List Value} {tv : TV} {v : Value} (h : RelB B bn s a w) (hd : d < B.n) (hf : s.fresh k = true)
    (hw : w' = { w with heap := w.heap.push (.cells vs.toArray ty (0, 0)) }) (hc : All2 (cur B (blks bn s.b) w) cells vs)
    (htv : ∀ H, TV.holds H (fun j => if j = k then ⟨[w.heap.size], fun _ => undef⟩ else bn j) tv v) :
    Rel B ⟨(d, tv) :: s.t, setBs [(k, pb ty cells)] s.b⟩ (a.put (some d) v) w' := by
  have hge : ∀ b, b < w.heap.size → w'.heap[b]? = w.heap[b]? := fun b hb => by
    subst hw; show (w.heap.push _)[b]? = _; rw [Array.getElem?_push, if_neg (by omega)]
  have hnew : w'.heap[w.heap.size]? = some (.cells vs.toArray ty (0, 0)) := by subst hw; show (w.heap.push _)[_]? = _; simp
  have hbel : Below w.heap.size w w' := ⟨by subst hw; rfl, by subst hw; rfl, by subst hw; rfl, by subst hw; show _ ≤ (w.heap.push _).size; simp, hge⟩
  refine h.newRes hd hf hbel (L := ⟨[w.heap.size], fun _ => undef⟩) (fun b hb => by rw [List.mem_singleton] at hb; omega) (by simp) ⟨w.heap.size, rfl, vs, hnew, hc.up ?_⟩ htv
  intro b o e
  obtain ⟨h1, h2⟩ := h.curIn b o e
  have hb : b < w.heap.size := by
    rcases Nat.lt_or_ge b w.heap.size with h' | h'
    · exact h'
    · rw [Array.getElem?_eq_none h'] at h2; cases h2
  unfold cur at e ⊢
  rw [if_neg h1] at e
  rw [if_neg (fun hm => by rcases List.mem_append.1 hm with hm | hm; exact h1 hm; rw [List.mem_singleton] at hm; omega)]
  split
  · rename_i h3; rw [if_pos h3] at e; exact e
  · rw [hge b hb]; exact h2

/-- Cells of a value: an aggregate's, or the one. -/
def CellsAt (tv : AV) (cells : List AV) : Prop := ∀ H v, tv.p H v → ∃ vs : List Value, v.cells = vs.toArray ∧ All2 H cells vs

theorem cells_agg (l : List AV) : CellsAt (agg l) l := fun _ _ ⟨vs, e, h⟩ => ⟨vs, by subst e; rfl, h⟩
theorem cells_is {v : Value} (h : v.cells = #[v]) : CellsAt (is v) [is v] := fun _ _ e => ⟨[v], by rw [show _ = v from e]; exact h, rfl, trivial⟩

theorem LR_box {el : TypeId} {x : Operand} {ty : TypeId} {pos : String} {after : Array Edge} {d : Nat} {r : List (Nat × TV)} {av : AV} {cells : List AV} (hx : OpAt x (.inl av) r) (hc : CellsAt av cells) (hn : Nat.blt d n = true) :
    LR P n ops ⟨some d, .box el x, ty, pos, after, none⟩ ⟨r, [], [d]⟩ ⟨[(d, .inr (.inl (d, 0)))], [(d, pb el cells)]⟩ := by
  refine ⟨?_⟩
  intro B s a w hB hs ⟨bn, hr⟩
  obtain ⟨vs, h1, h2⟩ := hc _ _ (hx B bn s a w hs.1 hr)
  unfold OpK
  rw [if_pos (by simp [Region.wanted])]
  have hrun : (execOp a.eval ⟨some d, .box el x, ty, pos, after, none⟩).run P w = .ok (.value (.pointer (some ⟨w.heap.size, 0, none⟩))) { w with heap := w.heap.push (.cells vs.toArray el (0, 0)) } := by
    simp only [execOp, Instr.box, newVar, newRow, h1]; rfl
  unfold Oper.wp
  rw [hrun]
  exact hr.newBox (k := d) (by rw [hB]; simpa [Nat.blt_eq] using hn) hs.2.2.1 rfl h2 (fun H => by simp [TV.holds, Loc.b])

theorem LR_alloc {el : TypeId} {ty : TypeId} {pos : String} {after : Array Edge} {d : Nat} {z : Value} {cells : List AV} {vs : List Value} (hz : ∀ w, (zeroValue el).run P w = .ok z w) (hzc : z.cells = vs.toArray) (hc : ∀ H, All2 H cells vs) (hn : Nat.blt d n = true) :
    LR P n ops ⟨some d, .alloc el, ty, pos, after, none⟩ ⟨[], [], [d]⟩ ⟨[(d, .inr (.inl (d, 0)))], [(d, pb el cells)]⟩ := by
  refine ⟨?_⟩
  intro B s a w hB hs ⟨bn, hr⟩
  unfold OpK
  rw [if_pos (by simp [Region.wanted])]
  have hrun : (execOp a.eval ⟨some d, .alloc el, ty, pos, after, none⟩).run P w = .ok (.value (.pointer (some ⟨w.heap.size, 0, none⟩))) { w with heap := w.heap.push (.cells vs.toArray el (0, 0)) } := by
    simp only [execOp, Instr.alloc]
    rw [Sem.run_bind, Sem.run_bind, hz]
    simp only [Result.andThen_ok, newVar, newRow, hzc]; rfl
  unfold Oper.wp
  rw [hrun]
  exact hr.newBox (k := d) (by rw [hB]; simpa [Nat.blt_eq] using hn) hs.2.2.1 rfl (hc _) (fun H => by simp [TV.holds, Loc.b])

theorem RelB.cellAt {B : Base} {bn : Nat → Loc} {s : St} {a : Act} {w : World} {k : Nat} {ty : TypeId} {cells : List AV} (h : RelB B bn s a w) (hk : lk k s.b = some (pb ty cells)) :
    ∃ vs : List Value, w.heap[(bn k).b]? = some (.cells vs.toArray ty (0, 0)) ∧ All2 (cur B (blks bn s.b) w) cells vs := by
  obtain ⟨b, e, vs, h1, h2⟩ := h.box (k, pb ty cells) (lk_mem hk)
  have : (bn k).b = b := by unfold Loc.b; rw [e]; rfl
  exact ⟨vs, by rw [this]; exact h1, h2⟩

theorem All2.get {H : PH} : ∀ {as : List AV} {vs : List Value} {i : Nat} {av : AV}, All2 H as vs → as[i]? = some av → ∃ v, vs[i]? = some v ∧ av.p H v
  | a :: as, v :: vs, 0, _, h, e => by simp at e; subst e; exact ⟨v, rfl, h.1⟩
  | a :: as, v :: vs, i + 1, _, h, e => by simp at e ⊢; exact All2.get h.2 e
  | [], [], _, _, _, e => by simp at e
  | [], _ :: _, _, _, h, _ => h.elim
  | _ :: _, [], _, _, h, _ => h.elim

theorem cell_of_block {w : World} {b off : Nat} {vs : List Value} {ty : TypeId} {fz : Nat × Nat} (h : w.heap[b]? = some (.cells vs.toArray ty fz)) : w.cell? ⟨b, off, none⟩ = vs[off]? := by
  simp [World.cell?, h]

/-- A load of one cell. -/
theorem LR_load {t : TypeId} {x : Operand} {ty : TypeId} {pos : String} {after : Array Edge} {d : Nat} {r : List (Nat × TV)} {k off : Nat} {el : TypeId} {cells : List AV} {av : AV} (hx : OpAt x (.inr (.inl (k, off))) r) (ht : ∀ w, (isAgg t).run P w = .ok false w)
    (hc : cells[off]? = some av) (hn : Nat.blt d n = true) :
    LR P n ops ⟨some d, .load t x, ty, pos, after, none⟩ ⟨r, [(k, pb el cells)], []⟩ ⟨[(d, .inl av)], []⟩ :=
  LR_val hn fun B bn s a w hs h => by
    have h1 : a.eval x = .pointer (some ⟨(bn k).b, off, none⟩) := hx B bn s a w hs.1 h
    obtain ⟨vs, hb, h2⟩ := h.cellAt hs.2.1.1
    obtain ⟨v, h3, h4⟩ := h2.get hc
    refine ⟨v, ?_, h4⟩
    simp only [execOp, h1, Instr.loadAt, Instr.sureAddr, loadVar]
    rw [Sem.run_bind, Sem.run_bind]
    simp only [Sem.run_pure, Result.andThen_ok]
    rw [Sem.run_bind, ht]
    simp only [Result.andThen_ok, Bool.false_eq_true, if_false, run_load, cell_of_block hb, h3]

theorem run_loadCellsFrom {w : World} {b off : Nat} {vs : List Value} {ty : TypeId} {fz : Nat × Nat} (h : w.heap[b]? = some (.cells vs.toArray ty fz)) : ∀ (m i : Nat) (acc : Array Value), off + i + m ≤ vs.length →
    (loadCellsFrom ⟨b, off, none⟩ i m acc).run P w = .ok (acc ++ ((vs.drop (off + i)).take m).toArray) w
  | 0, i, acc, _ => by simp [loadCellsFrom]
  | m + 1, i, acc, hm => by
    have hlt : off + i < vs.length := by omega
    rw [loadCellsFrom, Sem.run_bind, run_load]
    have h1 : w.cell? (Addr.add ⟨b, off, none⟩ i) = some vs[off + i] := by
      have : Addr.add ⟨b, off, none⟩ i = ⟨b, off + i, none⟩ := by simp [Addr.add]
      rw [this, cell_of_block h, List.getElem?_eq_getElem hlt]
    simp only [h1, Result.andThen_ok]
    rw [run_loadCellsFrom h m (i + 1) _ (by omega)]
    congr 1
    rw [List.drop_eq_getElem_cons hlt, List.take_succ_cons]
    simp [← Nat.add_assoc]

theorem All2.seg {H : PH} : ∀ {as : List AV} {vs : List Value} (i m : Nat), All2 H as vs → All2 H ((as.drop i).take m) ((vs.drop i).take m)
  | [], [], _, _, _ => by simp [All2]
  | a :: as, v :: vs, 0, 0, _ => by simp [All2]
  | a :: as, v :: vs, 0, m + 1, h => by
    simp only [List.drop_zero, List.take_succ_cons]
    exact ⟨h.1, by simpa using All2.seg 0 m h.2⟩
  | a :: as, v :: vs, i + 1, m, h => by simpa using All2.seg i m h.2
  | [], _ :: _, _, _, h => h.elim
  | _ :: _, [], _, _, h => h.elim

/-- A load of a whole struct or array. -/
theorem LR_loads {t : TypeId} {x : Operand} {ty : TypeId} {pos : String} {after : Array Edge} {d : Nat} {r : List (Nat × TV)} {k off m : Nat} {el : TypeId} {cells seg : List AV} (hx : OpAt x (.inr (.inl (k, off))) r) (ht : ∀ w, (isAgg t).run P w = .ok true w)
    (hm : ∀ w, (sizeOf t).run P w = .ok m w) (hc : (cells.drop off).take m = seg) (hl : Nat.ble (off + m) cells.length = true) (hn : Nat.blt d n = true) :
    LR P n ops ⟨some d, .load t x, ty, pos, after, none⟩ ⟨r, [(k, pb el cells)], []⟩ ⟨[(d, .inl (agg seg))], []⟩ :=
  LR_val hn fun B bn s a w hs h => by
    have h1 : a.eval x = .pointer (some ⟨(bn k).b, off, none⟩) := hx B bn s a w hs.1 h
    obtain ⟨vs, hb, h2⟩ := h.cellAt hs.2.1.1
    have hlen : off + 0 + m ≤ vs.length := by rw [← h2.length]; simpa [Nat.ble_eq] using hl
    refine ⟨.agg ((vs.drop off).take m).toArray, ?_, _, rfl, hc ▸ h2.seg off m⟩
    simp only [execOp, h1, Instr.loadAt, Instr.sureAddr, loadVar]
    rw [Sem.run_bind, Sem.run_bind]
    simp only [Sem.run_pure, Result.andThen_ok]
    rw [Sem.run_bind, ht]
    simp only [Result.andThen_ok, if_true]
    rw [Sem.run_bind, hm]
    simp only [Result.andThen_ok, loadCells]
    rw [Sem.run_bind, run_loadCellsFrom hb m 0 _ hlen]
    simp

theorem LR_fieldAddr {t : TypeId} {fld : Nat} {x : Operand} {ty : TypeId} {pos : String} {after : Array Edge} {d : Nat} {r : List (Nat × TV)} {k off o : Nat} (hx : OpAt x (.inr (.inl (k, off))) r)
    (hf : ∀ b w, (Instr.fieldAt t (.pointer (some ⟨b, off, none⟩)) fld).run P w = .ok (.pointer (some ⟨b, o, none⟩)) w) (hn : Nat.blt d n = true) :
    LR P n ops ⟨some d, .fieldAddr t x fld, ty, pos, after, none⟩ ⟨r, [], []⟩ ⟨[(d, .inr (.inl (k, o)))], []⟩ :=
  LR_val hn fun B bn s a w hs h => by
    have h1 : a.eval x = .pointer (some ⟨(bn k).b, off, none⟩) := hx B bn s a w hs.1 h
    refine ⟨.pointer (some ⟨(bn k).b, o, none⟩), ?_, rfl⟩
    simp only [execOp, h1]
    rw [Sem.run_bind, hf]
    rfl

theorem LR_nilCheck {x : Operand} {ty : TypeId} {pos : String} {after : Array Edge} {d : Nat} {r : List (Nat × TV)} {k off : Nat} (hx : OpAt x (.inr (.inl (k, off))) r) (hn : Nat.blt d n = true) :
    LR P n ops ⟨some d, .nilCheck x, ty, pos, after, none⟩ ⟨r, [], []⟩ ⟨[(d, .inr (.inl (k, off)))], []⟩ :=
  LR_val hn fun B bn s a w hs h => by
    have h1 : a.eval x = .pointer (some ⟨(bn k).b, off, none⟩) := hx B bn s a w hs.1 h
    refine ⟨.pointer (some ⟨(bn k).b, off, none⟩), ?_, rfl⟩
    simp only [execOp, h1]
    rfl

theorem LR_extract {x : Operand} {ix : Nat} {ty : TypeId} {pos : String} {after : Array Edge} {d : Nat} {r : List (Nat × TV)} {l : List AV} {av : AV} (hx : OpAt x (.inl (tup l)) r) (hi : l[ix]? = some av) (hn : Nat.blt d n = true) :
    LR P n ops ⟨some d, .extract x ix, ty, pos, after, none⟩ ⟨r, [], []⟩ ⟨[(d, .inl av)], []⟩ :=
  LR_val hn fun B bn s a w hs h => by
    obtain ⟨vs, h1, h2⟩ := hx B bn s a w hs.1 h
    obtain ⟨v, h3, h4⟩ := h2.get hi
    refine ⟨v, ?_, h4⟩
    simp only [execOp, h1, Instr.extract]
    rw [Sem.run_bind]
    simp only [List.getElem?_toArray, h3]
    rfl
end
end Go.Aw
