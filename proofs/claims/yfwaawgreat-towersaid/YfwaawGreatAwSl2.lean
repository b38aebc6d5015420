/-
  Slices made, filled, copied, turned to strings, frozen.
-/
import Derived.Test.YfwaawGreatAwSl
import Derived.Laws.MakeOwn
import Derived.Laws.OwnMore
import Derived.Laws.IdiomCopy
import Derived.Laws.BytesString
import Derived.Laws.AppendOwn
namespace Go.Aw
open Go.RowKit

section
variable {α : Type} {K : α → Value} {P : Program} {n : Nat} {ops : Array Oper}

/-- What the program tells of an element type of one cell. -/
structure Elt (P : Program) (e : TypeId) (z : Value) : Prop where
  size : ∀ w, (sizeOf e).run P w = .ok 1 w
  cell : z.cells = #[z]
  info : ∃ inf : TypeInfo, P.info? e = some inf ∧ inf.zero = some z ∧ inf.size = 1 ∧ inf.bytes ≤ 64

theorem arv_const (m : Nat) (x : α) : arv K m (fun _ => x) = List.replicate m (K x) := by
  unfold arv
  apply List.ext_getElem
  · simp
  · intro i h1 h2; simp
theorem arv_length {m : Nat} {f : Nat → α} : (arv K m f).length = m := by simp [arv]
theorem arv_get {m i : Nat} {f : Nat → α} (h : i < m) : (arv K m f)[i]? = some (K (f i)) := by simp [arv, h]

theorem all2_arv {m : Nat} {f : Nat → α} {H : PH} : All2 H (ar K m f ++ []) (arv K m f) := by
  simpa using all2_ar (K := K) (n := m) (w := f) (H := H) (r := []) (vs := []) trivial
theorem all2_ar_inv {m : Nat} {f : Nat → α} {H : PH} {vs : List Value} (h : All2 H (ar K m f ++ []) vs) : vs = arv K m f := by
  rw [List.append_nil] at h
  unfold ar at h
  unfold arv
  revert h
  generalize List.range m = q
  induction q generalizing vs with
  | nil => intro h; cases vs with
    | nil => rfl
    | cons => exact h.elim
  | cons y q ih => intro h; cases vs with
    | nil => exact h.elim
    | cons v vs =>
      have h1 : v = K (f y) := h.1
      simp only [List.map_cons, h1, ih h.2]

/-- A new slice of zeros, in a box of its own. -/
theorem LR_makeSlice {t e : TypeId} {x : Operand} {ty : TypeId} {pos : String} {after : Array Edge} {d : Nat} {rx : List (Nat × TV)} {i : Int} {z : α} (hu : P.underlying t = some (.slice e)) (he : Elt P e (K z)) (hx : OpAt x (.inl (is (I64 i))) rx) (hi : 0 ≤ i ∧ i ≤ 1099511627776) (hn : Nat.blt d n = true) :
    LR P n ops ⟨some d, .makeSlice t x x, ty, pos, after, none⟩ ⟨rx, [], [d]⟩ ⟨[(d, .inr (.inr (.inl (d, 0, i.toNat, i.toNat))))], [(d, pb e (ar K i.toNat (fun _ => z) ++ []))]⟩ := by
  refine ⟨?_⟩
  intro B s a w hB hs ⟨bn, hr⟩
  have h1 : a.eval x = .int .i64 i := hx B bn s a w hs.1 hr
  obtain ⟨inf, hinf, hz, hsz, hby⟩ := he.info
  unfold OpK
  rw [if_pos (by simp [Region.wanted])]
  have hmul : (inf.bytes : Int) * i ≤ 281474976710656 := by
    have h64 : (inf.bytes : Int) ≤ 64 := by omega
    have h2 : (inf.bytes : Int) * i ≤ 64 * i := Int.mul_le_mul_of_nonneg_right h64 hi.1
    omega
  have hrun : (execOp a.eval ⟨some d, .makeSlice t x x, ty, pos, after, none⟩).run P w = .ok (.value (.slice (some ⟨w.heap.size, 0, none⟩) i.toNat i.toNat)) { w with heap := w.heap.push (.cells (arv K i.toNat (fun _ => z)).toArray e (0, 0)) } := by
    simp only [execOp, h1]
    rw [Sem.run_bind, run_make w t e inf (K z) hu hinf hz .i64 .i64 i i hi.1 (Int.le_refl _) hmul (by omega), Result.andThen_ok]
    have : madeCells (K z).cells (i.toNat * inf.size) = (arv K i.toNat (fun _ => z)).toArray := by
      rw [he.cell, hsz, Nat.mul_one, arv_const]
      apply Array.toList_inj.1
      rw [toList_madeCells_one]
    rw [this]
    rfl
  unfold Oper.wp
  rw [hrun]
  exact hr.newBox (k := d) (by rw [hB]; simpa [Nat.blt_eq] using hn) hs.2.2.1 rfl all2_arv (fun H => by simp [TV.holds, Loc.b])

/-- A copy out of quiet memory to the whole of a box. -/
def cpy (w : Nat → α) (m : Nat) (f : Nat → α) : Nat → α := fun i => bif Nat.blt i m then f i else w i

theorem cells_copy {vs us : List Value} : us.length ≤ vs.length → setSeg vs 0 us = us ++ vs.drop us.length := by
  intro h
  have : ∀ (us vs : List Value) (i : Nat), i + us.length ≤ vs.length → setSeg vs i us = vs.take i ++ us ++ vs.drop (i + us.length) := by
    intro us
    induction us with
    | nil => intro vs i _; simp [setSeg]
    | cons u us ih =>
      intro vs i hi
      simp only [setSeg]
      simp only [List.length_cons] at hi
      rw [ih _ _ (by simp; omega)]
      rw [List.take_set, List.drop_set_of_lt (by omega)]
      have hlt : i < vs.length := by omega
      have h1 : (vs.take (i + 1)).set i u = vs.take i ++ [u] := by
        rw [List.take_succ_eq_append_getElem hlt, List.set_append_right _ _ (by simp; omega)]
        simp [Nat.min_eq_left (Nat.le_of_lt hlt)]
      rw [h1]
      simp [Nat.add_assoc, Nat.add_comm 1]
  simpa using this us vs 0 (by simpa using h)

theorem arv_copy {m k : Nat} {w f : Nat → α} (h : k ≤ m) : setSeg (arv K m w) 0 (arv K k f) = arv K m (cpy w k f) := by
  rw [cells_copy (by simp [arv]; exact h)]
  apply List.ext_getElem?
  intro i
  by_cases hk : i < k
  · rw [List.getElem?_append_left (by simpa [arv] using hk), arv_get hk, arv_get (by omega)]
    have hb : Nat.blt i k = true := by simpa [Nat.blt_eq] using hk
    simp [cpy, hb]
  · rw [List.getElem?_append_right (by simp [arv]; omega)]
    by_cases hm : i < m
    · rw [arv_get hm]
      have hb : Nat.blt i k = false := by
        cases hb : Nat.blt i k with
        | false => rfl
        | true => exact (hk (by simpa [Nat.blt_eq] using hb)).elim
      have e : k + (i - k) = i := by omega
      simp [arv, cpy, hb, e, hm]
    · rw [List.getElem?_eq_none (by simp [arv]; omega), List.getElem?_eq_none (by simp [arv]; omega)]

theorem run_loadCells_arv {w : World} {b off m : Nat} {f : Nat → α} {arr : Array Value} {ty : TypeId} {fz : Nat × Nat} (hb : w.heap[b]? = some (.cells arr ty fz)) (h : ∀ i, i < m → arr[off + i]? = some (K (f i))) : (loadCells ⟨b, off, none⟩ m).run P w = .ok (arv K m f).toArray w := by
  have := run_loadCells_list (P := P) w ⟨b, off, none⟩ (arv K m f) (fun j v e => by
    have hj : j < m := by
      rcases Nat.lt_or_ge j m with h' | h'
      · exact h'
      · rw [List.getElem?_eq_none (by simpa [arv] using h')] at e; cases e
    rw [arv_get hj] at e
    cases e
    rw [addN]
    simp [World.cell?, hb, h j hj])
  rwa [arv_length] at this

theorem run_copy_ok {w : World} {b off dLen dCap sLen sCap : Nat} {a : Addr} {dT sT ty e : TypeId} {vs us : List Value} (hu : P.underlying dT = some (.slice e)) (hs : ∀ w, (sizeOf e).run P w = .ok 1 w) (hb : w.heap[b]? = some (.cells vs.toArray e (0, 0)))
    (hl : (loadCells a (Nat.min sLen dLen)).run P w = .ok us.toArray w) (hul : us.length = Nat.min sLen dLen) (hfit : off + us.length ≤ vs.length) (h1 : ∀ u, u ∈ us → isCell u = true) :
    ∃ w', (Builtin.copy_ #[dT, sT] ty #[.slice (some ⟨b, off, none⟩) dLen dCap, .slice (some a) sLen sCap]).run P w = .ok (goInt us.length) w' ∧ w'.heap[b]? = some (.cells (setSeg vs off us).toArray e (0, 0)) ∧ (∀ j, j ≠ b → w'.heap[j]? = w.heap[j]?) ∧ w'.heap.size = w.heap.size ∧ w'.os = w.os ∧ w'.tape = w.tape ∧ w'.output = w.output := by
  obtain ⟨w', g1, g2⟩ := run_storeCells (P := P) (off := off) us vs 0 w hb (by omega) h1
  refine ⟨w', ?_, g2⟩
  have h2 : Builtin.copy_ #[dT, sT] ty #[.slice (some ⟨b, off, none⟩) dLen dCap, .slice (some a) sLen sCap] = (underlying dT >>= fun d => match d with
    | .slice elem => (do
      let n := Nat.min (← Builtin.lenOf (.slice (some a) sLen sCap)) dLen
      let cells ← Builtin.firstCells (← sizeOf elem) n (.slice (some a) sLen sCap)
      storeCells ⟨b, off, none⟩ cells.toList
      pure (goInt n) : Sem Value)
    | _ => stuck "copy: slice type expected") := rfl
  rw [h2, Sem.run_bind, run_underlying hu, Result.andThen_ok]
  simp only [Builtin.lenOf, pure_bind]
  rw [Sem.run_bind, hs, Result.andThen_ok]
  simp only [Builtin.firstCells, Nat.mul_one]
  rw [Sem.run_bind, hl, Result.andThen_ok]
  simp only
  rw [Sem.run_bind, g1, Result.andThen_ok, ← hul]
  rfl

/-- copy(dst, src): dst a whole box, src quiet and not nil. -/
theorem LR_copyQ {x y : Operand} {dT sT e : TypeId} {ty : TypeId} {pos : String} {after : Array Edge} {d : Nat} {rx ry : List (Nat × TV)} {k len cap : Nat} {f : Nat → α} {u : NS α} (hu : P.underlying dT = some (.slice e)) (hs : ∀ w, (sizeOf e).run P w = .ok 1 w) (hK : ∀ q, isCell (K q) = true)
    (hx : OpAt x (.inr (.inr (.inl (k, 0, len, cap)))) rx) (hy : OpAt y (.inl (ns K u)) ry) (hle : u.2.1 ≤ len) (hn : Nat.blt d n = true) :
    LR P n ops ⟨some d, .call ⟨.builtin .copy, #[x, y], #[dT, sT]⟩, ty, pos, after, none⟩ ⟨rx ++ ry, [(k, pb e (ar K len f ++ []))], []⟩ ⟨[(d, .inl (is (I64 (u.2.1 : Int))))], [(k, pb e (ar K len (cpy f u.2.1 u.2.2) ++ []))]⟩ := by
  refine ⟨?_⟩
  intro B s a w hB hst ⟨bn, hr⟩
  have h0 := SatT_append.1 hst.1
  have h1 : a.eval x = .slice (some ⟨(bn k).b, 0, none⟩) len cap := hx B bn s a w h0.1 hr
  obtain ⟨vs, hb, hv⟩ := hr.cellAt hst.2.1.1
  have hvs := all2_ar_inv hv
  subst hvs
  unfold OpK
  rw [if_pos (by simp [Region.wanted])]
  unfold Oper.wp
  have key : ∃ w', (execOp a.eval ⟨some d, .call ⟨.builtin .copy, #[x, y], #[dT, sT]⟩, ty, pos, after, none⟩).run P w = .ok (.value (I64 (u.2.1 : Int))) w' ∧ w'.heap[(bn k).b]? = some (.cells (arv K len (cpy f u.2.1 u.2.2)).toArray e (0, 0)) ∧ (∀ j, j ≠ (bn k).b → w'.heap[j]? = w.heap[j]?) ∧ w'.heap.size = w.heap.size ∧ w'.os = w.os ∧ w'.tape = w.tape ∧ w'.output = w.output := by
    have hex : ∀ v, a.eval y = v → (execOp a.eval ⟨some d, .call ⟨.builtin .copy, #[x, y], #[dT, sT]⟩, ty, pos, after, none⟩).run P w = ((Builtin.copy_ #[dT, sT] ty #[.slice (some ⟨(bn k).b, 0, none⟩) len cap, v]).run P w).andThen fun r w' => .ok (.value r) w' := by
      intro v hv'
      simp only [execOp, resolve]
      rw [Sem.run_bind]
      simp only [Sem.run_pure, Result.andThen_ok, invoke]
      have : (#[x, y].map a.eval) = #[.slice (some ⟨(bn k).b, 0, none⟩) len cap, v] := by simp [h1, hv']
      rw [this]
      show (do pure (Next.value (← Builtin.copy_ #[dT, sT] ty #[.slice (some ⟨(bn k).b, 0, none⟩) len cap, v])) : Sem Next).run P w = _
      rw [Sem.run_bind]
      congr 1
    rcases hy B bn s a w h0.2 hr with ⟨_, e2, hy1⟩ | ⟨_, b, off, cap', arr, ty', fz, hy1, hy2, _, hy4⟩
    · have e3 : (Builtin.copy_ #[dT, sT] ty #[.slice (some ⟨(bn k).b, 0, none⟩) len cap, .slice none 0 0]).run P w = .ok (goInt 0) w := by
        have h2 : Builtin.copy_ #[dT, sT] ty #[.slice (some ⟨(bn k).b, 0, none⟩) len cap, .slice none 0 0] = (underlying dT >>= fun d => match d with
          | .slice elem => (do
            let n := Nat.min (← Builtin.lenOf (.slice none 0 0)) len
            let cells ← Builtin.firstCells (← sizeOf elem) n (.slice none 0 0)
            storeCells ⟨(bn k).b, 0, none⟩ cells.toList
            pure (goInt n) : Sem Value)
          | _ => stuck "copy: slice type expected") := rfl
        rw [h2, Sem.run_bind, run_underlying hu, Result.andThen_ok]
        simp only [Builtin.lenOf, pure_bind]
        rw [Sem.run_bind, hs, Result.andThen_ok]
        simp [Builtin.firstCells, storeCells]
      refine ⟨w, by rw [hex _ hy1, e3, Result.andThen_ok, e2]; rfl, ?_, fun _ _ => rfl, rfl, rfl, rfl, rfl⟩
      rw [hb, e2]
      congr 2
    · have hq := (hr.curIn b _ hy2).2
      have hl := run_loadCells_arv (P := P) (K := K) (m := u.2.1) (f := u.2.2) hq hy4
      have hmin : Nat.min u.2.1 len = u.2.1 := Nat.min_eq_left hle
      obtain ⟨w', g1, g2, g3⟩ := run_copy_ok (P := P) (sT := sT) (ty := ty) (off := 0) (dLen := len) (dCap := cap) (sLen := u.2.1) (sCap := cap') (us := arv K u.2.1 u.2.2) hu hs hb (by rw [hmin]; exact hl) (by rw [hmin]; exact arv_length) (by rw [arv_length, arv_length]; omega) (fun v hv => by
        obtain ⟨i, _, e⟩ := List.mem_map.1 hv
        rw [← e]; exact hK _)
      refine ⟨w', by rw [hex _ hy1, g1, Result.andThen_ok, arv_length]; rfl, by rw [g2, arv_copy hle], g3⟩
  obtain ⟨w', hrun, g2, g3, g4, g5, g6, g7⟩ := key
  rw [hrun]
  have := hr.setBox (el' := e) hst.2.1.1 g2 all2_arv g3 g4 g5 g6 g7
  obtain ⟨bn', hr'⟩ := this
  exact ⟨bn', hr'.put (by rw [hB]; simpa [Nat.blt_eq] using hn) rfl⟩

/-- New quiet memory beside what is known. -/
theorem RelB.newQuiet {B : Base} {bn : Nat → Loc} {s : St} {a : Act} {w : World} {o : Obj} (h : RelB B bn s a w) : RelB B bn s a { w with heap := w.heap.push o } ∧ cur B (blks bn s.b) { w with heap := w.heap.push o } w.heap.size = some o := by
  have hbel : Below w.heap.size w { w with heap := w.heap.push o } := ⟨rfl, rfl, rfl, by simp, fun b hb => by show (w.heap.push o)[b]? = _; rw [Array.getElem?_push, if_neg (by omega)]⟩
  refine ⟨(h.below hbel).1, ?_⟩
  have hn : w.heap.size ∉ blks bn s.b := fun hm => by
    obtain ⟨x, hx, e⟩ := mem_blks.1 hm
    exact absurd (h.lt hx e) (by omega)
  unfold cur
  rw [if_neg hn, if_neg (by have := h.ext.size; omega)]
  show (w.heap.push o)[w.heap.size]? = _
  simp

theorem fill1 {x : Value} (h : isCell x = true) (z : Value) : Instr.fill (fun i => some (i * 1, 1)) #[z] [(0, x)] = some #[x] := by
  have hc := cells_of_isCell h
  simp [Instr.fill, hc]
theorem fill2 {x y : Value} (h : isCell x = true) (h' : isCell y = true) (z : Value) : Instr.fill (fun i => some (i * 1, 1)) #[z, z] [(0, x), (1, y)] = some #[x, y] := by
  have hc := cells_of_isCell h
  have hc' := cells_of_isCell h'
  simp [Instr.fill, hc, hc']

theorem run_bs {t e : TypeId} {z : Value} {len : Nat} {parts : Array (Nat × Value)} {cs : Array Value} {inf : TypeInfo} {w : World} (he : Elt P e z) (hu : P.underlying t = some (.slice e)) (hinf : P.info? e = some inf) (hz : inf.zero = some z) (h0 : len ≠ 0) (hl : len ≤ 2 ^ 24)
    (hf : Instr.fill (fun i => some (i * 1, 1)) (madeCells z.cells len) parts.toList = some cs) :
    (Instr.buildSlice t len parts).run P w = .ok (.slice (some ⟨w.heap.size, 0, none⟩) len len) { w with heap := w.heap.push (.cells cs e (0, 0)) } := by
  unfold Instr.buildSlice
  rw [Sem.run_bind, run_underlying hu, Result.andThen_ok]
  simp only
  rw [Sem.run_bind, he.size, Result.andThen_ok]
  simp only [Nat.mul_one]
  rw [if_neg (by omega), if_neg h0]
  unfold madeCells at hf
  simp only [zeroValue, typeInfo]
  simp [hinf, hz, Nat.mul_one] at hf ⊢
  rw [hf]
  rfl

/-- A slice literal of one element. -/
theorem LR_bs1 {t e : TypeId} {x : Operand} {ty : TypeId} {pos : String} {after : Array Edge} {d : Nat} {rx : List (Nat × TV)} {u z : α} (hu : P.underlying t = some (.slice e)) (he : Elt P e (K z)) (hK : ∀ q, isCell (K q) = true) (hx : OpAt x (.inl (is (K u))) rx) (hn : Nat.blt d n = true) :
    LR P n ops ⟨some d, .buildSlice t 1 #[(0, x)], ty, pos, after, none⟩ ⟨rx, [], []⟩ ⟨[(d, .inl (ns K (false, 1, fun _ => u)))], []⟩ := by
  refine ⟨?_⟩
  intro B s a w hB hs ⟨bn, hr⟩
  have h1 : a.eval x = K u := hx B bn s a w hs.1 hr
  obtain ⟨inf, hinf, hz, hsz, hby⟩ := he.info
  unfold OpK
  rw [if_pos (by simp [Region.wanted])]
  have hrun : (execOp a.eval ⟨some d, .buildSlice t 1 #[(0, x)], ty, pos, after, none⟩).run P w = .ok (.value (.slice (some ⟨w.heap.size, 0, none⟩) 1 1)) { w with heap := w.heap.push (.cells #[K u] e (0, 0)) } := by
    simp only [execOp]
    have : (#[(0, x)].map fun (i, x) => (i, a.eval x)) = #[(0, K u)] := by simp [h1]
    rw [this, Sem.run_bind, run_bs (he := he) hu hinf hz (by decide) (by decide) (cs := #[K u]) (by rw [show madeCells (K z).cells 1 = #[K z] from by rw [he.cell]; exact Array.toList_inj.1 (toList_madeCells_one _ _)]; exact fill1 (hK u) _)]
    rfl
  unfold Oper.wp
  rw [hrun]
  obtain ⟨h2, h3⟩ := hr.newQuiet (o := .cells #[K u] e (0, 0))
  refine ⟨bn, h2.put (by rw [hB]; simpa [Nat.blt_eq] using hn) (.inr ⟨rfl, w.heap.size, 0, 1, _, _, _, rfl, h3, Nat.le_refl _, fun i hi => ?_⟩)⟩
  have : i = 0 := by have : i < 1 := hi; omega
  subst this; rfl

/-- A slice literal of two. -/
theorem LR_bs2 {t e : TypeId} {x y : Operand} {ty : TypeId} {pos : String} {after : Array Edge} {d : Nat} {rx ry : List (Nat × TV)} {u v z : α} (hu : P.underlying t = some (.slice e)) (he : Elt P e (K z)) (hK : ∀ q, isCell (K q) = true) (hx : OpAt x (.inl (is (K u))) rx) (hy : OpAt y (.inl (is (K v))) ry) (hn : Nat.blt d n = true) :
    LR P n ops ⟨some d, .buildSlice t 2 #[(0, x), (1, y)], ty, pos, after, none⟩ ⟨rx ++ ry, [], []⟩ ⟨[(d, .inl (ns K (false, 2, fun i => bif Nat.beq i 0 then u else v)))], []⟩ := by
  refine ⟨?_⟩
  intro B s a w hB hs ⟨bn, hr⟩
  have h0 := SatT_append.1 hs.1
  have h1 : a.eval x = K u := hx B bn s a w h0.1 hr
  have h1' : a.eval y = K v := hy B bn s a w h0.2 hr
  obtain ⟨inf, hinf, hz, hsz, hby⟩ := he.info
  unfold OpK
  rw [if_pos (by simp [Region.wanted])]
  have hrun : (execOp a.eval ⟨some d, .buildSlice t 2 #[(0, x), (1, y)], ty, pos, after, none⟩).run P w = .ok (.value (.slice (some ⟨w.heap.size, 0, none⟩) 2 2)) { w with heap := w.heap.push (.cells #[K u, K v] e (0, 0)) } := by
    simp only [execOp]
    have : (#[(0, x), (1, y)].map fun (i, x) => (i, a.eval x)) = #[(0, K u), (1, K v)] := by simp [h1, h1']
    rw [this, Sem.run_bind, run_bs (he := he) hu hinf hz (by decide) (by decide) (cs := #[K u, K v]) (by rw [show madeCells (K z).cells 2 = #[K z, K z] from by rw [he.cell]; exact Array.toList_inj.1 (toList_madeCells_one _ _)]; exact fill2 (hK u) (hK v) _)]
    rfl
  unfold Oper.wp
  rw [hrun]
  obtain ⟨h2, h3⟩ := hr.newQuiet (o := .cells #[K u, K v] e (0, 0))
  refine ⟨bn, h2.put (by rw [hB]; simpa [Nat.blt_eq] using hn) (.inr ⟨rfl, w.heap.size, 0, 2, _, _, _, rfl, h3, Nat.le_refl _, fun i hi => ?_⟩)⟩
  have : i = 0 ∨ i = 1 := by have : i < 2 := hi; omega
  rcases this with rfl | rfl <;> rfl
end
end Go.Aw
