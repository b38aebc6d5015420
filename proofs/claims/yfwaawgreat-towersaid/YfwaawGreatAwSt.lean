/-
  Stores, struct literals, calls, entering and leaving a function.
-/
import Derived.Test.YfwaawGreatAwMem
namespace Go.Aw
open Go.RowKit

def setSeg {α : Type} : List α → Nat → List α → List α
  | l, _, [] => l
  | l, i, u :: us => setSeg (l.set i u) (i + 1) us

theorem setSeg_length {α : Type} : ∀ (us l : List α) (i : Nat), (setSeg l i us).length = l.length
  | [], _, _ => rfl
  | u :: us, l, i => by rw [setSeg, setSeg_length us]; simp

theorem All2.set {H : PH} : ∀ {as : List AV} {vs : List Value} (i : Nat) {a : AV} {v : Value}, All2 H as vs → a.p H v → All2 H (as.set i a) (vs.set i v)
  | [], [], _, _, _, _, _ => trivial
  | _ :: _, _ :: _, 0, _, _, h, hv => ⟨hv, h.2⟩
  | _ :: _, _ :: _, i + 1, _, _, h, hv => ⟨h.1, All2.set i h.2 hv⟩
  | [], _ :: _, _, _, _, h, _ => h.elim
  | _ :: _, [], _, _, _, h, _ => h.elim

theorem All2.setSeg {H : PH} : ∀ {us : List Value} {seg : List AV} {as : List AV} {vs : List Value} (i : Nat), All2 H as vs → All2 H seg us → All2 H (setSeg as i seg) (setSeg vs i us)
  | [], [], _, _, _, h, _ => h
  | _ :: _, _ :: _, _, _, i, h, hs => All2.setSeg (i + 1) (h.set i hs.1) hs.2
  | [], _ :: _, _, _, _, _, h => h.elim
  | _ :: _, [], _, _, _, _, h => h.elim

def isCell : Value → Bool
  | .agg _ => false
  | .tuple _ => false
  | _ => true

theorem cells_of_isCell {v : Value} (h : isCell v = true) : v.cells = #[v] := by cases v <;> first | rfl | cases h

def One (av : AV) : Prop := ∀ H v, av.p H v → isCell v = true
def Ones : List AV → Prop
  | [] => True
  | a :: l => One a ∧ Ones l

theorem one_is {v : Value} (h : isCell v = true) : One (is v) := fun _ _ e => by rw [show _ = v from e]; exact h
theorem cells_one {av : AV} (h : One av) : CellsAt av [av] := fun H v hv => ⟨[v], cells_of_isCell (h H v hv), hv, trivial⟩

theorem Ones.all {H : PH} : ∀ {seg : List AV} {us : List Value}, Ones seg → All2 H seg us → ∀ u, u ∈ us → isCell u = true
  | [], [], _, _, _, hu => by cases hu
  | _ :: _, _ :: _, h, h2, u, hu => by
    rcases List.mem_cons.1 hu with rfl | hu
    · exact h.1 _ _ h2.1
    · exact Ones.all h.2 h2.2 u hu
  | [], _ :: _, _, h, _, _ => h.elim
  | _ :: _, [], _, h, _, _ => h.elim

theorem nodup_map_inj {α β : Type} (f : α → β) : ∀ {l : List α}, (l.map f).Nodup → ∀ x, x ∈ l → ∀ y, y ∈ l → f x = f y → x = y
  | a :: l, h, x, hx, y, hy, e => by
    simp only [List.map_cons, List.nodup_cons] at h
    rcases List.mem_cons.1 hx with h1 | h1
    · rcases List.mem_cons.1 hy with h2 | h2
      · exact h1.trans h2.symm
      · subst h1; exact (h.1 (e ▸ List.mem_map_of_mem h2)).elim
    · rcases List.mem_cons.1 hy with h2 | h2
      · subst h2; exact (h.1 (e ▸ List.mem_map_of_mem h1)).elim
      · exact nodup_map_inj f h.2 x h1 y h2 e

theorem setB_map {k : Nat} {c c' : Cont} (f : Nat → Nat) : ∀ {l : List Box}, lk k l = some c → (setB k c' l).map (fun x => f x.1) = l.map fun x => f x.1
  | y :: l, h => by
    simp only [lk] at h
    simp only [setB]
    split at h
    · rename_i hb; have := beq_true hb; simp [this]
    · simp [setB_map f h]

theorem setB_keys {k : Nat} {c c' : Cont} : ∀ {l : List Box}, lk k l = some c → (k, c') ∈ setB k c' l
  | y :: l, h => by
    simp only [lk] at h
    simp only [setB]
    split at h
    · simp
    · simp [setB_keys h]

theorem mem_setB {k : Nat} {c' : Cont} : ∀ {l : List Box} {x : Box}, x ∈ setB k c' l → x = (k, c') ∨ x ∈ l
  | [], x, h => by simp [setB] at h; exact .inl h
  | y :: l, x, h => by
    simp only [setB] at h
    split at h
    · rcases List.mem_cons.1 h with h | h
      · exact .inl h
      · exact .inr (List.mem_cons_of_mem _ h)
    · rcases List.mem_cons.1 h with h | h
      · exact .inr (h ▸ List.mem_cons_self ..)
      · exact (mem_setB h).imp id (List.mem_cons_of_mem _)

theorem mem_setB_of {k : Nat} {c' : Cont} : ∀ {l : List Box} {x : Box}, x ∈ l → ∃ y, y ∈ setB k c' l ∧ y.1 = x.1
  | y :: l, x, h => by
    simp only [setB]
    split
    · rename_i hb
      rcases List.mem_cons.1 h with rfl | h
      · exact ⟨_, List.mem_cons_self .., (beq_true hb).symm⟩
      · exact ⟨x, List.mem_cons_of_mem _ h, rfl⟩
    · rcases List.mem_cons.1 h with rfl | h
      · exact ⟨_, List.mem_cons_self .., rfl⟩
      · obtain ⟨z, hz, e⟩ := mem_setB_of (k := k) (c' := c') h; exact ⟨z, List.mem_cons_of_mem _ hz, e⟩

theorem blks_apart {bn : Nat → Loc} : ∀ {l : List Box}, (blks bn l).Nodup → ∀ {x y : Box}, x ∈ l → y ∈ l → x ≠ y → ∀ {b : Nat}, b ∈ (bn x.1).xs → b ∈ (bn y.1).xs → False
  | z :: l, h, x, y, hx, hy, hne, b, hbx, hby => by
    simp only [blks, List.flatMap_cons, List.nodup_append] at h
    obtain ⟨_, h2, h3⟩ := h
    rcases List.mem_cons.1 hx with ex | hx1 <;> rcases List.mem_cons.1 hy with ey | hy1
    · exact hne (ex.trans ey.symm)
    · subst ex; exact h3 b hbx b (List.mem_flatMap.2 ⟨y, hy1, hby⟩) rfl
    · subst ey; exact h3 b hby b (List.mem_flatMap.2 ⟨x, hx1, hbx⟩) rfl
    · exact blks_apart (l := l) h2 hx1 hy1 hne hbx hby

theorem nodup_part {bn : Nat → Loc} : ∀ {l : List Box}, (blks bn l).Nodup → ∀ {x : Box}, x ∈ l → (bn x.1).xs.Nodup
  | z :: l, h, x, hx => by
    simp only [blks, List.flatMap_cons, List.nodup_append] at h
    rcases List.mem_cons.1 hx with ex | hx
    · subst ex; exact h.1
    · exact nodup_part (l := l) h.2.1 hx

theorem nodup_blks {bn : Nat → Loc} : ∀ {l : List Box}, (l.map (·.1)).Nodup → (∀ x, x ∈ l → (bn x.1).xs.Nodup) → (∀ x, x ∈ l → ∀ y, y ∈ l → x ≠ y → ∀ b, b ∈ (bn x.1).xs → b ∈ (bn y.1).xs → False) → (blks bn l).Nodup
  | [], _, _, _ => by simp [blks]
  | z :: l, h, h1, h2 => by
    simp only [List.map_cons, List.nodup_cons] at h
    simp only [blks, List.flatMap_cons, List.nodup_append]
    refine ⟨h1 z (List.mem_cons_self ..), nodup_blks h.2 (fun x hx => h1 x (List.mem_cons_of_mem _ hx)) (fun x hx y hy => h2 x (List.mem_cons_of_mem _ hx) y (List.mem_cons_of_mem _ hy)), ?_⟩
    intro b hb c hc e
    subst e
    obtain ⟨y, hy, hyb⟩ := List.mem_flatMap.1 hc
    exact h2 z (List.mem_cons_self ..) y (List.mem_cons_of_mem _ hy) (fun e => h.1 (by rw [e]; exact List.mem_map_of_mem hy)) b hb hyb

section
variable {P : Program} {n : Nat} {ops : Array Oper}

/-- A resource of ours turns: its content, its place; outside its old blocks nothing old turns. -/
theorem RelB.updRes {B : Base} {bn : Nat → Loc} {s : St} {a : Act} {w w' : World} {k : Nat} {c c' : Cont} {L : Loc} (h : RelB B bn s a w) (hk : lk k s.b = some c)
    (hbase : L.b = (bn k).b) (hin : ∀ b, b ∈ L.xs → b ∈ (bn k).xs ∨ w.heap.size ≤ b) (hnd : L.xs.Nodup)
    (ho : ∀ b, b < w.heap.size → b ∉ (bn k).xs → w'.heap[b]? = w.heap[b]?) (hsz : w.heap.size ≤ w'.heap.size) (h1 : w'.os = w.os) (h2 : w'.tape = w.tape) (h3 : w'.output = w.output)
    (hc : ∀ H, PH.le (cur B (blks bn s.b) w) H → c'.p (hpOf w') H L)
    (htv : ∀ i tv, lk i s.t = some tv → tv.box = some k → ∀ H v, TV.holds H bn tv v → TV.holds H (fun j => if j = k then L else bn j) tv v) :
    RelB B (fun j => if j = k then L else bn j) ⟨s.t, setBs [(k, c')] s.b⟩ a w' := by
  let bn' : Nat → Loc := fun j => if j = k then L else bn j
  have hkm : (k, c) ∈ s.b := lk_mem hk
  have hkeys : (setB k c' s.b).map (·.1) = s.b.map (·.1) := setB_map id hk
  -- who is not k
  have hne : ∀ x, x ∈ setB k c' s.b → x ≠ (k, c') → x ∈ s.b ∧ x.1 ≠ k := fun x hx hx' => by
    have hxk : x.1 ≠ k := fun e => hx' (nodup_map_inj (·.1) (by rw [hkeys]; exact h.kn) x hx (k, c') (setB_keys hk) e)
    rcases mem_setB hx with e | e
    · exact (hx' e).elim
    · exact ⟨e, hxk⟩
  have hbnne : ∀ j, j ≠ k → bn' j = bn j := fun j hj => by simp [bn', hj]
  have hbnk : bn' k = L := by simp [bn']
  have hlt : ∀ x, x ∈ s.b → ∀ b, b ∈ (bn x.1).xs → b < w.heap.size := fun x hx b hb => h.lt hx hb
  -- blocks
  have hmem : ∀ b, b ∈ blks bn' (setB k c' s.b) → b ∈ blks bn s.b ∨ w.heap.size ≤ b := fun b hb => by
    obtain ⟨x, hx, hxb⟩ := mem_blks.1 hb
    by_cases e : x = (k, c')
    · subst e
      simp only [hbnk] at hxb
      rcases hin b hxb with hb' | hb'
      · exact .inl (mem_blks.2 ⟨_, hkm, hb'⟩)
      · exact .inr hb'
    · obtain ⟨hx1, hx2⟩ := hne x hx e
      rw [hbnne _ hx2] at hxb
      exact .inl (mem_blks.2 ⟨x, hx1, hxb⟩)
  have hapart : ∀ x, x ∈ s.b → x.1 ≠ k → ∀ b, b ∈ (bn x.1).xs → b ∉ (bn k).xs := fun x hx hxk b hb hb' => blks_apart h.nod hx hkm (fun e => hxk (by rw [e])) hb hb'
  have hle : PH.le (cur B (blks bn s.b) w) (cur B (blks bn' (setB k c' s.b)) w') := by
    intro b o e
    obtain ⟨g1, g2⟩ := h.curIn b o e
    have hb : b < w.heap.size := by
      rcases Nat.lt_or_ge b w.heap.size with h' | h'
      · exact h'
      · rw [Array.getElem?_eq_none h'] at g2; cases g2
    unfold cur at e ⊢
    rw [if_neg g1] at e
    rw [if_neg (fun hm => by rcases hmem b hm with hm | hm; exact g1 hm; omega)]
    split
    · rename_i h3; rw [if_pos h3] at e; exact e
    · rw [ho b hb (fun hm => g1 (mem_blks.2 ⟨_, hkm, hm⟩))]; exact g2
  refine ⟨h.defs, h.size, ?_, h.base, ?_, ?_, ?_, ?_, ?_, ?_, ?_⟩
  · refine ⟨h1.trans h.ext.os, h2.trans h.ext.tape, h3.trans h.ext.output, Nat.le_trans h.ext.size hsz, fun j hj hjn => ?_⟩
    rw [ho j (Nat.lt_of_lt_of_le hj h.ext.size) (fun hm => by rcases h.own _ hkm j hm with h' | h'; omega; exact hjn h')]
    exact h.ext.block j hj hjn
  · intro j hj
    by_cases e : j = k
    · subst e; show (bn' j).b = _; rw [hbnk, hbase]; exact h.keep j hj
    · show (bn' j).b = _; rw [hbnne j e]; exact h.keep j hj
  · intro j hj
    obtain ⟨x, hx, e⟩ := h.here j hj
    obtain ⟨y, hy, e'⟩ := mem_setB_of (k := k) (c' := c') hx
    exact ⟨y, hy, e'.trans e⟩
  · show ((setB k c' s.b).map (·.1)).Nodup
    rw [hkeys]; exact h.kn
  · show (blks bn' (setB k c' s.b)).Nodup
    refine nodup_blks (by rw [hkeys]; exact h.kn) (fun x hx => ?_) (fun x hx y hy hxy b hbx hby => ?_)
    · by_cases e : x = (k, c')
      · subst e; simp only [hbnk]; exact hnd
      · obtain ⟨hx1, hx2⟩ := hne x hx e
        rw [hbnne _ hx2]; exact nodup_part h.nod hx1
    · by_cases ex : x = (k, c') <;> by_cases ey : y = (k, c')
      · exact hxy (by rw [ex, ey])
      · subst ex
        obtain ⟨hy1, hy2⟩ := hne y hy ey
        rw [hbnne _ hy2] at hby
        simp only [hbnk] at hbx
        rcases hin b hbx with h' | h'
        · exact hapart y hy1 hy2 b hby h'
        · have := hlt y hy1 b hby; omega
      · subst ey
        obtain ⟨hx1, hx2⟩ := hne x hx ex
        rw [hbnne _ hx2] at hbx
        simp only [hbnk] at hby
        rcases hin b hby with h' | h'
        · exact hapart x hx1 hx2 b hbx h'
        · have := hlt x hx1 b hbx; omega
      · obtain ⟨hx1, hx2⟩ := hne x hx ex
        obtain ⟨hy1, hy2⟩ := hne y hy ey
        rw [hbnne _ hx2] at hbx
        rw [hbnne _ hy2] at hby
        exact blks_apart h.nod hx1 hy1 hxy hbx hby
  · intro x hx b hb
    by_cases e : x = (k, c')
    · subst e
      have hb' : b ∈ L.xs := by simpa using hb
      rcases hin b hb' with h' | h'
      · exact h.own _ hkm b h'
      · exact .inl (Nat.le_trans h.ext.size h')
    · obtain ⟨hx1, hx2⟩ := hne x hx e
      have hb' : b ∈ (bn x.1).xs := by simpa [hx2] using hb
      exact h.own x hx1 b hb'
  · intro x hx
    show x.2.p _ (cur B (blks bn' (setB k c' s.b)) w') (bn' x.1)
    by_cases e : x = (k, c')
    · subst e; simp only [hbnk]; exact hc _ hle
    · obtain ⟨hx1, hx2⟩ := hne x hx e
      rw [hbnne _ hx2]
      exact x.2.up _ _ _ _ _ hle (fun b hb => ho b (hlt x hx1 b hb) (hapart x hx1 hx2 b hb)) (h.box x hx1)
  · intro i tv e
    show TV.holds (cur B (blks bn' (setB k c' s.b)) w') bn' tv _
    have h0 := h.tmp i tv e
    by_cases hb : tv.box = some k
    · have := htv i tv e hb _ _ h0
      exact TV.holds_up hle (fun _ _ => rfl) this
    · exact TV.holds_up hle (fun j hj => hbnne j (fun e => hb (e ▸ hj))) h0

/-- The content of a box turns, in a world that turns nothing else. -/
theorem RelB.setBox {B : Base} {bn : Nat → Loc} {s : St} {a : Act} {w w' : World} {k : Nat} {el el' : TypeId} {cells cells' : List AV} {vs : List Value} (h : RelB B bn s a w) (hk : lk k s.b = some (pb el cells))
    (hb : w'.heap[(bn k).b]? = some (.cells vs.toArray el' (0, 0))) (hc : All2 (cur B (blks bn s.b) w) cells' vs)
    (ho : ∀ b, b ≠ (bn k).b → w'.heap[b]? = w.heap[b]?) (hsz : w'.heap.size = w.heap.size) (h1 : w'.os = w.os) (h2 : w'.tape = w.tape) (h3 : w'.output = w.output) :
    Rel B ⟨s.t, setBs [(k, pb el' cells')] s.b⟩ a w' := by
  obtain ⟨b0, e0, _⟩ := h.box (k, pb el cells) (lk_mem hk)
  have hb0 : (bn k).b = b0 := by unfold Loc.b; rw [e0]; rfl
  refine ⟨_, h.updRes (L := bn k) hk rfl (fun b hb => .inl hb) (by rw [e0]; simp) (fun b _ hbn => ho b (fun e => hbn (by rw [e, hb0, e0]; exact List.mem_singleton.2 rfl))) (by omega) h1 h2 h3 (fun H hle => ⟨b0, e0, vs, ?_, hc.up hle⟩) ?_⟩
  · show w'.heap[b0]? = _; rw [← hb0]; exact hb
  · intro i tv _ _ H v hv
    have : (fun j => if j = k then bn k else bn j) = bn := by funext j; split <;> simp_all
    rw [this]; exact hv

/-- What a store of cells into one block does. -/
theorem run_storeCells {b off : Nat} {ty : TypeId} : ∀ (us : List Value) (vs : List Value) (i : Nat) (w : World), w.heap[b]? = some (.cells vs.toArray ty (0, 0)) → off + i + us.length ≤ vs.length → (∀ u, u ∈ us → isCell u = true) →
    ∃ w', (storeCells ⟨b, off, none⟩ us i).run P w = .ok () w' ∧ w'.heap[b]? = some (.cells (setSeg vs (off + i) us).toArray ty (0, 0)) ∧ (∀ j, j ≠ b → w'.heap[j]? = w.heap[j]?) ∧ w'.heap.size = w.heap.size ∧ w'.os = w.os ∧ w'.tape = w.tape ∧ w'.output = w.output
  | [], vs, i, w, h, _, _ => ⟨w, by simp [storeCells], h, fun _ _ => rfl, rfl, rfl, rfl, rfl⟩
  | u :: us, vs, i, w, h, hl, hu => by
    have hlt : off + i < vs.length := by simp at hl; omega
    have ha : Addr.add ⟨b, off, none⟩ i = ⟨b, off + i, none⟩ := by simp [Addr.add]
    have hc : w.cell? ⟨b, off + i, none⟩ = some vs[off + i] := by rw [cell_of_block h, List.getElem?_eq_getElem hlt]
    have hfz : w.frozen? ⟨b, off + i, none⟩ = false := by simp [World.frozen?, h]
    have hu0 := hu u (List.mem_cons_self ..)
    have hrun : (store ⟨b, off + i, none⟩ u).run P w = .ok () (w.setCell ⟨b, off + i, none⟩ u) := by
      cases u <;> first | (simp [store, Sem.run, hc, hfz]; done) | cases hu0
    have hb : (w.setCell ⟨b, off + i, none⟩ u).heap[b]? = some (.cells (vs.set (off + i) u).toArray ty (0, 0)) := by
      simp [World.setCell, Array.getElem?_modify, h]
    have ho : ∀ j, j ≠ b → (w.setCell ⟨b, off + i, none⟩ u).heap[j]? = w.heap[j]? := fun j hj => Below.heap_setCell _ _ _ _ hj
    obtain ⟨w', h1, h2, h3, h4, h5, h6, h7⟩ := run_storeCells (off := off) us (vs.set (off + i) u) (i + 1) (w.setCell ⟨b, off + i, none⟩ u) hb (by simp at hl ⊢; omega) (fun x hx => hu x (List.mem_cons_of_mem _ hx))
    refine ⟨w', ?_, h2, fun j hj => (h3 j hj).trans (ho j hj), h4.trans (by simp [World.setCell]), h5, h6, h7⟩
    rw [storeCells, ha, Sem.run_bind, hrun]
    exact h1

theorem LR_store {t : TypeId} {x y : Operand} {ty : TypeId} {pos : String} {after : Array Edge} {rx ry : List (Nat × TV)} {k off m : Nat} {el : TypeId} {cells seg : List AV} {av : AV} (hx : OpAt x (.inr (.inl (k, off))) rx) (hy : OpAt y (.inl av) ry)
    (hc : CellsAt av seg) (ho : Ones seg) (hm : ∀ w, (sizeOf t).run P w = .ok m w) (hl : seg.length = m) (hle : Nat.ble (off + m) cells.length = true) :
    LR P n ops ⟨none, .store t x y, ty, pos, after, none⟩ ⟨rx ++ ry, [(k, pb el cells)], []⟩ ⟨[], [(k, pb el (setSeg cells off seg))]⟩ := by
  refine ⟨?_⟩
  intro B s a w hB hs ⟨bn, h⟩
  have h0 := SatT_append.1 hs.1
  have h1 : a.eval x = .pointer (some ⟨(bn k).b, off, none⟩) := hx B bn s a w h0.1 h
  obtain ⟨us, h2, h3⟩ := hc _ _ (hy B bn s a w h0.2 h)
  obtain ⟨vs, hb, hv⟩ := h.cellAt hs.2.1.1
  have hus : us.length = m := by rw [← h3.length]; exact hl
  have hlen : off + 0 + us.length ≤ vs.length := by rw [← hv.length, hus]; simpa [Nat.ble_eq] using hle
  obtain ⟨w', g1, g2, g3, g4, g5, g6, g7⟩ := run_storeCells (P := P) us vs 0 w hb hlen (ho.all h3)
  unfold OpK
  rw [if_pos (by simp [Region.wanted])]
  have hrun : (execOp a.eval ⟨none, .store t x y, ty, pos, after, none⟩).run P w = .ok .skip w' := by
    simp only [execOp, h1, Instr.storeAt, Instr.sureAddr, storeVar]
    rw [Sem.run_bind, Sem.run_bind]
    simp only [Sem.run_pure, Result.andThen_ok]
    rw [Sem.run_bind, hm]
    simp only [Result.andThen_ok]
    have hz : ¬ (a.eval y).cells.size ≠ m := by rw [h2]; simp [hus]
    rw [if_neg hz, h2]
    simp only [g1, Result.andThen_ok]
  unfold Oper.wp
  rw [hrun]
  exact h.setBox hs.2.1.1 g2 (hv.setSeg _ h3) g3 g4 g5 g6 g7
end
end Go.Aw
