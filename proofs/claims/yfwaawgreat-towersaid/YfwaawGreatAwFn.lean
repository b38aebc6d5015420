/-
  Struct literals, calls under a contract, entering and leaving a function.
-/
import Derived.Test.YfwaawGreatAwSt
namespace Go.Aw
open Go.RowKit

theorem foldl_setSeg (off : Nat) : ∀ (us : List Value) (j : Nat) (cs : List Value),
    (us.zipIdx j).foldl (fun (cs : Array Value) (x : Value × Nat) => cs.setIfInBounds (off + x.2) x.1) cs.toArray = (setSeg cs (off + j) us).toArray
  | [], _, _ => rfl
  | u :: us, j, cs => by
    simp only [List.zipIdx_cons, List.foldl_cons, List.setIfInBounds_toArray]
    exact foldl_setSeg off us (j + 1) (cs.set (off + j) u)

/-- The cells of a literal: the zero value's, with the parts laid over them. -/
def fillL {α : Type} : List α → List (Nat × List α) → List α
  | cs, [] => cs
  | cs, x :: r => fillL (setSeg cs x.1 x.2) r

theorem All2.fillL {H : PH} : ∀ {ps : List (Nat × List AV)} {qs : List (Nat × List Value)} {as : List AV} {vs : List Value}, All2 H as vs → ps.map (·.1) = qs.map (·.1) → (∀ (i : Nat) (p : Nat × List AV) (q : Nat × List Value), ps[i]? = some p → qs[i]? = some q → All2 H p.2 q.2) →
    All2 H (fillL as ps) (fillL vs qs)
  | [], [], _, _, h, _, _ => h
  | p :: ps, q :: qs, _, _, h, e, hq => by
    simp only [List.map_cons, List.cons.injEq] at e
    rw [Aw.fillL, Aw.fillL, e.1]
    exact All2.fillL (h.setSeg _ (hq 0 p q rfl rfl)) e.2 fun i p' q' h1 h2 => hq (i + 1) p' q' (by simpa using h1) (by simpa using h2)
  | [], _ :: _, _, _, _, e, _ => by simp at e
  | _ :: _, [], _, _, _, e, _ => by simp at e

section
variable {P : Program} {n : Nat} {ops : Array Oper}

/-- One part of a literal: the field's number, the operand, what it is, its cells, its place. -/
structure Part where
  i : Nat
  x : Operand
  av : AV
  seg : List AV
  off : Nat

def PartsAt (place : Nat → Option (Nat × Nat)) (len : Nat) : List Part → List (Nat × TV) → Prop
  | [], r => r = []
  | p :: ps, r => ∃ rx rs, OpAt p.x (.inl p.av) rx ∧ CellsAt p.av p.seg ∧ place p.i = some (p.off, p.seg.length) ∧ Nat.ble (p.off + p.seg.length) len = true ∧ PartsAt place len ps rs ∧ r = rx ++ rs

theorem parts_nil {place : Nat → Option (Nat × Nat)} {len : Nat} : PartsAt place len [] [] := rfl
theorem parts_cons {place : Nat → Option (Nat × Nat)} {len : Nat} {i : Nat} {x : Operand} {av : AV} {seg : List AV} {off : Nat} {ps : List Part} {rx rs : List (Nat × TV)} (hx : OpAt x (.inl av) rx) (hc : CellsAt av seg) (hp : place i = some (off, seg.length)) (hl : Nat.ble (off + seg.length) len = true)
    (h : PartsAt place len ps rs) : PartsAt place len (⟨i, x, av, seg, off⟩ :: ps) (rx ++ rs) := ⟨rx, rs, hx, hc, hp, hl, h, rfl⟩

theorem fill_run {place : Nat → Option (Nat × Nat)} {len : Nat} {B : Base} {bn : Nat → Loc} {s : St} {a : Act} {w : World} (hr : RelB B bn s a w) : ∀ {ps : List Part} {r : List (Nat × TV)} {cs : List Value}, PartsAt place len ps r → SatT s r → cs.length = len →
    ∃ qs : List (Nat × List Value), Instr.fill place cs.toArray (ps.map fun p => (p.i, a.eval p.x)) = some (fillL cs qs).toArray ∧ (ps.map fun p => p.off) = qs.map (·.1) ∧ (∀ (i : Nat) (p : Part) (q : Nat × List Value), ps[i]? = some p → qs[i]? = some q → All2 (cur B (blks bn s.b) w) p.seg q.2)
  | [], r, cs, _, _, _ => ⟨[], rfl, rfl, fun i p q h => by simp at h⟩
  | p :: ps, r, cs, ⟨rx, rs, hx, hc, hp, hl, h, e⟩, hs, hlen => by
    subst e
    have h0 := SatT_append.1 hs
    obtain ⟨us, h1, h2⟩ := hc _ _ (hx B bn s a w h0.1 hr)
    have hul : us.length = p.seg.length := h2.length.symm
    have hle : p.off + p.seg.length ≤ cs.length := by rw [hlen]; simpa [Nat.ble_eq] using hl
    obtain ⟨qs, g1, g2, g3⟩ := fill_run (cs := setSeg cs p.off us) hr h h0.2 (by rw [setSeg_length]; exact hlen)
    refine ⟨(p.off, us) :: qs, ?_, by simp [g2], ?_⟩
    · simp only [List.map_cons, Instr.fill, hp, h1]
      rw [if_neg (by simp [hul]; omega)]
      have := foldl_setSeg p.off us 0 cs
      simp only [Nat.add_zero] at this
      rw [fillL, ← g1, ← this, ← Array.foldl_toList]
      simp
    · intro i p' q' h1' h2'
      cases i with
      | zero => simp at h1' h2'; subst h1'; subst h2'; exact h2
      | succ i => exact g3 i p' q' (by simpa using h1') (by simpa using h2')

/-- A struct literal. -/
theorem LR_build {t : TypeId} {ps : List Part} {ty : TypeId} {pos : String} {after : Array Edge} {d : Nat} {r : List (Nat × TV)} {zs : List Value} {zc : List AV} {place : Nat → Option (Nat × Nat)} {parts : List (Nat × Operand)}
    (hp : PartsAt place zs.length ps r) (hparts : ps.map (fun p => (p.i, p.x)) = parts) (hzA : ∀ H, All2 H zc zs)
    (hb : ∀ (vs : List (Nat × Value)) (cs : Array Value) w, Instr.fill place zs.toArray vs = some cs → (Instr.build t vs.toArray).run P w = .ok (.agg cs) w) (hn : Nat.blt d n = true) :
    LR P n ops ⟨some d, .build t parts.toArray, ty, pos, after, none⟩ ⟨r, [], []⟩ ⟨[(d, .inl (agg (fillL zc (ps.map fun p => (p.off, p.seg)))))], []⟩ :=
  LR_val hn fun B bn s a w hs h => by
    obtain ⟨qs, g1, g2, g3⟩ := fill_run (w := w) h hp hs.1 rfl
    refine ⟨.agg (fillL zs qs).toArray, ?_, _, rfl, ?_⟩
    · have hm : parts.toArray.map (fun (x : Nat × Operand) => (x.1, a.eval x.2)) = (ps.map fun p => (p.i, a.eval p.x)).toArray := by
        rw [← hparts]; simp
      simp only [execOp]
      rw [Sem.run_bind]
      have := hb _ _ w g1
      rw [← hm] at this
      rw [this]
      rfl
    · refine All2.fillL (hzA _) (by rw [List.map_map]; exact g2) fun i p q h1 h2 => ?_
      simp only [List.getElem?_map, Option.map_eq_some_iff] at h1
      obtain ⟨p', hp', rfl⟩ := h1
      exact g3 i p' q hp' h2

theorem build_hb {t : TypeId} {fields : Array Field} {z : Value} {zs : List Value} {places : Array (Nat × Nat)} (hu : P.underlying t = some (.struct fields)) (hz : ∀ w, (zeroValue t).run P w = .ok z w) (hzc : z.cells = zs.toArray)
    (hpl : ∀ w, (fields.mapM fun f => do pure (f.offset, ← sizeOf f.type) : Sem (Array (Nat × Nat))).run P w = .ok places w) (vs : List (Nat × Value)) (cs : Array Value) (w : World) (h : Instr.fill (places[·]?) zs.toArray vs = some cs) : (Instr.build t vs.toArray).run P w = .ok (.agg cs) w := by
  unfold Instr.build
  rw [Sem.run_bind, hz, Result.andThen_ok, Sem.run_bind, run_underlying hu, Result.andThen_ok]
  simp only []
  rw [Sem.run_bind, hpl, Result.andThen_ok, hzc]
  simp only [h]
  rfl

/-! ### Contracts -/

/-- The quiet part behind a call: what it was, and what is new. -/
def extH (H : PH) (w w' : World) : PH := fun b => if b < w.heap.size then H b else w'.heap[b]?

/-- A function that reads its arguments, may make memory, writes nothing that was there. -/
def Fn (P : Program) (f : FuncId) (args : List AV) (res : AV) : Prop :=
  ∀ (w : World) (H : PH) (vs : List Value), (∀ b o, H b = some o → w.heap[b]? = some o) → All2 H args vs →
    Calls P f vs.toArray w fun e w' => ∃ v, e = .returned v ∧ res.p (extH H w w') v ∧ Below w.heap.size w w'

def AllAt (xs : List Operand) (avs : List AV) (r : List (Nat × TV)) : Prop :=
  ∀ (B : Base) (bn : Nat → Loc) (s : St) (a : Act) (w : World), SatT s r → RelB B bn s a w → All2 (cur B (blks bn s.b) w) avs (xs.map a.eval)

theorem all_nil : AllAt [] [] [] := fun _ _ _ _ _ _ _ => trivial
theorem all_cons {x : Operand} {xs : List Operand} {av : AV} {avs : List AV} {r rs : List (Nat × TV)} (hx : OpAt x (.inl av) r) (h : AllAt xs avs rs) : AllAt (x :: xs) (av :: avs) (r ++ rs) :=
  fun B bn s a w hs hr => ⟨hx B bn s a w (SatT_append.1 hs).1 hr, h B bn s a w (SatT_append.1 hs).2 hr⟩

/-- The world turns to one in which nothing old has turned. -/
theorem RelB.below {B : Base} {bn : Nat → Loc} {s : St} {a : Act} {w w' : World} (h : RelB B bn s a w) (hb : Below w.heap.size w w') :
    RelB B bn s a w' ∧ PH.le (extH (cur B (blks bn s.b) w) w w') (cur B (blks bn s.b) w') := by
  have hle0 : PH.le (extH (cur B (blks bn s.b) w) w w') (cur B (blks bn s.b) w') := by
    intro b o e
    unfold extH at e
    split at e
    · rename_i hlt
      obtain ⟨h1, h2⟩ := h.curIn b o e
      unfold cur at e ⊢
      rw [if_neg h1] at e ⊢
      split
      · rename_i h3; rw [if_pos h3] at e; exact e
      · rw [hb.block b hlt]; exact h2
    · rename_i hge
      unfold cur
      rw [if_neg (fun hm => by obtain ⟨x, hx, e'⟩ := mem_blks.1 hm; have := h.lt hx e'; omega), if_neg (by have := h.ext.size; omega)]
      exact e
  have hle : PH.le (cur B (blks bn s.b) w) (cur B (blks bn s.b) w') := by
    intro b o e
    obtain ⟨h1, h2⟩ := h.curIn b o e
    refine hle0 b o ?_
    unfold extH
    rw [if_pos]
    · exact e
    · rcases Nat.lt_or_ge b w.heap.size with h' | h'
      · exact h'
      · rw [Array.getElem?_eq_none h'] at h2; cases h2
  refine ⟨⟨h.defs, h.size, ?_, h.base, h.keep, h.here, h.kn, h.nod, h.own, fun x hx => x.2.up _ _ _ _ _ hle (fun b hb' => hb.block _ (h.lt hx hb')) (h.box x hx), fun i tv e => TV.holds_up hle (fun _ _ => rfl) (h.tmp i tv e)⟩, hle0⟩
  exact ⟨hb.os.trans h.ext.os, hb.tape.trans h.ext.tape, hb.output.trans h.ext.output, Nat.le_trans h.ext.size hb.size, fun j hj hjn => (hb.block j (Nat.lt_of_lt_of_le hj h.ext.size)).trans (h.ext.block j hj hjn)⟩

theorem run_callFunc {f : FuncId} {fn : Func} (hf : P.funcs[f]? = some fn) (hb : fn.body.isNone = false) (hn : (fn.name == "runtime.NumGoroutine") = false) (vs : Array Value) (w : World) : (callFunc f vs).run P w = .ok (.enter f vs) w := by
  simp only [callFunc]
  rw [Sem.run_bind]
  show Result.andThen (Result.ok P w) _ = _
  simp only [Result.andThen_ok, hf, hn, hb, Bool.false_eq_true, if_false]
  rfl

/-- A call under a contract. -/
theorem LR_call {f : FuncId} {fn : Func} {xs : List Operand} {ats : Array TypeId} {ty : TypeId} {pos : String} {after : Array Edge} {d : Nat} {r : List (Nat × TV)} {avs : List AV} {res : AV} (hf : P.funcs[f]? = some fn) (hb : fn.body.isNone = false) (hnm : (fn.name == "runtime.NumGoroutine") = false)
    (hfn : Fn P f avs res) (hx : AllAt xs avs r) (hn : Nat.blt d n = true) :
    LR P n ops ⟨some d, .call ⟨.value (.func f), xs.toArray, ats⟩, ty, pos, after, none⟩ ⟨r, [], []⟩ ⟨[(d, .inl res)], []⟩ := by
  refine ⟨?_⟩
  intro B s a w hB hs ⟨bn, h⟩
  unfold OpK
  rw [if_pos (by simp [Region.wanted])]
  have hrun : (execOp a.eval ⟨some d, .call ⟨.value (.func f), xs.toArray, ats⟩, ty, pos, after, none⟩).run P w = .ok (.enter f (xs.map a.eval).toArray) w := by
    simp only [execOp, resolve, Act.eval, Deferred.ofValue]
    rw [Sem.run_bind]
    simp only [Sem.run_pure, Result.andThen_ok, invoke]
    rw [run_callFunc hf hb hnm]
    simp
  unfold Oper.wp
  rw [hrun]
  refine (hfn w _ _ (fun b o e => (h.curIn b o e).2) (hx B bn s a w hs.1 h)).mono ?_
  rintro e w' ⟨v, rfl, hv, hb'⟩
  obtain ⟨h1, h2⟩ := h.below hb'
  exact ⟨bn, h1.put (by rw [hB]; simpa [Nat.blt_eq] using hn) (res.up _ _ _ h2 hv)⟩

/-! ### A function's body -/

def entry : Nat → List AV → List (Nat × TV)
  | _, [] => []
  | i, a :: l => (i, .inl a) :: entry (i + 1) l

theorem entry_lk {H : PH} : ∀ {as : List AV} {vs : List Value} (j : Nat), All2 H as vs → ∀ i tv, lk i (entry j as) = some tv → ∃ av v, tv = .inl av ∧ j ≤ i ∧ vs[i - j]? = some v ∧ av.p H v
  | [], _, _, _, i, tv, e => by simp [entry, lk] at e
  | a :: as, v :: vs, j, h, i, tv, e => by
    simp only [entry, lk] at e
    split at e
    · rename_i hb
      have := beq_true hb
      cases e
      exact ⟨a, v, rfl, by omega, by subst this; simp, h.1⟩
    · rename_i hb
      have hne := beq_false hb
      obtain ⟨av, v', h1, h2, h3, h4⟩ := entry_lk (j + 1) h.2 i tv e
      refine ⟨av, v', h1, by omega, ?_, h4⟩
      have : i - j = (i - (j + 1)) + 1 := by omega
      rw [this]; simpa using h3
  | _ :: _, [], _, h, _, _, _ => h.elim

/-- What the function hands back. -/
def ResAt (P : Program) (fn : Func) (s : St) (res : AV) : Prop :=
  ∀ (B : Base) (bn : Nat → Loc) (a : Act) (w : World), RelB B bn s a w → ∃ v, (results fn a.tmps).run P w = .ok v w ∧ res.p (cur B (blks bn s.b) w) v

/-- The post of a body. -/
def Ends (P : Program) (fn : Func) (res : AV) : Exit → St → Prop
  | .ret, s => ResAt P fn s res
  | .normal, s => ResAt P fn s res
  | _, _ => False

theorem fn_intro {f : FuncId} {fn : Func} {c : Code} {args : List AV} {res : AV} {n : Nat} (hf : P.funcs[f]? = some fn) (hb : fn.body = some c) (hnt : fn.ntmps = n) (hn : Nat.ble args.length n = true)
    (h : ∀ bn0 w0 H0, AW P ⟨n, [], bn0, w0, H0⟩ c (Ends P fn res) ⟨entry 0 args, []⟩) : Fn P f args res := by
  intro w H vs hH hA
  subst hnt
  have hlen := hA.length
  have hn' : args.length ≤ fn.ntmps := by simpa [Nat.ble_eq] using hn
  let B : Base := ⟨fn.ntmps, [], fun _ => ⟨[], fun _ => undef⟩, w, fun b => if b < w.heap.size then H b else none⟩
  have hHB : PH.le H B.H0 := fun b o e => by
    show (if b < w.heap.size then H b else none) = some o
    rw [if_pos]
    · exact e
    · rcases Nat.lt_or_ge b w.heap.size with h' | h'
      · exact h'
      · have := hH b o e; rw [Array.getElem?_eq_none h'] at this; cases this
  have hcur : PH.le H (cur B [] w) := fun b o e => by
    unfold cur
    rw [if_neg (by simp)]
    split
    · exact hHB b o e
    · exact hH b o e
  have hrel : Rel B ⟨entry 0 args, []⟩ { tmps := vs.toArray ++ Array.replicate (fn.ntmps - vs.toArray.size) undef, defers := [] } w := by
    refine ⟨fun _ => ⟨[], fun _ => undef⟩, rfl, ?_, ?_, ?_, ?_, ?_, ?_, ?_, ?_, ?_, ?_⟩
    · simp [B]; omega
    · exact Ext.refl _ _
    · intro b o e
      have e' : (if b < w.heap.size then H b else none) = some o := e
      split at e'
      · rename_i hlt; exact ⟨hlt, hH b o e', by simp [B, Base.lent]⟩
      · cases e'
    · intro k hk; cases hk
    · intro k hk; cases hk
    · simp
    · simp [blks]
    · intro x hx; cases hx
    · intro x hx; cases hx
    · intro i tv e
      obtain ⟨av, v, rfl, _, h3, h4⟩ := entry_lk 0 hA i tv e
      simp only [Nat.sub_zero] at h3
      have hlt : i < vs.length := by
        rcases Nat.lt_or_ge i vs.length with h' | h'
        · exact h'
        · rw [List.getElem?_eq_none h'] at h3; cases h3
      have : (vs.toArray ++ Array.replicate (fn.ntmps - vs.toArray.size) undef).getD i undef = v := by
        rw [Array.getD_eq_getD_getElem?, Array.getElem?_append_left (by simpa using hlt)]
        simp [h3]
      show av.p _ _
      rw [this]
      exact av.up _ _ _ hcur h4
  refine calls_of_wp hf hb (wp_mono (h _ _ _ _ w hrel) ?_)
  rintro e a' w' ⟨s', hq, bn, hr⟩
  have fin : ResAt P fn s' res → ∃ v, (results fn a'.tmps).run P w' = .ok v w' ∧ ∃ v', Ending.returned v = .returned v' ∧ res.p (extH H w w') v' ∧ Below w.heap.size w w' := by
    intro hres
    obtain ⟨v, h1, h2⟩ := hres B bn a' w' hr
    refine ⟨v, h1, v, rfl, res.up _ _ _ ?_ h2, ?_⟩
    · intro b o e
      unfold cur at e
      unfold extH
      split at e
      · cases e
      · split at e
        · rename_i hlt
          have e' : (if b < w.heap.size then H b else none) = some o := e
          have hlt' : b < w.heap.size := hlt
          rw [if_pos hlt'] at e' ⊢; exact e'
        · rename_i hge
          have hge' : ¬ b < w.heap.size := hge
          rw [if_neg hge']; exact e
    · exact ⟨hr.ext.os, hr.ext.tape, hr.ext.output, hr.ext.size, fun k hk => hr.ext.block k hk (by simp [Base.lent])⟩
  cases e with
  | ret => exact ⟨hr.defs, fin hq⟩
  | normal => exact ⟨hr.defs, fin hq⟩
  | _ => exact hq.elim

theorem res_tmp {fn : Func} {s : St} {t : Nat} {av : AV} (hf : fn.results = #[.tmp t]) (h : lk t s.t = some (.inl av)) : ResAt P fn s av :=
  fun _ _ a w hr => ⟨_, results_tmp hf a.tmps P w, hr.tmp t _ h⟩
theorem res_tmp2 {fn : Func} {s : St} {t u : Nat} {av av' : AV} (hf : fn.results = #[.tmp t, .tmp u]) (h : lk t s.t = some (.inl av)) (h' : lk u s.t = some (.inl av')) : ResAt P fn s (tup [av, av']) :=
  fun _ _ a w hr => ⟨_, results_tmp2 hf a.tmps P w, _, rfl, hr.tmp t _ h, hr.tmp u _ h', trivial⟩
end
end Go.Aw
