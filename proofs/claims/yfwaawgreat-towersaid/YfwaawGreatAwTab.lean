/-
  The table of powers: an array of pairs and an array of exponents, built in a box of ours, read in quiet memory.
-/
import Derived.Test.YfwaawGreatAwSl3
namespace Go.Aw
open Go.RowKit

/-- The cells of an array of pairs of words. -/
def arp : Nat → (Nat → BitVec 64 × BitVec 64) → List AV
  | 0, _ => []
  | n + 1, m => is (U64 (m 0).1) :: is (U64 (m 0).2) :: arp n fun i => m (i + 1)
def arpv : Nat → (Nat → BitVec 64 × BitVec 64) → List Value
  | 0, _ => []
  | n + 1, m => U64 (m 0).1 :: U64 (m 0).2 :: arpv n fun i => m (i + 1)

theorem all2_nil {H : PH} : All2 H [] [] := trivial
theorem arp_length : ∀ {n : Nat} {m : Nat → BitVec 64 × BitVec 64}, (arp n m).length = 2 * n
  | 0, _ => rfl
  | n + 1, m => by simp only [arp, List.length_cons, arp_length]; omega
theorem all2_arp {H : PH} {r : List AV} {vs : List Value} (h : All2 H r vs) : ∀ {n : Nat} {m : Nat → BitVec 64 × BitVec 64}, All2 H (arp n m ++ r) (arpv n m ++ vs)
  | 0, _ => h
  | _ + 1, _ => ⟨rfl, rfl, all2_arp h⟩
theorem arp_get0 {r : List AV} : ∀ {n : Nat} {m : Nat → BitVec 64 × BitVec 64} {i : Nat}, i < n → (arp n m ++ r)[2 * i]? = some (is (U64 (m i).1))
  | n + 1, m, 0, _ => rfl
  | n + 1, m, i + 1, h => by
    have e : 2 * (i + 1) = 2 * i + 1 + 1 := by omega
    rw [e]
    simp only [arp, List.cons_append, List.getElem?_cons_succ]
    exact arp_get0 (m := fun i => m (i + 1)) (by omega)
theorem arp_get1 {r : List AV} : ∀ {n : Nat} {m : Nat → BitVec 64 × BitVec 64} {i : Nat}, i < n → (arp n m ++ r)[2 * i + 1]? = some (is (U64 (m i).2))
  | n + 1, m, 0, _ => rfl
  | n + 1, m, i + 1, h => by
    have e : 2 * (i + 1) + 1 = 2 * i + 1 + 1 + 1 := by omega
    rw [e]
    simp only [arp, List.cons_append, List.getElem?_cons_succ]
    exact arp_get1 (m := fun i => m (i + 1)) (by omega)
theorem arp_up : ∀ {n : Nat} {m m' : Nat → BitVec 64 × BitVec 64}, (∀ i, i < n → m i = m' i) → arp n m = arp n m'
  | 0, _, _, _ => rfl
  | n + 1, m, m', h => by
    simp only [arp]
    rw [h 0 (by omega), arp_up (m' := fun i => m' (i + 1)) (fun i hi => h (i + 1) (by omega))]
theorem arp_set {r : List AV} {x y : BitVec 64} : ∀ {n : Nat} {m : Nat → BitVec 64 × BitVec 64} {i : Nat}, i < n → setSeg (arp n m ++ r) (2 * i) [is (U64 x), is (U64 y)] = arp n (upd m i (x, y)) ++ r
  | n + 1, m, 0, _ => by
    have : arp n (fun i => m (i + 1)) = arp n fun i => upd m 0 (x, y) (i + 1) := arp_up fun i _ => rfl
    simp only [arp, setSeg, List.cons_append, List.set_cons_zero, List.set_cons_succ, Nat.mul_zero, this]
    rfl
  | n + 1, m, i + 1, h => by
    have e : 2 * (i + 1) = 2 * i + 1 + 1 := by omega
    rw [e]
    simp only [arp, List.cons_append]
    rw [setSeg_cons, setSeg_cons, arp_set (by omega)]
    have h0 : upd m (i + 1) (x, y) 0 = m 0 := upd_ne (by omega)
    have h1 : arp n (upd (fun j => m (j + 1)) i (x, y)) = arp n fun j => upd m (i + 1) (x, y) (j + 1) := arp_up fun j _ => by
      by_cases e : j = i
      · subst e; simp [upd]
      · rw [upd_ne e, upd_ne (by omega)]
    rw [h0, h1]

theorem gPp {n i : Nat} {m : Nat → BitVec 64 × BitVec 64} {r : List AV} {o : Option AV} (h : r[i]? = o) : (arp n m ++ r)[2 * n + i]? = o := by
  rw [List.getElem?_append_right (by rw [arp_length]; omega), arp_length]
  simpa using h
theorem stPp {n i : Nat} {m : Nat → BitVec 64 × BitVec 64} {r l' us : List AV} (h : setSeg r i us = l') : setSeg (arp n m ++ r) (2 * n + i) us = arp n m ++ l' := by
  have : ∀ (us : List AV) (r : List AV) (i : Nat), setSeg (arp n m ++ r) (2 * n + i) us = arp n m ++ setSeg r i us := by
    intro us
    induction us with
    | nil => intro r i; rfl
    | cons u us ih =>
      intro r i
      simp only [setSeg]
      rw [List.set_append_right _ _ (by rw [arp_length]; omega)]
      have : 2 * n + i - (arp n m).length = i := by rw [arp_length]; omega
      rw [this, Nat.add_assoc]
      exact ih _ _
  rw [this, h]
theorem lnP {n k : Nat} {m : Nat → BitVec 64 × BitVec 64} {r : List AV} (h : r.length = k) : (arp n m ++ r).length = 2 * n + k := by rw [List.length_append, arp_length, h]

section
variable {P : Program} {n : Nat} {ops : Array Oper}

/-- The address of an element of an array of pairs in a box. -/
theorem LR_indexAddr2 {t e : TypeId} {x y : Operand} {ty : TypeId} {pos : String} {after : Array Edge} {d : Nat} {rx ry : List (Nat × TV)} {k len : Nat} {ik : IntKind} {i : Int} (hu : P.underlying t = some (.array len e)) (hs : ∀ w, (sizeOf e).run P w = .ok 2 w)
    (hx : OpAt x (.inr (.inl (k, 0))) rx) (hy : OpAt y (.inl (is (.int ik i))) ry) (hi : 0 ≤ i ∧ i < (len : Int)) (hn : Nat.blt d n = true) :
    LR P n ops ⟨some d, .indexAddr t x y, ty, pos, after, none⟩ ⟨rx ++ ry, [], []⟩ ⟨[(d, .inr (.inl (k, 2 * i.toNat)))], []⟩ :=
  LR_val hn fun B bn s a w hst h => by
    have h0 := SatT_append.1 hst.1
    have h1 : a.eval x = .pointer (some ⟨(bn k).b, 0, none⟩) := hx B bn s a w h0.1 h
    have h2 : a.eval y = .int ik i := hy B bn s a w h0.2 h
    refine ⟨.pointer (some ⟨(bn k).b, 2 * i.toNat, none⟩), ?_, rfl⟩
    simp only [execOp, h1, h2, Instr.indexAt, asIntOf]
    simp [run_underlying hu, Instr.sureAddr, hi, hs, addN, Nat.mul_comm]

/-- A pointer to the fields of a table: its pairs, its exponents. -/
def tpF (T : Tab) (off : Nat) : AV := ⟨fun H v => ∃ b arr ty fz, v = .pointer (some ⟨b, off, none⟩) ∧ H b = some (.cells arr ty fz) ∧ ∀ i, i < 696 → arr[2 * i]? = some (U64 (T.man i).1) ∧ arr[2 * i + 1]? = some (U64 (T.man i).2) ∧ arr[1392 + i]? = some (I16 (T.ex i)),
  fun _ _ _ hle ⟨b, arr, ty, fz, h1, h2, h3⟩ => ⟨b, arr, ty, fz, h1, hle _ _ h2, h3⟩⟩
/-- A pointer to two cells of quiet memory. -/
def qp2 (u v : Value) : AV := ⟨fun H p => ∃ b off arr ty fz, p = .pointer (some ⟨b, off, none⟩) ∧ H b = some (.cells arr ty fz) ∧ arr[off]? = some u ∧ arr[off + 1]? = some v,
  fun _ _ _ hle ⟨b, off, arr, ty, fz, h1, h2, h3⟩ => ⟨b, off, arr, ty, fz, h1, hle _ _ h2, h3⟩⟩

theorem tab_tpF {T : Tab} {H : PH} {v : Value} (h : (tabp T).p H v) : (tpF T 0).p H v := h

theorem LR_nilCheckTab {x : Operand} {ty : TypeId} {pos : String} {after : Array Edge} {d : Nat} {r : List (Nat × TV)} {T : Tab} (hx : OpAt x (.inl (tabp T)) r) (hn : Nat.blt d n = true) :
    LR P n ops ⟨some d, .nilCheck x, ty, pos, after, none⟩ ⟨r, [], []⟩ ⟨[(d, .inl (tabp T))], []⟩ :=
  LR_val hn fun B bn s a w hs h => by
    obtain ⟨b, arr, ty', fz, h1, h2⟩ := hx B bn s a w hs.1 h
    refine ⟨.pointer (some ⟨b, 0, none⟩), ?_, b, arr, ty', fz, rfl, h2⟩
    simp only [execOp, h1]
    rfl

theorem LR_fieldTab {t : TypeId} {fld off : Nat} {x : Operand} {ty : TypeId} {pos : String} {after : Array Edge} {d : Nat} {r : List (Nat × TV)} {T : Tab} (hx : OpAt x (.inl (tabp T)) r)
    (hf : ∀ b w, (Instr.fieldAt t (.pointer (some ⟨b, 0, none⟩)) fld).run P w = .ok (.pointer (some ⟨b, off, none⟩)) w) (hn : Nat.blt d n = true) :
    LR P n ops ⟨some d, .fieldAddr t x fld, ty, pos, after, none⟩ ⟨r, [], []⟩ ⟨[(d, .inl (tpF T off))], []⟩ :=
  LR_val hn fun B bn s a w hs h => by
    obtain ⟨b, arr, ty', fz, h1, h2⟩ := hx B bn s a w hs.1 h
    refine ⟨.pointer (some ⟨b, off, none⟩), ?_, b, arr, ty', fz, rfl, h2⟩
    simp only [execOp, h1]
    rw [Sem.run_bind, hf]
    rfl

theorem LR_indexTabM {t e : TypeId} {x y : Operand} {ty : TypeId} {pos : String} {after : Array Edge} {d : Nat} {rx ry : List (Nat × TV)} {ik : IntKind} {i : Int} {T : Tab} (hu : P.underlying t = some (.array 696 e)) (hs : ∀ w, (sizeOf e).run P w = .ok 2 w)
    (hx : OpAt x (.inl (tpF T 0)) rx) (hy : OpAt y (.inl (is (.int ik i))) ry) (hi : 0 ≤ i ∧ i < (696 : Nat)) (hn : Nat.blt d n = true) :
    LR P n ops ⟨some d, .indexAddr t x y, ty, pos, after, none⟩ ⟨rx ++ ry, [], []⟩ ⟨[(d, .inl (qp2 (U64 (T.man i.toNat).1) (U64 (T.man i.toNat).2)))], []⟩ :=
  LR_val hn fun B bn s a w hst h => by
    have h0 := SatT_append.1 hst.1
    obtain ⟨b, arr, ty', fz, h1, h3, h4⟩ := hx B bn s a w h0.1 h
    have h2 : a.eval y = .int ik i := hy B bn s a w h0.2 h
    have hlt : i.toNat < 696 := by omega
    refine ⟨.pointer (some ⟨b, 2 * i.toNat, none⟩), ?_, b, 2 * i.toNat, arr, ty', fz, rfl, h3, (h4 _ hlt).1, (h4 _ hlt).2.1⟩
    have hi' : i < 696 := by omega
    simp only [execOp, h1, h2, Instr.indexAt, asIntOf]
    simp [run_underlying hu, Instr.sureAddr, hi.1, hi', hs, addN, Nat.mul_comm]

theorem LR_indexTabE {t e : TypeId} {x y : Operand} {ty : TypeId} {pos : String} {after : Array Edge} {d : Nat} {rx ry : List (Nat × TV)} {ik : IntKind} {i : Int} {T : Tab} (hu : P.underlying t = some (.array 696 e)) (hs : ∀ w, (sizeOf e).run P w = .ok 1 w)
    (hx : OpAt x (.inl (tpF T 1392)) rx) (hy : OpAt y (.inl (is (.int ik i))) ry) (hi : 0 ≤ i ∧ i < (696 : Nat)) (hn : Nat.blt d n = true) :
    LR P n ops ⟨some d, .indexAddr t x y, ty, pos, after, none⟩ ⟨rx ++ ry, [], []⟩ ⟨[(d, .inl (qp (I16 (T.ex i.toNat))))], []⟩ :=
  LR_val hn fun B bn s a w hst h => by
    have h0 := SatT_append.1 hst.1
    obtain ⟨b, arr, ty', fz, h1, h3, h4⟩ := hx B bn s a w h0.1 h
    have h2 : a.eval y = .int ik i := hy B bn s a w h0.2 h
    have hlt : i.toNat < 696 := by omega
    refine ⟨.pointer (some ⟨b, 1392 + i.toNat, none⟩), ?_, b, 1392 + i.toNat, arr, ty', fz, rfl, h3, (h4 _ hlt).2.2⟩
    have hi' : i < 696 := by omega
    simp only [execOp, h1, h2, Instr.indexAt, asIntOf]
    simp [run_underlying hu, Instr.sureAddr, hi.1, hi', hs, addN]

theorem LR_loadQ2 {t : TypeId} {x : Operand} {ty : TypeId} {pos : String} {after : Array Edge} {d : Nat} {r : List (Nat × TV)} {u v : Value} (hx : OpAt x (.inl (qp2 u v)) r) (ht : ∀ w, (isAgg t).run P w = .ok true w) (hm : ∀ w, (sizeOf t).run P w = .ok 2 w) (hn : Nat.blt d n = true) :
    LR P n ops ⟨some d, .load t x, ty, pos, after, none⟩ ⟨r, [], []⟩ ⟨[(d, .inl (agg [is u, is v]))], []⟩ :=
  LR_val hn fun B bn s a w hs h => by
    obtain ⟨b, off, arr, ty', fz, h1, h2, h3, h4⟩ := hx B bn s a w hs.1 h
    have hb := (h.curIn b _ h2).2
    refine ⟨.agg #[u, v], ?_, [u, v], rfl, rfl, rfl, trivial⟩
    have hl : (loadCells ⟨b, off, none⟩ 2).run P w = .ok #[u, v] w := by
      have := run_loadCells_list (P := P) w ⟨b, off, none⟩ [u, v] (fun j v' e => by
        rw [addN]
        match j, e with
        | 0, e => cases e; simp [World.cell?, hb, h3]
        | 1, e => cases e; simp [World.cell?, hb, h4]
        | j + 2, e => simp at e)
      exact this
    simp only [execOp, h1, Instr.loadAt, Instr.sureAddr, loadVar]
    rw [Sem.run_bind, Sem.run_bind]
    simp only [Sem.run_pure, Result.andThen_ok]
    rw [Sem.run_bind, ht]
    simp only [Result.andThen_ok, if_true]
    rw [Sem.run_bind, hm]
    simp only [Result.andThen_ok]
    rw [Sem.run_bind, hl]
    rfl

/-- The table frozen: the pointer to the box is a pointer to a quiet table. -/
theorem AW_frzTab {nn : Nat} {bn0 : Nat → Loc} {w0 : World} {H0 : PH} {Q : Exit → St → Prop} {c : Code} {s : St} (k t : Nat) (m : Nat → BitVec 64 × BitVec 64) (f : Nat → Int) {el : TypeId} (hk : lk k s.b = some (pb el (arp 696 m ++ (ar I16 696 f ++ [])))) (ht : lk t s.t = some (.inr (.inl (k, 0)))) (h : AW P ⟨nn, [], bn0, w0, H0⟩ c Q ⟨[(t, .inl (tabp ⟨m, f⟩))], []⟩) : AW P ⟨nn, [], bn0, w0, H0⟩ c Q s := by
  intro a w ⟨bn, hr⟩
  refine h a w ?_
  obtain ⟨vs, hb, hv⟩ := hr.cellAt hk
  obtain ⟨b0, e0, _⟩ := hr.box (k, pb el (arp 696 m ++ (ar I16 696 f ++ []))) (lk_mem hk)
  have hb0 : (bn k).b = b0 := by unfold Loc.b; rw [e0]; rfl
  rw [hb0] at hb
  have hmem : (k, pb el (arp 696 m ++ (ar I16 696 f ++ []))) ∈ s.b := lk_mem hk
  have hle : PH.le (cur ⟨nn, [], bn0, w0, H0⟩ (blks bn s.b) w) (cur ⟨nn, [], bn0, w0, H0⟩ (blks bn []) w) := fun b o e => by
    unfold cur at e ⊢
    split at e
    · cases e
    · rw [if_neg (by simp [blks])]; exact e
  have hnew : cur ⟨nn, [], bn0, w0, H0⟩ (blks bn []) w b0 = some (.cells vs.toArray el (0, 0)) := by
    unfold cur
    rw [if_neg (by simp [blks])]
    have hge : ¬ b0 < w0.heap.size := by
      rcases hr.own _ hmem b0 (by rw [e0]; exact List.mem_singleton.2 rfl) with h' | h'
      · have : w0.heap.size ≤ b0 := h'; omega
      · simp [Base.lent] at h'
    rw [if_neg hge]; exact hb
  refine ⟨bn, hr.defs, hr.size, hr.ext, hr.base, hr.keep, fun _ hk' => (by cases hk'), by simp, by simp [blks], fun x hx => (by cases hx), fun x hx => (by cases hx), fun i tv e => ?_⟩
  simp only [lk] at e
  split at e
  · rename_i hbq
    have hi := Nat.eq_of_beq_eq_true hbq
    cases e
    have h5 : a.tmps.getD t undef = .pointer (some ⟨(bn k).b, 0, none⟩) := hr.tmp t _ ht
    rw [← hi, h5, hb0]
    refine ⟨b0, _, _, _, rfl, hnew, fun j hj => ?_⟩
    obtain ⟨v0, g0, g0'⟩ := hv.get (arp_get0 hj)
    obtain ⟨v1, g1, g1'⟩ := hv.get (arp_get1 hj)
    obtain ⟨v2, g2, g2'⟩ := hv.get (gPp (n := 696) (m := m) (gA (K := I16) (w := f) (r := []) hj))
    refine ⟨?_, ?_, ?_⟩
    · rw [List.getElem?_toArray, g0]; exact congrArg some g0'
    · rw [List.getElem?_toArray, g1]; exact congrArg some g1'
    · rw [List.getElem?_toArray]; exact g2.trans (congrArg some g2')
  · cases e
end
end Go.Aw
