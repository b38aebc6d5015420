/-
  Bytes turned to a string; a slice of ours frozen; a copy between boxes.
-/
import Derived.Test.YfwaawGreatAwSl2
namespace Go.Aw
open Go.RowKit

def bys (m : Nat) (f : Nat → BitVec 8) : List UInt8 := (List.range m).map fun i => UInt8.ofBitVec (f i)

section
variable {P : Program} {n : Nat} {ops : Array Oper}

theorem foldl_push : ∀ (l : List Int) (s : ByteArray), l.foldl (fun r n => r.push (UInt8.ofNat n.toNat)) s = ⟨(s.data.toList ++ l.map fun n => UInt8.ofNat n.toNat).toArray⟩
  | [], s => by simp
  | x :: l, s => by
    rw [List.foldl_cons, foldl_push l]
    simp [ByteArray.push]

theorem run_conv {w : World} {src dst e : TypeId} {a : Addr} {m cap : Nat} {f : Nat → BitVec 8} (hs : P.underlying src = some (.slice e)) (he : P.underlying e = some (.int .u8)) (hd : P.underlying dst = some .string) (h : (loadCells a m).run P w = .ok (arv U8 m f).toArray w) :
    (convert src dst (.slice (some a) m cap)).run P w = .ok (Sv (bys m f)) w := by
  have e0 : (arv U8 m f) = ((List.range m).map fun i => ((f i).toNat : Int)).map (Value.int .u8) := by
    simp [arv, U8]
  rw [run_convert_bytes_string w src dst e (some a) m cap hs he hd, run_bytesToString w a m cap _ (by rw [h, e0])]
  have e1 : ((List.range m).map fun i => ((f i).toNat : Int)).map (fun n => UInt8.ofNat n.toNat) = bys m f := by
    unfold bys
    rw [List.map_map]
    apply List.map_congr_left
    intro i _
    apply UInt8.toBitVec_inj.1
    simp
  rw [foldl_push, e1]
  rfl

theorem run_conv_nil {w : World} {src dst e : TypeId} (hs : P.underlying src = some (.slice e)) (he : P.underlying e = some (.int .u8)) (hd : P.underlying dst = some .string) : (convert src dst (.slice none 0 0)).run P w = .ok (Sv []) w := by
  rw [run_convert_bytes_string w src dst e none 0 0 hs he hd]
  rfl

/-- Bytes of quiet memory. -/
theorem LR_convQ {x : Operand} {src dst e : TypeId} {ty : TypeId} {pos : String} {after : Array Edge} {d : Nat} {r : List (Nat × TV)} {u : NS (BitVec 8)} (hs : P.underlying src = some (.slice e)) (he : P.underlying e = some (.int .u8)) (hd : P.underlying dst = some .string) (hx : OpAt x (.inl (ns U8 u)) r) (hn : Nat.blt d n = true) :
    LR P n ops ⟨some d, .convert src dst x, ty, pos, after, none⟩ ⟨r, [], []⟩ ⟨[(d, .inl (is (Sv (bys u.2.1 u.2.2))))], []⟩ :=
  LR_val hn fun B bn s a w hst h => by
    refine ⟨_, ?_, rfl⟩
    rcases hx B bn s a w hst.1 h with ⟨_, e2, h1⟩ | ⟨_, b, off, cap, arr, ty', fz, h1, h2, _, h4⟩
    · simp only [execOp, h1]
      rw [Sem.run_bind, run_conv_nil hs he hd, e2]; rfl
    · simp only [execOp, h1]
      rw [Sem.run_bind, run_conv hs he hd (run_loadCells_arv (K := U8) (h.curIn b _ h2).2 h4)]; rfl

/-- Bytes of a box. -/
theorem LR_convT {x : Operand} {src dst e el : TypeId} {ty : TypeId} {pos : String} {after : Array Edge} {d : Nat} {r : List (Nat × TV)} {k off len cap : Nat} {cells : List AV} {f : Nat → BitVec 8} (hs : P.underlying src = some (.slice e)) (he : P.underlying e = some (.int .u8)) (hd : P.underlying dst = some .string) (hx : OpAt x (.inr (.inr (.inl (k, off, len, cap)))) r)
    (hc : ∀ i, i < len → cells[off + i]? = some (is (U8 (f i)))) (hn : Nat.blt d n = true) :
    LR P n ops ⟨some d, .convert src dst x, ty, pos, after, none⟩ ⟨r, [(k, pb el cells)], []⟩ ⟨[(d, .inl (is (Sv (bys len f))))], []⟩ :=
  LR_val hn fun B bn s a w hst h => by
    refine ⟨_, ?_, rfl⟩
    have h1 : a.eval x = .slice (some ⟨(bn k).b, off, none⟩) len cap := hx B bn s a w hst.1 h
    obtain ⟨vs, hb, hv⟩ := h.cellAt hst.2.1.1
    simp only [execOp, h1]
    rw [Sem.run_bind, run_conv hs he hd (run_loadCells_arv (K := U8) (f := f) hb (fun i hi => by
      obtain ⟨v, g1, g2⟩ := hv.get (hc i hi)
      rw [List.getElem?_toArray, g1]
      exact congrArg some g2))]
    rfl

/-- What becomes of the temporaries when box k is frozen. -/
def FrzT {α : Type} (K : α → Value) (s : St) (k m : Nat) (f : Nat → α) : List (Nat × TV) → Prop
  | [] => True
  | x :: l => (((lk x.1 s.t = some x.2) ∧ x.2.box ≠ some k) ∨ (∃ off len cap, lk x.1 s.t = some (.inr (.inr (.inl (k, off, len, cap)))) ∧ x.2 = .inl (ns K (false, len, fun i => f (off + i))) ∧ off + len ≤ m ∧ len ≤ cap)) ∧ FrzT K s k m f l

theorem fz0 {α : Type} {K : α → Value} {s : St} {k m : Nat} {f : Nat → α} : FrzT K s k m f [] := trivial
theorem fzK {α : Type} {K : α → Value} {s : St} {k m : Nat} {f : Nat → α} {i : Nat} {tv : TV} {l : List (Nat × TV)} (h : lk i s.t = some tv) (hb : tv.box ≠ some k) (hl : FrzT K s k m f l) : FrzT K s k m f ((i, tv) :: l) := ⟨.inl ⟨h, hb⟩, hl⟩
theorem fzC {α : Type} {K : α → Value} {s : St} {k m : Nat} {f : Nat → α} {i len cap : Nat} {l : List (Nat × TV)} (h : lk i s.t = some (.inr (.inr (.inl (k, 0, len, cap))))) (h1 : len ≤ m) (h2 : len ≤ cap) (hl : FrzT K s k m f l) : FrzT K s k m f ((i, .inl (ns K (false, len, f))) :: l) :=
  ⟨.inr ⟨0, len, cap, h, by simp, by omega, h2⟩, hl⟩

theorem fzA {α : Type} {K : α → Value} {s : St} {k m : Nat} {f : Nat → α} {i : Nat} {av : AV} {l : List (Nat × TV)} (h : lk i s.t = some (.inl av)) (hl : FrzT K s k m f l) : FrzT K s k m f ((i, .inl av) :: l) := fzK h (by simp [TV.box]) hl
theorem fzP {α : Type} {K : α → Value} {s : St} {k m : Nat} {f : Nat → α} {i k' off : Nat} {l : List (Nat × TV)} (h : lk i s.t = some (.inr (.inl (k', off)))) (hne : k' ≠ k) (hl : FrzT K s k m f l) : FrzT K s k m f ((i, .inr (.inl (k', off))) :: l) := fzK h (by simpa [TV.box] using hne) hl
theorem fzS {α : Type} {K : α → Value} {s : St} {k m : Nat} {f : Nat → α} {i k' off len cap : Nat} {l : List (Nat × TV)} (h : lk i s.t = some (.inr (.inr (.inl (k', off, len, cap))))) (hne : k' ≠ k) (hl : FrzT K s k m f l) : FrzT K s k m f ((i, .inr (.inr (.inl (k', off, len, cap)))) :: l) := fzK h (by simpa [TV.box] using hne) hl
theorem FrzT.lk {α : Type} {K : α → Value} {s : St} {k m : Nat} {f : Nat → α} {i : Nat} {tv : TV} : ∀ {l : List (Nat × TV)}, FrzT K s k m f l → lk i l = some tv → ((lk i s.t = some tv) ∧ tv.box ≠ some k) ∨ (∃ off len cap, lk i s.t = some (.inr (.inr (.inl (k, off, len, cap)))) ∧ tv = .inl (ns K (false, len, fun i => f (off + i))) ∧ off + len ≤ m ∧ len ≤ cap)
  | x :: l, h, e => by
    simp only [Aw.lk] at e
    split at e
    · rename_i hb
      have := Nat.eq_of_beq_eq_true hb
      cases e
      rw [← this]; exact h.1
    · exact FrzT.lk h.2 e
  | [], _, e => by simp [Aw.lk] at e

theorem Rel.frz {α : Type} {K : α → Value} {nn : Nat} {bn0 : Nat → Loc} {w0 : World} {H0 : PH} {s s' : St} {a : Act} {w : World} {k m : Nat} {f : Nat → α} {el : TypeId} (hr : Rel ⟨nn, [], bn0, w0, H0⟩ s a w) (hk : lk k s.b = some (pb el (ar K m f ++ []))) (hsub : s'.b.Sublist s.b) (hkn : keysNot k s'.b = true) (ht : FrzT K s k m f s'.t) : Rel ⟨nn, [], bn0, w0, H0⟩ s' a w := by
  obtain ⟨bn, h⟩ := hr
  obtain ⟨vs, hb, hv⟩ := h.cellAt hk
  have hvs := all2_ar_inv hv
  subst hvs
  obtain ⟨b0, e0, _⟩ := h.box (k, pb el (ar K m f ++ [])) (lk_mem hk)
  have hb0 : (bn k).b = b0 := by unfold Loc.b; rw [e0]; rfl
  rw [hb0] at hb
  have hsubb : ∀ b, b ∈ blks bn s'.b → b ∈ blks bn s.b := fun b hb' => by
    obtain ⟨x, hx, e⟩ := mem_blks.1 hb'
    exact mem_blks.2 ⟨x, hsub.subset hx, e⟩
  have hle : PH.le (cur ⟨nn, [], bn0, w0, H0⟩ (blks bn s.b) w) (cur ⟨nn, [], bn0, w0, H0⟩ (blks bn s'.b) w) := fun b o e => by
    unfold cur at e ⊢
    split at e
    · cases e
    · rename_i hb'; rw [if_neg (fun hm => hb' (hsubb _ hm))]; exact e
  have hmem : (k, pb el (ar K m f ++ [])) ∈ s.b := lk_mem hk
  have hnot : b0 ∉ blks bn s'.b := fun hm => by
    obtain ⟨x, hx, e⟩ := mem_blks.1 hm
    have hne : x.1 ≠ k := keysNot_mem hkn x hx
    exact blks_apart h.nod (hsub.subset hx) hmem (fun e => hne (by rw [e])) e (by rw [e0]; exact List.mem_singleton.2 rfl)
  have hnew : cur ⟨nn, [], bn0, w0, H0⟩ (blks bn s'.b) w b0 = some (.cells (arv K m f).toArray el (0, 0)) := by
    unfold cur
    rw [if_neg hnot]
    have hge : ¬ b0 < w0.heap.size := by
      rcases h.own _ hmem b0 (by rw [e0]; exact List.mem_singleton.2 rfl) with h' | h'
      · have : w0.heap.size ≤ b0 := h'; omega
      · simp [Base.lent] at h'
    rw [if_neg hge]; exact hb
  refine ⟨bn, h.defs, h.size, h.ext, h.base, h.keep, fun _ hk' => (by cases hk'), (hsub.map _).nodup h.kn, nodup_blks ((hsub.map _).nodup h.kn) (fun x hx => nodup_part h.nod (hsub.subset hx)) (fun x hx y hy hne b hbx hby => blks_apart h.nod (hsub.subset hx) (hsub.subset hy) hne hbx hby), fun x hx => h.own x (hsub.subset hx), fun x hx => x.2.up _ _ _ _ _ hle (fun _ _ => rfl) (h.box x (hsub.subset hx)), fun i tv e => ?_⟩
  rcases ht.lk e with ⟨h1, h2⟩ | ⟨off, len, cap, h1, rfl, h3, h4⟩
  · exact TV.holds_up hle (fun _ _ => rfl) (h.tmp i tv h1)
  · have h5 : a.tmps.getD i undef = .slice (some ⟨(bn k).b, off, none⟩) len cap := h.tmp i _ h1
    refine .inr ⟨rfl, b0, off, cap, _, _, _, by rw [h5, hb0], hnew, h4, fun j hj => ?_⟩
    have hj' : j < len := hj
    rw [List.getElem?_toArray]
    exact arv_get (by omega)

theorem AL_frz {α : Type} (K : α → Value) {nn : Nat} {bn0 : Nat → Loc} {w0 : World} {H0 : PH} {Q : Exit → St → Prop} {l : List Oper} {s : St} (k : Nat) (s' : St) {m : Nat} {f : Nat → α} {el : TypeId} (hk : lk k s.b = some (pb el (ar K m f ++ []))) (hsub : s'.b.Sublist s.b) (hkn : keysNot k s'.b = true) (ht : FrzT K s k m f s'.t) (h : AL P ⟨nn, [], bn0, w0, H0⟩ ops Q l s') : AL P ⟨nn, [], bn0, w0, H0⟩ ops Q l s :=
  ⟨fun a w hr => h.out a w (hr.frz hk hsub hkn ht)⟩
theorem AW_frz {α : Type} (K : α → Value) {nn : Nat} {bn0 : Nat → Loc} {w0 : World} {H0 : PH} {Q : Exit → St → Prop} {c : Code} {s : St} (k : Nat) (s' : St) {m : Nat} {f : Nat → α} {el : TypeId} (hk : lk k s.b = some (pb el (ar K m f ++ []))) (hsub : s'.b.Sublist s.b) (hkn : keysNot k s'.b = true) (ht : FrzT K s k m f s'.t) (h : AW P ⟨nn, [], bn0, w0, H0⟩ c Q s') : AW P ⟨nn, [], bn0, w0, H0⟩ c Q s :=
  fun a w hr => h a w (hr.frz hk hsub hkn ht)
theorem slcE {d k o o' l l' c c' : Nat} {o1 : Oper} {R : Req} (h : LR P n ops o1 R ⟨[(d, .inr (.inr (.inl (k, o, l, c))))], []⟩) (e : (o, l, c) = (o', l', c')) : LR P n ops o1 R ⟨[(d, .inr (.inr (.inl (k, o', l', c'))))], []⟩ := by cases e; exact h
theorem zadd (i : Nat) : 0 + i = i := Nat.zero_add i
theorem fl0 {cs : List AV} : fillL cs [] = cs := rfl
theorem flC {cs c1 c2 seg : List AV} {off : Nat} {r : List (Nat × List AV)} (h : setSeg cs off seg = c1) (h' : fillL c1 r = c2) : fillL cs ((off, seg) :: r) = c2 := by simp only [fillL]; rw [h]; exact h'
theorem LR_aggE {d : Nat} {o : Oper} {R : Req} {cs cs' : List AV} (h : LR P n ops o R ⟨[(d, .inl (agg cs))], []⟩) (e : cs = cs') : LR P n ops o R ⟨[(d, .inl (agg cs'))], []⟩ := e ▸ h
theorem stArr {α : Type} {K : α → Value} {m : Nat} {f g : Nat → α} {r : List AV} : setSeg (ar K m f ++ r) 0 (ar K m g ++ []) = ar K m g ++ r := by
  rw [List.append_nil]; exact stW (by simp [ar])
theorem stPs {α : Type} {K : α → Value} {m i : Nat} {f : Nat → α} {r us l' : List AV} (h : setSeg r i us = l') : setSeg (ar K m f ++ r) (m + i) us = ar K m f ++ l' := by
  have : ∀ (us : List AV) (r : List AV) (i : Nat), setSeg (ar K m f ++ r) (m + i) us = ar K m f ++ setSeg r i us := by
    intro us
    induction us with
    | nil => intro r i; rfl
    | cons u us ih =>
      intro r i
      simp only [setSeg]
      rw [List.set_append_right _ _ (by simp [ar])]
      have : m + i - (ar K m f).length = i := by simp [ar]
      rw [this, Nat.add_assoc]
      exact ih _ _
  rw [this, h]
theorem parts_cons' {place : Nat → Option (Nat × Nat)} {len : Nat} {i m : Nat} {x : Operand} {av : AV} {seg : List AV} {off : Nat} {ps : List Part} {rx rs : List (Nat × TV)} (hx : OpAt x (.inl av) rx) (hc : CellsAt av seg) (hm : seg.length = m) (hp : place i = some (off, m)) (hl : Nat.ble (off + m) len = true)
    (h : PartsAt place len ps rs) : PartsAt place len (⟨i, x, av, seg, off⟩ :: ps) (rx ++ rs) := parts_cons hx hc (hm ▸ hp) (hm ▸ hl) h
theorem LR_valC {op : Op} {ty : TypeId} {pos : String} {after : Array Edge} {d : Nat} {av : AV} {v : Value} (hn : Nat.blt d n = true) (h : ∀ (a : Act) (w : World), (execOp a.eval ⟨some d, op, ty, pos, after, none⟩).run P w = .ok (.value v) w) (hv : ∀ H, av.p H v) :
    LR P n ops ⟨some d, op, ty, pos, after, none⟩ ⟨[], [], []⟩ ⟨[(d, .inl av)], []⟩ := LR_val hn fun _ _ _ a w _ _ => ⟨v, h a w, hv _⟩
theorem ptrNil {t e : TypeId} {x y : Operand} (hu : P.underlying t = some (.pointer e)) (a : Addr) (w : World) : (do eqGuard .eql t x y (.pointer (some a)) (.pointer none); binOp .eql t (.pointer (some a)) (.pointer none) : Sem Value).run P w = .ok (Bl false) w := by
  rw [Sem.run_bind]
  have : (eqGuard .eql t x y (.pointer (some a)) (.pointer none)).run P w = .ok () w := by
    unfold eqGuard; split <;> rfl
  rw [this, Result.andThen_ok]
  show (do pure (Value.bool (← Op.equal t (.pointer (some a)) (.pointer none))) : Sem Value).run P w = _
  rw [Sem.run_bind, Op.equal, Op.maxDepth, eqIn_pn hu]; rfl
theorem ptrNil' {t e : TypeId} {x y : Operand} (hu : P.underlying t = some (.pointer e)) (a : Addr) (w : World) : (do eqGuard .neq t x y (.pointer (some a)) (.pointer none); binOp .neq t (.pointer (some a)) (.pointer none) : Sem Value).run P w = .ok (Bl true) w := by
  rw [Sem.run_bind]
  have : (eqGuard .neq t x y (.pointer (some a)) (.pointer none)).run P w = .ok () w := by
    unfold eqGuard; split <;> rfl
  rw [this, Result.andThen_ok]
  show (do pure (Value.bool (!(← Op.equal t (.pointer (some a)) (.pointer none)))) : Sem Value).run P w = _
  rw [Sem.run_bind, Op.equal, Op.maxDepth, eqIn_pn hu]; rfl
theorem LR_eqlPtr {t e yt : TypeId} {x : Operand} {ty : TypeId} {pos : String} {after : Array Edge} {d : Nat} {r : List (Nat × TV)} {k off : Nat} (hx : OpAt x (.inr (.inl (k, off))) r) (hu : P.underlying t = some (.pointer e)) (hn : Nat.blt d n = true) :
    LR P n ops ⟨some d, .binOp .eql t x (.const (.pointer none)) yt, ty, pos, after, none⟩ ⟨r, [], []⟩ ⟨[(d, .inl (is (Bl false)))], []⟩ :=
  LR_val hn fun B bn s a w hs h => by
    have h1 : a.eval x = .pointer (some ⟨(bn k).b, off, none⟩) := hx B bn s a w hs.1 h
    have h2 : a.eval (.const (.pointer none)) = .pointer none := rfl
    refine ⟨_, ?_, rfl⟩
    have h3 := ptrNil (x := x) (y := .const (.pointer none)) hu ⟨(bn k).b, off, none⟩ w
    simp only [execOp, h1, h2]
    rw [Sem.run_bind, h3]; rfl
theorem LR_neqPtr {t e yt : TypeId} {x : Operand} {ty : TypeId} {pos : String} {after : Array Edge} {d : Nat} {r : List (Nat × TV)} {k off : Nat} (hx : OpAt x (.inr (.inl (k, off))) r) (hu : P.underlying t = some (.pointer e)) (hn : Nat.blt d n = true) :
    LR P n ops ⟨some d, .binOp .neq t x (.const (.pointer none)) yt, ty, pos, after, none⟩ ⟨r, [], []⟩ ⟨[(d, .inl (is (Bl true)))], []⟩ :=
  LR_val hn fun B bn s a w hs h => by
    have h1 : a.eval x = .pointer (some ⟨(bn k).b, off, none⟩) := hx B bn s a w hs.1 h
    have h2 : a.eval (.const (.pointer none)) = .pointer none := rfl
    refine ⟨_, ?_, rfl⟩
    have h3 := ptrNil' (x := x) (y := .const (.pointer none)) hu ⟨(bn k).b, off, none⟩ w
    simp only [execOp, h1, h2]
    rw [Sem.run_bind, h3]; rfl
theorem elt_of {e : TypeId} {z : Value} (hs : ∀ w, (sizeOf e).run P w = .ok 1 w) (hc : z.cells = #[z]) (h : ((P.info? e).map fun i => (i.size, Nat.ble i.bytes 64)) = some (1, true)) (hz : (P.info? e).bind (·.zero) = some z) : Elt P e z := by
  cases hi : P.info? e with
  | none => rw [hi] at h; cases h
  | some i =>
    rw [hi] at h hz
    simp only [Option.map_some, Option.some.injEq, Prod.mk.injEq] at h
    exact ⟨hs, hc, i, hi, hz, h.1, by simpa [Nat.ble_eq] using h.2⟩
/-- A value given a name. -/
def lt {α β : Type} (e : α) (f : α → β) : β := f e
theorem lt_some {α β : Type} {e : α} {f : α → β} {r : β} (h : r = lt e f) : ∃ y, y = e ∧ r = f y := ⟨e, rfl, h⟩
end
end Go.Aw
