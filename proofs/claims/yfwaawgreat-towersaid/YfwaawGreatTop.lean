/-
  The row: from what the function computes to what is said of it.
-/
import Derived.Test.YfwaawGreatRows
import Derived.Test.YfwaawGreatG69
import Derived.ProofKit
namespace Go.Proofs.YfwaawGreat
open Go.ChangeShapes Go.WideShapes Go.ChangeAt Go.RowKit Go.Aw
set_option maxRecDepth 100000
set_option maxHeartbeats 4000000

theorem Hfaa.own : ownKnob Hfaa.prog.godebug = none := by kernel_rfl
theorem Hfaa.laidOut : laidOutB Hfaa.prog = true := by kernel_rfl
theorem Hfaa.cells23 : Hfaa.prog.cellsOf 23 = 2 := by kernel_rfl
theorem Hfaa.cells5 : Hfaa.prog.cellsOf 5 = 1 := by kernel_rfl
theorem Hfaa.cells96 : Hfaa.prog.cellsOf 96 = 6 := by kernel_rfl
theorem Hfaa.cells30 : Hfaa.prog.cellsOf 30 = 1 := by kernel_rfl
theorem Hfaa.cells9 : Hfaa.prog.cellsOf 9 = 1 := by kernel_rfl

section
variable {H : Type} {enc : TypeId × Value → H} {w : World} {base : Nat} {spare : Nat → Bool} {held : Bool}

theorem u8_of {t : TypeId} (ht : Hfaa.prog.underlying t = some (.int .u8)) {fuel : Nat} {cs : List Value} {x : DataW H × List MemPlace} (h : DataW.trod enc Hfaa.prog w base spare held fuel t cs = some x) : ∃ b : BitVec 8, cs = [U8 b] := by
  obtain ⟨n, rfl, _, hw⟩ := DataW.trod_int ht h
  refine ⟨BitVec.ofNat 8 n.toNat, ?_⟩
  simp [Lit.wf, IntKind.min, IntKind.max, IntKind.signed, IntKind.bits] at hw
  unfold U8
  rw [BitVec.toNat_ofNat]
  congr 2
  omega
theorem u64_of {t : TypeId} (ht : Hfaa.prog.underlying t = some (.int .u64)) {fuel : Nat} {cs : List Value} {x : DataW H × List MemPlace} (h : DataW.trod enc Hfaa.prog w base spare held fuel t cs = some x) : ∃ b : BitVec 64, cs = [U64 b] := by
  obtain ⟨n, rfl, _, hw⟩ := DataW.trod_int ht h
  refine ⟨BitVec.ofNat 64 n.toNat, ?_⟩
  simp [Lit.wf, IntKind.min, IntKind.max, IntKind.signed, IntKind.bits] at hw
  unfold U64
  rw [BitVec.toNat_ofNat]
  congr 2
  omega
theorem str_of {t : TypeId} (ht : Hfaa.prog.underlying t = some .string) {fuel : Nat} {cs : List Value} {x : DataW H × List MemPlace} (h : DataW.trod enc Hfaa.prog w base spare held fuel t cs = some x) : ∃ l : List UInt8, cs = [Sv l] := by
  obtain ⟨s, rfl, _, _⟩ := DataW.trod_string ht h
  exact ⟨s.data.toList, rfl⟩

theorem op_of {fuel : Nat} {cs : List Value} {x : DataW H × List MemPlace} (h : DataW.trod enc Hfaa.prog w base spare held fuel 96 cs = some x) : ∃ o : Opv, cs = opK o := by
  obtain ⟨xs, n, _, _, hl, hlen, hf⟩ := DataW.trod_struct Hfaa.underlying96 h
  rw [Hfaa.cells96] at hl
  match cs, hl with
  | [c0, c1, c2, c3, c4, c5], _ =>
    match xs, hlen with
    | [y0, y1, y2, y3, y4, y5], _ =>
      obtain ⟨b0, e0⟩ := u8_of Hfaa.underlying5 (by simpa [Hfaa.cells5] using hf 0 _ rfl)
      obtain ⟨b1, e1⟩ := u8_of Hfaa.underlying5 (by simpa [Hfaa.cells5] using hf 1 _ rfl)
      obtain ⟨b2, e2⟩ := u8_of Hfaa.underlying5 (by simpa [Hfaa.cells5] using hf 2 _ rfl)
      obtain ⟨b3, e3⟩ := u8_of Hfaa.underlying5 (by simpa [Hfaa.cells5] using hf 3 _ rfl)
      obtain ⟨b4, e4⟩ := u64_of Hfaa.underlying30 (by simpa [Hfaa.cells30] using hf 4 _ rfl)
      obtain ⟨b5, e5⟩ := str_of Hfaa.underlying9 (by simpa [Hfaa.cells9] using hf 5 _ rfl)
      simp only [List.cons.injEq, and_true] at e0 e1 e2 e3 e4 e5
      exact ⟨(b0, b1, b2, b3, b4, b5), by rw [e0, e1, e2, e3, e4, e5]; rfl⟩

theorem cells_of {a : Addr} {m : Nat} {cs : List Value} (h : w.cells? 0 a m = some cs) : cs.length = m ∧ ∀ (j : Nat) (v : Value), cs[j]? = some v → w.cell? (a.add j) = some v := by
  unfold World.cells? at h
  rw [if_pos (Nat.zero_le _)] at h
  have key : ∀ (l : List Nat) (cs : List Value), l.mapM (fun i => w.cell? (a.add i)) = some cs → cs.length = l.length ∧ ∀ (j : Nat) (v : Value), cs[j]? = some v → ∃ i : Nat, l[j]? = some i ∧ w.cell? (a.add i) = some v := by
    intro l
    induction l with
    | nil => intro cs h; simp at h; subst h; exact ⟨rfl, fun j v hv => by simp at hv⟩
    | cons i l ih =>
      intro cs h
      simp only [List.mapM_cons, Option.bind_eq_bind, Option.bind_eq_some_iff] at h
      obtain ⟨v, h1, vs, h2, h3⟩ := h
      cases h3
      obtain ⟨g1, g2⟩ := ih vs h2
      refine ⟨by simp [g1], fun j u hu => ?_⟩
      cases j with
      | zero => simp at hu; subst hu; exact ⟨i, rfl, h1⟩
      | succ j => simpa using g2 j u (by simpa using hu)
  obtain ⟨h1, h2⟩ := key _ _ h
  refine ⟨by simpa using h1, fun j v hv => ?_⟩
  obtain ⟨i, e, h3⟩ := h2 j v hv
  have : i = j := by
    have hlt : j < m := by
      rcases Nat.lt_or_ge j m with h' | h'
      · exact h'
      · rw [List.getElem?_eq_none (by simpa using h')] at e; cases e
    rw [List.getElem?_range hlt] at e; cases e; rfl
  subst this; exact h3

/-- A slice of operations that came in. -/
theorem script_of {fuel : Nat} {v : Value} {x : DataW H × List MemPlace} (hv : ∃ a len cap, v = .slice a len cap) (h : DataW.trod enc Hfaa.prog w 0 spare held fuel 25 v.cells.toList = some x) : ∃ s : NS Opv, (nsl opK 6 s).p (fun b => w.heap[b]?) v := by
  obtain ⟨a', len', cap', rfl⟩ := hv
  rcases DataW.trod_slice Hfaa.underlying25 h with ⟨hcs, _⟩ | ⟨a, len, cap, elems, rest, n, _, hcs, _, _, hl, hm, hlen, hel, _, _⟩
  · have : a' = none ∧ len' = 0 ∧ cap' = 0 := by simpa [Value.cells] using hcs
    obtain ⟨rfl, rfl, rfl⟩ := this
    exact ⟨(true, 0, fun _ => (0#8, 0#8, 0#8, 0#8, 0#64, [])), .inl (.inl ⟨rfl, rfl, rfl⟩)⟩
  · have : a' = some a ∧ len' = len ∧ cap' = cap := by simpa [Value.cells] using hcs
    obtain ⟨rfl, rfl, rfl⟩ := this
    rw [Hfaa.cells96] at hel
    have each : ∀ i, i < len' → ∃ o : Opv, w.cells? 0 (a.add (i * 6)) 6 = some (opK o) := fun i hi => by
      have h1 := hel i hi
      have h2 : (elems[i]?).isSome = true := by simp [hlen, hi]
      rw [← h1] at h2
      obtain ⟨y, hy⟩ := Option.isSome_iff_exists.1 h2
      obtain ⟨cs, hc1, hc2⟩ := Option.bind_eq_some_iff.1 hy
      obtain ⟨o, rfl⟩ := op_of hc2
      exact ⟨o, hc1⟩
    let f : Nat → Opv := fun i => if hi : i < len' then Classical.choose (each i hi) else (0#8, 0#8, 0#8, 0#8, 0#64, [])
    have hf : ∀ i, i < len' → w.cells? 0 (a.add (i * 6)) 6 = some (opK (f i)) := fun i hi => by
      simp only [f, dif_pos hi]; exact Classical.choose_spec (each i hi)
    rcases Nat.eq_zero_or_pos len' with h0 | h0
    · subst h0; exact ⟨(false, 0, f), .inr ⟨rfl, rfl, a, cap', rfl⟩⟩
    · have hc0 := (cells_of (hf 0 h0)).2 0 _ rfl
      have hc0 : w.cell? a = some (U8 (f 0).1) := hc0
      have hsp : a.spot = none ∧ ∃ arr ty fz, w.heap[a.block]? = some (.cells arr ty fz) := by
        unfold World.cell? at hc0
        split at hc0
        · rename_i c t z hb
          split at hc0
          · cases hc0
          · rename_i hs
            exact ⟨by simpa using hs, c, t, z, hb⟩
        · cases hc0
      obtain ⟨hs0, arr, ty, fz, hb⟩ := hsp
      obtain ⟨b, off, spot⟩ := a
      have hs1 : spot = none := hs0
      subst hs1
      refine ⟨(false, len', f), .inl (.inr ⟨rfl, b, off, cap', arr, ty, fz, rfl, hb, hl, fun i hi j u hu => ?_⟩)⟩
      have hc := (cells_of (hf i hi)).2 j u hu
      rw [addN, addN] at hc
      have hb' : w.heap[b]? = some (.cells arr ty fz) := hb
      simpa [World.cell?, hb'] using hc
end

/-- What is asked of the world behind a call that has only made memory. -/
theorem post_of_below {H : Type} {enc : TypeId × Value → H} {P : Program} {f : Func} {s : ChangeSpec} {apart fresh handsOn again : Bool} {W W' : World} {args : Array Value} {v : Value} {ds gs : List (DataW H)} {before pa pv : List MemPlace}
    (hW : DataW.Whole enc P f.params.toList s.vars apart W args.toList ds gs before)
    (hres : ∀ (b : Nat) (sp : Nat → Bool) (hd : Bool), DataW.TrodAll enc P W' b sp hd f.resultTypes.toList (v.resultList f.resultTypes.size) (s.fn H (ds ++ gs)).results [])
    (hargs : ∀ sp : Nat → Bool, (∀ p ∈ before, sp p.block = true) → DataW.TrodAll enc P W' 0 sp true f.params.toList args.toList (s.fn H (ds ++ gs)).args pa)
    (hvars : ∀ sp : Nat → Bool, (∀ p ∈ before, sp p.block = true) → DataW.TrodVars enc P W' sp s.vars (s.fn H (ds ++ gs)).vars pv)
    (hps : before = pa ++ pv) (hb : Below W.heap.size W W')
    (hok : ∀ (j : Nat) (t : TypeId) (r : Value), f.resultTypes[j]? = some t → (v.resultList f.resultTypes.size)[j]? = some r → Value.okWide P W' .any 0 t r) :
    s.post enc P f apart fresh handsOn again W args v W' := by
  have hold : ∀ p ∈ before, (fun b => decide (b < W.heap.size)) p.block = true := fun p hp => by simpa using hW.lt p hp
  have hlt : ∀ b off, MemPlace.cell b off ∈ before → b < W.heap.size := fun b off hp => hW.lt _ hp
  refine ⟨ds, gs, before, [], pa, pv, hW, hres _ _ _, hargs _ hold, hvars _ hold, World.keptBut_mono (fun p hp => ⟨hp, ?_⟩) (hb.frame (· ∈ before)), fun _ => ?_⟩
  · rw [hps, List.mem_append] at hp
    exact Or.inr hp
  · obtain ⟨_, _, _, _, _, hz, hn⟩ := hW
    refine ⟨hok, _, _, ([] ++ pa) ++ pv, ⟨[] ++ pa, pv, trodAll_append (hargs _ (fun _ _ => rfl)) (hres _ _ _), hvars _ (fun _ _ => rfl), rfl, ?_, ?_⟩, ?_⟩
    · intro b off hp
      have hp' : MemPlace.cell b off ∈ before := by rw [hps]; simpa using hp
      rw [hb.frozen (hlt b off hp')]
      exact hz b off hp'
    · intro ha
      have := hn ha
      rw [hps] at this
      simpa using this
    · intro p hp _
      rw [hps]
      simpa using hp

/-- The row, if the function answers true. -/
theorem tower_lifted (hF : ∀ (e m mode : BitVec 8) (s : NS Opv), ∃ N, F3 N e m mode s = some true) (os : Os) (started : os.Started) (H : Type) (enc : TypeId × Value → H) :
    ReturnsInHanded {} Hfaa.checked os 3 .any (Rows.towerSpec.pre6 enc Hfaa.prog Hfaa.f3 Rows.towerRow.domain false) (Rows.towerSpec.post enc Hfaa.prog Hfaa.f3 false true false false) := by
  refine returnsInHanded_of_change (C := Hfaa.checked) Hfaa.own started (by kernel_rfl) Hfaa.func3
    (ChangeSpec.witness6 (enc := enc) (C := Hfaa.checked) false ⟨#[], #[.agg #[.int .u8 0, .int .u8 0], .int .u8 0, .slice none 0 0], []⟩ 8 (by kernel_rfl) (by kernel_rfl) (by kernel_rfl) (by kernel_rfl)) ?_
  intro W base args ds gs before hval0 hW hcnd _
  have hval : ∀ (j : Nat) t v, Hfaa.f3.params[j]? = some t → args[j]? = some v → Value.okWide Hfaa.prog W .any base t v := hval0
  have hW' := hW
  obtain ⟨p, q, hA0, hV, rfl, hfz, hnd⟩ := hW
  have hA : DataW.TrodAll enc Hfaa.prog W 0 (fun _ => true) true Hfaa.f3.params.toList args.toList ds p := hA0
  rw [Hfaa.params3] at hA hval
  obtain ⟨v0, v1, v2, d0, d1, d2, p0, p1, p2, rfl, rfl, rfl, h0, h1, h2⟩ := trodAll_three hA
  obtain ⟨rfl, rfl⟩ := trodVars_none hV
  clear hA0 hval0
  simp only [List.append_nil] at hW'
  have hlt : ∀ x ∈ p0 ++ (p1 ++ p2), x.block < W.heap.size := fun x hx => hW'.lt x (by simpa [List.append_assoc] using hx)
  -- what they are
  have ok0 := hval 0 23 v0 rfl rfl
  have ok1 := hval 1 24 v1 rfl rfl
  have ok2 := hval 2 25 v2 rfl rfl
  obtain ⟨fe, fm, e0⟩ : ∃ fe fm : BitVec 8, v0 = .agg #[U8 fe, U8 fm] := by
    simp only [Value.okWide, Hfaa.underlying23] at ok0
    obtain ⟨cs, rfl, hc, _⟩ := ok0
    obtain ⟨fuel, hf⟩ := h0
    obtain ⟨y0, y1, n, _, hl, hf0, hf1⟩ := trod_struct2 Hfaa.underlying23 hf
    rw [Hfaa.cells23] at hl
    have hl' : cs.toList.length = 2 := hl
    obtain ⟨cl⟩ := cs
    match cl, hl' with
    | [c0, c1], _ =>
      obtain ⟨b0, e0⟩ := u8_of Hfaa.underlying5 (by simpa [Hfaa.cells5, Value.cells] using hf0)
      obtain ⟨b1, e1⟩ := u8_of Hfaa.underlying5 (by simpa [Hfaa.cells5, Value.cells] using hf1)
      simp only [List.cons.injEq, and_true] at e0 e1
      exact ⟨b0, b1, by rw [e0, e1]⟩
  obtain ⟨mode, e1⟩ : ∃ mode : BitVec 8, v1 = U8 mode := by
    obtain ⟨i, rfl, _, _, wi⟩ := open_int Hfaa.underlying24 ok1 h1
    refine ⟨BitVec.ofNat 8 i.toNat, ?_⟩
    simp [Lit.wf, IntKind.min, IntKind.max, IntKind.signed, IntKind.bits] at wi
    unfold U8
    rw [BitVec.toNat_ofNat]
    congr 1
    omega
  obtain ⟨scr, e2⟩ : ∃ s : NS Opv, (nsl opK 6 s).p (fun b => W.heap[b]?) v2 := by
    obtain ⟨fuel, hf⟩ := h2
    exact script_of (okWide_slice Hfaa.underlying25 ok2) hf
  obtain ⟨N, hN⟩ := hF fe fm mode scr
  have hcall := C3 N fe fm mode scr true hN.symm W (fun b => W.heap[b]?) [v0, v1, v2] (fun _ _ h => h) ⟨⟨[U8 fe, U8 fm], e0, rfl, rfl, trivial⟩, e1, e2, trivial⟩
  refine hcall.mono ?_
  rintro e W' ⟨v, rfl, hv, hb⟩
  have hv : v = .bool true := hv
  subst hv
  refine ⟨_, rfl, post_of_below (pa := p0 ++ (p1 ++ p2)) (pv := []) hW' (fun _ _ _ => trodAll_mk1 (shut_bool Hfaa.underlying4 _)) (fun sp hsp => ?_) (fun _ _ => rfl) (by simp) hb (ok_one (by kernel_rfl) rfl (okWide_bool_mk Hfaa.underlying4 _))⟩
  have st : ∀ {t : TypeId} {v : Value} {d : DataW H} {ps : List MemPlace}, Hfaa.prog.readableRec t = true → t < Hfaa.prog.types.size → DataW.Trod enc Hfaa.prog W 0 (fun _ => true) true t v d ps → (∀ x ∈ ps, x ∈ p0 ++ (p1 ++ p2)) → DataW.Trod enc Hfaa.prog W' 0 sp true t v d ps := fun hr hrow h hs =>
    WideElems.Trod_stays Hfaa.laidOut hr hrow h (fun x hx => hb.same (hlt x (hs x hx))) (fun x hx => hsp x (by simpa [List.append_assoc] using hs x hx))
  exact trodAll_mk3 (st (by kernel_rfl) (of_decide_eq_true (by kernel_rfl)) h0 (fun x hx => by simp [hx])) (st (by kernel_rfl) (of_decide_eq_true (by kernel_rfl)) h1 (fun x hx => by simp [hx])) (st (by kernel_rfl) (of_decide_eq_true (by kernel_rfl)) h2 (fun x hx => by simp [hx]))

end Go.Proofs.YfwaawGreat
