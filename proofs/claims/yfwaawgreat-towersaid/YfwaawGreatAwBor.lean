/-
  Functions to which memory is lent: a contract with the lent resources, before and behind; its call; its body.
-/
import Derived.Test.YfwaawGreatNat
namespace Go.Aw
open Go.RowKit

/-- The quiet part behind a call, the blocks of 'bs' left out. -/
def extO (H : PH) (w w' : World) (bs : List Nat) : PH := fun b => if b ∈ bs then none else if b < w.heap.size then H b else w'.heap[b]?

/-- The content does not hang on the values handed out. -/
def HFree (c : Cont) : Prop := ∀ hp H xs h h', c.p hp H ⟨xs, h⟩ → c.p hp H ⟨xs, h'⟩
theorem hf_pb (ty : TypeId) (cells : List AV) : HFree (pb ty cells) := fun _ _ _ _ _ ⟨b, e, r⟩ => ⟨b, e, r⟩

def AllT (H : PH) (bn : Nat → Loc) : List TV → List Value → Prop
  | [], [] => True
  | a :: l, v :: vs => a.holds H bn v ∧ AllT H bn l vs
  | _, _ => False

theorem AllT.length {H : PH} {bn : Nat → Loc} : ∀ {l : List TV} {vs : List Value}, AllT H bn l vs → l.length = vs.length
  | [], [], _ => rfl
  | _ :: _, _ :: _, h => by simp [AllT.length h.2]
  | [], _ :: _, h => h.elim
  | _ :: _, [], h => h.elim

/-- A function to which the resources 'bi' are lent and that hands them back as 'bo'. -/
def FnB (P : Program) (f : FuncId) (args : List TV) (bi : List Box) (res : AV) (bo : List Box) : Prop :=
  ∀ (w : World) (H : PH) (bn : Nat → Loc) (vs : List Value), (∀ b o, H b = some o → w.heap[b]? = some o ∧ b ∉ blks bn bi) → (blks bn bi).Nodup → (∀ x, x ∈ bi → x.2.p (hpOf w) H (bn x.1)) → AllT H bn args vs →
    Calls P f vs.toArray w fun e w' => ∃ (v : Value) (bn' : Nat → Loc), e = .returned v ∧ res.p (extO H w w' (blks bn' bo)) v ∧ Ext (blks bn bi) w w' ∧
      (∀ x, x ∈ bo → (bn' x.1).b = (bn x.1).b ∧ (bn' x.1).h = (bn x.1).h ∧ ∀ b, b ∈ (bn' x.1).xs → b ∈ blks bn bi ∨ w.heap.size ≤ b) ∧ (blks bn' bo).Nodup ∧ (∀ x, x ∈ bo → x.2.p (hpOf w') (extO H w w' (blks bn' bo)) (bn' x.1))

def keysOf (l : List Box) : List Nat := l.map (·.1)

theorem blks_keys {bn : Nat → Loc} : ∀ {l l' : List Box}, keysOf l = keysOf l' → blks bn l = blks bn l'
  | [], [], _ => rfl
  | x :: l, y :: l', h => by
    simp only [keysOf, List.map_cons, List.cons.injEq] at h
    simp only [blks, List.flatMap_cons, h.1]
    rw [show l.flatMap (fun x => (bn x.1).xs) = l'.flatMap fun x => (bn x.1).xs from blks_keys h.2]
  | [], _ :: _, h => by simp [keysOf] at h
  | _ :: _, [], h => by simp [keysOf] at h

theorem mem_setBs0 : ∀ {bo l : List Box} {x : Box}, x ∈ setBs bo l → x ∈ bo ∨ x ∈ l
  | [], _, _, h => .inr h
  | z :: bo, l, x, h => by
    rcases mem_setBs0 (bo := bo) (l := setB z.1 z.2 l) h with h' | h'
    · exact .inl (List.mem_cons_of_mem _ h')
    · rcases mem_setB h' with h'' | h''
      · exact .inl (h'' ▸ List.mem_cons_self ..)
      · exact .inr h''

theorem keys_setBs : ∀ {bo l : List Box}, (∀ y, y ∈ bo → (lk y.1 l).isSome = true) → keysOf (setBs bo l) = keysOf l
  | [], _, _ => rfl
  | z :: bo, l, h => by
    simp only [setBs]
    obtain ⟨c, hc⟩ := Option.isSome_iff_exists.1 (h z (List.mem_cons_self ..))
    have e : keysOf (setB z.1 z.2 l) = keysOf l := setB_map id hc
    rw [keys_setBs (fun y hy => ?_), e]
    rw [lk_setB]
    split
    · rfl
    · exact h y (List.mem_cons_of_mem _ hy)

theorem keysNot_of_not_mem {k : Nat} : ∀ {l : List Box}, k ∉ l.map (·.1) → keysNot k l = true
  | [], _ => rfl
  | x :: l, h => by
    simp only [List.map_cons, List.mem_cons, not_or] at h
    have : Nat.beq x.1 k = false := by cases hb : Nat.beq x.1 k with | false => rfl | true => exact (h.1 (beq_true hb).symm).elim
    simp only [keysNot, this, keysNot_of_not_mem h.2, Bool.not_false, Bool.and_self]

/-- What stands in the state behind the call. -/
theorem lk_setBs_mem {bo : List Box} (hk : KN bo) {l : List Box} {y : Box} (hy : y ∈ bo) : lk y.1 (setBs bo l) = some y.2 := by
  rw [lk_setBs]
  have : lastk y.1 bo = some y.2 := by
    induction bo with
    | nil => cases hy
    | cons z bo ih =>
      simp only [KN, List.map_cons, List.nodup_cons] at hk
      simp only [lastk]
      rcases List.mem_cons.1 hy with e | hy1
      · subst e
        rw [lastk_none (keysNot_of_not_mem hk.1)]
        simp
      · rw [ih hk.2 hy1]; rfl
  rw [this]; rfl

section
variable {P : Program} {B : Base} {n : Nat} {ops : Array Oper}

theorem RelB.updMany {bn bn' : Nat → Loc} {s : St} {a : Act} {w w' : World} {bo : List Box} (h : RelB B bn s a w) (hkn : KN bo) (hpres : ∀ y, y ∈ bo → (lk y.1 s.b).isSome = true)
    (hsame : ∀ j, j ∉ keysOf bo → bn' j = bn j) (hbase : ∀ y, y ∈ bo → (bn' y.1).b = (bn y.1).b) (hh : ∀ y, y ∈ bo → (bn' y.1).h = (bn y.1).h)
    (hin : ∀ y, y ∈ bo → ∀ b, b ∈ (bn' y.1).xs → b ∈ blks bn bo ∨ w.heap.size ≤ b) (hnd : (blks bn' bo).Nodup)
    (ho : ∀ b, b < w.heap.size → b ∉ blks bn bo → w'.heap[b]? = w.heap[b]?) (hsz : w.heap.size ≤ w'.heap.size) (h1 : w'.os = w.os) (h2 : w'.tape = w.tape) (h3 : w'.output = w.output)
    (hc : ∀ y, y ∈ bo → y.2.p (hpOf w') (extO (cur B (blks bn s.b) w) w w' (blks bn' bo)) (bn' y.1)) :
    RelB B bn' ⟨s.t, setBs bo s.b⟩ a w' ∧ PH.le (extO (cur B (blks bn s.b) w) w w' (blks bn' bo)) (cur B (blks bn' (setBs bo s.b)) w') := by
  have hkeys := keys_setBs (l := s.b) hpres
  have hknS : KN (setBs bo s.b) := by show (keysOf _).Nodup; rw [hkeys]; exact h.kn
  -- every member of the new state is one of the callee's or an old one that it did not touch
  have hmem : ∀ x, x ∈ setBs bo s.b → x ∈ bo ∨ (x ∈ s.b ∧ x.1 ∉ keysOf bo) := fun x hx => by
    by_cases hxk : x.1 ∈ keysOf bo
    case neg =>
      rcases mem_setBs0 hx with h' | h'
      · exact .inl h'
      · exact .inr ⟨h', hxk⟩
    case pos =>
      obtain ⟨y, hy, e⟩ := List.mem_map.1 hxk
      left
      have e1 : lk x.1 (setBs bo s.b) = some x.2 := hknS.mem.1 hx
      rw [← e, lk_setBs_mem hkn hy] at e1
      have : y = x := Prod.ext e (Option.some.inj e1)
      exact this ▸ hy
  have hold : ∀ y, y ∈ bo → ∃ c, (y.1, c) ∈ s.b := fun y hy => by
    obtain ⟨c, hc⟩ := Option.isSome_iff_exists.1 (hpres y hy)
    exact ⟨c, lk_mem hc⟩
  have hT : ∀ b, b ∈ blks bn bo → b ∈ blks bn s.b := fun b hb => by
    obtain ⟨y, hy, e⟩ := mem_blks.1 hb
    obtain ⟨c, hc⟩ := hold y hy
    exact mem_blks.2 ⟨_, hc, e⟩
  have hlt : ∀ x, x ∈ s.b → ∀ b, b ∈ (bn x.1).xs → b < w.heap.size := fun x hx b hb => h.lt hx hb
  have hapart : ∀ x, x ∈ s.b → x.1 ∉ keysOf bo → ∀ b, b ∈ (bn x.1).xs → b ∉ blks bn bo := fun x hx hxk b hb hb' => by
    obtain ⟨y, hy, e⟩ := mem_blks.1 hb'
    obtain ⟨c, hc⟩ := hold y hy
    exact blks_apart h.nod hx hc (fun e' => hxk (by rw [e']; exact List.mem_map.2 ⟨y, hy, rfl⟩)) hb e
  have hmemb : ∀ b, b ∈ blks bn' (setBs bo s.b) → b ∈ blks bn' bo ∨ (b ∈ blks bn s.b ∧ b ∉ blks bn bo) := fun b hb => by
    obtain ⟨x, hx, e⟩ := mem_blks.1 hb
    rcases hmem x hx with h' | ⟨h', hk'⟩
    · exact .inl (mem_blks.2 ⟨x, h', e⟩)
    · rw [hsame _ hk'] at e
      exact .inr ⟨mem_blks.2 ⟨x, h', e⟩, hapart x h' hk' b e⟩
  have hle0 : PH.le (extO (cur B (blks bn s.b) w) w w' (blks bn' bo)) (cur B (blks bn' (setBs bo s.b)) w') := by
    intro b o e
    unfold extO at e
    split at e
    · cases e
    · rename_i hnb
      split at e
      · rename_i hlt'
        obtain ⟨g1, g2⟩ := h.curIn b o e
        unfold cur at e ⊢
        rw [if_neg g1] at e
        rw [if_neg (fun hm => by rcases hmemb b hm with h' | ⟨h', _⟩; exact hnb h'; exact g1 h')]
        split
        · rename_i h3; rw [if_pos h3] at e; exact e
        · rw [ho b hlt' (fun hm => g1 (hT b hm))]; exact g2
      · rename_i hge
        unfold cur
        rw [if_neg (fun hm => by
          rcases hmemb b hm with h' | ⟨h', _⟩
          · exact hnb h'
          · obtain ⟨x, hx, e'⟩ := mem_blks.1 h'; have := hlt x hx b e'; omega), if_neg (by have := h.ext.size; omega)]
        exact e
  have hle : PH.le (cur B (blks bn s.b) w) (cur B (blks bn' (setBs bo s.b)) w') := by
    intro b o e
    obtain ⟨g1, g2⟩ := h.curIn b o e
    have hb : b < w.heap.size := by
      rcases Nat.lt_or_ge b w.heap.size with h' | h'
      · exact h'
      · rw [Array.getElem?_eq_none h'] at g2; cases g2
    refine hle0 b o ?_
    unfold extO
    rw [if_neg, if_pos hb]
    · exact e
    · intro hm
      obtain ⟨y, hy, e'⟩ := mem_blks.1 hm
      rcases hin y hy b e' with h' | h'
      · exact g1 (hT b h')
      · omega
  refine ⟨⟨h.defs, h.size, ?_, h.base, ?_, ?_, hknS, ?_, ?_, ?_, ?_⟩, hle0⟩
  · refine ⟨h1.trans h.ext.os, h2.trans h.ext.tape, h3.trans h.ext.output, Nat.le_trans h.ext.size hsz, fun j hj hjn => ?_⟩
    rw [ho j (Nat.lt_of_lt_of_le hj h.ext.size) (fun hm => by
      obtain ⟨y, hy, e⟩ := mem_blks.1 hm
      obtain ⟨c, hc⟩ := hold y hy
      rcases h.own _ hc j e with h' | h'; omega; exact hjn h')]
    exact h.ext.block j hj hjn
  · intro j hj
    by_cases e : j ∈ keysOf bo
    · obtain ⟨y, hy, rfl⟩ := List.mem_map.1 e; rw [hbase y hy]; exact h.keep _ hj
    · rw [hsame j e]; exact h.keep j hj
  · intro j hj
    obtain ⟨x, hx, e⟩ := h.here j hj
    have : j ∈ keysOf (setBs bo s.b) := by rw [hkeys]; exact List.mem_map.2 ⟨x, hx, e⟩
    obtain ⟨y, hy, e'⟩ := List.mem_map.1 this
    exact ⟨y, hy, e'⟩
  · refine nodup_blks hknS (fun x hx => ?_) (fun x hx y hy hxy b hbx hby => ?_)
    · rcases hmem x hx with h' | ⟨h', hk'⟩
      · exact nodup_part hnd h'
      · rw [hsame _ hk']; exact nodup_part h.nod h'
    · rcases hmem x hx with hx' | ⟨hx', hkx⟩ <;> rcases hmem y hy with hy' | ⟨hy', hky⟩
      · exact blks_apart hnd hx' hy' hxy hbx hby
      · rw [hsame _ hky] at hby
        rcases hin x hx' b hbx with h' | h'
        · exact hapart y hy' hky b hby h'
        · have := hlt y hy' b hby; omega
      · rw [hsame _ hkx] at hbx
        rcases hin y hy' b hby with h' | h'
        · exact hapart x hx' hkx b hbx h'
        · have := hlt x hx' b hbx; omega
      · rw [hsame _ hkx] at hbx
        rw [hsame _ hky] at hby
        exact blks_apart h.nod hx' hy' hxy hbx hby
  · intro x hx b hb
    rcases hmem x hx with h' | ⟨h', hk'⟩
    · rcases hin x h' b hb with g | g
      · obtain ⟨y, hy, e⟩ := mem_blks.1 g
        obtain ⟨c, hc⟩ := hold y hy
        exact h.own _ hc b e
      · exact .inl (Nat.le_trans h.ext.size g)
    · rw [hsame _ hk'] at hb; exact h.own x h' b hb
  · intro x hx
    rcases hmem x hx with h' | ⟨h', hk'⟩
    · exact x.2.up _ _ _ _ _ hle0 (fun _ _ => rfl) (hc x h')
    · rw [hsame _ hk']
      exact x.2.up _ _ _ _ _ hle (fun b hb => ho b (hlt x h' b hb) (hapart x h' hk' b hb)) (h.box x h')
  · intro i tv e
    have h0 := h.tmp i tv e
    have hbk : ∀ k, (bn' k).b = (bn k).b ∧ (bn' k).h = (bn k).h := fun k => by
      by_cases e : k ∈ keysOf bo
      · obtain ⟨y, hy, rfl⟩ := List.mem_map.1 e; exact ⟨hbase y hy, hh y hy⟩
      · rw [hsame k e]; exact ⟨rfl, rfl⟩
    match tv, h0 with
    | .inl av, h0 => exact av.up _ _ _ hle h0
    | .inr (.inl (k, off)), h0 => simp only [TV.holds] at h0 ⊢; rw [(hbk k).1]; exact h0
    | .inr (.inr (.inl (k, off, len, cap))), h0 => simp only [TV.holds] at h0 ⊢; rw [(hbk k).1]; exact h0
    | .inr (.inr (.inr (k, g))), h0 => simp only [TV.holds] at h0 ⊢; rw [(hbk k).2]; exact h0

/-! ### A call that lends -/

def rn (ρ : List (Nat × Nat)) (k : Nat) : Nat := (lk k ρ).getD 0

def ren (ρ : List (Nat × Nat)) : TV → TV
  | .inl av => .inl av
  | .inr (.inl (k, off)) => .inr (.inl (rn ρ k, off))
  | .inr (.inr (.inl (k, off, len, cap))) => .inr (.inr (.inl (rn ρ k, off, len, cap)))
  | .inr (.inr (.inr (k, g))) => .inr (.inr (.inr (rn ρ k, g)))

def renB (ρ : List (Nat × Nat)) (x : Box) : Box := (rn ρ x.1, x.2)

theorem holds_ren {ρ : List (Nat × Nat)} {H : PH} {bn : Nat → Loc} {tv : TV} {v : Value} (h : (ren ρ tv).holds H bn v) : tv.holds H (fun k => bn (rn ρ k)) v := by
  match tv, h with
  | .inl _, h => exact h
  | .inr (.inl (_, _)), h => exact h
  | .inr (.inr (.inl (_, _, _, _))), h => exact h
  | .inr (.inr (.inr (_, _))), h => exact h

def AllAtT (xs : List Operand) (tvs : List TV) (r : List (Nat × TV)) : Prop :=
  ∀ (B : Base) (bn : Nat → Loc) (s : St) (a : Act) (w : World), SatT s r → RelB B bn s a w → AllT (cur B (blks bn s.b) w) bn tvs (xs.map a.eval)

theorem aT0 : AllAtT [] [] [] := fun _ _ _ _ _ _ _ => trivial
theorem aTC {x : Operand} {xs : List Operand} {tv : TV} {tvs : List TV} {r rs : List (Nat × TV)} (hx : OpAt x tv r) (h : AllAtT xs tvs rs) : AllAtT (x :: xs) (tv :: tvs) (r ++ rs) :=
  fun B bn s a w hs hr => ⟨hx B bn s a w (SatT_append.1 hs).1 hr, h B bn s a w (SatT_append.1 hs).2 hr⟩

theorem AllT_ren {ρ : List (Nat × Nat)} {H : PH} {bn : Nat → Loc} : ∀ {tvs : List TV} {vs : List Value}, AllT H bn (tvs.map (ren ρ)) vs → AllT H (fun k => bn (rn ρ k)) tvs vs
  | [], [], _ => trivial
  | _ :: _, _ :: _, h => ⟨holds_ren h.1, AllT_ren h.2⟩
  | [], _ :: _, h => h.elim
  | _ :: _, [], h => h.elim

theorem blks_ren {ρ : List (Nat × Nat)} {bn : Nat → Loc} (l : List Box) : blks bn (l.map (renB ρ)) = blks (fun k => bn (rn ρ k)) l := by
  simp only [blks, List.flatMap_map, renB]

def nodupB : List Nat → Bool
  | [] => true
  | x :: l => !l.any (Nat.beq x) && nodupB l

theorem nodupB_ok : ∀ {l : List Nat}, nodupB l = true → l.Nodup
  | [], _ => by simp
  | x :: l, h => by
    simp only [nodupB, Bool.and_eq_true, Bool.not_eq_true'] at h
    rw [List.nodup_cons]
    refine ⟨fun hm => ?_, nodupB_ok h.2⟩
    have := List.any_eq_false.1 h.1 x hm
    simp at this

theorem SatB_mem {s : St} : ∀ {l : List Box}, SatB s l → ∀ x, x ∈ l → lk x.1 s.b = some x.2
  | _ :: _, h, x, hx => by
    rcases List.mem_cons.1 hx with e | hx
    · subst e; exact h.1
    · exact SatB_mem h.2 x hx

theorem LR_callB {f : FuncId} {fn : Func} {xs : List Operand} {ats : Array TypeId} {ty : TypeId} {pos : String} {after : Array Edge} {d : Nat} {r : List (Nat × TV)} {args : List TV} {bi bo : List Box} {res : AV} (ρ ρi : List (Nat × Nat)) (hf : P.funcs[f]? = some fn) (hb : fn.body.isNone = false) (hnm : (fn.name == "runtime.NumGoroutine") = false)
    (hfn : FnB P f args bi res bo) (hx : AllAtT xs (args.map (ren ρ)) r) (hk : keysOf bo = keysOf bi) (hnd : nodupB (keysOf (bo.map (renB ρ))) = true) (hinv : (bo.all fun x => (lk (rn ρ x.1) ρi).any (Nat.beq x.1)) = true) (hcov : (ρi.all fun y => (keysOf (bo.map (renB ρ))).any (Nat.beq y.1)) = true) (hn : Nat.blt d n = true) :
    LR P n ops ⟨some d, .call ⟨.value (.func f), xs.toArray, ats⟩, ty, pos, after, none⟩ ⟨r, bi.map (renB ρ), []⟩ ⟨[(d, .inl res)], bo.map (renB ρ)⟩ := by
  refine ⟨?_⟩
  intro B s a w hB hs ⟨bn, h⟩
  unfold OpK
  rw [if_pos (by simp [Region.wanted])]
  have hrun : (execOp a.eval ⟨some d, .call ⟨.value (.func f), xs.toArray, ats⟩, ty, pos, after, none⟩).run P w = .ok (.enter f (xs.map a.eval).toArray) w := by
    simp only [execOp, resolve, Act.eval, Deferred.ofValue]
    rw [Sem.run_bind]
    simp only [Sem.run_pure, Result.andThen_ok, invoke]
    rw [run_callFunc hf hb hnm]
    simp
  unfold Oper.wp
  rw [hrun]
  have hkey : keysOf (bo.map (renB ρ)) = keysOf (bi.map (renB ρ)) := by
    have e : ∀ l : List Box, keysOf (l.map (renB ρ)) = (keysOf l).map (rn ρ) := fun l => by simp only [keysOf, List.map_map]; rfl
    rw [e, e, hk]
  have hkn : KN (bo.map (renB ρ)) := nodupB_ok hnd
  have hmemS : ∀ x, x ∈ bi.map (renB ρ) → x ∈ s.b := fun x hx' => lk_mem (SatB_mem hs.2.1 x hx')
  have hsubT : ∀ b, b ∈ blks bn (bi.map (renB ρ)) → b ∈ blks bn s.b := fun b hb' => by
    obtain ⟨x, hx', e⟩ := mem_blks.1 hb'
    exact mem_blks.2 ⟨x, hmemS x hx', e⟩
  have hblkbi : blks (fun k => bn (rn ρ k)) bi = blks bn (bi.map (renB ρ)) := (blks_ren bi).symm
  have hknbi : KN (bi.map (renB ρ)) := by show (keysOf _).Nodup; rw [← hkey]; exact hkn
  have hnodbi : (blks bn (bi.map (renB ρ))).Nodup := nodup_blks hknbi (fun x hx' => nodup_part h.nod (hmemS x hx')) fun x hx' y hy hne b hbx hby => blks_apart h.nod (hmemS x hx') (hmemS y hy) hne hbx hby
  have hcall := hfn w (cur B (blks bn s.b) w) (fun k => bn (rn ρ k)) (xs.map a.eval) (fun b o e => ⟨(h.curIn b o e).2, fun hm => (h.curIn b o e).1 (hsubT b (by rw [← hblkbi]; exact hm))⟩) (by rw [hblkbi]; exact hnodbi)
    (fun x hx' => h.box _ (hmemS _ (List.mem_map_of_mem hx'))) (AllT_ren (hx B bn s a w hs.1 h))
  refine hcall.mono ?_
  rintro e w' ⟨v, bnc, rfl, hv, hext, hrest, hnod', hcont⟩
  let bn' : Nat → Loc := fun j => match lk j ρi with | some k => bnc k | none => bn j
  have hbn' : ∀ x, x ∈ bo → bn' (rn ρ x.1) = bnc x.1 := fun x hx' => by
    have := List.all_eq_true.1 hinv x hx'
    simp only [Option.any] at this
    split at this
    · rename_i y hy
      have := beq_true this
      show (match lk (rn ρ x.1) ρi with | some k => bnc k | none => bn (rn ρ x.1)) = _
      rw [hy, ← this]
    · cases this
  have hblkbo : blks bn' (bo.map (renB ρ)) = blks bnc bo := by
    rw [blks_ren]
    unfold blks
    exact flatMap_congr' fun x hx' => by show (bn' (rn ρ x.1)).xs = _; rw [hbn' x hx']
  have hsame : ∀ j, j ∉ keysOf (bo.map (renB ρ)) → bn' j = bn j := fun j hj => by
    have : lk j ρi = none := by
      cases hl : lk j ρi with
      | none => rfl
      | some k =>
        exfalso
        have h1 := List.all_eq_true.1 hcov _ (lk_mem hl)
        obtain ⟨z, hz, e⟩ := List.any_eq_true.1 h1
        have e2 : j = z := beq_true e
        exact hj (e2 ▸ hz)
    show (match lk j ρi with | some k => bnc k | none => bn j) = _
    rw [this]
  have hT : blks bn (bo.map (renB ρ)) = blks bn (bi.map (renB ρ)) := blks_keys hkey
  have hwit : ∀ y, y ∈ bo.map (renB ρ) → ∃ x, x ∈ bo ∧ y = renB ρ x := fun y hy => by obtain ⟨x, hx', e⟩ := List.mem_map.1 hy; exact ⟨x, hx', e.symm⟩
  obtain ⟨g1, g2⟩ := h.updMany (bn' := bn') (bo := bo.map (renB ρ)) (w' := w') hkn
    (fun y hy => by
      have : y.1 ∈ keysOf (bi.map (renB ρ)) := by rw [← hkey]; exact List.mem_map_of_mem hy
      obtain ⟨z, hz, e⟩ := List.mem_map.1 this
      rw [← e, SatB_mem hs.2.1 z hz]; rfl)
    hsame
    (fun y hy => by obtain ⟨x, hx', rfl⟩ := hwit y hy; simp only [renB, hbn' x hx']; exact (hrest x hx').1)
    (fun y hy => by obtain ⟨x, hx', rfl⟩ := hwit y hy; simp only [renB, hbn' x hx']; exact (hrest x hx').2.1)
    (fun y hy b hb' => by
      obtain ⟨x, hx', rfl⟩ := hwit y hy
      simp only [renB, hbn' x hx'] at hb'
      rw [hT, ← hblkbi]; exact (hrest x hx').2.2 b hb')
    (by rw [hblkbo]; exact hnod')
    (fun b hb' hnb => hext.block b hb' (by rw [hblkbi, ← hT]; exact hnb)) hext.size hext.os hext.tape hext.output
    (fun y hy => by
      obtain ⟨x, hx', rfl⟩ := hwit y hy
      simp only [renB, hbn' x hx', hblkbo]
      exact hcont x hx')
  rw [hblkbo] at g2
  exact ⟨bn', g1.put (by rw [hB]; simpa [Nat.blt_eq] using hn) (res.up _ _ _ g2 hv)⟩

/-! ### The body of a function to which memory is lent -/

def entryT : Nat → List TV → List (Nat × TV)
  | _, [] => []
  | i, a :: l => (i, a) :: entryT (i + 1) l

theorem entryT_lk {H : PH} {bn : Nat → Loc} : ∀ {l : List TV} {vs : List Value} (j : Nat), AllT H bn l vs → ∀ i tv, lk i (entryT j l) = some tv → ∃ v, j ≤ i ∧ vs[i - j]? = some v ∧ tv.holds H bn v
  | [], _, _, _, i, tv, e => by simp [entryT, lk] at e
  | a :: l, v :: vs, j, h, i, tv, e => by
    simp only [entryT, lk] at e
    split at e
    · rename_i hb
      have := beq_true hb
      cases e
      exact ⟨v, by omega, by subst this; simp, h.1⟩
    · rename_i hb
      have hne := beq_false hb
      obtain ⟨v', h2, h3, h4⟩ := entryT_lk (j + 1) h.2 i tv e
      refine ⟨v', by omega, ?_, h4⟩
      have : i - j = (i - (j + 1)) + 1 := by omega
      rw [this]; simpa using h3
  | _ :: _, [], _, h, _, _, _ => h.elim

def EndsB (P : Program) (fn : Func) (res : AV) (bo : List Box) : Exit → St → Prop
  | .ret, s => ResAt P fn s res ∧ bo.Sublist s.b
  | .normal, s => ResAt P fn s res ∧ bo.Sublist s.b
  | _, _ => False

def HFrees : List Box → Prop
  | [] => True
  | x :: l => HFree x.2 ∧ HFrees l

theorem HFrees.mem : ∀ {l : List Box}, HFrees l → ∀ x, x ∈ l → HFree x.2
  | _ :: _, h, x, hx => by
    rcases List.mem_cons.1 hx with e | hx
    · subst e; exact h.1
    · exact HFrees.mem h.2 x hx

theorem fnB_intro {f : FuncId} {fn : Func} {c : Code} {args : List TV} {bi bo : List Box} {res : AV} {n : Nat} (hf : P.funcs[f]? = some fn) (hb : fn.body = some c) (hnt : fn.ntmps = n) (hn : Nat.ble args.length n = true) (hkn : nodupB (keysOf bi) = true) (hk : keysOf bo = keysOf bi) (hfr : HFrees bo)
    (h : ∀ bn0 w0 H0, AW P ⟨n, keysOf bi, bn0, w0, H0⟩ c (EndsB P fn res bo) ⟨entryT 0 args, bi⟩) : FnB P f args bi res bo := by
  intro w H bn vs hH hnod hbox hA
  subst hnt
  have hlen := hA.length
  have hn' : args.length ≤ fn.ntmps := by simpa [Nat.ble_eq] using hn
  let B : Base := ⟨fn.ntmps, keysOf bi, bn, w, fun b => if b < w.heap.size then H b else none⟩
  have hlent : B.lent = blks bn bi := by simp only [Base.lent, B, blks, keysOf, List.flatMap_map]
  have hdom : ∀ b, b ∈ blks bn bi → b < w.heap.size := fun b hb' => by
    obtain ⟨x, hx, e⟩ := mem_blks.1 hb'
    exact isSome_lt (x.2.dom _ _ _ (hbox x hx) b e)
  have hcur : PH.le H (cur B (blks bn bi) w) := fun b o e => by
    obtain ⟨h1, h2⟩ := hH b o e
    have hlt : b < w.heap.size := by
      rcases Nat.lt_or_ge b w.heap.size with h' | h'
      · exact h'
      · rw [Array.getElem?_eq_none h'] at h1; cases h1
    unfold cur
    rw [if_neg h2]
    show (if b < w.heap.size then (if b < w.heap.size then H b else none) else _) = _
    rw [if_pos hlt, if_pos hlt]; exact e
  have hrel : Rel B ⟨entryT 0 args, bi⟩ { tmps := vs.toArray ++ Array.replicate (fn.ntmps - vs.toArray.size) undef, defers := [] } w := by
    refine ⟨bn, rfl, ?_, ?_, ?_, ?_, ?_, ?_, ?_, ?_, ?_, ?_⟩
    · simp [B]; omega
    · exact Ext.refl _ _
    · intro b o e
      have e' : (if b < w.heap.size then H b else none) = some o := e
      split at e'
      · rename_i hlt; exact ⟨hlt, (hH b o e').1, by rw [hlent]; exact (hH b o e').2⟩
      · cases e'
    · intro k _; rfl
    · intro k hk'; obtain ⟨x, hx, e⟩ := List.mem_map.1 hk'; exact ⟨x, hx, e⟩
    · exact nodupB_ok hkn
    · exact hnod
    · intro x hx b hb'; right; rw [hlent]; exact mem_blks.2 ⟨x, hx, hb'⟩
    · intro x hx; exact x.2.up _ _ _ _ _ hcur (fun _ _ => rfl) (hbox x hx)
    · intro i tv e
      obtain ⟨v, _, h3, h4⟩ := entryT_lk 0 hA i tv e
      simp only [Nat.sub_zero] at h3
      have hlt : i < vs.length := by
        rcases Nat.lt_or_ge i vs.length with h' | h'
        · exact h'
        · rw [List.getElem?_eq_none h'] at h3; cases h3
      have : (vs.toArray ++ Array.replicate (fn.ntmps - vs.toArray.size) undef).getD i undef = v := by
        rw [Array.getD_eq_getD_getElem?, Array.getElem?_append_left (by simpa using hlt)]
        simp [h3]
      show TV.holds _ _ tv _
      rw [this]
      exact TV.holds_up hcur (fun _ _ => rfl) h4
  refine calls_of_wp hf hb (wp_mono (h _ _ _ _ w hrel) ?_)
  rintro e a' w' ⟨s', hq, bn1, hr⟩
  have fin : ResAt P fn s' res ∧ bo.Sublist s'.b → ∃ v, (results fn a'.tmps).run P w' = .ok v w' ∧ ∃ (v' : Value) (bn' : Nat → Loc), Ending.returned v = .returned v' ∧ res.p (extO H w w' (blks bn' bo)) v' ∧ Ext (blks bn bi) w w' ∧
      (∀ x, x ∈ bo → (bn' x.1).b = (bn x.1).b ∧ (bn' x.1).h = (bn x.1).h ∧ ∀ b, b ∈ (bn' x.1).xs → b ∈ blks bn bi ∨ w.heap.size ≤ b) ∧ (blks bn' bo).Nodup ∧ (∀ x, x ∈ bo → x.2.p (hpOf w') (extO H w w' (blks bn' bo)) (bn' x.1)) := by
    rintro ⟨hres, hsub⟩
    obtain ⟨v, h1, h2⟩ := hres B bn1 a' w' hr
    let bn' : Nat → Loc := fun k => ⟨(bn1 k).xs, (bn k).h⟩
    have hblk : blks bn' bo = blks bn1 bo := rfl
    have hsubb : ∀ b, b ∈ blks bn1 bo → b ∈ blks bn1 s'.b := fun b hb' => by
      obtain ⟨x, hx, e⟩ := mem_blks.1 hb'
      exact mem_blks.2 ⟨x, hsub.subset hx, e⟩
    have hle : PH.le (cur B (blks bn1 s'.b) w') (extO H w w' (blks bn1 bo)) := fun b o e => by
      unfold cur at e
      unfold extO
      split at e
      · cases e
      · rename_i hnb
        rw [if_neg (fun hm => hnb (hsubb b hm))]
        split at e
        · rename_i hlt
          have e' : (if b < w.heap.size then H b else none) = some o := e
          have hlt' : b < w.heap.size := hlt
          rw [if_pos hlt'] at e' ⊢; exact e'
        · rename_i hge
          have hge' : ¬ b < w.heap.size := hge
          rw [if_neg hge']; exact e
    have hkbo : ∀ x, x ∈ bo → x.1 ∈ keysOf bi := fun x hx => by rw [← hk]; exact List.mem_map_of_mem hx
    refine ⟨v, h1, v, bn', rfl, res.up _ _ _ hle h2, by rw [← hlent]; exact hr.ext, fun x hx => ⟨hr.keep x.1 (hkbo x hx), rfl, fun b hb' => ?_⟩, ?_, fun x hx => ?_⟩
    · rcases hr.own x (hsub.subset hx) b hb' with h' | h'
      · exact .inr h'
      · left; rw [← hlent]; exact h'
    · rw [hblk]
      exact nodup_blks (by have : (keysOf bo).Nodup := by rw [hk]; exact nodupB_ok hkn
                           exact this) (fun x hx => nodup_part hr.nod (hsub.subset hx)) fun x hx y hy hne b hbx hby => blks_apart hr.nod (hsub.subset hx) (hsub.subset hy) hne hbx hby
    · exact hfr.mem x hx _ _ _ (bn1 x.1).h _ (x.2.up _ _ _ _ _ hle (fun _ _ => rfl) (hr.box x (hsub.subset hx)))
  cases e with
  | ret => exact ⟨hr.defs, fin hq⟩
  | normal => exact ⟨hr.defs, fin hq⟩
  | _ => exact hq.elim
end
end Go.Aw
