/-
  The abstract layer: states of known temporaries and owned boxes; persistent facts on the heap as monotone predicates; local rules.
-/
import Derived.WalkKit
import Derived.Orders
namespace Go.Aw
open Go.RowKit

/-- A part of the heap that nobody writes. -/
abbrev PH := Nat → Option Obj

def PH.le (H H' : PH) : Prop := ∀ b o, H b = some o → H' b = some o

theorem PH.le_refl (H : PH) : PH.le H H := fun _ _ h => h
theorem PH.le_trans {A B C : PH} (h : PH.le A B) (k : PH.le B C) : PH.le A C := fun b o e => k b o (h b o e)

/-- What is known of a value: a predicate that stays when the heap's quiet part grows. -/
structure AV where
  p : PH → Value → Prop
  up : ∀ (H H' : PH) (v : Value), PH.le H H' → p H v → p H' v

def is (v : Value) : AV := ⟨fun _ x => x = v, fun _ _ _ _ h => h⟩

def All2 (H : PH) : List AV → List Value → Prop
  | [], [] => True
  | a :: as, v :: vs => a.p H v ∧ All2 H as vs
  | _, _ => False

theorem All2.up {H H' : PH} (hle : PH.le H H') : ∀ {as : List AV} {vs : List Value}, All2 H as vs → All2 H' as vs
  | [], [], _ => trivial
  | a :: _, v :: _, h => ⟨a.up H H' v hle h.1, All2.up hle h.2⟩
  | [], _ :: _, h => h.elim
  | _ :: _, [], h => h.elim

theorem All2.length {H : PH} : ∀ {as : List AV} {vs : List Value}, All2 H as vs → as.length = vs.length
  | [], [], _ => rfl
  | _ :: _, _ :: _, h => by simp [All2.length h.2]
  | [], _ :: _, h => h.elim
  | _ :: _, [], h => h.elim

def agg (l : List AV) : AV := ⟨fun H v => ∃ vs : List Value, v = .agg vs.toArray ∧ All2 H l vs, fun _ _ _ hle ⟨vs, e, h⟩ => ⟨vs, e, h.up hle⟩⟩
def tup (l : List AV) : AV := ⟨fun H v => ∃ vs : List Value, v = .tuple vs.toArray ∧ All2 H l vs, fun _ _ _ hle ⟨vs, e, h⟩ => ⟨vs, e, h.up hle⟩⟩

/-- Where a resource of ours lies: its blocks, the first its base; the values that it has handed out. -/
structure Loc where
  xs : List Nat
  h : Nat → Value

def Loc.b (L : Loc) : Nat := L.xs.headD 0

/-- What a temporary holds: a value that is known; a pointer into a box of ours; a slice over a box of ours; a value that a resource has handed out. -/
abbrev TV := AV ⊕ ((Nat × Nat) ⊕ ((Nat × Nat × Nat × Nat) ⊕ (Nat × Nat)))

def TV.holds (H : PH) (bn : Nat → Loc) : TV → Value → Prop
  | .inl av, v => av.p H v
  | .inr (.inl (k, off)), v => v = .pointer (some ⟨(bn k).b, off, none⟩)
  | .inr (.inr (.inl (k, off, len, cap))), v => v = .slice (some ⟨(bn k).b, off, none⟩) len cap
  | .inr (.inr (.inr (k, g))), v => v = (bn k).h g

/-- The resource that it speaks of. -/
def TV.box : TV → Option Nat
  | .inl _ => none
  | .inr (.inl (k, _)) => some k
  | .inr (.inr (.inl (k, _, _, _))) => some k
  | .inr (.inr (.inr (k, _))) => some k

theorem TV.holds_up {H H' : PH} {bn bn' : Nat → Loc} {tv : TV} {v : Value} (hle : PH.le H H') (hb : ∀ k, tv.box = some k → bn' k = bn k) (h : tv.holds H bn v) : tv.holds H' bn' v := by
  match tv with
  | .inl av => exact av.up H H' v hle h
  | .inr (.inl (k, off)) => simp only [TV.holds] at h ⊢; rw [hb k rfl]; exact h
  | .inr (.inr (.inl (k, off, len, cap))) => simp only [TV.holds] at h ⊢; rw [hb k rfl]; exact h
  | .inr (.inr (.inr (k, g))) => simp only [TV.holds] at h ⊢; rw [hb k rfl]; exact h

/-- What is known of a resource: of the heap at its blocks. -/
structure Cont where
  p : (Nat → Option Obj) → PH → Loc → Prop
  up : ∀ (hp hp' : Nat → Option Obj) (H H' : PH) (L : Loc), PH.le H H' → (∀ b, b ∈ L.xs → hp' b = hp b) → p hp H L → p hp' H' L
  dom : ∀ (hp : Nat → Option Obj) (H : PH) (L : Loc), p hp H L → ∀ b, b ∈ L.xs → (hp b).isSome = true

/-- A box: one block of cells. -/
def pb (ty : TypeId) (cells : List AV) : Cont :=
  ⟨fun hp H L => ∃ b, L.xs = [b] ∧ ∃ vs : List Value, hp b = some (.cells vs.toArray ty (0, 0)) ∧ All2 H cells vs,
   fun _ _ _ _ _ hle hb ⟨b, e, vs, h1, h2⟩ => ⟨b, e, vs, (hb b (by rw [e]; exact List.mem_singleton.2 rfl)).trans h1, h2.up hle⟩,
   fun _ _ _ ⟨b, e, vs, h1, _⟩ b' hb' => by rw [e, List.mem_singleton] at hb'; subst hb'; rw [h1]; rfl⟩

/-- The first entry under a key. -/
def lk {α : Type} (i : Nat) : List (Nat × α) → Option α
  | [] => none
  | x :: l => match Nat.beq x.1 i with
    | true => some x.2
    | false => lk i l

abbrev Box := Nat × Cont

structure St where
  t : List (Nat × TV)
  b : List Box

def setB (k : Nat) (c : Cont) : List Box → List Box
  | [] => [(k, c)]
  | x :: l => match Nat.beq x.1 k with
    | true => (k, c) :: l
    | false => x :: setB k c l

def setBs : List Box → List Box → List Box
  | [], l => l
  | x :: r, l => setBs r (setB x.1 x.2 l)

/-- The state behind an update. -/
def St.upd (s W : St) : St := ⟨W.t ++ s.t, setBs W.b s.b⟩

def keysNot (k : Nat) : List Box → Bool
  | [] => true
  | x :: l => !Nat.beq x.1 k && keysNot k l

def refsNot (k : Nat) : List (Nat × TV) → Bool
  | [] => true
  | x :: l => (match x.2 with | .inl _ => true | .inr (.inl (j, _)) => !Nat.beq j k | .inr (.inr (.inl (j, _, _, _))) => !Nat.beq j k | .inr (.inr (.inr (j, _))) => !Nat.beq j k) && refsNot k l

/-- Nothing in the state speaks of box k. -/
def St.fresh (s : St) (k : Nat) : Bool := keysNot k s.b && refsNot k s.t

def SatT (s : St) : List (Nat × TV) → Prop
  | [] => True
  | x :: l => lk x.1 s.t = some x.2 ∧ SatT s l

def SatB (s : St) : List Box → Prop
  | [] => True
  | x :: l => lk x.1 s.b = some x.2 ∧ SatB s l

def SatF (s : St) : List Nat → Prop
  | [] => True
  | k :: l => s.fresh k = true ∧ SatF s l

/-- What an operation asks of the state: temporaries, boxes, keys that nobody speaks of. -/
structure Req where
  t : List (Nat × TV)
  b : List Box
  f : List Nat

def Sat (s : St) (R : Req) : Prop := SatT s R.t ∧ SatB s R.b ∧ SatF s R.f

structure Base where
  n : Nat
  kb : List Nat
  bn0 : Nat → Loc
  w0 : World
  H0 : PH

/-- All blocks of ours. -/
def blks (bn : Nat → Loc) (l : List Box) : List Nat := l.flatMap fun x => (bn x.1).xs

/-- The blocks that were lent to us. -/
def Base.lent (B : Base) : List Nat := B.kb.flatMap fun k => (B.bn0 k).xs

def hpOf (w : World) : Nat → Option Obj := fun b => w.heap[b]?

/-- The quiet part of the heap, now. -/
def cur (B : Base) (bs : List Nat) (w : World) : PH := fun b => if b ∈ bs then none else if b < B.w0.heap.size then B.H0 b else w.heap[b]?

/-- Nothing old has turned but the blocks of 'bs'. -/
structure Ext (bs : List Nat) (w w' : World) : Prop where
  os : w'.os = w.os
  tape : w'.tape = w.tape
  output : w'.output = w.output
  size : w.heap.size ≤ w'.heap.size
  block : ∀ k, k < w.heap.size → k ∉ bs → w'.heap[k]? = w.heap[k]?

theorem Ext.refl (bs : List Nat) (w : World) : Ext bs w w := ⟨rfl, rfl, rfl, Nat.le_refl _, fun _ _ _ => rfl⟩

structure RelB (B : Base) (bn : Nat → Loc) (s : St) (a : Act) (w : World) : Prop where
  defs : a.defers = []
  size : a.tmps.size = B.n
  ext : Ext B.lent B.w0 w
  base : ∀ b o, B.H0 b = some o → b < B.w0.heap.size ∧ B.w0.heap[b]? = some o ∧ b ∉ B.lent
  keep : ∀ k, k ∈ B.kb → (bn k).b = (B.bn0 k).b
  here : ∀ k, k ∈ B.kb → ∃ x, x ∈ s.b ∧ x.1 = k
  kn : (s.b.map (·.1)).Nodup
  nod : (blks bn s.b).Nodup
  own : ∀ x, x ∈ s.b → ∀ b, b ∈ (bn x.1).xs → B.w0.heap.size ≤ b ∨ b ∈ B.lent
  box : ∀ x, x ∈ s.b → x.2.p (hpOf w) (cur B (blks bn s.b) w) (bn x.1)
  tmp : ∀ i tv, lk i s.t = some tv → TV.holds (cur B (blks bn s.b) w) bn tv (a.tmps.getD i undef)

def Rel (B : Base) (s : St) (a : Act) (w : World) : Prop := ∃ bn, RelB B bn s a w

/-- One operation of a region comes up. -/
def OpK (P : Program) (ops : Array Oper) (o : Oper) (a : Act) (w : World) (K : Act → World → Prop) : Prop :=
  if Region.wanted o (yielded ops a.tmps) then o.wp P a w K (fun _ _ _ => False) else K (a.put o.dst undef) w

/-- A local rule: whoever meets 'R' is updated by 'W'. -/
structure LR (P : Program) (n : Nat) (ops : Array Oper) (o : Oper) (R : Req) (W : St) : Prop where
  out : ∀ B s a w, B.n = n → Sat s R → Rel B s a w → OpK P ops o a w (fun a' w' => Rel B (s.upd W) a' w')

def AW (P : Program) (B : Base) (c : Code) (Q : Exit → St → Prop) (s : St) : Prop :=
  ∀ a w, Rel B s a w → c.wp P (fun e a' w' => ∃ s', Q e s' ∧ Rel B s' a' w') a w

structure AL (P : Program) (B : Base) (ops : Array Oper) (Q : Exit → St → Prop) (l : List Oper) (s : St) : Prop where
  out : ∀ a w, Rel B s a w → wpList P ops (fun e a' w' => ∃ s', Q e s' ∧ Rel B s' a' w') l a w

/-! ### Control -/
section
variable {P : Program} {B : Base} {Q : Exit → St → Prop} {s : St}

theorem Oper.wp_false {o : Oper} {a : Act} {w : World} {K K' : Act → World → Prop} {Q' : Exit → Act → World → Prop} (h : ∀ a w, K a w → K' a w)
    (hh : o.wp P a w K (fun _ _ _ => False)) : o.wp P a w K' Q' := by
  unfold Oper.wp at *
  generalize (execOp a.eval o).run P w = r at *
  cases r with
  | ok n w' =>
    cases n <;> simp only [Oper.upon] at hh ⊢ <;>
      first
        | exact h _ _ hh
        | exact Calls.mono hh (fun e w'' he => by
            cases e with
            | returned v => exact h _ _ he
            | panicked c => exact he.elim
            | outgrown => obtain ⟨_, _, hf⟩ := he; exact hf.elim)
        | exact Rows.mono hh (fun _ _ he => h _ _ he)
  | halt x w' => cases x <;> simp only [Oper.upon] at hh

theorem AL_nil {ops : Array Oper} (h : Q .normal s) : AL P B ops Q [] s := ⟨fun _ _ hr => ⟨s, h, hr⟩⟩

theorem AL_cons {ops : Array Oper} {o : Oper} {rest : List Oper} {R : Req} {W : St} (hl : LR P B.n ops o R W) (hs : Sat s R)
    (h : AL P B ops Q rest (s.upd W)) : AL P B ops Q (o :: rest) s := by
  refine ⟨?_⟩
  intro a w hr
  have h1 := hl.out B s a w rfl hs hr
  unfold OpK at h1
  unfold wpList
  split
  · rename_i hw
    rw [if_pos hw] at h1
    exact .inl (Oper.wp_false (fun a w => h.out a w) h1)
  · rename_i hw
    rw [if_neg hw] at h1
    exact h.out _ _ h1

theorem AW_region {id : Nat} {l : List Oper} (h : AL P B l.toArray Q l s) : AW P B (.region id l.toArray false) Q s :=
  fun a w hr => wp_region_lit (h.out a w hr)

theorem AW_mono {c : Code} {Q' : Exit → St → Prop} (h : AW P B c Q s) (hq : ∀ e s, Q e s → Q' e s) : AW P B c Q' s :=
  fun a w hr => wp_mono (h a w hr) fun _ _ _ ⟨s', h1, h2⟩ => ⟨s', hq _ _ h1, h2⟩

structure thenQ (M : St → Prop) (Q : Exit → St → Prop) (e : Exit) (s : St) : Prop where
  out : match e with | .normal => M s | e => Q e s

theorem thenN {M : St → Prop} {Q : Exit → St → Prop} {s : St} (h : M s) : thenQ M Q .normal s := ⟨h⟩
theorem thenX {M : St → Prop} {Q : Exit → St → Prop} {s : St} {id : Nat} (h : Q (.exit id) s) : thenQ M Q (.exit id) s := ⟨h⟩
theorem thenR {M : St → Prop} {Q : Exit → St → Prop} {s : St} (h : Q .ret s) : thenQ M Q .ret s := ⟨h⟩

theorem AW_seq {x y : Code} (M : St → Prop) (h : AW P B x (thenQ M Q) s) (k : ∀ s', M s' → AW P B y Q s') : AW P B (.seq x y) Q s := by
  intro a w hr
  refine wp_seq (wp_mono (h a w hr) ?_)
  rintro e a' w' ⟨s', ⟨h1⟩, h2⟩
  cases e <;> first | exact k s' h1 a' w' h2 | exact ⟨s', h1, h2⟩

/-- The state in the middle is known to the letter. -/
theorem AW_seq1 {x y : Code} (h : AW P B x (thenQ (AW P B y Q) Q) s) : AW P B (.seq x y) Q s :=
  AW_seq (AW P B y Q) h fun _ h => h

theorem AW_skip (h : Q .normal s) : AW P B .skip Q s := fun _ _ hr => wp_skip ⟨s, h, hr⟩
theorem AW_ret (h : Q .ret s) : AW P B .ret Q s := fun _ _ hr => wp_ret ⟨s, h, hr⟩
theorem AW_exit {id : Nat} (h : Q (.exit id) s) : AW P B (.exit id) Q s := fun _ _ hr => wp_exit ⟨s, h, hr⟩

structure blockQ (id : Nat) (Q : Exit → St → Prop) (e : Exit) (s : St) : Prop where
  out : match e with | .exit id' => if id' = id then Q .normal s else Q (.exit id') s | e => Q e s

theorem blN {id : Nat} {Q : Exit → St → Prop} {s : St} (h : Q .normal s) : blockQ id Q .normal s := ⟨h⟩
theorem blR {id : Nat} {Q : Exit → St → Prop} {s : St} (h : Q .ret s) : blockQ id Q .ret s := ⟨h⟩
theorem blH {id : Nat} {Q : Exit → St → Prop} {s : St} (h : Q .normal s) : blockQ id Q (.exit id) s := ⟨by simp only [if_true]; exact h⟩
theorem blO {id id' : Nat} {Q : Exit → St → Prop} {s : St} (hne : id' ≠ id) (h : Q (.exit id') s) : blockQ id Q (.exit id') s := ⟨by simp only [if_neg hne]; exact h⟩

theorem AW_block {id : Nat} {c : Code} (h : AW P B c (blockQ id Q) s) : AW P B (.block id c) Q s := by
  intro a w hr
  refine wp_block (wp_mono (h a w hr) ?_)
  rintro e a' w' ⟨s', ⟨h1⟩, h2⟩
  cases e with
  | exit id' =>
    simp only [] at h1
    simp only [Exit.inBlock]
    split
    · rename_i hid; rw [if_pos hid] at h1; exact ⟨s', h1, h2⟩
    · rename_i hid; rw [if_neg hid] at h1; exact ⟨s', h1, h2⟩
  | _ => exact ⟨s', h1, h2⟩

theorem AW_cond {i : Nat} {x y : Code} {b : Bool} (hb : lk i s.t = some (.inl (is (.bool b)))) (ht : b = true → AW P B x Q s) (hf : b = false → AW P B y Q s) :
    AW P B (.cond (.tmp i) x y) Q s := by
  intro a w hr
  obtain ⟨bn, hb'⟩ := hr
  have he : a.eval (.tmp i) = .bool b := hb'.tmp i _ hb
  exact wp_cond_split he (fun h => ht h a w ⟨bn, hb'⟩) (fun h => hf h a w ⟨bn, hb'⟩)

/-- Forgetting temporaries. -/
theorem Rel.forget {s' : St} {a : Act} {w : World} (hr : Rel B s a w) (ht : ∀ i tv, lk i s'.t = some tv → lk i s.t = some tv) (hb : s'.b = s.b) : Rel B s' a w := by
  obtain ⟨bn, h⟩ := hr
  exact ⟨bn, h.defs, h.size, h.ext, h.base, h.keep, by rw [hb]; exact h.here, by rw [hb]; exact h.kn, by rw [hb]; exact h.nod, by rw [hb]; exact h.own, by rw [hb]; exact h.box, by rw [hb]; exact fun i tv e => h.tmp i tv (ht i tv e)⟩

/-- A loop: a relation on states, and a measure. -/
theorem AW_loop {c : Code} {σ : Type} (emb : σ → St) (μ : σ → Nat) (x0 : σ) (I : σ → Prop) (hs : s = emb x0) (h0 : I x0)
    (round : ∀ x, I x → AW P B c (thenQ (fun s' => ∃ x', s' = emb x' ∧ I x' ∧ μ x' < μ x) Q) (emb x)) : AW P B (.loop c) Q s := by
  subst hs
  intro a w hr b k cs
  have key : ∀ n x, μ x = n → I x → ∀ a w, Rel B (emb x) a w →
      ∃ e a' w', (∃ s', Q e s' ∧ Rel B s' a' w') ∧ Arrives P (lone (b.at a (.code c :: .inLoop c :: k)) cs w) b k cs e a' w' := by
    intro n
    induction n using Nat.strongRecOn with
    | _ n ih =>
      intro x hn hI a w hr
      obtain ⟨e, a₁, w₁, ⟨s1, ⟨hq⟩, hr1⟩, harr⟩ := round x hI a w hr b (.inLoop c :: k) cs
      cases e with
      | normal =>
        obtain ⟨x', rfl, hI', hlt⟩ := hq
        obtain ⟨e₂, a₂, w₂, hq₂, harr₂⟩ := ih (μ x') (hn ▸ hlt) x' rfl hI' a₁ w₁ hr1
        exact ⟨e₂, a₂, w₂, hq₂, .of_steps (Steps.trans harr (.one step_inLoop)) harr₂⟩
      | exit id => exact ⟨_, a₁, w₁, ⟨s1, hq, hr1⟩, .pass (x := .inLoop c) rfl (fun _ _ => .inl (by simp)) harr⟩
      | goto l => exact ⟨_, a₁, w₁, ⟨s1, hq, hr1⟩, .pass (x := .inLoop c) rfl (fun _ _ => .inl (by simp)) harr⟩
      | ret => exact ⟨_, a₁, w₁, ⟨s1, hq, hr1⟩, .pass (x := .inLoop c) rfl (fun _ _ => .inl (by simp)) harr⟩
      | panic ch => exact ⟨_, a₁, w₁, ⟨s1, hq, hr1⟩, .pass (x := .inLoop c) rfl (fun _ _ => .inl (by simp)) harr⟩
      | outgrown => exact ⟨_, a₁, w₁, ⟨s1, hq, hr1⟩, .pass (x := .inLoop c) rfl (fun _ _ => .inl (by simp)) harr⟩
  obtain ⟨e, a', w', hq, harr⟩ := key _ x0 rfl h0 a w hr
  exact ⟨e, a', w', hq, .of_steps (.one step_loop) harr⟩
end
end Go.Aw
