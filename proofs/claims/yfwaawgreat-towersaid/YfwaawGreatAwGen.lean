/-
  What the written proofs lean on: cuts, conditions under an equation, small constructors.
-/
import Derived.Test.YfwaawGreatOps
namespace Go.Aw
open Go.RowKit

theorem cond_t {α : Type} {c : Bool} {a b : α} (h : c = true) : (bif c then a else b) = a := by rw [h]; rfl
theorem cond_f {α : Type} {c : Bool} {a b : α} (h : c = false) : (bif c then a else b) = b := by rw [h]; rfl

theorem sT0 {s : St} : SatT s [] := trivial
theorem sT {s : St} {i : Nat} {tv : TV} {l : List (Nat × TV)} (h : lk i s.t = some tv) (k : SatT s l) : SatT s ((i, tv) :: l) := ⟨h, k⟩
theorem sT1 {s : St} {i : Nat} {tv : TV} (h : lk i s.t = some tv) : SatT s [(i, tv)] := ⟨h, trivial⟩
theorem sA {s : St} {r r' : List (Nat × TV)} (h : SatT s r) (k : SatT s r') : SatT s (r ++ r') := SatT_append.2 ⟨h, k⟩
theorem sB0 {s : St} : SatB s [] := trivial
theorem sB1 {s : St} {k : Nat} {c : Cont} (h : lk k s.b = some c) : SatB s [(k, c)] := ⟨h, trivial⟩
theorem sF0 {s : St} : SatF s [] := trivial
theorem sF1 {s : St} {k : Nat} (h : s.fresh k = true) : SatF s [k] := ⟨h, trivial⟩
theorem sS {s : St} {R : Req} (h : SatT s R.t) (k : SatB s R.b) (f : SatF s R.f) : Sat s R := ⟨h, k, f⟩

theorem SatT.lk {s : St} : ∀ {l : List (Nat × TV)}, SatT s l → ∀ i tv, Aw.lk i l = some tv → Aw.lk i s.t = some tv
  | x :: l, h, i, tv, e => by
    simp only [Aw.lk] at e
    split at e
    · rename_i hb; have := beq_true hb; subst this; cases e; exact h.1
    · exact SatT.lk h.2 i tv e

section
variable {P : Program} {B : Base} {Q : Exit → St → Prop} {s : St}

/-- Fewer temporaries, fewer boxes. -/
def Weak (B : Base) (s s' : St) : Prop := SatT s s'.t ∧ s'.b.Sublist s.b ∧ ∀ k, k ∈ B.kb → ∃ x, x ∈ s'.b ∧ x.1 = k

theorem Rel.weak {s' : St} {a : Act} {w : World} (hr : Rel B s a w) (hw : Weak B s s') : Rel B s' a w := by
  obtain ⟨bn, h⟩ := hr
  obtain ⟨h1, h2, h3⟩ := hw
  have hsub : ∀ b, b ∈ blks bn s'.b → b ∈ blks bn s.b := fun b hb => by
    obtain ⟨x, hx, e⟩ := mem_blks.1 hb
    exact mem_blks.2 ⟨x, h2.subset hx, e⟩
  have hle : PH.le (cur B (blks bn s.b) w) (cur B (blks bn s'.b) w) := fun b o e => by
    unfold cur at e ⊢
    split at e
    · cases e
    · rename_i hb; rw [if_neg (fun hm => hb (hsub _ hm))]; exact e
  exact ⟨bn, h.defs, h.size, h.ext, h.base, h.keep, h3, (h2.map _).nodup h.kn, nodup_blks ((h2.map _).nodup h.kn) (fun x hx => nodup_part h.nod (h2.subset hx)) (fun x hx y hy hne b hbx hby => blks_apart h.nod (h2.subset hx) (h2.subset hy) hne hbx hby), fun x hx => h.own x (h2.subset hx), fun x hx => x.2.up _ _ _ _ _ hle (fun _ _ => rfl) (h.box x (h2.subset hx)), fun i tv e => TV.holds_up hle (fun _ _ => rfl) (h.tmp i tv (h1.lk i tv e))⟩

/-- Nothing is borrowed: boxes may go. -/
theorem weak0 {n : Nat} {bn0 : Nat → Loc} {w0 : World} {H0 : PH} {s s' : St} (h : SatT s s'.t) (hb : s'.b.Sublist s.b) : Weak ⟨n, [], bn0, w0, H0⟩ s s' := ⟨h, hb, fun _ hk => by cases hk⟩

theorem AW_weak {c : Code} {s' : St} (hw : Weak B s s') (h : AW P B c Q s') : AW P B c Q s := fun a w hr => h a w (hr.weak hw)

/-- A cut: the rest goes on from a state that is known by some values. -/
theorem AW_cut {x y : Code} {σ : Type} (emb : σ → St) (G : σ → Prop) (h : AW P B x (thenQ (fun s' => ∃ v, G v ∧ Weak B s' (emb v)) Q) s) (hk : ∀ v, G v → AW P B y Q (emb v)) : AW P B (.seq x y) Q s :=
  AW_seq _ h fun _ ⟨v, hg, hw⟩ => AW_weak hw (hk v hg)

theorem cutLeaf {σ : Type} {emb : σ → St} {G : σ → Prop} {v : σ} (h : G v) (hw : Weak B s (emb v)) : ∃ v, G v ∧ Weak B s (emb v) := ⟨v, h, hw⟩

theorem wpList_append {ops : Array Oper} {Q' : Exit → Act → World → Prop} : ∀ {l1 l2 : List Oper} {a : Act} {w : World}, wpList P ops (fun e a w => e = .normal ∧ wpList P ops Q' l2 a w) l1 a w → wpList P ops Q' (l1 ++ l2) a w
  | [], _, _, _, h => h.2
  | o :: l1, l2, a, w, h => by
    simp only [List.cons_append, wpList] at h ⊢
    split
    · rename_i hw
      rw [if_pos hw] at h
      rcases h with h | ⟨_, _, _, hf⟩
      · left
        unfold Oper.wp at h ⊢
        generalize (execOp a.eval o).run P w = r at *
        cases r with
        | ok n w' =>
          cases n <;> simp only [Oper.upon] at h ⊢ <;>
            first
              | exact wpList_append h
              | exact Calls.mono h (fun e w'' he => by
                  cases e with
                  | returned v => exact wpList_append he
                  | panicked c => cases he.1
                  | outgrown => obtain ⟨_, _, hf, _⟩ := he; cases hf)
              | exact Rows.mono h (fun _ _ he => wpList_append he)
        | halt x w' => cases x <;> simp only [Oper.upon] at h; cases h.1
      · cases hf.1
    · rename_i hw
      rw [if_neg hw] at h
      exact wpList_append h

theorem wpList_mono {ops : Array Oper} {Q1 Q2 : Exit → Act → World → Prop} (hq : ∀ e a w, Q1 e a w → Q2 e a w) : ∀ {l : List Oper} {a : Act} {w : World}, wpList P ops Q1 l a w → wpList P ops Q2 l a w
  | [], _, _, h => hq _ _ _ h
  | o :: l, a, w, h => by
    simp only [wpList] at h ⊢
    split
    · rename_i hw
      rw [if_pos hw] at h
      rcases h with h | ⟨h1, a', w', hf⟩
      · left
        unfold Oper.wp at h ⊢
        generalize (execOp a.eval o).run P w = r at *
        cases r with
        | ok n w' =>
          cases n <;> simp only [Oper.upon] at h ⊢ <;>
            first
              | exact wpList_mono hq h
              | exact Calls.mono h (fun e w'' he => by
                  cases e with
                  | returned v => exact wpList_mono hq he
                  | panicked c => exact hq _ _ _ he
                  | outgrown => obtain ⟨a', w', hf⟩ := he; exact ⟨a', w', hq _ _ _ hf⟩)
              | exact Rows.mono h (fun _ _ he => wpList_mono hq he)
        | halt x w' => cases x <;> simp only [Oper.upon] at h ⊢; exact hq _ _ _ h
      · exact .inr ⟨h1, a', w', hq _ _ _ hf⟩
    · rename_i hw
      rw [if_neg hw] at h
      exact wpList_mono hq h

/-- A cut inside a region. -/
theorem AL_cutAt {ops : Array Oper} {l : List Oper} (k : Nat) (s' : St) (h : AL P B ops (fun e s1 => e = .normal ∧ Weak B s1 s') (l.take k) s) (h' : AL P B ops Q (l.drop k) s') : AL P B ops Q l s := by
  refine ⟨?_⟩
  intro a w hr
  have := wpList_append (P := P) (ops := ops) (Q' := fun e a' w' => ∃ s', Q e s' ∧ Rel B s' a' w') (l1 := l.take k) (l2 := l.drop k) (a := a) (w := w) ?_
  · rwa [List.take_append_drop] at this
  · refine wpList_mono ?_ (h.out a w hr)
    rintro e a' w' ⟨s1, ⟨he, hw⟩, hr'⟩
    exact ⟨he, h'.out a' w' (hr'.weak hw)⟩

theorem AW_condT {i : Nat} {x y : Code} {b : Bool} (hb : lk i s.t = some (.inl (is (Bl b)))) (ht : b = true → AW P B x Q s) (hf : b = false → AW P B y Q s) :
    AW P B (.cond (.tmp i) x y) Q s := AW_cond hb ht hf

theorem onN : Ones [] := trivial
theorem onC {a : AV} {l : List AV} (h : One a) (k : Ones l) : Ones (a :: l) := ⟨h, k⟩
theorem sub_nil {l : List Box} : List.Sublist [] l := List.nil_sublist l
theorem sub_keep {x : Box} {l l' : List Box} (h : List.Sublist l l') : List.Sublist (x :: l) (x :: l') := h.cons_cons x
theorem sub_drop {x : Box} {l l' : List Box} (h : List.Sublist l l') : List.Sublist l (x :: l') := h.cons x

theorem lrN {ops : Array Oper} : LRAll P B ops [] [] := trivial
theorem lrC {ops : Array Oper} {o : Oper} {l : List Oper} {R : Req} {W : St} {r : List Rule} (h : LR P B.n ops o R W) (k : LRAll P B ops l r) : LRAll P B ops (o :: l) ((R, W) :: r) := ⟨fun s a w hs hr => h.out B s a w rfl hs hr, k⟩
theorem lrB {ops : Array Oper} {o : Oper} {l : List Oper} {R : Req} {W : St} {r : List Rule} (h : LRb P B ops o R W) (k : LRAll P B ops l r) : LRAll P B ops (o :: l) ((R, W) :: r) := ⟨h, k⟩
theorem saN {s : St} : SatAll s [] := trivial
theorem saC {s : St} {x : Rule} {r : List Rule} (h : Sat s x.1) (k : SatAll (s.upd x.2) r) : SatAll s (x :: r) := ⟨h, k⟩

theorem AW_loop' {c : Code} {σ : Type} (emb : σ → St) (μ : σ → Nat) (x0 : σ) (I : σ → Prop) (hs : s = emb x0) (h0 : I x0)
    (round : ∀ x, I x → AW P B c (thenQ (fun s' => ∃ x', Weak B s' (emb x') ∧ I x' ∧ μ x' < μ x) Q) (emb x)) : AW P B (.loop c) Q s := by
  subst hs
  intro a w hr b k cs
  have key : ∀ n x, μ x = n → I x → ∀ a w, Rel B (emb x) a w →
      ∃ e a' w', (∃ s', Q e s' ∧ Rel B s' a' w') ∧ Arrives P (lone (b.at a (.code c :: .inLoop c :: k)) cs w) b k cs e a' w' := by
    intro n
    induction n using Nat.strongRecOn with
    | _ n ih =>
      intro x hn hI a w hr
      obtain ⟨e, a₁, w₁, ⟨s1, ⟨hq⟩, hr1⟩, harr⟩ := round x hI a w hr b (.inLoop c :: k) cs
      cases e with
      | normal =>
        obtain ⟨x', hw, hI', hlt⟩ := hq
        obtain ⟨e₂, a₂, w₂, hq₂, harr₂⟩ := ih (μ x') (hn ▸ hlt) x' rfl hI' a₁ w₁ (hr1.weak hw)
        exact ⟨e₂, a₂, w₂, hq₂, .of_steps (Steps.trans harr (.one step_inLoop)) harr₂⟩
      | exit id => exact ⟨_, a₁, w₁, ⟨s1, hq, hr1⟩, .pass (x := .inLoop c) rfl (fun _ _ => .inl (by simp)) harr⟩
      | goto l => exact ⟨_, a₁, w₁, ⟨s1, hq, hr1⟩, .pass (x := .inLoop c) rfl (fun _ _ => .inl (by simp)) harr⟩
      | ret => exact ⟨_, a₁, w₁, ⟨s1, hq, hr1⟩, .pass (x := .inLoop c) rfl (fun _ _ => .inl (by simp)) harr⟩
      | panic ch => exact ⟨_, a₁, w₁, ⟨s1, hq, hr1⟩, .pass (x := .inLoop c) rfl (fun _ _ => .inl (by simp)) harr⟩
      | outgrown => exact ⟨_, a₁, w₁, ⟨s1, hq, hr1⟩, .pass (x := .inLoop c) rfl (fun _ _ => .inl (by simp)) harr⟩
  obtain ⟨e, a', w', hq, harr⟩ := key _ x0 rfl h0 a w hr
  exact ⟨e, a', w', hq, .of_steps (.one step_loop) harr⟩

/-- Turning a step round and round. -/
def iterL {σ ρ : Type} (L : σ → Option (σ ⊕ ρ)) : Nat → σ → Option ρ
  | 0, _ => none
  | n + 1, x => match L x with
    | none => none
    | some (.inl x') => iterL L n x'
    | some (.inr y) => some y

/-- A loop whose round is a plain step. -/
theorem AW_iter {c : Code} {σ ρ : Type} (emb : σ → St) (L : σ → Option (σ ⊕ ρ)) (Qy : ρ → Exit → St → Prop) {N : Nat} {x0 : σ} {y : ρ} (hs : Weak B s (emb x0)) (hit : iterL L N x0 = some y)
    (round : ∀ x out, some out = L x → AW P B c (thenQ (fun s' => ∃ x', out = .inl x' ∧ Weak B s' (emb x')) (fun e s' => ∃ y', out = .inr y' ∧ Qy y' e s')) (emb x)) (hq : ∀ e s', Qy y e s' → Q e s') : AW P B (.loop c) Q s := by
  refine AW_weak hs (AW_loop' (fun v : Nat × σ => emb v.2) (fun v => v.1) (N, x0) (fun v => iterL L v.1 v.2 = some y) rfl hit ?_)
  rintro ⟨n, x⟩ hI
  cases n with
  | zero => simp [iterL] at hI
  | succ n =>
    simp only [iterL] at hI
    cases hL : L x with
    | none => rw [hL] at hI; cases hI
    | some out =>
      rw [hL] at hI
      refine AW_mono (round x out hL.symm) ?_
      rintro e s' ⟨h⟩
      cases e with
      | normal =>
        obtain ⟨x', rfl, hw⟩ := h
        exact ⟨(n, x'), hw, hI, Nat.lt_succ_self n⟩
      | _ =>
        obtain ⟨y', rfl, h'⟩ := h
        cases hI
        exact ⟨hq _ _ h'⟩
end
end Go.Aw
