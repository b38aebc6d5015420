/-
  Rows that grow, second part: opening and closing a box with a row; append where the order is drawn; rows made, rows frozen.
-/
import Derived.Test.YfwaawGreatAwMach
namespace Go.Aw
open Go.RowKit

def bn2 (bn : Nat → Loc) (k r : Nat) (Lk Lr : Loc) : Nat → Loc := fun j => if j = k then Lk else if j = r then Lr else bn j

section
variable {P : Program} {B : Base} {n : Nat} {ops : Array Oper}

theorem RelB.two {bn : Nat → Loc} {s : St} {a : Act} {w w' : World} {k r : Nat} {c c' c1 c2 : Cont} {Lk Lr : Loc} (h : RelB B bn s a w) (hk : lk k s.b = some c) (hr : lk r s.b = some c') (hne : k ≠ r) (hbk : k ∈ B.kb → Lk.b = (bn k).b) (hbr : r ∈ B.kb → Lr.b = (bn r).b)
    (htv : ∀ i tv, lk i s.t = some tv → ∀ H v, TV.holds H bn tv v → TV.holds H (bn2 bn k r Lk Lr) tv v)
    (hnd : (Lk.xs ++ Lr.xs).Nodup) (hsub : ∀ b, b ∈ Lk.xs ++ Lr.xs → b ∈ (bn k).xs ++ (bn r).xs ∨ w.heap.size ≤ b)
    (ho : ∀ b, b < w.heap.size → b ∉ (bn k).xs ++ (bn r).xs → w'.heap[b]? = w.heap[b]?) (hsz : w.heap.size ≤ w'.heap.size) (h1 : w'.os = w.os) (h2 : w'.tape = w.tape) (h3 : w'.output = w.output)
    (hc1 : ∀ H, PH.le (cur B (blks bn s.b) w) H → c1.p (hpOf w') H Lk) (hc2 : ∀ H, PH.le (cur B (blks bn s.b) w) H → c2.p (hpOf w') H Lr) :
    RelB B (bn2 bn k r Lk Lr) ⟨s.t, setBs [(k, c1), (r, c2)] s.b⟩ a w' := by
  have ek : bn2 bn k r Lk Lr k = Lk := by simp [bn2]
  have er : bn2 bn k r Lk Lr r = Lr := by simp [bn2, Ne.symm hne]
  have eo : ∀ j, j ≠ k → j ≠ r → bn2 bn k r Lk Lr j = bn j := fun j h1 h2 => by simp [bn2, h1, h2]
  have hb' : blks (bn2 bn k r Lk Lr) [(k, c1), (r, c2)] = Lk.xs ++ Lr.xs := by simp [blks, ek, er]
  have hb : blks bn [(k, c1), (r, c2)] = (bn k).xs ++ (bn r).xs := by simp [blks]
  have hle : PH.le (cur B (blks bn s.b) w) (extO (cur B (blks bn s.b) w) w w' (blks (bn2 bn k r Lk Lr) [(k, c1), (r, c2)])) := fun b o e => by
    obtain ⟨g1, g2⟩ := h.curIn b o e
    have hlt : b < w.heap.size := by
      rcases Nat.lt_or_ge b w.heap.size with h' | h'
      · exact h'
      · rw [Array.getElem?_eq_none h'] at g2; cases g2
    unfold extO
    rw [if_neg, if_pos hlt]
    · exact e
    · intro hm
      rw [hb'] at hm
      rcases hsub b hm with h' | h'
      · rcases List.mem_append.1 h' with h' | h'
        · exact g1 (mem_blks.2 ⟨_, lk_mem hk, h'⟩)
        · exact g1 (mem_blks.2 ⟨_, lk_mem hr, h'⟩)
      · omega
  refine (h.updGen (bn' := bn2 bn k r Lk Lr) (bo := [(k, c1), (r, c2)]) (w' := w') (by simp [KN, hne]) (fun y hy => ?_) (fun j hj => ?_) (fun y hy hkb => ?_) htv (fun y hy b hb2 => ?_) (by rw [hb']; exact hnd) (fun b hlt hnb => ho b hlt (by rw [hb] at hnb; exact hnb)) hsz h1 h2 h3 (fun y hy => ?_)).1
  · rcases List.mem_cons.1 hy with rfl | hy
    · rw [hk]; rfl
    · rw [List.mem_singleton] at hy; subst hy; rw [hr]; rfl
  · simp only [keysOf, List.map_cons, List.map_nil, List.mem_cons, List.not_mem_nil, or_false, not_or] at hj
    exact eo j hj.1 hj.2
  · rcases List.mem_cons.1 hy with rfl | hy
    · rw [ek]; exact hbk hkb
    · rw [List.mem_singleton] at hy; subst hy; rw [er]; exact hbr hkb
  · rw [hb]
    rcases List.mem_cons.1 hy with rfl | hy
    · rw [ek] at hb2; exact hsub b (List.mem_append_left _ hb2)
    · rw [List.mem_singleton] at hy; subst hy; rw [er] at hb2; exact hsub b (List.mem_append_right _ hb2)
  · rcases List.mem_cons.1 hy with rfl | hy
    · rw [ek]; exact hc1 _ hle
    · rw [List.mem_singleton] at hy; subst hy; rw [er]; exact hc2 _ hle

/-- A resource without blocks beside the others. -/
theorem RelB.addGone {bn : Nat → Loc} {s : St} {a : Act} {w : World} {r : Nat} (v : Value) (h : RelB B bn s a w) (hf : s.fresh r = true) : RelB B (fun j => if j = r then ⟨[], fun _ => v⟩ else bn j) ⟨s.t, setBs [(r, gone)] s.b⟩ a w := by
  simp only [St.fresh, Bool.and_eq_true] at hf
  have hnk := keysNot_mem hf.1
  have hsb : setBs [(r, gone)] s.b = s.b ++ [(r, gone)] := setB_fresh hf.1
  have hbn : ∀ x, x ∈ s.b → (if x.1 = r then (⟨[], fun _ => v⟩ : Loc) else bn x.1) = bn x.1 := fun x hx => by simp [hnk x hx]
  have hblk : blks (fun j => if j = r then ⟨[], fun _ => v⟩ else bn j) (s.b ++ [(r, gone)]) = blks bn s.b := by
    unfold blks
    rw [List.flatMap_append, flatMap_congr' (g := fun x => (bn x.1).xs) fun x hx => congrArg Loc.xs (hbn x hx)]
    simp
  have hkb : ∀ k, k ∈ B.kb → k ≠ r := fun k hk e => by
    obtain ⟨x, hx, e'⟩ := h.here k hk
    exact hnk x hx (e'.trans e)
  refine h.reshape (fun k hk => by rw [if_neg (hkb k hk)]) (fun k hk => ?_) ?_ ?_ ?_ (fun hle x hx => ?_) (fun hle i tv e => ?_)
  · obtain ⟨x, hx, e⟩ := h.here k hk; exact ⟨x, by rw [hsb]; exact List.mem_append_left _ hx, e⟩
  · simp only [hsb, List.map_append, List.map_cons, List.map_nil]
    rw [List.nodup_append]
    refine ⟨h.kn, by simp, fun x hx y hy => ?_⟩
    obtain ⟨z, hz, rfl⟩ := List.mem_map.1 hx
    rw [List.mem_singleton] at hy; subst hy
    exact hnk z hz
  · rw [hsb, hblk]; exact h.nod
  · rw [hsb, hblk]; exact fun _ h => h
  · rw [hsb] at hx
    rcases List.mem_append.1 hx with hx | hx
    · rw [hbn x hx]; exact x.2.up _ _ _ _ _ hle (fun _ _ => rfl) (h.box x hx)
    · rw [List.mem_singleton] at hx; subst hx; show (if r = r then (⟨[], fun _ => v⟩ : Loc) else _).xs = []; simp
  · refine TV.holds_up hle (fun j hj => ?_) (h.tmp i tv e)
    have := refsNot_lk hf.2 e
    have hjr : j ≠ r := fun e => this (e ▸ hj)
    show (if j = r then _ else bn j) = bn j
    rw [if_neg hjr]

def Imp (B : Base) (s s' : St) : Prop := ∀ a w, Rel B s a w → Rel B s' a w
theorem AW_imp {c : Code} {Q : Exit → St → Prop} {s s' : St} (hi : Imp B s s') (h : AW P B c Q s') : AW P B c Q s := fun a w hr => h a w (hi a w hr)
theorem AL_imp {l : List Oper} {Q : Exit → St → Prop} {s s' : St} (hi : Imp B s s') (h : AL P B ops Q l s') : AL P B ops Q l s := ⟨fun a w hr => h.out a w (hi a w hr)⟩
/-- What holds behind may be told in other words. -/
theorem AW_post {c : Code} {Q : Exit → St → Prop} {s : St} (h : AW P B c (fun e s1 => ∃ s2, Imp B s1 s2 ∧ Q e s2) s) : AW P B c Q s :=
  fun a w hr => wp_mono (h a w hr) fun _ _ _ ⟨_, ⟨s2, hi, hq⟩, hr'⟩ => ⟨s2, hq, hi _ _ hr'⟩

variable {α : Type} {K : α → List Value} {sz : Nat} {x : NS α} {ty : TypeId} {pre post : List AV}

theorem blkB {bn : Nat → Loc} {k b : Nat} {ys : List Nat} (e : (bn k).xs = b :: ys) : (bn k).b = b := by unfold Loc.b; rw [e]; rfl

theorem beq_ne {i j : Nat} (h : i ≠ j) : Nat.beq i j = false := by
  cases hb : Nat.beq i j with
  | false => rfl
  | true => exact (h (beq_true hb)).elim
theorem setB_twice {k r : Nat} {c c1 c2 c3 : Cont} (hne : k ≠ r) : ∀ {l : List Box}, lk k l = some c → setB r c2 (setB k c1 (setB r c3 l)) = setB r c2 (setB k c1 l)
  | y :: l, h => by
    have h1 := beq_ne (Ne.symm hne)
    have h2 := beq_ne hne
    cases hr : Nat.beq y.1 r with
    | true =>
      have er := beq_true hr
      have hk : Nat.beq y.1 k = false := by rw [er]; exact h1
      simp [setB, hr, hk, h1]
    | false =>
      cases hk : Nat.beq y.1 k with
      | true =>
        have : setB r c2 (setB r c3 l) = setB r c2 l := by
          clear h
          induction l with
          | nil => simp [setB]
          | cons z l ih2 =>
            simp only [setB]
            cases hz : Nat.beq z.1 r with
            | true => simp [setB]
            | false => simp [setB, hz, ih2]
        simp only [setB, hr, hk, h2, this]
      | false =>
        simp only [lk, hk] at h
        simp only [setB, hr, hk, setB_twice hne h]
theorem All2.app {H : PH} : ∀ {l l' : List AV} {vs vs' : List Value}, All2 H l vs → All2 H l' vs' → All2 H (l ++ l') (vs ++ vs')
  | [], _, [], _, _, h => h
  | _ :: _, _, _ :: _, _, h, h' => ⟨h.1, All2.app h.2 h'⟩
  | [], _, _ :: _, _, h, _ => h.elim
  | _ :: _, _, [], _, h, _ => h.elim
theorem All2.split {H : PH} : ∀ {l l' : List AV} {vs : List Value}, All2 H (l ++ l') vs → ∃ v1 v2, vs = v1 ++ v2 ∧ All2 H l v1 ∧ All2 H l' v2
  | [], _, vs, h => ⟨[], vs, rfl, trivial, h⟩
  | _ :: _, _, v :: vs, h => by
    obtain ⟨v1, v2, e, h1, h2⟩ := All2.split h.2
    exact ⟨v :: v1, v2, by rw [e]; rfl, ⟨h.1, h1⟩, h2⟩
  | _ :: _, _, [], h => h.elim

/-- Opening: the header is some value, the row a resource of its own. -/
theorem Rel.opn {s : St} {a : Act} {w : World} {k r : Nat} (hr : Rel B s a w) (hk : lk k s.b = some (gc ty pre post K sz x)) (hf : s.fresh r = true) : ∃ sv, isCell sv = true ∧ Rel B ⟨s.t, setBs [(k, pb ty (pre ++ (is sv :: post))), (r, rowc sv K sz x)] s.b⟩ a w := by
  obtain ⟨bn, h⟩ := hr
  have hf' := hf
  simp only [St.fresh, Bool.and_eq_true] at hf'
  have hne : k ≠ r := fun e => keysNot_mem hf'.1 _ (lk_mem hk) e
  obtain ⟨b, ys, vs, sv, us, e, h0, h1, h2, h3, h4⟩ := h.box (k, _) (lk_mem hk)
  have e' : (bn k).xs = b :: ys := e
  have hg := h.addGone undef hf
  refine ⟨sv, h4.cell, ?_⟩
  have hkeq : (if k = r then (⟨[], fun _ => undef⟩ : Loc) else bn k) = bn k := by rw [if_neg hne]
  have hrkb : r ∉ B.kb := fun hm => by obtain ⟨x, hx, e⟩ := h.here r hm; exact keysNot_mem hf'.1 x hx e
  have := hg.two (k := k) (r := r) (c := gc ty pre post K sz x) (c' := gone) (c1 := pb ty (pre ++ (is sv :: post))) (c2 := rowc sv K sz x) (Lk := ⟨[b], (bn k).h⟩) (Lr := ⟨ys, fun _ => undef⟩) (w' := w)
    (by rw [show setBs [(r, gone)] s.b = s.b ++ [(r, gone)] from setB_fresh hf'.1]
        have : ∀ l : List Box, lk k l = some (gc ty pre post K sz x) → lk k (l ++ [(r, gone)]) = some (gc ty pre post K sz x) := by
          intro l
          induction l with
          | nil => intro h; cases h
          | cons z l ih => intro h; simp only [List.cons_append, lk] at h ⊢; split at h <;> simp_all
        exact this _ hk)
    (by rw [show setBs [(r, gone)] s.b = s.b ++ [(r, gone)] from setB_fresh hf'.1]
        have : ∀ l : List Box, keysNot r l = true → lk r (l ++ [(r, gone)]) = some gone := by
          intro l
          induction l with
          | nil => intro _; simp [lk]
          | cons z l ih => intro h; simp only [keysNot, Bool.and_eq_true, Bool.not_eq_true'] at h; simp only [List.cons_append, lk, h.1]; exact ih h.2
        exact this _ hf'.1)
    hne (fun _ => by show b = (if k = r then (⟨[], fun _ => undef⟩ : Loc) else bn k).b; rw [hkeq]; exact (blkB e').symm) (fun hm => (hrkb hm).elim)
    (fun i tv et H v hv => by
      have hnr := refsNot_lk hf'.2 et
      match tv, hv, hnr with
      | .inl _, hv, _ => exact hv
      | .inr (.inl (j, off)), hv, hnr =>
        have hj : j ≠ r := fun e => hnr (by simp [TV.box, e])
        simp only [TV.holds, if_neg hj] at hv ⊢
        by_cases hjk : j = k
        · subst hjk; rw [hv, blkB e']; simp [bn2, Loc.b]
        · rw [hv]; simp [bn2, hjk, hj]
      | .inr (.inr (.inl (j, off, len, cap))), hv, hnr =>
        have hj : j ≠ r := fun e => hnr (by simp [TV.box, e])
        simp only [TV.holds, if_neg hj] at hv ⊢
        by_cases hjk : j = k
        · subst hjk; rw [hv, blkB e']; simp [bn2, Loc.b]
        · rw [hv]; simp [bn2, hjk, hj]
      | .inr (.inr (.inr (j, g))), hv, hnr =>
        have hj : j ≠ r := fun e => hnr (by simp [TV.box, e])
        simp only [TV.holds, if_neg hj] at hv ⊢
        by_cases hjk : j = k
        · subst hjk; rw [hv]; simp [bn2]
        · rw [hv]; simp [bn2, hjk, hj])
    (by simp [h4.nodup, h0]) (fun c hc => by
      left
      show c ∈ (if k = r then (⟨[], fun _ => undef⟩ : Loc) else bn k).xs ++ _
      rw [hkeq, e']
      have : c ∈ b :: ys := by simpa using hc
      exact List.mem_append_left _ this)
    (fun _ _ _ => rfl) (Nat.le_refl _) rfl rfl rfl
    (fun H hle => ⟨b, rfl, _, h1, by
      have hle' : PH.le (cur B (blks bn s.b) w) H := fun b' o' e0 => hle b' o' (by
        have hbl : blks (fun j => if j = r then ⟨[], fun _ => undef⟩ else bn j) (setBs [(r, gone)] s.b) = blks bn s.b := by
          rw [show setBs [(r, gone)] s.b = s.b ++ [(r, gone)] from setB_fresh hf'.1]
          unfold blks
          rw [List.flatMap_append, flatMap_congr' (g := fun x => (bn x.1).xs) fun x hx => congrArg Loc.xs (if_neg (keysNot_mem hf'.1 x hx))]
          simp
        rw [hbl]; exact e0)
      exact All2.app (h2.up hle') ⟨rfl, h3.up hle'⟩⟩)
    (fun H hle => h4)
  have e2 : setBs [(k, pb ty (pre ++ (is sv :: post))), (r, rowc sv K sz x)] (setBs [(r, gone)] s.b) = setBs [(k, pb ty (pre ++ (is sv :: post))), (r, rowc sv K sz x)] s.b := setB_twice hne hk
  exact ⟨_, e2 ▸ this⟩

/-- Closing it again. -/
theorem imp_close {s : St} {k r : Nat} {sv : Value} {cells : List AV} (pre post : List AV) (hk : lk k s.b = some (pb ty cells)) (hcl : pre ++ (is sv :: post) = cells) (hr : lk r s.b = some (rowc sv K sz x)) (hne : Nat.beq k r = false) (hrf : refsNot r s.t = true) (hkb : (B.kb.all fun k => !Nat.beq k r) = true) : Imp B s ⟨s.t, setBs [(k, gc ty pre post K sz x), (r, gone)] s.b⟩ := by
  subst hcl
  rintro a w ⟨bn, h⟩
  have hne' : k ≠ r := fun e => by subst e; simp at hne
  obtain ⟨b, e, vs, h1, h2⟩ := h.box (k, _) (lk_mem hk)
  have e' : (bn k).xs = [b] := e
  have h4 : HeadOf (hpOf w) K sz x sv (bn r).xs := h.box (r, _) (lk_mem hr)
  have hap : b ∉ (bn r).xs := fun hm => blks_apart h.nod (lk_mem hk) (lk_mem hr) (fun e => hne' (congrArg Prod.fst e)) (b := b) (by rw [e']; simp) hm
  have hrkb : r ∉ B.kb := fun hm => by have := List.all_eq_true.1 hkb r hm; simp at this
  refine ⟨_, h.two (c1 := gc ty pre post K sz x) (c2 := gone) (Lk := ⟨b :: (bn r).xs, (bn k).h⟩) (Lr := ⟨[], (bn r).h⟩) (w' := w) hk hr hne' (fun _ => by rw [blkB e']; rfl) (fun hm => (hrkb hm).elim) (fun i tv et H v hv => ?_) (by simp [hap, h4.nodup]) (fun c hc => .inl ?_) (fun _ _ _ => rfl) (Nat.le_refl _) rfl rfl rfl (fun H hle => ?_) (fun H hle => rfl)⟩
  · have hnr := refsNot_lk hrf et
    match tv, hv, hnr with
    | .inl _, hv, _ => exact hv
    | .inr (.inl (j, off)), hv, hnr =>
      have hj : j ≠ r := fun e => hnr (by simp [TV.box, e])
      simp only [TV.holds] at hv ⊢
      by_cases hjk : j = k
      · subst hjk; rw [hv, blkB e']; simp [bn2, Loc.b]
      · rw [hv]; simp [bn2, hjk, hj]
    | .inr (.inr (.inl (j, off, len, cap))), hv, hnr =>
      have hj : j ≠ r := fun e => hnr (by simp [TV.box, e])
      simp only [TV.holds] at hv ⊢
      by_cases hjk : j = k
      · subst hjk; rw [hv, blkB e']; simp [bn2, Loc.b]
      · rw [hv]; simp [bn2, hjk, hj]
    | .inr (.inr (.inr (j, g))), hv, hnr =>
      have hj : j ≠ r := fun e => hnr (by simp [TV.box, e])
      simp only [TV.holds] at hv ⊢
      by_cases hjk : j = k
      · subst hjk; rw [hv]; simp [bn2]
      · rw [hv]; simp [bn2, hjk, hj]
  · rw [e']; simpa using hc
  · obtain ⟨vs1, vs2, e1, g1, g2⟩ := h2.split
    match vs2, g2 with
    | u :: us, g2 =>
      have hu : u = sv := g2.1
      subst hu
      exact ⟨b, (bn r).xs, vs1, u, us, rfl, hap, by rw [← e1]; exact h1, g1.up hle, g2.2.up hle, h4⟩
    | [], g2 => exact g2.elim

theorem AL_opn {Q : Exit → St → Prop} {s : St} {l : List Oper} (k r : Nat) (cells : Value → List AV) (hk : lk k s.b = some (gc ty pre post K sz x)) (hf : s.fresh r = true) (hcl : ∀ sv, pre ++ (is sv :: post) = cells sv) (h : ∀ sv, isCell sv = true → AL P B ops Q l ⟨s.t, setBs [(k, pb ty (cells sv)), (r, rowc sv K sz x)] s.b⟩) : AL P B ops Q l s :=
  ⟨fun a w hr => by obtain ⟨sv, hc, hr'⟩ := hr.opn hk hf; rw [hcl] at hr'; exact (h sv hc).out a w hr'⟩
theorem AW_opn {Q : Exit → St → Prop} {s : St} {c : Code} (k r : Nat) (cells : Value → List AV) (hk : lk k s.b = some (gc ty pre post K sz x)) (hf : s.fresh r = true) (hcl : ∀ sv, pre ++ (is sv :: post) = cells sv) (h : ∀ sv, isCell sv = true → AW P B c Q ⟨s.t, setBs [(k, pb ty (cells sv)), (r, rowc sv K sz x)] s.b⟩) : AW P B c Q s :=
  fun a w hr => by obtain ⟨sv, hc, hr'⟩ := hr.opn hk hf; rw [hcl] at hr'; exact h sv hc a w hr'

/-- A box whose row is nil. -/
theorem imp_mkgc {s : St} {k : Nat} {β : Type} {K' : β → Value} {g : Nat → β} {cells : List AV} (pre post : List AV) (hk : lk k s.b = some (pb ty cells)) (hcl : pre ++ (ns K' (true, 0, g) :: post) = cells) (f : Nat → α) : Imp B s ⟨s.t, setBs [(k, gc ty pre post K sz (true, 0, f))] s.b⟩ := by
  subst hcl
  rintro a w ⟨bn, h⟩
  obtain ⟨b, e, vs, h1, h2⟩ := h.box (k, _) (lk_mem hk)
  have e' : (bn k).xs = [b] := e
  refine ⟨_, h.updRes (L := bn k) (c' := gc ty pre post K sz (true, 0, f)) (w' := w) hk rfl (fun b hb => .inl hb) (by rw [e']; simp) (fun _ _ _ => rfl) (Nat.le_refl _) rfl rfl rfl (fun H hle => ?_) (fun i tv _ _ H v hv => ?_)⟩
  · obtain ⟨vs1, vs2, e1, g1, g2⟩ := h2.split
    match vs2, g2 with
    | u :: us, g2 =>
      have hu : u = .slice none 0 0 := by
        rcases g2.1 with ⟨_, _, h⟩ | ⟨h, _⟩
        · exact h
        · cases h
      exact ⟨b, [], vs1, u, us, e', by simp, by rw [← e1]; exact h1, g1.up hle, g2.2.up hle, .inl ⟨rfl, rfl, hu, rfl⟩⟩
    | [], g2 => exact g2.elim
  · have : (fun j => if j = k then bn k else bn j) = bn := by funext j; split <;> simp_all
    rw [this]; exact hv

/-- A row that is nil. -/
theorem imp_nilRow {s : St} {r : Nat} (hf : s.fresh r = true) (f : Nat → α) : Imp B s ⟨s.t, setBs [(r, rowc (.slice none 0 0) K sz (true, 0, f))] s.b⟩ := by
  rintro a w ⟨bn, h⟩
  have hf' := hf
  simp only [St.fresh, Bool.and_eq_true] at hf'
  have hg := h.addGone undef hf
  have hlk : lk r (setBs [(r, gone)] s.b) = some gone := by
    rw [show setBs [(r, gone)] s.b = s.b ++ [(r, gone)] from setB_fresh hf'.1]
    have : ∀ l : List Box, keysNot r l = true → lk r (l ++ [(r, gone)]) = some gone := by
      intro l
      induction l with
      | nil => intro _; simp [lk]
      | cons z l ih => intro h; simp only [keysNot, Bool.and_eq_true, Bool.not_eq_true'] at h; simp only [List.cons_append, lk, h.1]; exact ih h.2
    exact this _ hf'.1
  have := hg.updRes (L := ⟨[], fun _ => undef⟩) (c' := rowc (.slice none 0 0) K sz (true, 0, f)) (w' := w) hlk (by simp [Loc.b]) (fun b hb => (by cases hb)) (by simp) (fun _ _ _ => rfl) (Nat.le_refl _) rfl rfl rfl (fun H hle => .inl ⟨rfl, rfl, rfl, rfl⟩) (fun i tv e hb => (refsNot_lk hf'.2 e hb).elim)
  have e2 : setBs [(r, rowc (.slice none 0 0) K sz (true, 0, f))] (setBs [(r, gone)] s.b) = setBs [(r, rowc (.slice none 0 0) K sz (true, 0, f))] s.b := by
    simp only [setBs]
    have : ∀ l : List Box, setB r (rowc (.slice none 0 0) K sz (true, 0, f)) (setB r gone l) = setB r (rowc (.slice none 0 0) K sz (true, 0, f)) l := by
      intro l
      induction l with
      | nil => simp [setB]
      | cons z l ih =>
        simp only [setB]
        cases hz : Nat.beq z.1 r with
        | true => simp [setB]
        | false => simp [setB, hz, ih]
    exact this _
  exact ⟨_, e2 ▸ this⟩

end
end Go.Aw
