/-
  A region that draws its order: local rules in the text's order serve every order, where operations that clash are ordered by an edge.
-/
import Derived.Test.YfwaawGreatAwFn
namespace Go.Aw
open Go.RowKit

theorem lk_append {α : Type} {i : Nat} : ∀ {l l' : List (Nat × α)}, lk i (l ++ l') = (lk i l).or (lk i l')
  | [], _ => by simp [lk]
  | x :: l, l' => by
    simp only [List.cons_append, lk]
    split
    · simp
    · exact lk_append

theorem lk_setB {k i : Nat} {c : Cont} : ∀ {l : List Box}, lk i (setB k c l) = if k = i then some c else lk i l
  | [] => by
    simp only [setB, lk]
    split
    · rename_i h; rw [if_pos (beq_true h)]
    · rename_i h; rw [if_neg (beq_false h)]
  | x :: l => by
    simp only [setB]
    by_cases hk : k = i
    · subst hk
      rw [if_pos rfl]
      split
      · exact lk_cons_eq
      · rename_i h
        simp only [lk, h]
        rw [lk_setB, if_pos rfl]
    · rw [if_neg hk]
      split
      · rename_i h
        rw [lk_cons_ne hk]
        have : x.1 ≠ i := fun e => hk ((beq_true h).symm.trans e)
        rw [show x = (x.1, x.2) from rfl, lk_cons_ne this]
      · simp only [lk]
        rw [lk_setB, if_neg hk]

def lastk (i : Nat) : List Box → Option (Cont)
  | [] => none
  | x :: r => (lastk i r).or (if x.1 = i then some x.2 else none)

theorem lk_setBs {i : Nat} : ∀ {W l : List Box}, lk i (setBs W l) = (lastk i W).or (lk i l)
  | [], _ => by simp [setBs, lastk]
  | x :: W, l => by
    simp only [setBs, lastk]
    rw [lk_setBs, lk_setB]
    cases lastk i W
    · by_cases h : x.1 = i <;> simp [h]
    · simp

theorem lastk_none {i : Nat} : ∀ {W : List Box}, keysNot i W = true → lastk i W = none
  | [], _ => rfl
  | x :: W, h => by
    simp only [keysNot, Bool.and_eq_true, Bool.not_eq_true'] at h
    simp only [lastk, lastk_none h.2, if_neg (beq_false h.1), Option.or_none]

theorem lastk_keysNot {i : Nat} : ∀ {W : List Box}, lastk i W = none → keysNot i W = true
  | [], _ => rfl
  | x :: W, h => by
    simp only [lastk, Option.or_eq_none_iff] at h
    have h1 : x.1 ≠ i := fun e => by simp [e] at h
    have : Nat.beq x.1 i = false := by cases hb : Nat.beq x.1 i with | false => rfl | true => exact (h1 (beq_true hb)).elim
    simp only [keysNot, this, lastk_keysNot h.1, Bool.not_false, Bool.and_self]

theorem keysNot_setB {k k' : Nat} {c : Cont} : ∀ {l : List Box}, keysNot k (setB k' c l) = (!Nat.beq k' k && keysNot k l)
  | [] => by simp [setB, keysNot]
  | x :: l => by
    simp only [setB]
    split
    · rename_i h
      have := beq_true h
      simp only [keysNot, this]
      cases Nat.beq k' k <;> simp
    · simp only [keysNot, keysNot_setB]
      cases Nat.beq k' k <;> cases Nat.beq x.1 k <;> simp

theorem keysNot_setBs {k : Nat} : ∀ {W l : List Box}, keysNot k (setBs W l) = (keysNot k W && keysNot k l)
  | [], l => by simp [setBs, keysNot]
  | x :: W, l => by
    simp only [setBs, keysNot_setBs, keysNot_setB, keysNot]
    cases Nat.beq x.1 k <;> cases keysNot k W <;> simp

theorem refsNot_append {k : Nat} : ∀ {l l' : List (Nat × TV)}, refsNot k (l ++ l') = (refsNot k l && refsNot k l')
  | [], l' => by simp [refsNot]
  | x :: l, l' => by simp only [List.cons_append, refsNot, refsNot_append, Bool.and_assoc]

def noMention (k : Nat) (W : St) : Bool := keysNot k W.b && refsNot k W.t

theorem fresh_upd {s W : St} {k : Nat} : (s.upd W).fresh k = (s.fresh k && noMention k W) := by
  simp only [St.fresh, St.upd, noMention, keysNot_setBs, refsNot_append]
  cases keysNot k W.b <;> cases keysNot k s.b <;> cases refsNot k W.t <;> cases refsNot k s.t <;> rfl

/-- The state behind those updates that are marked. -/
def stF (L : Nat → Bool) : Nat → St → List St → St
  | _, s, [] => s
  | i, s, W :: r => stF L (i + 1) (match L i with | true => s.upd W | false => s) r

theorem stF_t {L L' : Nat → Bool} {x : Nat} : ∀ {Ws : List St} {j : Nat} {s s' : St}, lk x s.t = lk x s'.t → (∀ m W, Ws[m]? = some W → L (j + m) ≠ L' (j + m) → lk x W.t = none) → lk x (stF L j s Ws).t = lk x (stF L' j s' Ws).t
  | [], _, _, _, h, _ => h
  | W :: Ws, j, s, s', h, hd => by
    simp only [stF]
    refine stF_t ?_ fun m W' hm hne => hd (m + 1) W' (by simpa using hm) (by rw [show j + (m + 1) = j + 1 + m from by omega]; exact hne)
    have h0 := hd 0 W rfl
    simp only [Nat.add_zero] at h0
    cases h1 : L j <;> cases h2 : L' j <;> simp only [St.upd, lk_append, h] <;> (rw [h1, h2] at h0; simp [h0 (by simp)])

theorem stF_b {L L' : Nat → Bool} {x : Nat} : ∀ {Ws : List St} {j : Nat} {s s' : St}, lk x s.b = lk x s'.b → (∀ m W, Ws[m]? = some W → L (j + m) ≠ L' (j + m) → keysNot x W.b = true) → lk x (stF L j s Ws).b = lk x (stF L' j s' Ws).b
  | [], _, _, _, h, _ => h
  | W :: Ws, j, s, s', h, hd => by
    simp only [stF]
    refine stF_b ?_ fun m W' hm hne => hd (m + 1) W' (by simpa using hm) (by rw [show j + (m + 1) = j + 1 + m from by omega]; exact hne)
    have h0 := hd 0 W rfl
    simp only [Nat.add_zero] at h0
    cases h1 : L j <;> cases h2 : L' j <;> simp only [St.upd, lk_setBs, h] <;> (rw [h1, h2] at h0; simp [lastk_none (h0 (by simp))])

theorem stF_hit_t {L : Nat → Bool} {x : Nat} {c : TV} : ∀ {Ws : List St} {j i : Nat} {s W : St}, Ws[i]? = some W → L (j + i) = true → lk x W.t = some c → (∀ m W', Ws[m]? = some W' → i < m → L (j + m) = true → lk x W'.t = none) → lk x (stF L j s Ws).t = some c
  | [], _, _, _, _, h, _, _, _ => by simp at h
  | V :: Ws, j, 0, s, W, h, hL, hx, hd => by
    simp only [List.getElem?_cons_zero, Option.some.injEq] at h
    subst h
    simp only [Nat.add_zero] at hL
    simp only [stF, hL]
    have : lk x (stF (fun _ => false) (j + 1) (s.upd V) Ws).t = some c := by
      have h0 : ∀ (Ws : List St) (j : Nat) (s : St), stF (fun _ => false) j s Ws = s := by
        intro Ws; induction Ws with
        | nil => intros; rfl
        | cons _ _ ih => intro j s; simp only [stF]; exact ih _ _
      rw [h0]; simp [St.upd, lk_append, hx]
    rw [← this]
    refine stF_t rfl fun m W' hm hne => hd (m + 1) W' (by simpa using hm) (by omega) ?_
    rw [show j + (m + 1) = j + 1 + m from by omega]
    cases h : L (j + 1 + m) <;> simp_all
  | V :: Ws, j, i + 1, s, W, h, hL, hx, hd => by
    simp only [stF]
    exact stF_hit_t (i := i) (by simpa using h) (by rw [show j + 1 + i = j + (i + 1) from by omega]; exact hL) hx fun m W' hm hlt hLm => hd (m + 1) W' (by simpa using hm) (by omega) (by rw [show j + (m + 1) = j + 1 + m from by omega]; exact hLm)

theorem stF_hit_b {L : Nat → Bool} {x : Nat} {c : Cont} : ∀ {Ws : List St} {j i : Nat} {s W : St}, Ws[i]? = some W → L (j + i) = true → lastk x W.b = some c → (∀ m W', Ws[m]? = some W' → i < m → L (j + m) = true → keysNot x W'.b = true) → lk x (stF L j s Ws).b = some c
  | [], _, _, _, _, h, _, _, _ => by simp at h
  | V :: Ws, j, 0, s, W, h, hL, hx, hd => by
    simp only [List.getElem?_cons_zero, Option.some.injEq] at h
    subst h
    simp only [Nat.add_zero] at hL
    simp only [stF, hL]
    have : lk x (stF (fun _ => false) (j + 1) (s.upd V) Ws).b = some c := by
      have h0 : ∀ (Ws : List St) (j : Nat) (s : St), stF (fun _ => false) j s Ws = s := by
        intro Ws; induction Ws with
        | nil => intros; rfl
        | cons _ _ ih => intro j s; simp only [stF]; exact ih _ _
      rw [h0]; simp [St.upd, lk_setBs, hx]
    rw [← this]
    refine stF_b rfl fun m W' hm hne => hd (m + 1) W' (by simpa using hm) (by omega) ?_
    rw [show j + (m + 1) = j + 1 + m from by omega]
    cases h : L (j + 1 + m) <;> simp_all
  | V :: Ws, j, i + 1, s, W, h, hL, hx, hd => by
    simp only [stF]
    exact stF_hit_b (i := i) (by simpa using h) (by rw [show j + 1 + i = j + (i + 1) from by omega]; exact hL) hx fun m W' hm hlt hLm => hd (m + 1) W' (by simpa using hm) (by omega) (by rw [show j + (m + 1) = j + 1 + m from by omega]; exact hLm)

theorem fresh_stF {L : Nat → Bool} {k : Nat} : ∀ {Ws : List St} {j : Nat} {s : St}, (stF L j s Ws).fresh k = true ↔ s.fresh k = true ∧ ∀ m W, Ws[m]? = some W → L (j + m) = true → noMention k W = true
  | [], _, _ => by simp [stF]
  | V :: Ws, j, s => by
    simp only [stF]
    rw [fresh_stF]
    constructor
    · rintro ⟨h1, h2⟩
      have h3 : s.fresh k = true ∧ (L j = true → noMention k V = true) := by
        cases hL : L j
        · rw [hL] at h1; exact ⟨h1, by simp⟩
        · rw [hL] at h1; simp only [fresh_upd, Bool.and_eq_true] at h1; exact ⟨h1.1, fun _ => h1.2⟩
      refine ⟨h3.1, fun m W hm hLm => ?_⟩
      cases m with
      | zero => simp only [List.getElem?_cons_zero, Option.some.injEq] at hm; subst hm; exact h3.2 (by simpa using hLm)
      | succ m => exact h2 m W (by simpa using hm) (by rw [show j + 1 + m = j + (m + 1) from by omega]; exact hLm)
    · rintro ⟨h1, h2⟩
      refine ⟨?_, fun m W hm hLm => h2 (m + 1) W (by simpa using hm) (by rw [show j + (m + 1) = j + 1 + m from by omega]; exact hLm)⟩
      cases hL : L j
      · exact h1
      · simp only [fresh_upd, h1, h2 0 V rfl (by simpa using hL), Bool.and_self]

def KN (l : List Box) : Prop := (l.map (·.1)).Nodup

theorem mem_keys_setB {k : Nat} {c : Cont} {x : Nat} : ∀ {l : List Box}, x ∈ (setB k c l).map (·.1) → x = k ∨ x ∈ l.map (·.1) := by
  intro l h
  obtain ⟨y, hy, rfl⟩ := List.mem_map.1 h
  rcases mem_setB hy with rfl | hy
  · exact .inl rfl
  · exact .inr (List.mem_map_of_mem hy)

theorem KN.setB {k : Nat} {c : Cont} : ∀ {l : List Box}, KN l → KN (setB k c l)
  | [], _ => by simp [Aw.setB, KN]
  | x :: l, h => by
    simp only [KN, List.map_cons, List.nodup_cons] at h
    simp only [Aw.setB]
    split
    · rename_i hb
      have := beq_true hb
      simp only [KN, List.map_cons, List.nodup_cons]
      exact ⟨this ▸ h.1, h.2⟩
    · rename_i hb
      simp only [KN, List.map_cons, List.nodup_cons]
      refine ⟨fun hm => ?_, KN.setB h.2⟩
      rcases mem_keys_setB hm with e | e
      · exact beq_false hb e
      · exact h.1 e

theorem KN.setBs : ∀ {W l : List Box}, KN l → KN (setBs W l)
  | [], _, h => h
  | x :: W, _, h => KN.setBs (W := W) (l := Aw.setB x.1 x.2 _) (KN.setB h)

theorem KN.stF {L : Nat → Bool} : ∀ {Ws : List St} {j : Nat} {s : St}, KN s.b → KN (stF L j s Ws).b
  | [], _, _, h => h
  | W :: Ws, j, s, h => by
    simp only [Aw.stF]
    refine KN.stF ?_
    cases L j
    · exact h
    · exact KN.setBs h

theorem KN.mem {x : Box} : ∀ {l : List Box}, KN l → (x ∈ l ↔ lk x.1 l = some x.2)
  | [], _ => by simp [lk]
  | y :: l, h => by
    simp only [KN, List.map_cons, List.nodup_cons] at h
    constructor
    · intro hx
      rcases List.mem_cons.1 hx with rfl | hx
      · exact lk_cons_eq
      · have : y.1 ≠ x.1 := fun e => h.1 (e ▸ List.mem_map_of_mem hx)
        rw [show y = (y.1, y.2) from rfl, lk_cons_ne this]
        exact (KN.mem h.2).1 hx
    · exact fun hx => lk_mem hx

theorem nodup_map_of_inj {α β : Type} (f : α → β) : ∀ {l : List α}, l.Nodup → (∀ x, x ∈ l → ∀ y, y ∈ l → f x = f y → x = y) → (l.map f).Nodup
  | [], _, _ => by simp
  | a :: l, h, hi => by
    simp only [List.nodup_cons] at h
    simp only [List.map_cons, List.nodup_cons]
    refine ⟨fun hm => ?_, nodup_map_of_inj f h.2 fun x hx y hy => hi x (List.mem_cons_of_mem _ hx) y (List.mem_cons_of_mem _ hy)⟩
    obtain ⟨y, hy, e⟩ := List.mem_map.1 hm
    have := hi y (List.mem_cons_of_mem _ hy) a (List.mem_cons_self ..) e
    exact h.1 (this ▸ hy)

theorem nodup_of_map {α β : Type} (f : α → β) : ∀ {l : List α}, (l.map f).Nodup → l.Nodup
  | [], _ => by simp
  | a :: l, h => by
    simp only [List.map_cons, List.nodup_cons] at h ⊢
    exact ⟨fun hm => h.1 (List.mem_map_of_mem hm), nodup_of_map f h.2⟩

/-- A state that answers alike. -/
theorem Rel.congr {B : Base} {s s' : St} {a : Act} {w : World} (hr : Rel B s a w) (ht : ∀ i, lk i s'.t = lk i s.t) (hb : ∀ k, lk k s'.b = lk k s.b) (hk : KN s'.b) : Rel B s' a w := by
  obtain ⟨bn, h⟩ := hr
  have hkn : KN s.b := h.kn
  have hm : ∀ x, x ∈ s'.b ↔ x ∈ s.b := fun x => by rw [hk.mem, hkn.mem, hb]
  have hmm : ∀ b, b ∈ blks bn s'.b ↔ b ∈ blks bn s.b := fun b => by
    simp only [mem_blks]
    exact ⟨fun ⟨x, hx, e⟩ => ⟨x, (hm x).1 hx, e⟩, fun ⟨x, hx, e⟩ => ⟨x, (hm x).2 hx, e⟩⟩
  have hcur : cur B (blks bn s'.b) w = cur B (blks bn s.b) w := by
    funext b; unfold cur; simp only [hmm]
  refine ⟨bn, h.defs, h.size, h.ext, h.base, h.keep, fun k hk' => ?_, hk, ?_, fun x hx => h.own x ((hm x).1 hx), fun x hx => ?_, fun i tv e => ?_⟩
  · obtain ⟨x, hx, e⟩ := h.here k hk'; exact ⟨x, (hm x).2 hx, e⟩
  · exact nodup_blks hk (fun x hx => nodup_part h.nod ((hm x).1 hx)) fun x hx y hy hne b hbx hby => blks_apart h.nod ((hm x).1 hx) ((hm y).1 hy) hne hbx hby
  · rw [hcur]; exact h.box x ((hm x).1 hx)
  · rw [hcur]; exact h.tmp i tv (by rw [← ht]; exact e)

theorem RelB.drew {B : Base} {bn : Nat → Loc} {s : St} {a : Act} {w : World} {m : Nat} (h : RelB B bn s a w) : RelB B bn s a { w with drawn := m } :=
  ⟨h.defs, h.size, ⟨h.ext.os, h.ext.tape, h.ext.output, h.ext.size, h.ext.block⟩, h.base, h.keep, h.here, h.kn, h.nod, h.own, h.box, h.tmp⟩

/-! ### The check -/

abbrev Rule := Req × St

def anyKey {α β : Type} : List (Nat × α) → List (Nat × β) → Bool
  | [], _ => false
  | x :: l, l' => (lk x.1 l').isSome || anyKey l l'

def anyMen (W : St) : List Nat → Bool
  | [] => false
  | k :: l => !noMention k W || anyMen W l

/-- X stands before Y in the text: do they clash? -/
def clash (X Y : Rule) : Bool :=
  anyKey X.2.t Y.1.t || anyKey X.2.t Y.2.t || anyKey Y.2.t X.1.t || anyKey X.2.b Y.1.b || anyKey X.2.b Y.2.b || anyKey Y.2.b X.1.b || anyMen Y.2 X.1.f

def bindsTo (o : Oper) (i : Nat) : Bool := o.after.toList.any fun e => Nat.beq e.on i && Region.binds .any e

def edgesLow (o : Oper) (i : Nat) : Bool := o.after.toList.all fun e => Nat.blt e.on i || !Region.binds .any e

def okFrom (i : Nat) (x : Rule) : List (Oper × Rule) → Bool
  | [] => true
  | y :: r => (!clash x y.2 || bindsTo y.1 i) && okFrom i x r

def okAll (i : Nat) : List (Oper × Rule) → Bool
  | [] => true
  | x :: r => edgesLow x.1 i && okFrom i x.2 r && okAll (i + 1) r

theorem anyKey_false {α β : Type} {x : Nat} : ∀ {l : List (Nat × α)} {l' : List (Nat × β)}, anyKey l l' = false → lk x l = none ∨ lk x l' = none
  | [], _, _ => .inl rfl
  | y :: l, l', h => by
    simp only [anyKey, Bool.or_eq_false_iff] at h
    by_cases e : y.1 = x
    · right; rw [← e]; simpa using h.1
    · rcases anyKey_false (x := x) h.2 with h' | h'
      · left; rw [show y = (y.1, y.2) from rfl, lk_cons_ne e]; exact h'
      · exact .inr h'

theorem lk_none_keysNot {x : Nat} : ∀ {l : List Box}, lk x l = none → keysNot x l = true
  | [], _ => rfl
  | y :: l, h => by
    simp only [lk] at h
    split at h
    · cases h
    · rename_i hb; simp only [keysNot, hb, lk_none_keysNot h, Bool.not_false, Bool.and_self]

theorem anyMen_false {W : St} : ∀ {l : List Nat}, anyMen W l = false → ∀ k, k ∈ l → noMention k W = true
  | k' :: l, h, k, hk => by
    simp only [anyMen, Bool.or_eq_false_iff, Bool.not_eq_false'] at h
    rcases List.mem_cons.1 hk with rfl | hk
    · exact h.1
    · exact anyMen_false h.2 k hk

theorem okFrom_get {i : Nat} {x : Rule} : ∀ {l : List (Oper × Rule)} {m : Nat} {y : Oper × Rule}, okFrom i x l = true → l[m]? = some y → clash x y.2 = true → bindsTo y.1 i = true
  | z :: l, 0, y, h, hm, hc => by
    simp only [List.getElem?_cons_zero, Option.some.injEq] at hm
    subst hm
    simp only [okFrom, Bool.and_eq_true, hc] at h
    simpa using h.1
  | z :: l, m + 1, y, h, hm, hc => by
    simp only [okFrom, Bool.and_eq_true] at h
    exact okFrom_get h.2 (by simpa using hm) hc
  | [], _, _, _, hm, _ => by simp at hm

theorem okAll_get : ∀ {l : List (Oper × Rule)} {i m m' : Nat} {x y : Oper × Rule}, okAll i l = true → l[m]? = some x → l[m']? = some y → m < m' → clash x.2 y.2 = true → bindsTo y.1 (i + m) = true
  | z :: l, i, 0, m' + 1, x, y, h, hm, hm', _, hc => by
    simp only [List.getElem?_cons_zero, Option.some.injEq] at hm
    subst hm
    simp only [okAll, Bool.and_eq_true] at h
    exact okFrom_get h.1.2 (by simpa using hm') hc
  | z :: l, i, m + 1, m' + 1, x, y, h, hm, hm', hlt, hc => by
    simp only [okAll, Bool.and_eq_true] at h
    have := okAll_get (i := i + 1) h.2 (by simpa using hm) (by simpa using hm') (by omega) hc
    rw [show i + (m + 1) = i + 1 + m from by omega]; exact this
  | [], _, _, _, _, _, _, hm, _, _, _ => by simp at hm
  | _ :: _, _, _, 0, _, _, _, _, _, hlt, _ => by omega

theorem okAll_low : ∀ {l : List (Oper × Rule)} {i m : Nat} {x : Oper × Rule}, okAll i l = true → l[m]? = some x → edgesLow x.1 (i + m) = true
  | z :: l, i, 0, x, h, hm => by
    simp only [List.getElem?_cons_zero, Option.some.injEq] at hm
    subst hm
    simp only [okAll, Bool.and_eq_true] at h
    exact h.1.1
  | z :: l, i, m + 1, x, h, hm => by
    simp only [okAll, Bool.and_eq_true] at h
    rw [show i + (m + 1) = i + 1 + m from by omega]; exact okAll_low h.2 (by simpa using hm)
  | [], _, _, _, _, hm => by simp at hm

/-- A local rule over one base. -/
def LRb (P : Program) (B : Base) (ops : Array Oper) (o : Oper) (R : Req) (W : St) : Prop := ∀ s a w, Sat s R → Rel B s a w → OpK P ops o a w (fun a' w' => Rel B (s.upd W) a' w')

def LRAll (P : Program) (B : Base) (ops : Array Oper) : List Oper → List Rule → Prop
  | [], [] => True
  | o :: l, x :: r => LRb P B ops o x.1 x.2 ∧ LRAll P B ops l r
  | _, _ => False

def SatAll : St → List Rule → Prop
  | _, [] => True
  | s, x :: r => Sat s x.1 ∧ SatAll (s.upd x.2) r

def updAll : St → List Rule → St
  | s, [] => s
  | s, x :: r => updAll (s.upd x.2) r

theorem LRAll.length {P : Program} {B : Base} {ops : Array Oper} : ∀ {l : List Oper} {r : List Rule}, LRAll P B ops l r → l.length = r.length
  | [], [], _ => rfl
  | _ :: _, _ :: _, h => by simp [LRAll.length h.2]
  | [], _ :: _, h => h.elim
  | _ :: _, [], h => h.elim

theorem LRAll.get {P : Program} {B : Base} {ops : Array Oper} : ∀ {l : List Oper} {r : List Rule} {i : Nat} {o : Oper} {x : Rule}, LRAll P B ops l r → l[i]? = some o → r[i]? = some x → LRb P B ops o x.1 x.2
  | _ :: _, _ :: _, 0, _, _, h, ho, hx => by simp at ho hx; subst ho; subst hx; exact h.1
  | _ :: _, _ :: _, _ + 1, _, _, h, ho, hx => LRAll.get h.2 (by simpa using ho) (by simpa using hx)
  | [], [], _, _, _, _, ho, _ => by simp at ho
  | [], _ :: _, _, _, _, h, _, _ => h.elim
  | _ :: _, [], _, _, _, h, _, _ => h.elim

theorem stF_none {L : Nat → Bool} : ∀ {Ws : List St} {j : Nat} {s : St}, (∀ m, m < Ws.length → L (j + m) = false) → stF L j s Ws = s
  | [], _, _, _ => rfl
  | W :: Ws, j, s, h => by
    simp only [stF]
    have h0 := h 0 (by simp)
    simp only [Nat.add_zero] at h0
    rw [h0]
    exact stF_none fun m hm => by rw [show j + 1 + m = j + (m + 1) from by omega]; exact h (m + 1) (by simp; omega)

theorem stF_all {L : Nat → Bool} : ∀ {r : List Rule} {j : Nat} {s : St}, (∀ m, m < r.length → L (j + m) = true) → stF L j s (r.map (·.2)) = updAll s r
  | [], _, _, _ => rfl
  | x :: r, j, s, h => by
    simp only [List.map_cons, stF, updAll]
    have h0 := h 0 (by simp)
    simp only [Nat.add_zero] at h0
    rw [h0]
    exact stF_all fun m hm => by rw [show j + 1 + m = j + (m + 1) from by omega]; exact h (m + 1) (by simp; omega)

theorem SatAll.get : ∀ {r : List Rule} {s : St} {i j : Nat} {x : Rule}, SatAll s r → r[i]? = some x → Sat (stF (fun m => decide (m < j + i)) j s (r.map (·.2))) x.1
  | y :: r, s, 0, j, x, h, hx => by
    simp only [List.getElem?_cons_zero, Option.some.injEq] at hx
    subst hx
    rw [stF_none (by intro m _; simp)]
    exact h.1
  | y :: r, s, i + 1, j, x, h, hx => by
    simp only [List.map_cons, stF]
    have := SatAll.get (i := i) (j := j + 1) h.2 (by simpa using hx)
    rw [show decide (j < j + (i + 1)) = true from by simp]
    rw [show j + (i + 1) = j + 1 + i from by omega]
    exact this
  | [], _, _, _, _, _, hx => by simp at hx

theorem SatT_congr {s s' : St} : ∀ {r : List (Nat × TV)}, (∀ i, (lk i r).isSome → lk i s'.t = lk i s.t) → SatT s r → SatT s' r
  | [], _, _ => trivial
  | x :: r, h, hs => by
    refine ⟨(h x.1 (by simp [lk])).trans hs.1, SatT_congr (fun i hi => h i ?_) hs.2⟩
    simp only [lk]
    split
    · rfl
    · exact hi

theorem SatB_congr {s s' : St} : ∀ {r : List Box}, (∀ i, (lk i r).isSome → lk i s'.b = lk i s.b) → SatB s r → SatB s' r
  | [], _, _ => trivial
  | x :: r, h, hs => by
    refine ⟨(h x.1 (by simp [lk])).trans hs.1, SatB_congr (fun i hi => h i ?_) hs.2⟩
    simp only [lk]
    split
    · rfl
    · exact hi

theorem SatF_mem {s : St} : ∀ {l : List Nat}, SatF s l → ∀ k, k ∈ l → s.fresh k = true
  | _ :: _, h, k, hk => by
    rcases List.mem_cons.1 hk with rfl | hk
    · exact h.1
    · exact SatF_mem h.2 k hk

theorem SatF_mk {s : St} : ∀ {l : List Nat}, (∀ k, k ∈ l → s.fresh k = true) → SatF s l
  | [], _ => trivial
  | k :: _, h => ⟨h k (List.mem_cons_self ..), SatF_mk fun k' hk => h k' (List.mem_cons_of_mem _ hk)⟩

section
variable {P : Program} {B : Base} {Q : Exit → St → Prop} {s : St} {l : List Oper} {rules : List Rule}

/-- What is listed is closed under the edges that bind. -/
def Closed (l : List Oper) (L : Nat → Bool) : Prop := ∀ i o j, l[i]? = some o → L i = true → bindsTo o j = true → L j = true

theorem noClash (hok : okAll 0 (l.zip rules) = true) (hl : LRAll P B l.toArray l rules) {L : Nat → Bool} (hc : Closed l L) {j : Nat} (hj : L j = false) {x : Rule} (hx : rules[j]? = some x)
    (hpre : ∀ o, l[j]? = some o → ∀ m, bindsTo o m = true → L m = true) {m : Nat} {y : Rule} (hy : rules[m]? = some y) :
    (m < j → L m = false → clash y x = false) ∧ (j < m → L m = true → clash x y = false) := by
  have hlen := hl.length
  have hz : ∀ i r, rules[i]? = some r → ∃ o, l[i]? = some o ∧ (l.zip rules)[i]? = some (o, r) := fun i r hr => by
    have : i < l.length := by rw [hlen]; exact (List.getElem?_eq_some_iff.1 hr).1
    refine ⟨l[i], List.getElem?_eq_getElem this, ?_⟩
    rw [List.getElem?_zip_eq_some]
    exact ⟨List.getElem?_eq_getElem this, hr⟩
  obtain ⟨oj, hoj, hzj⟩ := hz j x hx
  obtain ⟨om, hom, hzm⟩ := hz m y hy
  constructor
  · intro hlt hLm
    cases hcl : clash y x with
    | false => rfl
    | true =>
      have := okAll_get (i := 0) hok hzm hzj hlt hcl
      rw [Nat.zero_add] at this
      rw [hpre oj hoj m this] at hLm; cases hLm
  · intro hlt hLm
    cases hcl : clash x y with
    | false => rfl
    | true =>
      have := okAll_get (i := 0) hok hzj hzm hlt hcl
      rw [Nat.zero_add] at this
      rw [hc m om j hom hLm this] at hj; cases hj

theorem draw_step (hkn : KN s.b) (hok : okAll 0 (l.zip rules) = true) (hl : LRAll P B l.toArray l rules) (hs : SatAll s rules) {L : Nat → Bool} (hc : Closed l L) {j : Nat} (hj : L j = false) {o : Oper} {x : Rule} (ho : l[j]? = some o) (hx : rules[j]? = some x)
    (hpre : ∀ m, bindsTo o m = true → L m = true) {a : Act} {w : World} (hr : Rel B (stF L 0 s (rules.map (·.2))) a w) :
    OpK P l.toArray o a w fun a' w' => Rel B (stF (fun m => L m || decide (m = j)) 0 s (rules.map (·.2))) a' w' := by
  have hpre' : ∀ o', l[j]? = some o' → ∀ m, bindsTo o' m = true → L m = true := fun o' ho' => by rw [ho] at ho'; cases ho'; exact hpre
  have hW : ∀ m W, (rules.map (·.2))[m]? = some W → ∃ y : Rule, rules[m]? = some y ∧ y.2 = W := fun m W h => by
    rw [List.getElem?_map, Option.map_eq_some_iff] at h; exact h
  have hnc := fun {m : Nat} {y : Rule} (hy : rules[m]? = some y) => noClash hok hl hc hj hx hpre' hy
  have hsat0 : Sat (stF (fun m => decide (m < 0 + j)) 0 s (rules.map (·.2))) x.1 := hs.get hx
  rw [Nat.zero_add] at hsat0
  -- where the two states part, X does not look
  have hpart : ∀ m W, (rules.map (·.2))[m]? = some W → L (0 + m) ≠ decide (0 + m < j) → ∃ y : Rule, y.2 = W ∧ ((m < j ∧ clash y x = false) ∨ (j < m ∧ clash x y = false)) := fun m W hm hne => by
    obtain ⟨y, hy, rfl⟩ := hW m W hm
    rw [Nat.zero_add] at hne
    refine ⟨y, rfl, ?_⟩
    rcases Nat.lt_trichotomy m j with h | h | h
    · have : L m = false := by cases hLm : L m; rfl; rw [hLm] at hne; simp [h] at hne
      exact .inl ⟨h, (hnc hy).1 h this⟩
    · subst h; rw [hj] at hne; simp at hne
    · have : L m = true := by cases hLm : L m; rw [hLm] at hne; simp at hne; omega; rfl
      exact .inr ⟨h, (hnc hy).2 h this⟩
  have hsat : Sat (stF L 0 s (rules.map (·.2))) x.1 := by
    refine ⟨SatT_congr (fun i hi => ?_) hsat0.1, SatB_congr (fun i hi => ?_) hsat0.2.1, SatF_mk fun k hk => ?_⟩
    · refine stF_t rfl fun m W hm hne => ?_
      obtain ⟨y, rfl, h⟩ := hpart m W hm hne
      rcases h with ⟨_, h⟩ | ⟨_, h⟩
      · simp only [clash, Bool.or_eq_false_iff] at h
        rcases anyKey_false (x := i) h.1.1.1.1.1.1 with h' | h'
        · exact h'
        · rw [h'] at hi; cases hi
      · simp only [clash, Bool.or_eq_false_iff] at h
        rcases anyKey_false (x := i) h.1.1.1.1.2 with h' | h'
        · exact h'
        · rw [h'] at hi; cases hi
    · refine stF_b rfl fun m W hm hne => ?_
      obtain ⟨y, rfl, h⟩ := hpart m W hm hne
      refine lk_none_keysNot ?_
      rcases h with ⟨_, h⟩ | ⟨_, h⟩
      · simp only [clash, Bool.or_eq_false_iff] at h
        rcases anyKey_false (x := i) h.1.1.1.2 with h' | h'
        · exact h'
        · rw [h'] at hi; cases hi
      · simp only [clash, Bool.or_eq_false_iff] at h
        rcases anyKey_false (x := i) h.1.2 with h' | h'
        · exact h'
        · rw [h'] at hi; cases hi
    · have h0 := fresh_stF.1 (SatF_mem hsat0.2.2 k hk)
      refine fresh_stF.2 ⟨h0.1, fun m W hm hLm => ?_⟩
      by_cases hmj : m < j
      · exact h0.2 m W hm (by simp [hmj])
      · rw [Nat.zero_add] at hLm
        obtain ⟨y, hy, rfl⟩ := hW m W hm
        have hjm : j < m := by rcases Nat.lt_or_ge j m with h | h; exact h; have : m = j := by omega
                               subst this; rw [hj] at hLm; cases hLm
        have h := (hnc hy).2 hjm hLm
        simp only [clash, Bool.or_eq_false_iff] at h
        exact anyMen_false h.2 k hk
  have h1 := hl.get ho hx _ a w hsat hr
  have hfin : ∀ a' w', Rel B ((stF L 0 s (rules.map (·.2))).upd x.2) a' w' → Rel B (stF (fun m => L m || decide (m = j)) 0 s (rules.map (·.2))) a' w' := by
    intro a' w' hr'
    refine hr'.congr (fun i => ?_) (fun k => ?_) (KN.stF hkn)
    · simp only [St.upd, lk_append]
      cases hi : lk i x.2.t with
      | none =>
        simp only [Option.none_or]
        refine stF_t rfl fun m W hm hne => ?_
        rw [Nat.zero_add] at hne
        have : m = j := by
          rcases Nat.decEq m j with h | h
          · simp [h] at hne
          · exact h
        subst this
        obtain ⟨y, hy, rfl⟩ := hW m W hm
        rw [hx] at hy; cases hy; exact hi
      | some c =>
        simp only [Option.some_or]
        refine stF_hit_t (i := j) (by simp [hx]) (by simp) hi fun m W' hm hlt hLm => ?_
        obtain ⟨y, hy, rfl⟩ := hW m W' hm
        have hLm' : L m = true := by rw [Nat.zero_add] at hLm; simpa [show m ≠ j from by omega] using hLm
        have h := (hnc hy).2 hlt hLm'
        simp only [clash, Bool.or_eq_false_iff] at h
        rcases anyKey_false (x := i) h.1.1.1.1.1.2 with h' | h'
        · rw [h'] at hi; cases hi
        · exact h'
    · simp only [St.upd, lk_setBs]
      cases hi : lastk k x.2.b with
      | none =>
        simp only [Option.none_or]
        refine stF_b rfl fun m W hm hne => ?_
        rw [Nat.zero_add] at hne
        have : m = j := by
          rcases Nat.decEq m j with h | h
          · simp [h] at hne
          · exact h
        subst this
        obtain ⟨y, hy, rfl⟩ := hW m W hm
        rw [hx] at hy; cases hy
        exact lastk_keysNot hi
      | some c =>
        simp only [Option.some_or]
        refine stF_hit_b (i := j) (by simp [hx]) (by simp) hi fun m W' hm hlt hLm => ?_
        obtain ⟨y, hy, rfl⟩ := hW m W' hm
        have hLm' : L m = true := by rw [Nat.zero_add] at hLm; simpa [show m ≠ j from by omega] using hLm
        have h := (hnc hy).2 hlt hLm'
        simp only [clash, Bool.or_eq_false_iff] at h
        refine lk_none_keysNot ?_
        rcases anyKey_false (x := k) h.1.1.2 with h' | h'
        · rw [lastk_none (lk_none_keysNot h')] at hi; cases hi
        · exact h'
  unfold OpK at h1 ⊢
  split
  · rename_i hw; rw [if_pos hw] at h1; exact Oper.wp_mono hfin h1
  · rename_i hw; rw [if_neg hw] at h1; exact hfin _ _ h1

/-- How many are still to come. -/
def todo (listed : Array Bool) : Nat := (listed.toList.filter (!·)).length

theorem todo_set {listed : Array Bool} {j : Nat} (h : listed.getD j true = false) : todo (listed.setIfInBounds j true) + 1 = todo listed := by
  have hlt : j < listed.size := by
    rcases Nat.lt_or_ge j listed.size with h' | h'
    · exact h'
    · rw [Array.getD_eq_getD_getElem?, Array.getElem?_eq_none h'] at h; cases h
  obtain ⟨l⟩ := listed
  simp only [todo, List.setIfInBounds_toArray]
  simp only [Array.getD_eq_getD_getElem?, List.getElem?_toArray] at h
  simp only [List.size_toArray] at hlt
  induction l generalizing j with
  | nil => simp at hlt
  | cons b l ih =>
    cases j with
    | zero => simp at h; subst h; simp
    | succ j =>
      have := ih (j := j) (by simpa using h) (by simpa using hlt)
      cases b <;> simp_all

theorem AW_draw {id : Nat} (hm : P.follows .mixedOrders = true) (hl : LRAll P B l.toArray l rules) (hok : okAll 0 (l.zip rules) = true) (hs : SatAll s rules) (hq : Q .normal (updAll s rules)) :
    AW P B (.region id l.toArray true) Q s := by
  intro a w hr
  refine wp_region_any hm ?_
  have hlen := hl.length
  have hkn : KN s.b := by obtain ⟨bn, hb⟩ := hr; exact hb.kn
  have key : ∀ (fuel : Nat) (listed : Array Bool) (a : Act) (w : World), listed.size = l.length → todo listed ≤ fuel → Closed l (fun m => listed.getD m false) → Rel B (stF (fun m => listed.getD m false) 0 s (rules.map (·.2))) a w →
      wpAny P .any l.toArray (fun e a' w' => ∃ s', Q e s' ∧ Rel B s' a' w') fuel listed a w := by
    -- all is listed: the end
    have fin : ∀ (listed : Array Bool) (a : Act) (w : World), listed.size = l.length → (∀ m, m < l.length → listed.getD m false = true) → Rel B (stF (fun m => listed.getD m false) 0 s (rules.map (·.2))) a w → ∃ s', Q .normal s' ∧ Rel B s' a w := by
      intro listed a w _ hall hr
      refine ⟨_, hq, ?_⟩
      rw [stF_all (fun m hm => by rw [Nat.zero_add]; exact hall m (by rw [hlen]; exact hm))] at hr
      exact hr
    -- nothing is ready: all is listed
    have none : ∀ (listed : Array Bool), listed.size = l.length → Region.ready .any l.toArray listed = [] → ∀ m, m < l.length → listed.getD m false = true := by
      intro listed hsz hre m
      induction m using Nat.strongRecOn with
      | _ m ih =>
        intro hml
        cases hb : listed.getD m false with
        | true => rfl
        | false =>
          exfalso
          have : m ∈ Region.ready .any l.toArray listed := by
            rw [mem_ready]
            refine ⟨?_, l[m], by simp [hml], fun e he hbi => ?_⟩
            · rw [Array.getD_eq_getD_getElem?, Array.getElem?_eq_getElem (by omega)] at hb ⊢; exact hb
            · have hzm : (l.zip rules)[m]? = some (l[m], rules[m]'(by omega)) := by
                rw [List.getElem?_zip_eq_some]; exact ⟨List.getElem?_eq_getElem hml, List.getElem?_eq_getElem (by omega)⟩
              have hlow := okAll_low hok hzm
              rw [Nat.zero_add] at hlow
              have := List.all_eq_true.1 hlow e (by simpa using he)
              simp only [hbi, Bool.not_true, Bool.or_false, Nat.blt_eq] at this
              exact ih e.on this (by omega)
          rw [hre] at this
          cases this
    intro fuel
    induction fuel with
    | zero =>
      intro listed a w hsz htd hc hr
      have hre : Region.ready .any l.toArray listed = [] := by
        cases h : Region.ready .any l.toArray listed with
        | nil => rfl
        | cons j _ =>
          have hj : j ∈ Region.ready .any l.toArray listed := by rw [h]; exact List.mem_cons_self ..
          have := todo_set (mem_ready.1 hj).1
          omega
      exact ⟨hre, fin listed a w hsz (none listed hsz hre) hr⟩
    | succ fuel ih =>
      intro listed a w hsz htd hc hr
      refine ⟨fun hre => fin listed a w hsz (none listed hsz hre) hr, fun j hj => ?_⟩
      obtain ⟨hun, o, ho, hall⟩ := mem_ready.1 hj
      have hjl : j < l.length := by simpa using (Array.getElem?_eq_some_iff.1 ho).1
      have ho' : l[j]? = some o := by simpa using ho
      have hjf : listed.getD j false = false := by
        rw [Array.getD_eq_getD_getElem?, Array.getElem?_eq_getElem (by omega)] at hun ⊢; exact hun
      have hx : rules[j]? = some (rules[j]'(by omega)) := List.getElem?_eq_getElem (by omega)
      have hpre : ∀ m, bindsTo o m = true → listed.getD m false = true := fun m hb => by
        obtain ⟨e, he, h2⟩ := List.any_eq_true.1 hb
        simp only [Bool.and_eq_true] at h2
        rw [← beq_true h2.1]
        exact hall e (by simpa using he) h2.2
      have hset : ∀ m, (listed.setIfInBounds j true).getD m false = (listed.getD m false || decide (m = j)) := fun m => by
        by_cases e : m = j
        · subst e; simp [Array.getD_eq_getD_getElem?, show m < listed.size from by omega]
        · simp only [Array.getD_eq_getD_getElem?]
          rw [Array.getElem?_setIfInBounds_ne (fun h => e h.symm)]; simp [e]
      have h1 := draw_step hkn hok hl hs hc hjf ho' hx hpre hr
      unfold OpK at h1
      unfold wpOp
      simp only [ho]
      have hnext : ∀ a' w', Rel B (stF (fun m => listed.getD m false || decide (m = j)) 0 s (rules.map (·.2))) a' w' → wpAny P .any l.toArray (fun e a' w' => ∃ s', Q e s' ∧ Rel B s' a' w') fuel (listed.setIfInBounds j true) a' w' := by
        intro a' w' hr'
        refine ih (listed.setIfInBounds j true) a' w' (by simpa using hsz) (by have := todo_set hun; omega) ?_ ?_
        · intro i o' m hi hLi hb
          simp only [hset] at hLi ⊢
          by_cases e : i = j
          · subst e
            rw [ho'] at hi; cases hi
            simp [hpre m hb]
          · simp only [e, decide_false, Bool.or_false] at hLi
            simp [hc i o' m hi hLi hb]
        · have : (fun m => (listed.setIfInBounds j true).getD m false) = fun m => listed.getD m false || decide (m = j) := funext hset
          rw [this]; exact hr'
      split
      · rename_i hw; rw [if_pos hw] at h1; exact .inl (Oper.wp_false hnext h1)
      · rename_i hw; rw [if_neg hw] at h1; exact hnext _ _ h1
  refine key l.toArray.size (Array.replicate l.toArray.size false) a _ (by simp) (by simp [todo]) ?_ ?_
  · intro i o j _ h _
    simp only [Array.getD_eq_getD_getElem?, Array.getElem?_replicate] at h
    split at h <;> cases h
  · rw [stF_none (by intro m _; simp [Array.getD_eq_getD_getElem?, Array.getElem?_replicate]; split <;> rfl)]
    obtain ⟨bn, hb⟩ := hr
    exact ⟨bn, hb.drew⟩
end
end Go.Aw
