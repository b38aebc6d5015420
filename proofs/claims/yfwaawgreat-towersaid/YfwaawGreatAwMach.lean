/-
  Rows that grow: a slice header and its block are a resource of ours; append.
-/
import Derived.Test.YfwaawGreatAwTab
import Derived.ArgAppend
namespace Go.Aw
open Go.RowKit

section
variable {P : Program} {B : Base} {n : Nat} {ops : Array Oper}

theorem RelB.updGen {bn bn' : Nat → Loc} {s : St} {a : Act} {w w' : World} {bo : List Box} (h : RelB B bn s a w) (hkn : KN bo) (hpres : ∀ y, y ∈ bo → (lk y.1 s.b).isSome = true)
    (hsame : ∀ j, j ∉ keysOf bo → bn' j = bn j) (hbase : ∀ y, y ∈ bo → y.1 ∈ B.kb → (bn' y.1).b = (bn y.1).b) (htv : ∀ i tv, lk i s.t = some tv → ∀ H v, TV.holds H bn tv v → TV.holds H bn' tv v)
    (hin : ∀ y, y ∈ bo → ∀ b, b ∈ (bn' y.1).xs → b ∈ blks bn bo ∨ w.heap.size ≤ b) (hnd : (blks bn' bo).Nodup)
    (ho : ∀ b, b < w.heap.size → b ∉ blks bn bo → w'.heap[b]? = w.heap[b]?) (hsz : w.heap.size ≤ w'.heap.size) (h1 : w'.os = w.os) (h2 : w'.tape = w.tape) (h3 : w'.output = w.output)
    (hc : ∀ y, y ∈ bo → y.2.p (hpOf w') (extO (cur B (blks bn s.b) w) w w' (blks bn' bo)) (bn' y.1)) :
    RelB B bn' ⟨s.t, setBs bo s.b⟩ a w' ∧ PH.le (extO (cur B (blks bn s.b) w) w w' (blks bn' bo)) (cur B (blks bn' (setBs bo s.b)) w') := by
  have hkeys := keys_setBs (l := s.b) hpres
  have hknS : KN (setBs bo s.b) := by show (keysOf _).Nodup; rw [hkeys]; exact h.kn
  -- every member of the new state is one of the callee's or an old one that it did not touch
  have hmem : ∀ x, x ∈ setBs bo s.b → x ∈ bo ∨ (x ∈ s.b ∧ x.1 ∉ keysOf bo) := fun x hx => by
    by_cases hxk : x.1 ∈ keysOf bo
    case neg =>
      rcases mem_setBs0 hx with h' | h'
      · exact .inl h'
      · exact .inr ⟨h', hxk⟩
    case pos =>
      obtain ⟨y, hy, e⟩ := List.mem_map.1 hxk
      left
      have e1 : lk x.1 (setBs bo s.b) = some x.2 := hknS.mem.1 hx
      rw [← e, lk_setBs_mem hkn hy] at e1
      have : y = x := Prod.ext e (Option.some.inj e1)
      exact this ▸ hy
  have hold : ∀ y, y ∈ bo → ∃ c, (y.1, c) ∈ s.b := fun y hy => by
    obtain ⟨c, hc⟩ := Option.isSome_iff_exists.1 (hpres y hy)
    exact ⟨c, lk_mem hc⟩
  have hT : ∀ b, b ∈ blks bn bo → b ∈ blks bn s.b := fun b hb => by
    obtain ⟨y, hy, e⟩ := mem_blks.1 hb
    obtain ⟨c, hc⟩ := hold y hy
    exact mem_blks.2 ⟨_, hc, e⟩
  have hlt : ∀ x, x ∈ s.b → ∀ b, b ∈ (bn x.1).xs → b < w.heap.size := fun x hx b hb => h.lt hx hb
  have hapart : ∀ x, x ∈ s.b → x.1 ∉ keysOf bo → ∀ b, b ∈ (bn x.1).xs → b ∉ blks bn bo := fun x hx hxk b hb hb' => by
    obtain ⟨y, hy, e⟩ := mem_blks.1 hb'
    obtain ⟨c, hc⟩ := hold y hy
    exact blks_apart h.nod hx hc (fun e' => hxk (by rw [e']; exact List.mem_map.2 ⟨y, hy, rfl⟩)) hb e
  have hmemb : ∀ b, b ∈ blks bn' (setBs bo s.b) → b ∈ blks bn' bo ∨ (b ∈ blks bn s.b ∧ b ∉ blks bn bo) := fun b hb => by
    obtain ⟨x, hx, e⟩ := mem_blks.1 hb
    rcases hmem x hx with h' | ⟨h', hk'⟩
    · exact .inl (mem_blks.2 ⟨x, h', e⟩)
    · rw [hsame _ hk'] at e
      exact .inr ⟨mem_blks.2 ⟨x, h', e⟩, hapart x h' hk' b e⟩
  have hle0 : PH.le (extO (cur B (blks bn s.b) w) w w' (blks bn' bo)) (cur B (blks bn' (setBs bo s.b)) w') := by
    intro b o e
    unfold extO at e
    split at e
    · cases e
    · rename_i hnb
      split at e
      · rename_i hlt'
        obtain ⟨g1, g2⟩ := h.curIn b o e
        unfold cur at e ⊢
        rw [if_neg g1] at e
        rw [if_neg (fun hm => by rcases hmemb b hm with h' | ⟨h', _⟩; exact hnb h'; exact g1 h')]
        split
        · rename_i h3; rw [if_pos h3] at e; exact e
        · rw [ho b hlt' (fun hm => g1 (hT b hm))]; exact g2
      · rename_i hge
        unfold cur
        rw [if_neg (fun hm => by
          rcases hmemb b hm with h' | ⟨h', _⟩
          · exact hnb h'
          · obtain ⟨x, hx, e'⟩ := mem_blks.1 h'; have := hlt x hx b e'; omega), if_neg (by have := h.ext.size; omega)]
        exact e
  have hle : PH.le (cur B (blks bn s.b) w) (cur B (blks bn' (setBs bo s.b)) w') := by
    intro b o e
    obtain ⟨g1, g2⟩ := h.curIn b o e
    have hb : b < w.heap.size := by
      rcases Nat.lt_or_ge b w.heap.size with h' | h'
      · exact h'
      · rw [Array.getElem?_eq_none h'] at g2; cases g2
    refine hle0 b o ?_
    unfold extO
    rw [if_neg, if_pos hb]
    · exact e
    · intro hm
      obtain ⟨y, hy, e'⟩ := mem_blks.1 hm
      rcases hin y hy b e' with h' | h'
      · exact g1 (hT b h')
      · omega
  refine ⟨⟨h.defs, h.size, ?_, h.base, ?_, ?_, hknS, ?_, ?_, ?_, ?_⟩, hle0⟩
  · refine ⟨h1.trans h.ext.os, h2.trans h.ext.tape, h3.trans h.ext.output, Nat.le_trans h.ext.size hsz, fun j hj hjn => ?_⟩
    rw [ho j (Nat.lt_of_lt_of_le hj h.ext.size) (fun hm => by
      obtain ⟨y, hy, e⟩ := mem_blks.1 hm
      obtain ⟨c, hc⟩ := hold y hy
      rcases h.own _ hc j e with h' | h'; omega; exact hjn h')]
    exact h.ext.block j hj hjn
  · intro j hj
    by_cases e : j ∈ keysOf bo
    · obtain ⟨y, hy, rfl⟩ := List.mem_map.1 e; rw [hbase y hy hj]; exact h.keep _ hj
    · rw [hsame j e]; exact h.keep j hj
  · intro j hj
    obtain ⟨x, hx, e⟩ := h.here j hj
    have : j ∈ keysOf (setBs bo s.b) := by rw [hkeys]; exact List.mem_map.2 ⟨x, hx, e⟩
    obtain ⟨y, hy, e'⟩ := List.mem_map.1 this
    exact ⟨y, hy, e'⟩
  · refine nodup_blks hknS (fun x hx => ?_) (fun x hx y hy hxy b hbx hby => ?_)
    · rcases hmem x hx with h' | ⟨h', hk'⟩
      · exact nodup_part hnd h'
      · rw [hsame _ hk']; exact nodup_part h.nod h'
    · rcases hmem x hx with hx' | ⟨hx', hkx⟩ <;> rcases hmem y hy with hy' | ⟨hy', hky⟩
      · exact blks_apart hnd hx' hy' hxy hbx hby
      · rw [hsame _ hky] at hby
        rcases hin x hx' b hbx with h' | h'
        · exact hapart y hy' hky b hby h'
        · have := hlt y hy' b hby; omega
      · rw [hsame _ hkx] at hbx
        rcases hin y hy' b hby with h' | h'
        · exact hapart x hx' hkx b hbx h'
        · have := hlt x hx' b hbx; omega
      · rw [hsame _ hkx] at hbx
        rw [hsame _ hky] at hby
        exact blks_apart h.nod hx' hy' hxy hbx hby
  · intro x hx b hb
    rcases hmem x hx with h' | ⟨h', hk'⟩
    · rcases hin x h' b hb with g | g
      · obtain ⟨y, hy, e⟩ := mem_blks.1 g
        obtain ⟨c, hc⟩ := hold y hy
        exact h.own _ hc b e
      · exact .inl (Nat.le_trans h.ext.size g)
    · rw [hsame _ hk'] at hb; exact h.own x h' b hb
  · intro x hx
    rcases hmem x hx with h' | ⟨h', hk'⟩
    · exact x.2.up _ _ _ _ _ hle0 (fun _ _ => rfl) (hc x h')
    · rw [hsame _ hk']
      exact x.2.up _ _ _ _ _ hle (fun b hb => ho b (hlt x h' b hb) (hapart x h' hk' b hb)) (h.box x h')
  · intro i tv e
    have h0 := h.tmp i tv e
    exact TV.holds_up hle (fun _ _ => rfl) (htv i tv e _ _ h0)

end

/-- The same heap, its blocks told of anew. -/
theorem RelB.reshape {B : Base} {bn bn' : Nat → Loc} {s s' : St} {a : Act} {w : World} (h : RelB B bn s a w) (hkeep : ∀ k, k ∈ B.kb → (bn' k).b = (bn k).b) (hhere : ∀ k, k ∈ B.kb → ∃ x, x ∈ s'.b ∧ x.1 = k)
    (hkn : (s'.b.map (·.1)).Nodup) (hnod : (blks bn' s'.b).Nodup) (hsub : ∀ b, b ∈ blks bn' s'.b → b ∈ blks bn s.b)
    (hbox : PH.le (cur B (blks bn s.b) w) (cur B (blks bn' s'.b) w) → ∀ x, x ∈ s'.b → x.2.p (hpOf w) (cur B (blks bn' s'.b) w) (bn' x.1))
    (htmp : PH.le (cur B (blks bn s.b) w) (cur B (blks bn' s'.b) w) → ∀ i tv, lk i s'.t = some tv → TV.holds (cur B (blks bn' s'.b) w) bn' tv (a.tmps.getD i undef)) : RelB B bn' s' a w := by
  have hle : PH.le (cur B (blks bn s.b) w) (cur B (blks bn' s'.b) w) := fun b o e => by
    unfold cur at e ⊢
    split at e
    · cases e
    · rename_i hb; rw [if_neg (fun hm => hb (hsub _ hm))]; exact e
  refine ⟨h.defs, h.size, h.ext, h.base, fun k hk => (hkeep k hk).trans (h.keep k hk), hhere, hkn, hnod, fun x hx b hb => ?_, hbox hle, htmp hle⟩
  obtain ⟨y, hy, e⟩ := mem_blks.1 (hsub b (mem_blks.2 ⟨x, hx, hb⟩))
  exact h.own y hy b e

/-- The cells of a row of elements. -/
def flatN {α : Type} (K : α → List Value) (n : Nat) (f : Nat → α) : List Value := (List.range n).flatMap fun i => K (f i)

theorem flatN_succ {α : Type} {K : α → List Value} {n : Nat} {f : Nat → α} {u : α} : flatN K (n + 1) (upd f n u) = flatN K n f ++ K u := by
  unfold flatN
  rw [List.range_succ, List.flatMap_append]
  congr 1
  · exact flatMap_congr' fun i hi => by rw [upd_ne (by have := List.mem_range.1 hi; omega)]
  · simp [upd_eq]
theorem flatN_length {α : Type} {K : α → List Value} {sz : Nat} (hK : ∀ a, (K a).length = sz) {f : Nat → α} : ∀ {n : Nat}, (flatN K n f).length = n * sz
  | 0 => by simp [flatN]
  | n + 1 => by
    have := flatN_length hK (f := f) (n := n)
    unfold flatN at this ⊢
    rw [List.range_succ, List.flatMap_append, List.length_append, this, Nat.add_mul]
    simp [hK]

/-- A slice's header and its block. -/
def HeadOf {α : Type} (hp : Nat → Option Obj) (K : α → List Value) (sz : Nat) (x : NS α) (sv : Value) (ys : List Nat) : Prop :=
  (x.1 = true ∧ x.2.1 = 0 ∧ sv = .slice none 0 0 ∧ ys = []) ∨
  (x.1 = false ∧ ∃ g cap cur ty, ys = [g] ∧ sv = .slice (some ⟨g, 0, none⟩) x.2.1 cap ∧ hp g = some (.cells cur ty (0, 0)) ∧ x.2.1 ≤ cap ∧ cap ≤ maxLen ∧ cur.size = cap * sz ∧ cur.toList.take (x.2.1 * sz) = flatN K x.2.1 x.2.2)

theorem HeadOf.up {α : Type} {hp hp' : Nat → Option Obj} {K : α → List Value} {sz : Nat} {x : NS α} {sv : Value} {ys : List Nat} (hb : ∀ b, b ∈ ys → hp' b = hp b) (h : HeadOf hp K sz x sv ys) : HeadOf hp' K sz x sv ys := by
  rcases h with h | ⟨h1, g, cap, cur, ty, rfl, h2, h3, h4⟩
  · exact .inl h
  · exact .inr ⟨h1, g, cap, cur, ty, rfl, h2, (hb g (by simp)).trans h3, h4⟩
theorem HeadOf.dom {α : Type} {hp : Nat → Option Obj} {K : α → List Value} {sz : Nat} {x : NS α} {sv : Value} {ys : List Nat} (h : HeadOf hp K sz x sv ys) : ∀ b, b ∈ ys → (hp b).isSome = true := by
  rcases h with ⟨_, _, _, rfl⟩ | ⟨h1, g, cap, cur, ty, rfl, h2, h3, h4⟩
  · intro b hb; cases hb
  · intro b hb; rw [List.mem_singleton] at hb; subst hb; rw [h3]; rfl
theorem HeadOf.nodup {α : Type} {hp : Nat → Option Obj} {K : α → List Value} {sz : Nat} {x : NS α} {sv : Value} {ys : List Nat} (h : HeadOf hp K sz x sv ys) : ys.Nodup := by
  rcases h with ⟨_, _, _, rfl⟩ | ⟨h1, g, cap, cur, ty, rfl, h2, h3, h4⟩ <;> simp
theorem HeadOf.cell {α : Type} {hp : Nat → Option Obj} {K : α → List Value} {sz : Nat} {x : NS α} {sv : Value} {ys : List Nat} (h : HeadOf hp K sz x sv ys) : isCell sv = true := by
  rcases h with ⟨_, _, rfl, _⟩ | ⟨h1, g, cap, cur, ty, _, rfl, h3, h4⟩ <;> rfl

/-- A row whose header is known. -/
def rowc {α : Type} (sv : Value) (K : α → List Value) (sz : Nat) (x : NS α) : Cont :=
  ⟨fun hp _ L => HeadOf hp K sz x sv L.xs, fun _ _ _ _ _ _ hb h => h.up hb, fun _ _ _ h => h.dom⟩
def gone : Cont := ⟨fun _ _ L => L.xs = [], fun _ _ _ _ _ _ _ h => h, fun _ _ L h b hb => by rw [h] at hb; cases hb⟩
/-- A box one of whose cells is the header of a row of its own. -/
def gc {α : Type} (ty : TypeId) (pre post : List AV) (K : α → List Value) (sz : Nat) (x : NS α) : Cont :=
  ⟨fun hp H L => ∃ b ys vs sv us, L.xs = b :: ys ∧ b ∉ ys ∧ hp b = some (.cells (vs ++ sv :: us : List Value).toArray ty (0, 0)) ∧ All2 H pre vs ∧ All2 H post us ∧ HeadOf hp K sz x sv ys,
   fun _ _ _ _ _ hle hb ⟨b, ys, vs, sv, us, e, h0, h1, h2, h3, h4⟩ => ⟨b, ys, vs, sv, us, e, h0, (hb b (by rw [e]; simp)).trans h1, h2.up hle, h3.up hle, h4.up fun c hc => hb c (by rw [e]; simp [hc])⟩,
   fun _ _ _ ⟨b, ys, vs, sv, us, e, h0, h1, h2, h3, h4⟩ c hc => by
     rw [e] at hc
     rcases List.mem_cons.1 hc with rfl | hc
     · rw [h1]; rfl
     · exact h4.dom c hc⟩
theorem hf_gc {α : Type} (ty : TypeId) (pre post : List AV) (K : α → List Value) (sz : Nat) (x : NS α) : HFree (gc ty pre post K sz x) := fun _ _ _ _ _ h => h

/-- One more element. -/
def app {α : Type} (x : NS α) (u : α) : NS α := (false, x.2.1 + 1, upd x.2.2 x.2.1 u)

structure EltN (P : Program) (e : TypeId) (sz : Nat) : Prop where
  info : ∃ (inf : TypeInfo) (z : Value), P.info? e = some inf ∧ inf.zero = some z ∧ inf.size = sz ∧ inf.bytes ≤ 64 ∧ z.cells.size = sz
  pos : 0 < sz

theorem eltN_of {P : Program} {e : TypeId} {sz : Nat} {z : Value} (h : ((P.info? e).map fun i => (i.size, Nat.ble i.bytes 64)) = some (sz, true)) (hz : (P.info? e).bind (·.zero) = some z) (hc : z.cells.size = sz) (hp : Nat.blt 0 sz = true) : EltN P e sz := by
  cases hi : P.info? e with
  | none => rw [hi] at h; cases h
  | some i =>
    rw [hi] at h hz
    simp only [Option.map_some, Option.some.injEq, Prod.mk.injEq] at h
    exact ⟨⟨i, z, hi, hz, h.1, by simpa [Nat.ble_eq] using h.2, hc⟩, by simpa [Nat.blt_eq] using hp⟩

theorem one_of_isCell {u : Value} (h : isCell u = true) : u.oneCell' = true := by cases u <;> first | rfl | cases h

section
variable {P : Program} {n : Nat} {ops : Array Oper} {α : Type} {K : α → List Value} {sz : Nat}

theorem run_append_room' {w : World} (t ty e : TypeId) {ty' : TypeId} (i : TypeInfo) (ht : P.underlying t = some (.slice e)) (hi : P.info? e = some i)
    (g sLen sCap : Nat) (cur : Array Value) (hg : w.heap[g]? = some (.cells cur ty' (0, 0)))
    (a : Addr) (m c : Nat) (news : List Value) (hl : news.length = m * i.size) (hnews : ∀ j u, news[j]? = some u → w.cell? (a.add j) = some u) (h1 : ∀ u ∈ news, u.oneCell' = true)
    (hroom : sLen + m ≤ sCap) (hfit : sLen * i.size + news.length ≤ cur.size) :
    (Builtin.append_ #[t, t] ty #[.slice (some ⟨g, 0, none⟩) sLen sCap, .slice (some a) m c]).run P w =
      .ok (.slice (some ⟨g, 0, none⟩) (sLen + m) sCap) (w.setRow g (cur.toList.take (sLen * i.size) ++ news ++ cur.toList.drop (sLen * i.size + news.length)).toArray) := by
  have hf := run_firstCells_some (P := P) w i.size m a m c news hl hnews
  have hst := run_storeCells_at P g (sLen * i.size) ty' news 0 cur w hg (by simpa using hfit) h1
  simp only [Nat.add_zero] at hst
  simp [Builtin.append_, run_underlying ht, sizeOf, typeInfo, hi, Builtin.lenOf, hroom, hf, Addr.add_lit, hst]

theorem run_app {w : World} {t e ty : TypeId} {x : NS α} {u : α} {sv : Value} {ys : List Nat} {ad : Addr} {c : Nat} (hu : P.underlying t = some (.slice e)) (hE : EltN P e sz) (hK : ∀ a, (K a).length = sz) (hK1 : ∀ a v, v ∈ K a → isCell v = true)
    (h : HeadOf (hpOf w) K sz x sv ys) (hnews : ∀ j v, (K u)[j]? = some v → w.cell? (ad.add j) = some v) (hn : x.2.1 < 4294967296) :
    ∃ sv' ys' w', (Builtin.append_ #[t, t] ty #[sv, .slice (some ad) 1 c]).run P w = .ok sv' w' ∧ HeadOf (hpOf w') K sz (app x u) sv' ys' ∧ (ys' = ys ∨ ∃ g, ys' = [g] ∧ w.heap.size ≤ g) ∧ w.heap.size ≤ w'.heap.size ∧ w'.os = w.os ∧ w'.tape = w.tape ∧ w'.output = w.output ∧ ∀ k, k < w.heap.size → k ∉ ys → w'.heap[k]? = w.heap[k]? := by
  obtain ⟨inf, z, hi, hz, hsz, hby, hzc⟩ := hE.info
  have hl : (K u).length = 1 * sz := by rw [hK]; omega
  have h1 : ∀ v ∈ K u, v.oneCell' = true := fun v hv => one_of_isCell (hK1 u v hv)
  have hlim : x.2.1 + 1 ≤ maxLen := by simp only [maxLen]; omega
  have hbytes : (x.2.1 + 1) * inf.bytes ≤ 140737488355328 := by
    have := Nat.mul_le_mul_left (x.2.1 + 1) hby
    omega
  have hfl : flatN K (app x u).2.1 (app x u).2.2 = flatN K x.2.1 x.2.2 ++ K u := flatN_succ
  have fresh : ∀ v' w', World.ownsRow w' w.heap.size e sz v' (x.2.1 + 1) (flatN K x.2.1 x.2.2 ++ K u) → w.grownBy w' none → (Builtin.append_ #[t, t] ty #[sv, .slice (some ad) 1 c]).run P w = .ok v' w' →
      ∃ sv' ys' w', (Builtin.append_ #[t, t] ty #[sv, .slice (some ad) 1 c]).run P w = .ok sv' w' ∧ HeadOf (hpOf w') K sz (app x u) sv' ys' ∧ (ys' = ys ∨ ∃ g, ys' = [g] ∧ w.heap.size ≤ g) ∧ w.heap.size ≤ w'.heap.size ∧ w'.os = w.os ∧ w'.tape = w.tape ∧ w'.output = w.output ∧ ∀ k, k < w.heap.size → k ∉ ys → w'.heap[k]? = w.heap[k]? := by
    intro v' w' ho hg hr
    rcases ho.2 with ⟨_, h0⟩ | ⟨g, cap, cu, rfl, hb, hcell, hc1, hc2, hc3, hc4⟩
    · omega
    · exact ⟨_, [g], w', hr, .inr ⟨rfl, g, cap, cu, e, rfl, rfl, hcell, hc1, hc2, hc3, by rw [hfl]; exact hc4⟩, .inr ⟨g, rfl, hb⟩, hg.size, hg.os, hg.tape, hg.output, fun k hk _ => hg.block k hk (by simp)⟩
  rcases h with ⟨e1, e2, e3, e4⟩ | ⟨e1, g, cap, cu, ty', e2, e3, e4, e5, e6, e7, e8⟩
  · subst e3
    obtain ⟨v', w', hr, ho, hg, _⟩ := run_append_own (P := P) w w.heap.size t ty e inf z sz inf.bytes hu hi hz hsz rfl hzc hE.pos (.slice none 0 0) 0 [] (World.ownsRow_nil w _ e sz) ad 1 c (K u) hl hnews h1 (by simp only [maxLen]; omega) (by omega) (Nat.le_refl _)
    refine fresh v' w' ?_ hg hr
    have hf0 : flatN K x.2.1 x.2.2 = [] := by rw [e2]; rfl
    rw [hf0, e2]
    exact ho
  · subst e2
    subst e3
    by_cases hroom : x.2.1 + 1 ≤ cap
    · subst hsz
      have hfit : x.2.1 * inf.size + (K u).length ≤ cu.size := by rw [hl, e7, ← Nat.add_mul]; exact Nat.mul_le_mul_right _ hroom
      have hr := run_append_room' (P := P) (w := w) t ty e inf hu hi g x.2.1 cap cu e4 ad 1 c (K u) hl hnews h1 hroom hfit
      refine ⟨_, [g], _, hr, .inr ⟨rfl, g, cap, _, ty', rfl, rfl, setRow_heap w g cu _ ty' _ e4, hroom, e6, ?_, ?_⟩, .inl rfl, by simp [World.setRow], rfl, rfl, rfl, fun k _ hk => setRow_other w g k _ (fun e => hk (by simp [e]))⟩
      · simp only [List.size_toArray, List.length_append, List.length_take, List.length_drop, Array.length_toList]
        omega
      · rw [hfl, e8]
        have hlen : (flatN K x.2.1 x.2.2 ++ K u).length = (app x u).2.1 * inf.size := by rw [List.length_append, flatN_length hK, hl]; simp [app, Nat.add_mul]
        rw [← hlen]
        exact List.take_left
    · have holds : ∀ j v, (flatN K x.2.1 x.2.2)[j]? = some v → w.cell? ((⟨g, 0, none⟩ : Addr).add j) = some v := fun j v hv => by
        have hc : w.heap[g]? = some (.cells cu ty' (0, 0)) := e4
        rw [addN, Nat.zero_add]
        rw [← e8, List.getElem?_take] at hv
        split at hv
        · simp [World.cell?, hc]; simpa using hv
        · cases hv
      obtain ⟨v', w', hr, ho, hg⟩ := run_append_arg_grows (P := P) w t ty e inf z sz inf.bytes hu hi hz hsz rfl hzc hE.pos ⟨g, 0, none⟩ x.2.1 cap (flatN K x.2.1 x.2.2) (flatN_length hK) holds ad 1 c (K u) hl hnews (by omega) hlim hbytes
      exact fresh v' w' ho hg hr

/-- A slice of one element over quiet memory. -/
def OneAt (av : AV) (us : List Value) : Prop := ∀ H v, av.p H v → ∃ b off c arr ty fz, v = .slice (some ⟨b, off, none⟩) 1 c ∧ H b = some (.cells arr ty fz) ∧ ∀ j u, us[j]? = some u → arr[off + j]? = some u
theorem oneAt_ns {β : Type} {K : β → Value} {f : Nat → β} : OneAt (ns K (false, 1, f)) [K (f 0)] := by
  rintro H v (⟨h, _⟩ | ⟨_, b, off, c, arr, ty, fz, h1, h2, _, h4⟩)
  · cases h
  · refine ⟨b, off, c, arr, ty, fz, h1, h2, fun j u hj => ?_⟩
    match j, hj with
    | 0, hj => cases hj; exact h4 0 (show 0 < 1 by decide)
    | j + 1, hj => simp at hj

theorem exec_append {a : Act} {w : World} {x y : Operand} {t ty : TypeId} {pos : String} {after : Array Edge} {d : Nat} {v v' r : Value} {w' : World} (h1 : a.eval x = v) (h2 : a.eval y = v') (h : (Builtin.append_ #[t, t] ty #[v, v']).run P w = .ok r w') :
    (execOp a.eval ⟨some d, .call ⟨.builtin .append, #[x, y], #[t, t]⟩, ty, pos, after, none⟩).run P w = .ok (.value r) w' := by
  simp only [execOp, resolve]
  rw [Sem.run_bind]
  simp only [Sem.run_pure, Result.andThen_ok, invoke]
  have : (#[x, y].map a.eval) = #[v, v'] := by simp [h1, h2]
  rw [this]
  show (do pure (Next.value (← Builtin.append_ #[t, t] ty #[v, v'])) : Sem Next).run P w = _
  rw [Sem.run_bind, h]; rfl

theorem kn1 (k : Nat) (c : Cont) : KN [(k, c)] := by simp [KN]

theorem holds_none {H : PH} {bn bn' : Nat → Loc} {tv : TV} {v : Value} {k : Nat} (hb : tv.box ≠ some k) (hs : ∀ j, j ≠ k → bn' j = bn j) (h : tv.holds H bn v) : tv.holds H bn' v :=
  TV.holds_up (PH.le_refl _) (fun j hj => hs j (fun e => hb (e ▸ hj))) h

/-- append: the new header is some value. -/
theorem app_opk {B : Base} {t e ty : TypeId} {pos : String} {after : Array Edge} {d r : Nat} {x y : Operand} {rx ry : List (Nat × TV)} {sv : Value} {z : NS α} {u : α} {av : AV} (hu : P.underlying t = some (.slice e)) (hE : EltN P e sz) (hK : ∀ a, (K a).length = sz) (hK1 : ∀ a v, v ∈ K a → isCell v = true)
    (hx : OpAt x (.inl (is sv)) rx) (hy : OpAt y (.inl av) ry) (ho : OneAt av (K u)) (hn : z.2.1 < 4294967296) (hd : Nat.blt d B.n = true) (hkb : (B.kb.all fun k => !Nat.beq k r) = true) :
    ∀ s a w, Sat s ⟨rx ++ ry, [(r, rowc sv K sz z)], []⟩ → refsNot r s.t = true → Rel B s a w → OpK P ops ⟨some d, .call ⟨.builtin .append, #[x, y], #[t, t]⟩, ty, pos, after, none⟩ a w fun a' w' => ∃ v, isCell v = true ∧ Rel B (s.upd ⟨[(d, .inl (is v))], [(r, rowc v K sz (app z u))]⟩) a' w' := by
  rintro s a w hst hrf ⟨bn, hrel⟩
  have hr := hst.2.1.1
  have h0 := SatT_append.1 hst.1
  have h1 : a.eval x = sv := hx B bn s a w h0.1 hrel
  obtain ⟨b, off, c, arr, ty', fz, h2, h3, h4⟩ := ho _ _ (hy B bn s a w h0.2 hrel)
  have hq := (hrel.curIn b _ h3).2
  have hbox : HeadOf (hpOf w) K sz z sv (bn r).xs := hrel.box (r, _) (lk_mem hr)
  obtain ⟨sv', ys', w', g1, g2, g3, g4, g5, g6, g7, g8⟩ := run_app (P := P) (t := t) (ty := ty) (ad := ⟨b, off, none⟩) (c := c) hu hE hK hK1 hbox (fun j v hj => by rw [addN]; simp [World.cell?, hq, h4 j v hj]) hn
  have hrun := exec_append (P := P) (pos := pos) (after := after) (d := d) h1 h2 g1
  unfold OpK
  rw [if_pos (by simp [Region.wanted])]
  unfold Oper.wp
  rw [hrun]
  refine ⟨sv', g2.cell, ?_⟩
  let bn' : Nat → Loc := fun j => if j = r then ⟨ys', (bn r).h⟩ else bn j
  have hbr : bn' r = ⟨ys', (bn r).h⟩ := by simp [bn']
  have hbn : ∀ j, j ≠ r → bn' j = bn j := fun j hj => by simp [bn', hj]
  have hb1 : blks bn' [(r, rowc sv' K sz (app z u))] = ys' := by simp [blks, hbr]
  have hb0 : blks bn [(r, rowc sv' K sz (app z u))] = (bn r).xs := by simp [blks]
  obtain ⟨q1, q2⟩ := hrel.updGen (bn' := bn') (bo := [(r, rowc sv' K sz (app z u))]) (w' := w') (kn1 _ _) (fun y hy => by rw [List.mem_singleton] at hy; subst hy; rw [hr]; rfl)
    (fun j hj => hbn j (fun e => hj (by simp [keysOf, e]))) (fun y hy hk => by
      rw [List.mem_singleton] at hy; subst hy
      have := List.all_eq_true.1 hkb r hk
      simp at this)
    (fun i tv e H v hv => holds_none (refsNot_lk hrf e) hbn hv)
    (fun y hy b' hb' => by
      rw [List.mem_singleton] at hy; subst hy
      rw [hb0]
      simp only [hbr] at hb'
      rcases g3 with e | ⟨g, e, hg⟩
      · rw [e] at hb'; exact .inl hb'
      · rw [e, List.mem_singleton] at hb'; subst hb'; exact .inr hg)
    (by rw [hb1]; exact g2.nodup) (fun b' hb' hnb => g8 b' hb' (by rw [hb0] at hnb; exact hnb)) g4 g5 g6 g7
    (fun y hy => by rw [List.mem_singleton] at hy; subst hy; show HeadOf _ _ _ _ _ (bn' r).xs; rw [hbr]; exact g2)
  exact ⟨bn', q1.put (by simpa [Nat.blt_eq] using hd) rfl⟩

/-- An operation that answers some value, in a region that keeps its order. -/
theorem AL_consV {B : Base} {Q : Exit → St → Prop} {s : St} {rest : List Oper} {o : Oper} {R : Req} {W : Value → St} {r : Nat} (hJ : ∀ s a w, Sat s R → refsNot r s.t = true → Rel B s a w → OpK P ops o a w fun a' w' => ∃ v, isCell v = true ∧ Rel B (s.upd (W v)) a' w') (hs : Sat s R) (hrf : refsNot r s.t = true)
    (h : ∀ sv, isCell sv = true → AL P B ops Q rest (s.upd (W sv))) : AL P B ops Q (o :: rest) s := by
  refine ⟨?_⟩
  intro a w hr
  have h1 := hJ s a w hs hrf hr
  unfold OpK at h1
  unfold wpList
  split
  · rename_i hw
    rw [if_pos hw] at h1
    exact .inl (Oper.wp_false (fun a w ⟨v, hv, hr'⟩ => (h v hv).out a w hr') h1)
  · rename_i hw
    rw [if_neg hw] at h1
    obtain ⟨v, hv, hr'⟩ := h1
    exact (h v hv).out _ _ hr'
end
end Go.Aw
