/-
  Rows that grow, third part: loops, rows made, rows frozen; slices of structs.
-/
import Derived.Test.YfwaawGreatAwDrawV
namespace Go.Aw
open Go.RowKit

section
variable {P : Program} {B : Base} {Q : Exit → St → Prop} {s : St} {n : Nat} {ops : Array Oper}

/-- A loop whose round is a plain step, its state knowing a header besides. -/
theorem AW_iterV {c : Code} {σ α : Type} {emb : Value → σ → St} {L : σ → Option (σ ⊕ α)} {N : Nat} {x0 : σ} {r : α} {v0 : Value} (hv0 : isCell v0 = true) (hs : Weak B s (emb v0 x0)) (hit : some r = iterL L N x0)
    (round : ∀ v, isCell v = true → ∀ x out, some out = L x → AW P B c (thenQ (fun s' => ∃ v' x', isCell v' = true ∧ out = .inl x' ∧ Weak B s' (emb v' x')) (fun e s' => ∃ r', out = .inr r' ∧ (r' = r → Q e s'))) (emb v x)) : AW P B (.loop c) Q s := by
  refine AW_weak hs (AW_loop' (fun v : Value × Nat × σ => emb v.1 v.2.2) (fun v => v.2.1) (v0, N, x0) (fun v => isCell v.1 = true ∧ iterL L v.2.1 v.2.2 = some r) rfl ⟨hv0, hit.symm⟩ ?_)
  rintro ⟨v, n, x⟩ ⟨hv, hI⟩
  cases n with
  | zero => simp [iterL] at hI
  | succ n =>
    simp only [iterL] at hI
    cases hL : L x with
    | none => rw [hL] at hI; cases hI
    | some out =>
      rw [hL] at hI
      refine AW_mono (round v hv x out hL.symm) ?_
      rintro e s' ⟨h⟩
      cases e with
      | normal =>
        obtain ⟨v', x', hv', rfl, hw⟩ := h
        exact ⟨(v', n, x'), hw, ⟨hv', hI⟩, Nat.lt_succ_self n⟩
      | _ =>
        obtain ⟨y', rfl, h'⟩ := h
        cases hI
        exact ⟨h' rfl⟩
theorem loopNextV {σ α : Type} {emb : Value → σ → St} {out : σ ⊕ α} {v' : Value} {x' : σ} (hv : isCell v' = true) (h : some out = some (.inl x')) (hw : Weak B s (emb v' x')) : ∃ v' x', isCell v' = true ∧ out = .inl x' ∧ Weak B s (emb v' x') := ⟨v', x', hv, Option.some.inj h, hw⟩

variable {α : Type} {K : α → List Value} {sz : Nat} {x : NS α}

/-- make([]T, 0, n): an empty row. -/
theorem make0_opk {t e ty : TypeId} {pos : String} {after : Array Edge} {d : Nat} {y : Operand} {ry : List (Nat × TV)} {i : Int} (hu : P.underlying t = some (.slice e)) (hE : EltN P e sz) (hy : OpAt y (.inl (is (I64 i))) ry) (hi : 0 ≤ i ∧ i ≤ 1099511627776) (hd : Nat.blt d B.n = true) (f : Nat → α) :
    ∀ s a w, Sat s ⟨ry, [], [d]⟩ → refsNot d s.t = true → Rel B s a w → OpK P ops ⟨some d, .makeSlice t (.const (.int .i64 0)) y, ty, pos, after, none⟩ a w fun a' w' => ∃ v, isCell v = true ∧ Rel B (s.upd ⟨[(d, .inl (is v))], [(d, rowc v K sz (false, 0, f))]⟩) a' w' := by
  rintro s a w hs _ ⟨bn, hr⟩
  have h1 : a.eval y = .int .i64 i := hy B bn s a w hs.1 hr
  have h2 : a.eval (.const (.int .i64 0)) = .int .i64 0 := rfl
  obtain ⟨inf, z, hinf, hz, hsz, hby, hzc⟩ := hE.info
  unfold OpK
  rw [if_pos (by simp [Region.wanted])]
  have hmul : (inf.bytes : Int) * i ≤ 281474976710656 := by
    have h64 : (inf.bytes : Int) ≤ 64 := by omega
    have h2 : (inf.bytes : Int) * i ≤ 64 * i := Int.mul_le_mul_of_nonneg_right h64 hi.1
    omega
  have hrun : (execOp a.eval ⟨some d, .makeSlice t (.const (.int .i64 0)) y, ty, pos, after, none⟩).run P w = .ok (.value (.slice (some ⟨w.heap.size, 0, none⟩) 0 i.toNat)) { w with heap := w.heap.push (.cells (madeCells z.cells (i.toNat * inf.size)) e (0, 0)) } := by
    simp only [execOp, h1, h2]
    rw [Sem.run_bind, run_make w t e inf z hu hinf hz .i64 .i64 0 i (by omega) hi.1 hmul (by omega), Result.andThen_ok]
    rfl
  unfold Oper.wp
  rw [hrun]
  refine ⟨.slice (some ⟨w.heap.size, 0, none⟩) 0 i.toNat, rfl, ?_⟩
  have hge : ∀ b, b < w.heap.size → (w.heap.push (.cells (madeCells z.cells (i.toNat * inf.size)) e (0, 0)))[b]? = w.heap[b]? := fun b hb => by
    rw [Array.getElem?_push, if_neg (by omega)]
  refine hr.newRes (c := rowc (.slice (some ⟨w.heap.size, 0, none⟩) 0 i.toNat) K sz (false, 0, f)) (L := ⟨[w.heap.size], fun _ => undef⟩) (by simpa [Nat.blt_eq] using hd) hs.2.2.1 ⟨rfl, rfl, rfl, by simp, hge⟩ (fun b hb => by rw [List.mem_singleton] at hb; omega) (by simp) ?_ (fun H => rfl)
  refine .inr ⟨rfl, w.heap.size, i.toNat, _, e, rfl, rfl, by simp [hpOf]; rfl, Nat.zero_le _, by simp only [maxLen]; omega, ?_, by simp [flatN]⟩
  rw [size_madeCells, hsz]

/-- A slice over quiet memory whose elements have several cells; its block is known. -/
def nsq (K : α → List Value) (sz : Nat) (x : NS α) : AV :=
  ⟨fun H v => (x.1 = true ∧ x.2.1 = 0 ∧ v = .slice none 0 0) ∨ (x.1 = false ∧ ∃ b off cap arr ty fz, v = .slice (some ⟨b, off, none⟩) x.2.1 cap ∧ H b = some (.cells arr ty fz) ∧ x.2.1 ≤ cap ∧ ∀ i, i < x.2.1 → ∀ j u, (K (x.2.2 i))[j]? = some u → arr[off + i * sz + j]? = some u),
   fun _ _ _ hle h => h.imp id fun ⟨e, b, off, cap, arr, ty, fz, h1, h2, h3, h4⟩ => ⟨e, b, off, cap, arr, ty, fz, h1, hle _ _ h2, h3, h4⟩⟩
/-- A slice over quiet memory whose elements have several cells. -/
def nsl (K : α → List Value) (sz : Nat) (x : NS α) : AV :=
  ⟨fun H v => (nsq K sz x).p H v ∨ (x.1 = false ∧ x.2.1 = 0 ∧ ∃ a cap, v = .slice (some a) 0 cap), fun H H' v hle h => h.imp ((nsq K sz x).up H H' v hle) id⟩
theorem nsq_nsl {x : NS α} {H : PH} {v : Value} (h : (nsq K sz x).p H v) : (nsl K sz x).p H v := .inl h
theorem nsq_ns {β : Type} {K' : β → Value} {x : NS β} {H : PH} {v : Value} (h : (nsq (fun a => [K' a]) 1 x).p H v) : (ns K' x).p H v :=
  h.imp id fun ⟨e, b, off, cap, arr, ty, fz, h1, h2, h3, h4⟩ => ⟨e, b, off, cap, arr, ty, fz, h1, h2, h3, fun i hi => by simpa using h4 i hi 0 _ rfl⟩

theorem flatN_get {sz : Nat} (hK : ∀ a, (K a).length = sz) {f : Nat → α} {i j : Nat} {u : Value} : ∀ {m : Nat}, i < m → (K (f i))[j]? = some u → (flatN K m f)[i * sz + j]? = some u
  | m + 1, hi, hu => by
    have hj : j < sz := by rw [← hK (f i)]; exact (List.getElem?_eq_some_iff.1 hu).1
    have e : flatN K (m + 1) f = flatN K m f ++ K (f m) := by
      unfold flatN; rw [List.range_succ, List.flatMap_append]; simp
    rw [e]
    rcases Nat.lt_or_ge i m with h | h
    · have hlt : i * sz + j < m * sz := by
        have : (i + 1) * sz ≤ m * sz := Nat.mul_le_mul_right _ h
        rw [Nat.add_mul] at this; omega
      rw [List.getElem?_append_left (by rw [flatN_length hK]; exact hlt)]
      exact flatN_get hK h hu
    · have : i = m := by omega
      subst this
      rw [List.getElem?_append_right (by rw [flatN_length hK]; omega), flatN_length hK, show i * sz + j - i * sz = j from by omega]
      exact hu

theorem HeadOf.quiet {hp : Nat → Option Obj} {H : PH} {sv : Value} {ys : List Nat} (hK : ∀ a, (K a).length = sz) (h : HeadOf hp K sz x sv ys) (hq : ∀ b, b ∈ ys → H b = hp b) : (nsq K sz x).p H sv := by
  rcases h with ⟨e1, e2, e3, e4⟩ | ⟨e1, g, cap, cu, ty', e2, e3, e4, e5, e6, e7, e8⟩
  · exact .inl ⟨e1, e2, e3⟩
  · refine .inr ⟨e1, g, 0, cap, cu, ty', (0, 0), e3, (hq g (by rw [e2]; simp)).trans e4, e5, fun i hi j u hu => ?_⟩
    have := flatN_get hK (m := x.2.1) hi hu
    rw [← e8, List.getElem?_take] at this
    split at this
    · rw [Nat.zero_add]; simpa using this
    · cases this

/-! ### Freezing -/
def CVA (F : PH → Prop) (a a' : AV) : Prop := ∀ H v, F H → a.p H v → a'.p H v
def CVL (F : PH → Prop) : List AV → List AV → Prop
  | [], [] => True
  | a :: l, a' :: l' => CVA F a a' ∧ CVL F l l'
  | _, _ => False
theorem cv_refl {F : PH → Prop} {a : AV} : CVA F a a := fun _ _ _ h => h
theorem cv_sv {F : PH → Prop} {sv : Value} {a : AV} (h : ∀ H, F H → a.p H sv) : CVA F (is sv) a := fun H v hF e => by rw [show v = sv from e]; exact h H hF
theorem cvl_nil {F : PH → Prop} : CVL F [] [] := trivial
theorem cvl_cons {F : PH → Prop} {a a' : AV} {l l' : List AV} (h : CVA F a a') (k : CVL F l l') : CVL F (a :: l) (a' :: l') := ⟨h, k⟩
theorem cvl_refl {F : PH → Prop} : ∀ {l : List AV}, CVL F l l
  | [] => trivial
  | _ :: _ => ⟨cv_refl, cvl_refl⟩
theorem cvl_app {F : PH → Prop} : ∀ {p l l' : List AV}, CVL F l l' → CVL F (p ++ l) (p ++ l')
  | [], _, _, h => h
  | _ :: _, _, _, h => ⟨cv_refl, cvl_app h⟩
theorem CVL.all {F : PH → Prop} {H : PH} (hF : F H) : ∀ {l l' : List AV} {vs : List Value}, CVL F l l' → All2 H l vs → All2 H l' vs
  | [], [], [], _, _ => trivial
  | _ :: _, _ :: _, v :: _, h, h' => ⟨h.1 H v hF h'.1, CVL.all hF h.2 h'.2⟩
  | [], [], _ :: _, _, h => h.elim
  | _ :: _, _ :: _, [], _, h => h.elim
theorem cv_agg {F : PH → Prop} {l l' : List AV} (h : CVL F l l') : CVA F (agg l) (agg l') := fun _ _ hF ⟨vs, e, h2⟩ => ⟨vs, e, h.all hF h2⟩

def CVTs (F : PH → Prop) (s : St) (r : Nat) : List (Nat × TV) → Prop
  | [] => True
  | x :: l => ((lk x.1 s.t = some x.2 ∧ x.2.box ≠ some r) ∨ ∃ a a', lk x.1 s.t = some (.inl a) ∧ x.2 = .inl a' ∧ CVA F a a') ∧ CVTs F s r l
theorem ct0 {F : PH → Prop} {s : St} {r : Nat} : CVTs F s r [] := trivial
theorem ctC {F : PH → Prop} {s : St} {r i : Nat} {a a' : AV} {l : List (Nat × TV)} (h : lk i s.t = some (.inl a)) (hc : CVA F a a') (k : CVTs F s r l) : CVTs F s r ((i, .inl a') :: l) := ⟨.inr ⟨a, a', h, rfl, hc⟩, k⟩
theorem ctP {F : PH → Prop} {s : St} {r i k' off : Nat} {l : List (Nat × TV)} (h : lk i s.t = some (.inr (.inl (k', off)))) (hne : Nat.beq k' r = false) (k : CVTs F s r l) : CVTs F s r ((i, .inr (.inl (k', off))) :: l) := ⟨.inl ⟨h, fun e => by simp only [TV.box, Option.some.injEq] at e; subst e; simp at hne⟩, k⟩
theorem ctS {F : PH → Prop} {s : St} {r i k' off len cap : Nat} {l : List (Nat × TV)} (h : lk i s.t = some (.inr (.inr (.inl (k', off, len, cap))))) (hne : Nat.beq k' r = false) (k : CVTs F s r l) : CVTs F s r ((i, .inr (.inr (.inl (k', off, len, cap)))) :: l) := ⟨.inl ⟨h, fun e => by simp only [TV.box, Option.some.injEq] at e; subst e; simp at hne⟩, k⟩
theorem CVTs.lk {F : PH → Prop} {s : St} {r i : Nat} {tv : TV} : ∀ {l : List (Nat × TV)}, CVTs F s r l → lk i l = some tv → (lk i s.t = some tv ∧ tv.box ≠ some r) ∨ ∃ a a', Aw.lk i s.t = some (.inl a) ∧ tv = .inl a' ∧ CVA F a a'
  | x :: l, h, e => by
    simp only [Aw.lk] at e
    split at e
    · rename_i hb
      have := Nat.eq_of_beq_eq_true hb
      cases e
      rw [← this]; exact h.1
    · exact CVTs.lk h.2 e
  | [], _, e => by simp [Aw.lk] at e

def CVBs (F : PH → Prop) (r : Nat) : List Box → List Box → Prop
  | [], l' => l' = []
  | x :: l, l' => CVBs F r l l' ∨ ∃ y l'', l' = y :: l'' ∧ y.1 = x.1 ∧ x.1 ≠ r ∧ (y.2 = x.2 ∨ ∃ ty cs cs', x.2 = pb ty cs ∧ y.2 = pb ty cs' ∧ CVL F cs cs') ∧ CVBs F r l l''
theorem cb0 {F : PH → Prop} {r : Nat} : CVBs F r [] [] := rfl
theorem cbD {F : PH → Prop} {r : Nat} {x : Box} {l l' : List Box} (h : CVBs F r l l') : CVBs F r (x :: l) l' := .inl h
theorem cbK {F : PH → Prop} {r : Nat} {x : Box} {l l' : List Box} (hne : Nat.beq x.1 r = false) (h : CVBs F r l l') : CVBs F r (x :: l) (x :: l') := .inr ⟨x, l', rfl, rfl, fun e => by rw [e] at hne; simp at hne, .inl rfl, h⟩
theorem cbC {F : PH → Prop} {r k : Nat} {ty : TypeId} {cs cs' : List AV} {l l' : List Box} (hne : Nat.beq k r = false) (hc : CVL F cs cs') (h : CVBs F r l l') : CVBs F r ((k, pb ty cs) :: l) ((k, pb ty cs') :: l') := .inr ⟨(k, pb ty cs'), l', rfl, rfl, fun e => by simp only at e; rw [e] at hne; simp at hne, .inr ⟨ty, cs, cs', rfl, rfl, hc⟩, h⟩
theorem CVBs.sub {F : PH → Prop} {r : Nat} : ∀ {l l' : List Box}, CVBs F r l l' → (l'.map (·.1)).Sublist (l.map (·.1)) ∧ ∀ y, y ∈ l' → ∃ x, x ∈ l ∧ y.1 = x.1 ∧ x.1 ≠ r ∧ (y.2 = x.2 ∨ ∃ ty cs cs', x.2 = pb ty cs ∧ y.2 = pb ty cs' ∧ CVL F cs cs')
  | [], l', h => by rw [show l' = [] from h]; exact ⟨List.Sublist.refl _, fun y hy => by cases hy⟩
  | x :: l, l', h => by
    rcases h with h | ⟨y, l'', rfl, e, hne, hc, h⟩
    · obtain ⟨h1, h2⟩ := h.sub
      exact ⟨h1.cons _, fun y hy => by obtain ⟨z, hz, r⟩ := h2 y hy; exact ⟨z, List.mem_cons_of_mem _ hz, r⟩⟩
    · obtain ⟨h1, h2⟩ := h.sub
      refine ⟨by simp only [List.map_cons, e]; exact h1.cons_cons _, fun z hz => ?_⟩
      rcases List.mem_cons.1 hz with rfl | hz
      · exact ⟨x, List.mem_cons_self .., e, hne, hc⟩
      · obtain ⟨z', hz', r⟩ := h2 z hz; exact ⟨z', List.mem_cons_of_mem _ hz', r⟩

theorem Rel.frzRow {nn : Nat} {bn0 : Nat → Loc} {w0 : World} {H0 : PH} {s s' : St} {a : Act} {w : World} {r : Nat} {sv : Value} {F : PH → Prop} (hr : Rel ⟨nn, [], bn0, w0, H0⟩ s a w) (hK : ∀ a, (K a).length = sz) (hk : lk r s.b = some (rowc sv K sz x)) (hF : ∀ H, (nsq K sz x).p H sv → F H) (hb : CVBs F r s.b s'.b) (ht : CVTs F s r s'.t) : Rel ⟨nn, [], bn0, w0, H0⟩ s' a w := by
  obtain ⟨bn, h⟩ := hr
  have hh : HeadOf (hpOf w) K sz x sv (bn r).xs := h.box (r, _) (lk_mem hk)
  obtain ⟨hs1, hs2⟩ := hb.sub
  have hsubb : ∀ b, b ∈ blks bn s'.b → b ∈ blks bn s.b ∧ b ∉ (bn r).xs := fun b hb' => by
    obtain ⟨y, hy, e⟩ := mem_blks.1 hb'
    obtain ⟨x', hx', e1, hne, _⟩ := hs2 y hy
    rw [e1] at e
    exact ⟨mem_blks.2 ⟨x', hx', e⟩, fun hm => blks_apart h.nod hx' (lk_mem hk) (fun e => hne (by rw [e])) e hm⟩
  have hkn : (s'.b.map (·.1)).Nodup := hs1.nodup h.kn
  have hFF : F (cur ⟨nn, [], bn0, w0, H0⟩ (blks bn s'.b) w) := hF _ (hh.quiet hK fun b hb' => by
    unfold cur
    rw [if_neg (fun hm => (hsubb b hm).2 hb')]
    have hge : ¬ b < w0.heap.size := by
      rcases h.own _ (lk_mem hk) b hb' with h' | h'
      · have : w0.heap.size ≤ b := h'; omega
      · simp [Base.lent] at h'
    rw [if_neg hge]; rfl)
  refine ⟨bn, h.reshape (fun _ hk' => (by cases hk')) (fun _ hk' => (by cases hk')) hkn ?_ (fun b hb' => (hsubb b hb').1) (fun hle y hy => ?_) (fun hle i tv e => ?_)⟩
  · refine nodup_blks hkn (fun y hy => ?_) (fun y hy z hz hne b hby hbz => ?_)
    · obtain ⟨x', hx', e1, _⟩ := hs2 y hy
      rw [e1]; exact nodup_part h.nod hx'
    · obtain ⟨y', hy', e1, _⟩ := hs2 y hy
      obtain ⟨z', hz', e2, _⟩ := hs2 z hz
      rw [e1] at hby
      rw [e2] at hbz
      have hyz : y.1 ≠ z.1 := fun e => hne (nodup_map_inj (·.1) hkn y hy z hz e)
      exact blks_apart h.nod hy' hz' (fun e => hyz (by rw [e1, e2, e])) hby hbz
  · obtain ⟨x', hx', e1, _, hc⟩ := hs2 y hy
    rw [e1]
    rcases hc with hc | ⟨ty, cs, cs', g1, g2, g3⟩
    · rw [hc]; exact x'.2.up _ _ _ _ _ hle (fun _ _ => rfl) (h.box x' hx')
    · have hb0 := h.box x' hx'
      rw [g1] at hb0
      rw [g2]
      obtain ⟨b, e, vs, q1, q2⟩ := hb0
      exact ⟨b, e, vs, q1, g3.all hFF (q2.up hle)⟩
  · rcases ht.lk e with ⟨h1, _⟩ | ⟨a1, a2, h1, rfl, h3⟩
    · exact TV.holds_up hle (fun _ _ => rfl) (h.tmp i tv h1)
    · exact h3 _ _ hFF (a1.up _ _ _ hle (h.tmp i _ h1))

theorem AL_frzRow {nn : Nat} {bn0 : Nat → Loc} {w0 : World} {H0 : PH} {Q : Exit → St → Prop} {l : List Oper} {s : St} (F : PH → Prop) (r : Nat) (s' : St) {sv : Value} (hK : ∀ a, (K a).length = sz) (hk : lk r s.b = some (rowc sv K sz x)) (hF : ∀ H, (nsq K sz x).p H sv → F H) (hb : CVBs F r s.b s'.b) (ht : CVTs F s r s'.t) (h : AL P ⟨nn, [], bn0, w0, H0⟩ ops Q l s') : AL P ⟨nn, [], bn0, w0, H0⟩ ops Q l s := ⟨fun a w hr => h.out a w (hr.frzRow hK hk hF hb ht)⟩
theorem AW_frzRow {nn : Nat} {bn0 : Nat → Loc} {w0 : World} {H0 : PH} {Q : Exit → St → Prop} {c : Code} {s : St} (F : PH → Prop) (r : Nat) (s' : St) {sv : Value} (hK : ∀ a, (K a).length = sz) (hk : lk r s.b = some (rowc sv K sz x)) (hF : ∀ H, (nsq K sz x).p H sv → F H) (hb : CVBs F r s.b s'.b) (ht : CVTs F s r s'.t) (h : AW P ⟨nn, [], bn0, w0, H0⟩ c Q s') : AW P ⟨nn, [], bn0, w0, H0⟩ c Q s := fun a w hr => h a w (hr.frzRow hK hk hF hb ht)

/-! ### Slices of structs over quiet memory -/
abbrev Opv := BitVec 8 × BitVec 8 × BitVec 8 × BitVec 8 × BitVec 64 × List UInt8
def opK (o : Opv) : List Value := [U8 o.1, U8 o.2.1, U8 o.2.2.1, U8 o.2.2.2.1, U64 o.2.2.2.2.1, Sv o.2.2.2.2.2]
theorem opK_len (o : Opv) : (opK o).length = 6 := rfl
theorem opK_cell (o : Opv) (v : Value) (h : v ∈ opK o) : isCell v = true := by
  simp only [opK, List.mem_cons, List.not_mem_nil, or_false] at h
  rcases h with rfl | rfl | rfl | rfl | rfl | rfl <;> rfl
def k1 {β : Type} (K : β → Value) (a : β) : List Value := [K a]
theorem k1_len {β : Type} {K : β → Value} (a : β) : (k1 K a).length = 1 := rfl
theorem k1_cell {β : Type} {K : β → Value} (hK : ∀ a, isCell (K a) = true) (a : β) (v : Value) (h : v ∈ k1 K a) : isCell v = true := by
  rw [show v = K a from List.mem_singleton.1 h]; exact hK a
theorem nsq_k1 {β : Type} {K' : β → Value} {x : NS β} {H : PH} {v : Value} (h : (nsq (k1 K') 1 x).p H v) : (ns K' x).p H v := nsq_ns h
theorem oneAt_k1 {β : Type} {K' : β → Value} {f : Nat → β} {u : β} (e : f 0 = u) : OneAt (ns K' (false, 1, f)) (k1 K' u) := e ▸ oneAt_ns

/-- An empty slice over a whole box of ours becomes an empty row. -/
theorem AL_slcRow {nn : Nat} {bn0 : Nat → Loc} {w0 : World} {H0 : PH} {Q : Exit → St → Prop} {l : List Oper} {s : St} {β : Type} {K' : β → Value} {m : Nat} {g : Nat → β} {ty : TypeId} (k d : Nat) (t' : List (Nat × TV)) (hk : lk k s.b = some (pb ty (ar K' m g ++ []))) (hd : lk d s.t = some (.inr (.inr (.inl (k, 0, 0, m))))) (hm : Nat.ble m 1099511627776 = true) (ht : SatT s t')
    (h : ∀ sv, isCell sv = true → AL P ⟨nn, [], bn0, w0, H0⟩ ops Q l ⟨(d, .inl (is sv)) :: t', setBs [(k, rowc sv (k1 K') 1 (false, 0, g))] s.b⟩) : AL P ⟨nn, [], bn0, w0, H0⟩ ops Q l s := by
  refine ⟨?_⟩
  rintro a w ⟨bn, hr⟩
  obtain ⟨vs, hb, hv⟩ := hr.cellAt hk
  have hvs := all2_ar_inv hv
  subst hvs
  obtain ⟨b0, e0, _⟩ := hr.box (k, _) (lk_mem hk)
  have e0' : (bn k).xs = [b0] := e0
  have hb0 : (bn k).b = b0 := blkB e0'
  have hmx : m ≤ maxLen := by
    have : m ≤ 1099511627776 := by simpa [Nat.ble_eq] using hm
    simp only [maxLen]; omega
  refine (h (.slice (some ⟨b0, 0, none⟩) 0 m) rfl).out a w ?_
  have hr2 : RelB ⟨nn, [], bn0, w0, H0⟩ bn ⟨s.t, setBs [(k, rowc (.slice (some ⟨b0, 0, none⟩) 0 m) (k1 K') 1 (false, 0, g))] s.b⟩ a w := by
    have := hr.updRes (L := bn k) (c' := rowc (.slice (some ⟨b0, 0, none⟩) 0 m) (k1 K') 1 (false, 0, g)) (w' := w) hk rfl (fun b hb => .inl hb) (by rw [e0']; simp) (fun _ _ _ => rfl) (Nat.le_refl _) rfl rfl rfl
      (fun H hle => .inr ⟨rfl, b0, m, _, ty, e0', rfl, by rw [← hb0]; exact hb, Nat.zero_le _, hmx, by simp [arv_length], by simp [flatN]⟩) (fun i tv _ _ H v hv => by
        have : (fun j => if j = k then bn k else bn j) = bn := by funext j; split <;> simp_all
        rw [this]; exact hv)
    have e : (fun j => if j = k then bn k else bn j) = bn := by funext j; split <;> simp_all
    rw [e] at this; exact this
  refine ⟨bn, hr2.defs, hr2.size, hr2.ext, hr2.base, hr2.keep, hr2.here, hr2.kn, hr2.nod, hr2.own, hr2.box, fun i tv e => ?_⟩
  simp only [lk] at e
  split at e
  · rename_i hbq
    have hi := Nat.eq_of_beq_eq_true hbq
    cases e
    have h5 : a.tmps.getD d undef = .slice (some ⟨(bn k).b, 0, none⟩) 0 m := hr.tmp d _ hd
    rw [← hi, h5, hb0]; rfl
  · exact hr2.tmp i tv (ht.lk i tv e)

/-- A pointer to cells of quiet memory. -/
def qpl (us : List Value) : AV := ⟨fun H v => ∃ b off arr ty fz, v = .pointer (some ⟨b, off, none⟩) ∧ H b = some (.cells arr ty fz) ∧ ∀ j u, us[j]? = some u → arr[off + j]? = some u,
  fun _ _ _ hle ⟨b, off, arr, ty, fz, h1, h2, h3⟩ => ⟨b, off, arr, ty, fz, h1, hle _ _ h2, h3⟩⟩

theorem len_nsl {t e : TypeId} {ty : TypeId} (hu : P.underlying t = some (.slice e)) (x : NS α) : ∀ (H : PH) vx (cs : Array Bool) w, (nsl K sz x).p H vx → (builtin .len #[t] ty cs #[vx]).run P w = .ok (.value (I64 (x.2.1 : Int))) w := by
  rintro H vx cs w ((⟨_, h, rfl⟩ | ⟨_, b, off, cap, arr, ty, fz, rfl, _⟩) | ⟨_, h, a, cap, rfl⟩)
  · rw [h]; exact len_run hu _ _ _ _ _
  · exact len_run hu _ _ _ _ _
  · rw [h]; exact len_run hu _ _ _ _ _

theorem LR_indexAddrL {t e : TypeId} {y z : Operand} {ty : TypeId} {pos : String} {after : Array Edge} {d : Nat} {rx ry : List (Nat × TV)} {ik : IntKind} {i : Int} {u : NS α} (hu : P.underlying t = some (.slice e)) (hs : ∀ w, (sizeOf e).run P w = .ok sz w)
    (hx : OpAt y (.inl (nsl K sz u)) rx) (hy : OpAt z (.inl (is (.int ik i))) ry) (hi : 0 ≤ i ∧ i < (u.2.1 : Int)) (hn : Nat.blt d n = true) :
    LR P n ops ⟨some d, .indexAddr t y z, ty, pos, after, none⟩ ⟨rx ++ ry, [], []⟩ ⟨[(d, .inl (qpl (K (u.2.2 i.toNat))))], []⟩ :=
  LR_val hn fun B bn s a w hst h => by
    have h0 := SatT_append.1 hst.1
    have h2 : a.eval z = .int ik i := hy B bn s a w h0.2 h
    rcases hx B bn s a w h0.1 h with (⟨_, h1, _⟩ | ⟨_, b, off, cap, arr, ty', fz, h1, h3, _, h4⟩) | ⟨_, h1, _⟩
    · omega
    rotate_left
    · omega
    · refine ⟨.pointer (some ⟨b, off + i.toNat * sz, none⟩), ?_, b, off + i.toNat * sz, arr, ty', fz, rfl, h3, h4 _ (by omega)⟩
      simp only [execOp, h1, h2, Instr.indexAt, asIntOf]
      simp [run_underlying hu, hi, hs, Addr.add]

theorem LR_fieldAddrL {t : TypeId} {fld off : Nat} {y : Operand} {ty : TypeId} {pos : String} {after : Array Edge} {d : Nat} {r : List (Nat × TV)} {us : List Value} (hx : OpAt y (.inl (qpl us)) r)
    (hf : ∀ b o w, (Instr.fieldAt t (.pointer (some ⟨b, o, none⟩)) fld).run P w = .ok (.pointer (some ⟨b, o + off, none⟩)) w) (hn : Nat.blt d n = true) :
    LR P n ops ⟨some d, .fieldAddr t y fld, ty, pos, after, none⟩ ⟨r, [], []⟩ ⟨[(d, .inl (qpl (us.drop off)))], []⟩ :=
  LR_val hn fun B bn s a w hs h => by
    obtain ⟨b, o, arr, ty', fz, h1, h2, h3⟩ := hx B bn s a w hs.1 h
    refine ⟨.pointer (some ⟨b, o + off, none⟩), ?_, b, o + off, arr, ty', fz, rfl, h2, fun j u hj => by rw [List.getElem?_drop] at hj; rw [Nat.add_assoc]; exact h3 _ _ hj⟩
    simp only [execOp, h1]
    rw [Sem.run_bind, hf]
    rfl

theorem LR_loadL1 {t : TypeId} {y : Operand} {ty : TypeId} {pos : String} {after : Array Edge} {d : Nat} {r : List (Nat × TV)} {us : List Value} {u : Value} (hx : OpAt y (.inl (qpl us)) r) (he : us[0]? = some u) (ht : ∀ w, (isAgg t).run P w = .ok false w) (hn : Nat.blt d n = true) :
    LR P n ops ⟨some d, .load t y, ty, pos, after, none⟩ ⟨r, [], []⟩ ⟨[(d, .inl (is u))], []⟩ :=
  LR_val hn fun B bn s a w hs h => by
    obtain ⟨b, off, arr, ty', fz, h1, h2, h3⟩ := hx B bn s a w hs.1 h
    have hb := (h.curIn b _ h2).2
    refine ⟨u, ?_, rfl⟩
    simp only [execOp, h1, Instr.loadAt, Instr.sureAddr, loadVar]
    rw [Sem.run_bind, Sem.run_bind]
    simp only [Sem.run_pure, Result.andThen_ok]
    rw [Sem.run_bind, ht]
    have h3' := h3 0 u he
    rw [Nat.add_zero] at h3'
    have hc : w.cell? ⟨b, off, none⟩ = some u := by simp [World.cell?, hb, h3']
    simp only [Result.andThen_ok, Bool.false_eq_true, if_false, run_load, hc]

theorem all2_is {H : PH} : ∀ {us : List Value}, All2 H (us.map is) us
  | [] => trivial
  | _ :: _ => ⟨rfl, all2_is⟩

theorem LR_loadsL {t : TypeId} {y : Operand} {ty : TypeId} {pos : String} {after : Array Edge} {d : Nat} {r : List (Nat × TV)} {us : List Value} {m : Nat} (hx : OpAt y (.inl (qpl us)) r) (ht : ∀ w, (isAgg t).run P w = .ok true w) (hm : ∀ w, (sizeOf t).run P w = .ok m w) (hl : us.length = m) (hn : Nat.blt d n = true) :
    LR P n ops ⟨some d, .load t y, ty, pos, after, none⟩ ⟨r, [], []⟩ ⟨[(d, .inl (agg (us.map is)))], []⟩ :=
  LR_val hn fun B bn s a w hs h => by
    subst hl
    obtain ⟨b, off, arr, ty', fz, h1, h2, h3⟩ := hx B bn s a w hs.1 h
    have hb := (h.curIn b _ h2).2
    refine ⟨.agg us.toArray, ?_, us, rfl, all2_is⟩
    have hl : (loadCells ⟨b, off, none⟩ us.length).run P w = .ok us.toArray w := run_loadCells_list (P := P) w ⟨b, off, none⟩ us (fun j v' e => by
      rw [addN]; simp [World.cell?, hb, h3 j v' e])
    simp only [execOp, h1, Instr.loadAt, Instr.sureAddr, loadVar]
    rw [Sem.run_bind, Sem.run_bind]
    simp only [Sem.run_pure, Result.andThen_ok]
    rw [Sem.run_bind, ht]
    simp only [Result.andThen_ok, if_true]
    rw [Sem.run_bind, hm]
    simp only [Result.andThen_ok]
    rw [Sem.run_bind, hl]
    rfl

theorem oneAt_nsl {f : Nat → α} : OneAt (nsl K sz (false, 1, f)) (K (f 0)) := by
  rintro H v ((⟨h, _⟩ | ⟨_, b, off, c, arr, ty, fz, h1, h2, _, h4⟩) | ⟨_, h, _⟩)
  · cases h
  rotate_left
  · cases h
  · refine ⟨b, off, c, arr, ty, fz, h1, h2, fun j u hj => ?_⟩
    have := h4 0 (show 0 < 1 by decide) j u hj
    simpa using this
theorem oneAt_op {f : Nat → Opv} {u : Opv} (e : f 0 = u) : OneAt (nsl opK 6 (false, 1, f)) (opK u) := e ▸ oneAt_nsl
theorem nsl_nil (f : Nat → α) (H : PH) : (nsl K sz (true, 0, f)).p H (.slice none 0 0) := .inl (.inl ⟨rfl, rfl, rfl⟩)
theorem at_nsl0 (f : Nat → α) : OpAt (.const (.slice none 0 0)) (.inl (nsl K sz (true, 0, f))) [] := fun _ _ _ _ _ _ _ => nsl_nil _ _

theorem setSegV_full : ∀ (us l : List Value), us.length = l.length → setSeg l 0 us = us := by
  intro us l h
  have := cells_copy (vs := l) (us := us) (by omega)
  rw [this, h]; simp

/-- A slice literal of one struct. -/
theorem LR_bsL {t e : TypeId} {y : Operand} {ty : TypeId} {pos : String} {after : Array Edge} {d : Nat} {rx : List (Nat × TV)} {u : α} (hu : P.underlying t = some (.slice e)) (hE : EltN P e sz) (hK : ∀ a, (K a).length = sz) (hsm : Nat.ble sz 1000 = true) (hx : OpAt y (.inl (agg ((K u).map is))) rx) (hn : Nat.blt d n = true) :
    LR P n ops ⟨some d, .buildSlice t 1 #[(0, y)], ty, pos, after, none⟩ ⟨rx, [], []⟩ ⟨[(d, .inl (nsl K sz (false, 1, fun _ => u)))], []⟩ := by
  refine ⟨?_⟩
  intro B s a w hB hs ⟨bn, hr⟩
  obtain ⟨vs, h1, h1'⟩ := hx B bn s a w hs.1 hr
  have hvs : vs = K u := by
    have : ∀ (us vs : List Value), All2 (cur B (blks bn s.b) w) (us.map is) vs → vs = us := by
      intro us
      induction us with
      | nil => intro vs h; cases vs with
        | nil => rfl
        | cons => exact h.elim
      | cons u us ih => intro vs h; cases vs with
        | nil => exact h.elim
        | cons v vs => rw [show v = u from h.1, ih vs h.2]
    exact this _ _ h1'
  subst hvs
  obtain ⟨inf, z, hinf, hz, hsz, hby, hzc⟩ := hE.info
  unfold OpK
  rw [if_pos (by simp [Region.wanted])]
  have hsm' : sz ≤ 1000 := by simpa [Nat.ble_eq] using hsm
  have hrun : (execOp a.eval ⟨some d, .buildSlice t 1 #[(0, y)], ty, pos, after, none⟩).run P w = .ok (.value (.slice (some ⟨w.heap.size, 0, none⟩) 1 1)) { w with heap := w.heap.push (.cells (K u).toArray e (0, 0)) } := by
    simp only [execOp]
    have : (#[(0, y)].map fun (i, x) => (i, a.eval x)) = #[(0, .agg (K u).toArray)] := by simp [h1]
    rw [this, Sem.run_bind]
    have hb : (Instr.buildSlice t 1 #[(0, .agg (K u).toArray)]).run P w = .ok (.slice (some ⟨w.heap.size, 0, none⟩) 1 1) { w with heap := w.heap.push (.cells (K u).toArray e (0, 0)) } := by
      unfold Instr.buildSlice
      rw [Sem.run_bind, run_underlying hu, Result.andThen_ok]
      simp only
      have hsize : (sizeOf e).run P w = .ok sz w := by simp [sizeOf, typeInfo, hinf, hsz]
      rw [Sem.run_bind, hsize, Result.andThen_ok]
      simp only [Nat.one_mul]
      have hp := hE.pos
      rw [if_neg (by omega), if_neg (by omega)]
      have hfill : Instr.fill (fun i => some (i * sz, sz)) (madeCells z.cells sz) [(0, .agg (K u).toArray)] = some (K u).toArray := by
        have hl := foldl_setSeg 0 (K u) 0 (madeCells z.cells sz).toList
        simp only [Nat.zero_add, Array.toArray_toList] at hl
        have hlen : (madeCells z.cells sz).toList.length = sz := by rw [Array.length_toList, size_madeCells]
        rw [setSegV_full _ _ (by rw [hlen, hK])] at hl
        have hc : Value.cells (.agg (K u).toArray) = (K u).toArray := rfl
        simp only [Instr.fill, hc, Nat.zero_mul]
        rw [if_neg (by simp [hK, size_madeCells]), ← Array.foldl_toList]
        simpa using hl
      unfold madeCells at hfill
      simp only [zeroValue, typeInfo]
      simp [hinf, hz] at hfill ⊢
      rw [hfill]
      rfl
    rw [hb]
    rfl
  unfold Oper.wp
  rw [hrun]
  obtain ⟨q1, q2⟩ := hr.newQuiet (o := .cells (K u).toArray e (0, 0))
  refine ⟨bn, q1.put (by rw [hB]; simpa [Nat.blt_eq] using hn) (.inl (.inr ⟨rfl, w.heap.size, 0, 1, _, _, _, rfl, q2, Nat.le_refl _, fun i hi j v hv => ?_⟩))⟩
  have : i = 0 := by have : i < 1 := hi; omega
  subst this
  simpa using hv
end
end Go.Aw
