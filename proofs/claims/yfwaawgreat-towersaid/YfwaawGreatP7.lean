/-
  expand: round.
-/
import Derived.Test.YfwaawGreatP6
namespace Go.Proofs.YfwaawGreat
open Go.Aw
set_option linter.unusedVariables false
set_option linter.unusedSimpArgs false

theorem dval_zero : ∀ {s : List UInt8}, (∀ c ∈ s, isd c) → (dval s = 0 ↔ ∀ c ∈ s, c = 48)
  | [], _ => ⟨(fun _ c h => by cases h), fun _ => rfl⟩
  | c :: s, h => by
    have ih := dval_zero (s := s) fun d hd => h d (List.mem_cons_of_mem _ hd)
    have hc := (h c (List.mem_cons_self ..)).1
    rw [dval_cons]
    have hp := pt_pos s.length
    constructor
    · intro h0 d hd
      have h1 : dg c * 10 ^ s.length = 0 := by omega
      have h2 : dval s = 0 := by omega
      rcases List.mem_cons.1 hd with k | k
      · rcases Nat.mul_eq_zero.1 h1 with q | q
        · unfold dg at q
          rw [k]; exact UInt8.toNat_inj.1 (by show c.toNat = 48; omega)
        · omega
      · exact ih.1 h2 d k
    · intro h0
      have h1 := h0 c (List.mem_cons_self ..)
      have h2 := ih.2 fun d hd => h0 d (List.mem_cons_of_mem _ hd)
      rw [h1, h2]
      have : dg 48 = 0 := by decide
      rw [this]; simp
theorem bys_s (k : Nat) (f : Nat → BitVec 8) : bys (k + 1) f = bys k f ++ [UInt8.ofBitVec (f k)] := by
  unfold bys
  rw [List.range_succ, List.map_append, List.map_singleton]
/-- One digit changed. -/
theorem dval_upd (f : Nat → BitVec 8) (i : Nat) (c : BitVec 8) : ∀ k, i < k → dval (bys k (upd f i c)) + dg (UInt8.ofBitVec (f i)) * 10 ^ (k - 1 - i) = dval (bys k f) + dg (UInt8.ofBitVec c) * 10 ^ (k - 1 - i)
  | 0, h => by omega
  | k + 1, h => by
    rw [bys_s, bys_s, dval_snoc, dval_snoc]
    by_cases hk : i = k
    · subst hk
      rw [upd_eq, show i + 1 - 1 - i = 0 from by omega, Nat.pow_zero]
      have : bys i (upd f i c) = bys i f := bys_congr fun j hj => upd_ne (by omega)
      rw [this]; omega
    · have ih := dval_upd f i c k (by omega)
      rw [upd_ne (show k ≠ i by omega), show k + 1 - 1 - i = (k - 1 - i) + 1 from by omega, Nat.pow_succ]
      generalize 10 ^ (k - 1 - i) = P at *
      have e1 : ∀ z : Nat, z * (P * 10) = 10 * (z * P) := fun z => by rw [← Nat.mul_assoc, Nat.mul_comm]
      rw [e1, e1]
      omega
theorem isd_upd {f : Nat → BitVec 8} {i k : Nat} {c : BitVec 8} (h : ∀ x ∈ bys k f, isd x) (hc : isd (UInt8.ofBitVec c)) : ∀ x ∈ bys k (upd f i c), isd x := by
  intro x hx
  unfold bys at hx
  obtain ⟨j, hj, he⟩ := List.mem_map.1 hx
  rw [← he]
  by_cases hji : j = i
  · rw [hji, upd_eq]; exact hc
  · rw [upd_ne hji]
    exact h _ (by unfold bys; exact List.mem_map.2 ⟨j, hj, rfl⟩)
theorem bys_isd {f : Nat → BitVec 8} {k j : Nat} (h : ∀ x ∈ bys k f, isd x) (hj : j < k) : isd (UInt8.ofBitVec (f j)) :=
  h _ (by unfold bys; exact List.mem_map.2 ⟨j, List.mem_range.2 hj, rfl⟩)
section
variable {N : Nat} {top sig prec : Int} {dig : Nat → BitVec 8}
/-- What rounding to q digits gives. -/
def upB (H c E : Nat) : Bool := decide (5 < c) || (decide (c = 5) && (decide (E ≠ 0) || decide (H % 2 = 1)))
/-- The last digit lifted. -/
theorem F202_6_ok (hN : 2000 ≤ N) {n' q : Int} {k : Nat} {out : Nat → BitVec 8} {up : Bool} (hk : k ≤ 1440) (hd : ∀ x ∈ bys (k + 1) out, isd x) (h0 : out 0 = 48#8) :
    ∃ out', F202_6 N dig n' top sig prec q (k : Int) out up = F202_7 N dig n' top sig prec q (k : Int) out' ∧ (∀ x ∈ bys (k + 1) out', isd x) ∧ dval (bys (k + 1) out') = dval (bys (k + 1) out) + (if up then 1 else 0) := by
  have key : ∀ (M i : Nat) (up' : Bool) (o : Nat → BitVec 8), i + 2 < M → (up' = false ∨ i ≤ k) → (∀ j, j ≤ i → o j = out j) → (∀ x ∈ bys (k + 1) o, isd x) → dval (bys (k + 1) o) + (if up' then 10 ^ (k - i) else 0) = dval (bys (k + 1) out) + (if up then 1 else 0) →
      ∃ out', iterL (F202_L10 N dig n' top sig prec q (k : Int)) M (up', (i : Int), o) = F202_7 N dig n' top sig prec q (k : Int) out' ∧ (∀ x ∈ bys (k + 1) out', isd x) ∧ dval (bys (k + 1) out') = dval (bys (k + 1) out) + (if up then 1 else 0) := by
    intro M
    induction M with
    | zero => intro i up' o h; omega
    | succ M ih =>
      intro i up' o hM hi ho hd' he
      have stop : ∀ (i' : Int), iterL (F202_L10 N dig n' top sig prec q (k : Int)) (M + 1) (false, i', o) = F202_7 N dig n' top sig prec q (k : Int) o := by
        intro i'
        have hstep : F202_L10 N dig n' top sig prec q (k : Int) (false, i', o) = (F202_7 N dig n' top sig prec q (k : Int) o).map Sum.inr := by
          unfold F202_L10 F202_L10b F202_11
          simp only [Bool.false_and]
          exact bf rfl
        rw [iterL, hstep]
        cases F202_7 N dig n' top sig prec q (k : Int) o <;> rfl
      cases up' with
      | false =>
        refine ⟨o, stop _, hd', ?_⟩
        simpa using he
      | true =>
        have hik : i ≤ k := by rcases hi with c | c; cases c; exact c
        have hdi := bys_isd hd' (show i < k + 1 by omega)
        rw [if_pos rfl] at he
        by_cases h9 : o i = 57#8
        · -- a nine
          have hi0 : i ≠ 0 := by
            intro k0
            subst k0
            rw [ho 0 (Nat.le_refl _), h0] at h9
            exact absurd h9 (by decide)
          have hstep : F202_L10 N dig n' top sig prec q (k : Int) (true, (i : Int), o) = some (.inl (true, ((i - 1 : Nat) : Int), upd o i 48#8)) := by
            unfold F202_L10 F202_L10b F202_11
            simp only []
            rw [bt (by rw [decide_eq_true (by omega)]; rfl), bt (by simp; omega), Int.toNat_natCast]
            unfold F202_13 F202_12
            rw [bf (by rw [h9]; rfl), bt (by simp; omega), Int.toNat_natCast, w64_id (by omega), show (i : Int) - 1 = ((i - 1 : Nat) : Int) from by omega]
          rw [iterL, hstep]
          refine ih (i - 1) true (upd o i 48#8) (by omega) (Or.inr (by omega)) ?_ (isd_upd hd' (by decide)) ?_
          · intro j hj; rw [upd_ne (by omega)]; exact ho j (by omega)
          · have h2 := dval_upd o i 48#8 (k + 1) (by omega)
            rw [show k + 1 - 1 - i = k - i from by omega, h9, show dg (UInt8.ofBitVec 57#8) = 9 from by decide, show dg (UInt8.ofBitVec 48#8) = 0 from by decide] at h2
            rw [if_pos rfl, show k - (i - 1) = (k - i) + 1 from by omega, Nat.pow_succ, ← he]
            omega
        · have hlt : (UInt8.ofBitVec (o i)).toNat < 57 := by
            have h3 := hdi.2
            rcases Nat.lt_or_ge (UInt8.ofBitVec (o i)).toNat 57 with c | c
            · exact c
            · exfalso
              refine h9 (BitVec.eq_of_toNat_eq ?_)
              show (UInt8.ofBitVec (o i)).toNat = 57
              omega
          have hge := hdi.1
          have hv : (UInt8.ofBitVec (o i + 1#8)).toNat = (UInt8.ofBitVec (o i)).toNat + 1 := by
            show (o i + 1#8).toNat = (o i).toNat + 1
            rw [BitVec.toNat_add, show (1#8).toNat = 1 from rfl]
            have : (o i).toNat < 57 := hlt
            omega
          have hstep : F202_L10 N dig n' top sig prec q (k : Int) (true, (i : Int), o) = some (.inl (false, (i : Int) - 1, upd o i (o i + 1#8))) := by
            unfold F202_L10 F202_L10b F202_11
            simp only []
            rw [bt (by rw [decide_eq_true (by omega)]; rfl), bt (by simp; omega), Int.toNat_natCast]
            unfold F202_13
            rw [bt (by rw [bne_iff_ne]; exact h9), bt (by simp; omega), bt (by simp; omega)]
            unfold F202_14 F202_12
            rw [Int.toNat_natCast, w64_id (by omega)]
          have hisd : isd (UInt8.ofBitVec (o i + 1#8)) := ⟨by rw [hv]; omega, by rw [hv]; omega⟩
          have h2 := dval_upd o i (o i + 1#8) (k + 1) (by omega)
          rw [show k + 1 - 1 - i = k - i from by omega] at h2
          have hdgs : dg (UInt8.ofBitVec (o i + 1#8)) = dg (UInt8.ofBitVec (o i)) + 1 := by unfold dg; rw [hv]; omega
          rw [hdgs, Nat.add_mul, Nat.one_mul] at h2
          rw [iterL, hstep]
          obtain ⟨M', rfl⟩ : ∃ M', M = M' + 1 := ⟨M - 1, by omega⟩
          have hst2 : iterL (F202_L10 N dig n' top sig prec q (k : Int)) (M' + 1) (false, (i : Int) - 1, upd o i (o i + 1#8)) = F202_7 N dig n' top sig prec q (k : Int) (upd o i (o i + 1#8)) := by
            have hstep : F202_L10 N dig n' top sig prec q (k : Int) (false, (i : Int) - 1, upd o i (o i + 1#8)) = (F202_7 N dig n' top sig prec q (k : Int) (upd o i (o i + 1#8))).map Sum.inr := by
              unfold F202_L10 F202_L10b F202_11
              simp only [Bool.false_and]
              exact bf rfl
            rw [iterL, hstep]
            cases F202_7 N dig n' top sig prec q (k : Int) (upd o i (o i + 1#8)) <;> rfl
          refine ⟨_, hst2, isd_upd hd' hisd, ?_⟩
          omega
  unfold F202_6
  exact key N k up out (by omega) (Or.inr (Nat.le_refl _)) (fun _ _ => rfl) hd (by rw [Nat.sub_self, Nat.pow_zero])
/-- The text of what was rounded. -/
theorem F202_7_ok (hN : 5000 ≤ N) {n' q : Int} {k : Nat} {out : Nat → BitVec 8} {R : Nat} (hk : k ≤ 1440) (hq : -5000 ≤ q - n' ∧ q - n' ≤ 4096) (hn' : 0 ≤ n' ∧ n' ≤ 2000) (hd : ∀ x ∈ bys (k + 1) out, isd x) (hv : dval (bys (k + 1) out) = R) (hR : k ≠ 0 → 10 ^ (k - 1) ≤ R) (hz : (q - n').toNat ≠ 0 → k ≠ 0) :
    ∃ s, F202_7 N dig n' top sig prec q (k : Int) out = some (s, dig, n', top, sig, prec) ∧ Sp s (R * 10 ^ (q - n').toNat) := by
  have hcons : bys (k + 1) out = UInt8.ofBitVec (out 0) :: bys k (fun i => out (1 + i)) := by
    rw [bys_succ]
    congr 1
    exact bys_congr fun i _ => by rw [Nat.add_comm]
  have hout0 := bys_isd hd (show 0 < k + 1 by omega)
  -- the digits that are taken
  have fin : ∀ (s : List UInt8), Sp s R → F202_7 N dig n' top sig prec q (k : Int) out = ((F200 N (w64 (q - n'))).bind fun y2 => bif decide (s.length + y2.length ≤ 9223372036854775807) then some ((s ++ y2, dig, n', top, sig, prec)) else none) → s.length ≤ 2000 →
      ∃ s, F202_7 N dig n' top sig prec q (k : Int) out = some (s, dig, n', top, sig, prec) ∧ Sp s (R * 10 ^ (q - n').toNat) := by
    intro s hs he hl
    rw [he, w64_id (by omega), F200_ok (by omega) (by omega), bnd, bt (decide_eq_true (by rw [List.length_replicate]; omega))]
    refine ⟨_, rfl, ?_⟩
    generalize hj : (q - n').toNat = j at *
    have hrep : ∀ x ∈ List.replicate j (48 : UInt8), isd x := fun x hx => by rw [List.eq_of_mem_replicate hx]; decide
    have hrz : dval (List.replicate j (48 : UInt8)) = 0 := (dval_zero hrep).2 fun x hx => List.eq_of_mem_replicate hx
    refine ⟨?_, ?_, ?_, ?_, ?_⟩
    · intro x hx
      rcases List.mem_append.1 hx with c | c
      · exact hs.d x c
      · exact hrep x c
    · rw [dval_append, hs.v, hrz, List.length_replicate, Nat.add_zero]
    · intro h0; exact hs.ne (List.append_eq_nil_iff.1 h0).1
    · intro hne
      have hRne : R ≠ 0 := fun h0 => hne (by rw [h0, Nat.zero_mul])
      have := hs.first hRne
      obtain ⟨c, s', hcs⟩ := List.exists_cons_of_ne_nil hs.ne
      rw [hcs] at this ⊢
      exact this
    · intro h0
      have hR0 : R = 0 := by
        rcases Nat.mul_eq_zero.1 h0 with c | c
        · exact c
        · have := pt_pos j; omega
      have hj0 : j = 0 := by
        rcases Nat.eq_zero_or_pos j with c | c
        · exact c
        · have := hR (hz (by omega))
          have h9 := pt_pos (k - 1)
          omega
      rw [hs.z hR0, hj0]
      rfl
  have hw : w64 ((k : Int) + 1) = ((k + 1 : Nat) : Int) := by rw [w64_id (by omega)]; omega
  by_cases hb : out 0 ≠ 48#8 ∨ k = 0
  · refine fin (bys (k + 1) out) ?_ ?_ (by rw [bys_len]; omega)
    · refine ⟨hd, hv, ?_, ?_, ?_⟩
      · rw [hcons]; exact List.cons_ne_nil _ _
      · intro hRn
        rw [hcons]
        show (UInt8.ofBitVec (out 0)).toNat ≠ 48
        intro h48
        rcases hb with c | c
        · exact c (BitVec.eq_of_toNat_eq h48)
        · subst c
          rw [hcons, dval_cons] at hv
          have : dg (UInt8.ofBitVec (out 0)) = 0 := by unfold dg; omega
          rw [this, Nat.zero_mul, Nat.zero_add] at hv
          exact hRn hv.symm
      · intro hR0
        by_cases hk0 : k = 0
        · subst hk0
          rw [hcons, dval_cons, hR0] at hv
          have hnil : bys 0 (fun i => out (1 + i)) = [] := rfl
          rw [hnil, dval_nil, List.length_nil, Nat.pow_zero] at hv
          rw [hcons, hnil]
          have h1 := hout0.1
          have : UInt8.ofBitVec (out 0) = 48 := by
            unfold dg at hv
            exact UInt8.toNat_inj.1 (by show (UInt8.ofBitVec (out 0)).toNat = 48; omega)
          rw [this]
        · have := hR hk0
          have := pt_pos (k - 1)
          omega
    · unfold F202_7
      rw [hw, bt (by simp; omega), bt (by decide)]
      unfold F202_9
      rw [bt (by
        rcases hb with c | c
        · rw [show (out 0 != 48#8) = true from by rw [bne_iff_ne]; exact c]; rfl
        · rw [c]; simp), hw, bt (by simp; omega)]
      unfold F202_8
      rw [Int.toNat_natCast, bt (decide_eq_true (by omega))]
      have : bys (k + 1) (fun i => out (0 + i)) = bys (k + 1) out := bys_congr fun i _ => by rw [Nat.zero_add]
      rw [this]
  · have h48 : out 0 = 48#8 := Classical.byContradiction fun c => hb (Or.inl c)
    have hk0 : k ≠ 0 := fun c => hb (Or.inr c)
    have hd1 : ∀ x ∈ bys k (fun i => out (1 + i)), isd x := fun x hx => hd x (by rw [hcons]; exact List.mem_cons_of_mem _ hx)
    have hv1 : dval (bys k (fun i => out (1 + i))) = R := by
      rw [hcons, dval_cons, h48, show dg (UInt8.ofBitVec 48#8) = 0 from by decide, Nat.zero_mul, Nat.zero_add] at hv
      exact hv
    have hRk := hR hk0
    have hRp := pt_pos (k - 1)
    refine fin (bys k (fun i => out (1 + i))) ?_ ?_ (by rw [bys_len]; omega)
    · refine ⟨hd1, hv1, ?_, ?_, fun h0 => by omega⟩
      · intro h0
        have := congrArg List.length h0
        rw [bys_len, List.length_nil] at this
        exact hk0 this
      · intro _ hf
        obtain ⟨u, hu⟩ : ∃ u, k = u + 1 := ⟨k - 1, by omega⟩
        rw [hu, bys_succ] at hf hv1 hd1
        have hf : (UInt8.ofBitVec (out (1 + 0))).toNat = 48 := hf
        rw [dval_cons] at hv1
        have h0 : dg (UInt8.ofBitVec (out (1 + 0))) = 0 := by unfold dg; omega
        have h3 := dval_lt (s := bys u (fun i => out (1 + (i + 1)))) fun x hx => hd1 x (List.mem_cons_of_mem _ hx)
        rw [bys_len] at h3
        rw [h0, Nat.zero_mul, Nat.zero_add] at hv1
        rw [hu, Nat.add_sub_cancel] at hRk
        omega
    · unfold F202_7
      rw [hw, bt (by simp; omega), bt (by decide)]
      unfold F202_9
      rw [bf (by rw [h48]; simp; omega), hw]
      unfold F202_8
      rw [Int.toNat_natCast, Nat.add_sub_cancel, bt (decide_eq_true (by omega))]
end
end Go.Proofs.YfwaawGreat
