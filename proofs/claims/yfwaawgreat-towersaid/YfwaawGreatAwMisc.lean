/-
  Odd pieces: arrays compared, arrays of zeros, a copy from box to box.
-/
import Derived.Test.YfwaawGreatAwMach3
import Derived.Test.YfwaawGreatEq
namespace Go.Proofs.YfwaawGreat
open Go.Aw

def eq8 (f g : Nat → BitVec 64) : Bool := ((f 0) == (g 0)) && ((f 1) == (g 1)) && ((f 2) == (g 2)) && ((f 3) == (g 3)) && ((f 4) == (g 4)) && ((f 5) == (g 5)) && ((f 6) == (g 6)) && ((f 7) == (g 7))
theorem szw30 : ∀ w, (sizeOf 30).run Hfaa.prog w = .ok 1 w := fun w => by kernel_rfl
theorem equalV35 (d : Nat) (f g : Nat → BitVec 64) (w : World) : (Op.equalIn (d + 2) 35 (.agg #[U64 (f 0), U64 (f 1), U64 (f 2), U64 (f 3), U64 (f 4), U64 (f 5), U64 (f 6), U64 (f 7)]) (.agg #[U64 (g 0), U64 (g 1), U64 (g 2), U64 (g 3), U64 (g 4), U64 (g 5), U64 (g 6), U64 (g 7)])).run Hfaa.prog w = .ok (eq8 f g) w := by
  have p0 : ∀ w, (part 30 #[U64 (f 0), U64 (f 1), U64 (f 2), U64 (f 3), U64 (f 4), U64 (f 5), U64 (f 6), U64 (f 7)] 0).run Hfaa.prog w = .ok (U64 (f 0)) w := run_part1 na30 _ _ _ rfl
  have q0 : ∀ w, (part 30 #[U64 (g 0), U64 (g 1), U64 (g 2), U64 (g 3), U64 (g 4), U64 (g 5), U64 (g 6), U64 (g 7)] 0).run Hfaa.prog w = .ok (U64 (g 0)) w := run_part1 na30 _ _ _ rfl
  have g0 : ∀ w, (Op.equalIn (d + 1) 30 (U64 (f 0)) (U64 (g 0))).run Hfaa.prog w = .ok ((f 0) == (g 0)) w := fun w => by rw [U64, U64, eqIn_int Hfaa.underlying30, nat_beq]
  have p1 : ∀ w, (part 30 #[U64 (f 0), U64 (f 1), U64 (f 2), U64 (f 3), U64 (f 4), U64 (f 5), U64 (f 6), U64 (f 7)] 1).run Hfaa.prog w = .ok (U64 (f 1)) w := run_part1 na30 _ _ _ rfl
  have q1 : ∀ w, (part 30 #[U64 (g 0), U64 (g 1), U64 (g 2), U64 (g 3), U64 (g 4), U64 (g 5), U64 (g 6), U64 (g 7)] 1).run Hfaa.prog w = .ok (U64 (g 1)) w := run_part1 na30 _ _ _ rfl
  have g1 : ∀ w, (Op.equalIn (d + 1) 30 (U64 (f 1)) (U64 (g 1))).run Hfaa.prog w = .ok ((f 1) == (g 1)) w := fun w => by rw [U64, U64, eqIn_int Hfaa.underlying30, nat_beq]
  have p2 : ∀ w, (part 30 #[U64 (f 0), U64 (f 1), U64 (f 2), U64 (f 3), U64 (f 4), U64 (f 5), U64 (f 6), U64 (f 7)] 2).run Hfaa.prog w = .ok (U64 (f 2)) w := run_part1 na30 _ _ _ rfl
  have q2 : ∀ w, (part 30 #[U64 (g 0), U64 (g 1), U64 (g 2), U64 (g 3), U64 (g 4), U64 (g 5), U64 (g 6), U64 (g 7)] 2).run Hfaa.prog w = .ok (U64 (g 2)) w := run_part1 na30 _ _ _ rfl
  have g2 : ∀ w, (Op.equalIn (d + 1) 30 (U64 (f 2)) (U64 (g 2))).run Hfaa.prog w = .ok ((f 2) == (g 2)) w := fun w => by rw [U64, U64, eqIn_int Hfaa.underlying30, nat_beq]
  have p3 : ∀ w, (part 30 #[U64 (f 0), U64 (f 1), U64 (f 2), U64 (f 3), U64 (f 4), U64 (f 5), U64 (f 6), U64 (f 7)] 3).run Hfaa.prog w = .ok (U64 (f 3)) w := run_part1 na30 _ _ _ rfl
  have q3 : ∀ w, (part 30 #[U64 (g 0), U64 (g 1), U64 (g 2), U64 (g 3), U64 (g 4), U64 (g 5), U64 (g 6), U64 (g 7)] 3).run Hfaa.prog w = .ok (U64 (g 3)) w := run_part1 na30 _ _ _ rfl
  have g3 : ∀ w, (Op.equalIn (d + 1) 30 (U64 (f 3)) (U64 (g 3))).run Hfaa.prog w = .ok ((f 3) == (g 3)) w := fun w => by rw [U64, U64, eqIn_int Hfaa.underlying30, nat_beq]
  have p4 : ∀ w, (part 30 #[U64 (f 0), U64 (f 1), U64 (f 2), U64 (f 3), U64 (f 4), U64 (f 5), U64 (f 6), U64 (f 7)] 4).run Hfaa.prog w = .ok (U64 (f 4)) w := run_part1 na30 _ _ _ rfl
  have q4 : ∀ w, (part 30 #[U64 (g 0), U64 (g 1), U64 (g 2), U64 (g 3), U64 (g 4), U64 (g 5), U64 (g 6), U64 (g 7)] 4).run Hfaa.prog w = .ok (U64 (g 4)) w := run_part1 na30 _ _ _ rfl
  have g4 : ∀ w, (Op.equalIn (d + 1) 30 (U64 (f 4)) (U64 (g 4))).run Hfaa.prog w = .ok ((f 4) == (g 4)) w := fun w => by rw [U64, U64, eqIn_int Hfaa.underlying30, nat_beq]
  have p5 : ∀ w, (part 30 #[U64 (f 0), U64 (f 1), U64 (f 2), U64 (f 3), U64 (f 4), U64 (f 5), U64 (f 6), U64 (f 7)] 5).run Hfaa.prog w = .ok (U64 (f 5)) w := run_part1 na30 _ _ _ rfl
  have q5 : ∀ w, (part 30 #[U64 (g 0), U64 (g 1), U64 (g 2), U64 (g 3), U64 (g 4), U64 (g 5), U64 (g 6), U64 (g 7)] 5).run Hfaa.prog w = .ok (U64 (g 5)) w := run_part1 na30 _ _ _ rfl
  have g5 : ∀ w, (Op.equalIn (d + 1) 30 (U64 (f 5)) (U64 (g 5))).run Hfaa.prog w = .ok ((f 5) == (g 5)) w := fun w => by rw [U64, U64, eqIn_int Hfaa.underlying30, nat_beq]
  have p6 : ∀ w, (part 30 #[U64 (f 0), U64 (f 1), U64 (f 2), U64 (f 3), U64 (f 4), U64 (f 5), U64 (f 6), U64 (f 7)] 6).run Hfaa.prog w = .ok (U64 (f 6)) w := run_part1 na30 _ _ _ rfl
  have q6 : ∀ w, (part 30 #[U64 (g 0), U64 (g 1), U64 (g 2), U64 (g 3), U64 (g 4), U64 (g 5), U64 (g 6), U64 (g 7)] 6).run Hfaa.prog w = .ok (U64 (g 6)) w := run_part1 na30 _ _ _ rfl
  have g6 : ∀ w, (Op.equalIn (d + 1) 30 (U64 (f 6)) (U64 (g 6))).run Hfaa.prog w = .ok ((f 6) == (g 6)) w := fun w => by rw [U64, U64, eqIn_int Hfaa.underlying30, nat_beq]
  have p7 : ∀ w, (part 30 #[U64 (f 0), U64 (f 1), U64 (f 2), U64 (f 3), U64 (f 4), U64 (f 5), U64 (f 6), U64 (f 7)] 7).run Hfaa.prog w = .ok (U64 (f 7)) w := run_part1 na30 _ _ _ rfl
  have q7 : ∀ w, (part 30 #[U64 (g 0), U64 (g 1), U64 (g 2), U64 (g 3), U64 (g 4), U64 (g 5), U64 (g 6), U64 (g 7)] 7).run Hfaa.prog w = .ok (U64 (g 7)) w := run_part1 na30 _ _ _ rfl
  have g7 : ∀ w, (Op.equalIn (d + 1) 30 (U64 (f 7)) (U64 (g 7))).run Hfaa.prog w = .ok ((f 7) == (g 7)) w := fun w => by rw [U64, U64, eqIn_int Hfaa.underlying30, nat_beq]
  rw [Op.equalIn]
  simp only [Sem.run_bind, run_underlying Hfaa.underlying35, Result.andThen_ok, szw30]
  unfold eq8
  simp [Std.Legacy.Range.forIn_eq_forIn_range', List.range', Sem.run_bind, p0, q0, g0, p1, q1, g1, p2, q2, g2, p3, q3, g3, p4, q4, g4, p5, q5, g5, p6, q6, g6, p7, q7, g7]
  by_cases c0 : f 0 = g 0
  case neg => simp [c0]
  by_cases c1 : f 1 = g 1
  case neg => simp [c0, c1]
  by_cases c2 : f 2 = g 2
  case neg => simp [c0, c1, c2]
  by_cases c3 : f 3 = g 3
  case neg => simp [c0, c1, c2, c3]
  by_cases c4 : f 4 = g 4
  case neg => simp [c0, c1, c2, c3, c4]
  by_cases c5 : f 5 = g 5
  case neg => simp [c0, c1, c2, c3, c4, c5]
  by_cases c6 : f 6 = g 6
  case neg => simp [c0, c1, c2, c3, c4, c5, c6]
  by_cases c7 : f 7 = g 7
  case neg => simp [c0, c1, c2, c3, c4, c5, c6, c7]
  simp [c0, c1, c2, c3, c4, c5, c6, c7]
theorem neqA35 {x y : Operand} (f g : Nat → BitVec 64) : ∀ (H : PH) vx vy w, (agg (ar U64 8 f ++ [])).p H vx → (agg (ar U64 8 g ++ [])).p H vy → (do eqGuard .neq 35 x y vx vy; binOp .neq 35 vx vy : Sem Value).run Hfaa.prog w = .ok (Bl (!(eq8 f g))) w := by
  rintro H vx vy w ⟨vs, rfl, h⟩ ⟨us, rfl, g'⟩
  have hv : vs = [U64 (f 0), U64 (f 1), U64 (f 2), U64 (f 3), U64 (f 4), U64 (f 5), U64 (f 6), U64 (f 7)] := all2_ar_inv h
  have hu : us = [U64 (g 0), U64 (g 1), U64 (g 2), U64 (g 3), U64 (g 4), U64 (g 5), U64 (g 6), U64 (g 7)] := all2_ar_inv g'
  subst hv; subst hu
  rw [Sem.run_bind]
  have : (eqGuard .neq 35 x y (.agg #[U64 (f 0), U64 (f 1), U64 (f 2), U64 (f 3), U64 (f 4), U64 (f 5), U64 (f 6), U64 (f 7)]) (.agg #[U64 (g 0), U64 (g 1), U64 (g 2), U64 (g 3), U64 (g 4), U64 (g 5), U64 (g 6), U64 (g 7)])).run Hfaa.prog w = .ok () w := by
    unfold eqGuard
    simp
  rw [this, Result.andThen_ok]
  show (do pure (Value.bool (!(← Op.equal 35 (.agg #[U64 (f 0), U64 (f 1), U64 (f 2), U64 (f 3), U64 (f 4), U64 (f 5), U64 (f 6), U64 (f 7)]) (.agg #[U64 (g 0), U64 (g 1), U64 (g 2), U64 (g 3), U64 (g 4), U64 (g 5), U64 (g 6), U64 (g 7)])))) : Sem Value).run Hfaa.prog w = _
  rw [Sem.run_bind, Op.equal, Op.maxDepth, equalV35]
  rfl
end Go.Proofs.YfwaawGreat

namespace Go.Aw
open Go.RowKit

theorem and7q (x : BitVec 64) : (x &&& 7#64).toNat < 8 := by
  rw [BitVec.toNat_and]
  exact Nat.lt_of_le_of_lt Nat.and_le_right (by decide)

/-- A copy into the middle of an array. -/
def cpyA {α : Type} (w : Nat → α) (o m : Nat) (f : Nat → α) : Nat → α := fun i => bif Nat.ble o i && Nat.blt i (o + m) then f (i - o) else w i

section
variable {α : Type} {K : α → Value} {P : Program} {n : Nat} {ops : Array Oper}

theorem setSeg_mid : ∀ (us vs : List Value) (i : Nat), i + us.length ≤ vs.length → setSeg vs i us = vs.take i ++ us ++ vs.drop (i + us.length)
  | [], vs, i, _ => by simp [setSeg]
  | u :: us, vs, i, hi => by
    simp only [setSeg]
    simp only [List.length_cons] at hi
    rw [setSeg_mid us _ _ (by simp; omega)]
    rw [List.take_set, List.drop_set_of_lt (by omega)]
    have hlt : i < vs.length := by omega
    have h1 : (vs.take (i + 1)).set i u = vs.take i ++ [u] := by
      rw [List.take_succ_eq_append_getElem hlt, List.set_append_right _ _ (by simp; omega)]
      simp [Nat.min_eq_left (Nat.le_of_lt hlt)]
    rw [h1]
    simp [Nat.add_assoc, Nat.add_comm 1]

theorem arv_copyA {m k o : Nat} {w f : Nat → α} (h : o + k ≤ m) : setSeg (arv K m w) o (arv K k f) = arv K m (cpyA w o k f) := by
  rw [setSeg_mid _ _ _ (by simp [arv]; exact h)]
  apply List.ext_getElem?
  intro i
  have hlo : (List.take o (arv K m w)).length = o := by simp [arv]; omega
  by_cases h1 : i < o
  · rw [List.append_assoc, List.getElem?_append_left (by omega), List.getElem?_take, if_pos h1, arv_get (by omega), arv_get (by omega)]
    have hb : Nat.ble o i = false := by
      cases hb : Nat.ble o i with
      | false => rfl
      | true => have := Nat.le_of_ble_eq_true hb; omega
    simp [cpyA, hb]
  · rw [List.append_assoc, List.getElem?_append_right (by omega), hlo]
    have hb : Nat.ble o i = true := by simp [Nat.ble_eq]; omega
    by_cases h2 : i < o + k
    · rw [List.getElem?_append_left (by simp [arv]; omega), arv_get (by omega), arv_get (by omega)]
      have hb2 : Nat.blt i (o + k) = true := by simp [Nat.blt_eq]; omega
      simp [cpyA, hb, hb2]
    · rw [List.getElem?_append_right (by simp [arv]; omega), List.getElem?_drop]
      have e : o + (arv K k f).length + (i - o - (arv K k f).length) = i := by simp [arv]; omega
      rw [e]
      by_cases h3 : i < m
      · rw [arv_get h3, arv_get h3]
        have hb2 : Nat.blt i (o + k) = false := by
          cases hb2 : Nat.blt i (o + k) with
          | false => rfl
          | true => exact (h2 (by simpa [Nat.blt_eq] using hb2)).elim
        simp [cpyA, hb2]
      · rw [List.getElem?_eq_none (by simp [arv]; omega), List.getElem?_eq_none (by simp [arv]; omega)]

theorem run_copy_ok' {w : World} {b off dLen dCap sLen sCap : Nat} {a : Addr} {dT sT ty e ty' : TypeId} {vs us : List Value} (hu : P.underlying dT = some (.slice e)) (hs : ∀ w, (sizeOf e).run P w = .ok 1 w) (hb : w.heap[b]? = some (.cells vs.toArray ty' (0, 0)))
    (hl : (loadCells a (Nat.min sLen dLen)).run P w = .ok us.toArray w) (hul : us.length = Nat.min sLen dLen) (hfit : off + us.length ≤ vs.length) (h1 : ∀ u, u ∈ us → isCell u = true) :
    ∃ w', (Builtin.copy_ #[dT, sT] ty #[.slice (some ⟨b, off, none⟩) dLen dCap, .slice (some a) sLen sCap]).run P w = .ok (goInt us.length) w' ∧ w'.heap[b]? = some (.cells (setSeg vs off us).toArray ty' (0, 0)) ∧ (∀ j, j ≠ b → w'.heap[j]? = w.heap[j]?) ∧ w'.heap.size = w.heap.size ∧ w'.os = w.os ∧ w'.tape = w.tape ∧ w'.output = w.output := by
  obtain ⟨w', g1, g2⟩ := run_storeCells (P := P) (off := off) us vs 0 w hb (by omega) h1
  refine ⟨w', ?_, g2⟩
  have h2 : Builtin.copy_ #[dT, sT] ty #[.slice (some ⟨b, off, none⟩) dLen dCap, .slice (some a) sLen sCap] = (underlying dT >>= fun d => match d with
    | .slice elem => (do
      let n := Nat.min (← Builtin.lenOf (.slice (some a) sLen sCap)) dLen
      let cells ← Builtin.firstCells (← sizeOf elem) n (.slice (some a) sLen sCap)
      storeCells ⟨b, off, none⟩ cells.toList
      pure (goInt n) : Sem Value)
    | _ => stuck "copy: slice type expected") := rfl
  rw [h2, Sem.run_bind, run_underlying hu, Result.andThen_ok]
  simp only [Builtin.lenOf, pure_bind]
  rw [Sem.run_bind, hs, Result.andThen_ok]
  simp only [Builtin.firstCells, Nat.mul_one]
  rw [Sem.run_bind, hl, Result.andThen_ok]
  simp only
  rw [Sem.run_bind, g1, Result.andThen_ok, ← hul]
  rfl

/-- copy(dst, src): from box to box. -/
theorem LR_copyBB {x y : Operand} {dT sT e : TypeId} {ty : TypeId} {pos : String} {after : Array Edge} {d : Nat} {rx ry : List (Nat × TV)} {k k' o len cap len' cap' N N' : Nat} {t1 t2 : TypeId} {f g : Nat → α} {rest : List AV} (hu : P.underlying dT = some (.slice e)) (hs : ∀ w, (sizeOf e).run P w = .ok 1 w) (hK : ∀ q, isCell (K q) = true)
    (hx : OpAt x (.inr (.inr (.inl (k, o, len, cap)))) rx) (hy : OpAt y (.inr (.inr (.inl (k', 0, len', cap')))) ry) (hle : o + len ≤ N) (hle' : len' ≤ N') (hn : Nat.blt d n = true) :
    LR P n ops ⟨some d, .call ⟨.builtin .copy, #[x, y], #[dT, sT]⟩, ty, pos, after, none⟩ ⟨rx ++ ry, [(k, pb t1 (ar K N f ++ [])), (k', pb t2 (ar K N' g ++ rest))], []⟩ ⟨[(d, .inl (is (I64 (Nat.min len' len : Nat))))], [(k, pb t1 (ar K N (cpyA f o (Nat.min len' len) g) ++ []))]⟩ := by
  refine ⟨?_⟩
  intro B s a w hB hst ⟨bn, hr⟩
  have h0 := SatT_append.1 hst.1
  have h1 : a.eval x = .slice (some ⟨(bn k).b, o, none⟩) len cap := hx B bn s a w h0.1 hr
  have h2 : a.eval y = .slice (some ⟨(bn k').b, 0, none⟩) len' cap' := hy B bn s a w h0.2 hr
  obtain ⟨vs, hb, hv⟩ := hr.cellAt hst.2.1.1
  obtain ⟨us, hb', hv'⟩ := hr.cellAt hst.2.1.2.1
  have hvs := all2_ar_inv hv
  subst hvs
  have hl := run_loadCells_arv (P := P) (K := K) (m := Nat.min len' len) (f := g) (off := 0) hb' (fun i hi => by
    have hi' : i < N' := Nat.lt_of_lt_of_le hi (Nat.le_trans (Nat.min_le_left _ _) hle')
    obtain ⟨v, q1, q2⟩ := hv'.get (gA (K := K) (w := g) (r := rest) hi')
    rw [Nat.zero_add, List.getElem?_toArray, q1]
    exact congrArg some q2)
  have hm : Nat.min len' len ≤ len := Nat.min_le_right _ _
  obtain ⟨w', g1, g2, g3, g4, g5, g6, g7⟩ := run_copy_ok' (P := P) (sT := sT) (ty := ty) (off := o) (dLen := len) (dCap := cap) (sLen := len') (sCap := cap') (us := arv K (Nat.min len' len) g) hu hs hb hl arv_length (by rw [arv_length, arv_length]; omega) (fun v hv => by
    obtain ⟨i, _, e⟩ := List.mem_map.1 hv
    rw [← e]; exact hK _)
  unfold OpK
  rw [if_pos (by simp [Region.wanted])]
  unfold Oper.wp
  have hrun : (execOp a.eval ⟨some d, .call ⟨.builtin .copy, #[x, y], #[dT, sT]⟩, ty, pos, after, none⟩).run P w = .ok (.value (I64 (Nat.min len' len : Nat))) w' := by
    simp only [execOp, resolve]
    rw [Sem.run_bind]
    simp only [Sem.run_pure, Result.andThen_ok, invoke]
    have : (#[x, y].map a.eval) = #[.slice (some ⟨(bn k).b, o, none⟩) len cap, .slice (some ⟨(bn k').b, 0, none⟩) len' cap'] := by simp [h1, h2]
    rw [this]
    show (do pure (Next.value (← Builtin.copy_ #[dT, sT] ty #[.slice (some ⟨(bn k).b, o, none⟩) len cap, .slice (some ⟨(bn k').b, 0, none⟩) len' cap'])) : Sem Next).run P w = _
    rw [Sem.run_bind, g1, Result.andThen_ok, arv_length]
    rfl
  rw [hrun]
  have := hr.setBox (el' := t1) hst.2.1.1 (by rw [g2, arv_copyA (by omega)]) all2_arv g3 g4 g5 g6 g7
  obtain ⟨bn', hr'⟩ := this
  exact ⟨bn', hr'.put (by rw [hB]; simpa [Nat.blt_eq] using hn) rfl⟩
end
end Go.Aw
