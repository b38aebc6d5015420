import Derived.Test.YfwaawGreatJQ
/-! Scripts: folds, runs, and the whole law. -/
namespace Go.Proofs.YfwaawGreat
open Go.Aw
set_option linter.unusedVariables false
set_option linter.unusedSimpArgs false
section
variable {N : Nat} {e m mode : BitVec 8} {w : Bool} {R : Nat → BitVec 64} {O : NS (List UInt8)} {t : Tab} {x y : BitVec 8} {s : NS Opv}
theorem iterL_in {α β : Type} {L : α → Option (α ⊕ β)} {M : Nat} {v v' : α} (h : L v = some (.inl v')) : iterL L (M + 1) v = iterL L M v' := by rw [iterL, h]
theorem soft_any (hN : 110000 ≤ N) (ht : TabOk t) (hO : O.2.1 < 4294967296) (k0 d a b : BitVec 8) (imm : BitVec 64) (tx : List UInt8) :
    Sp2 O (F122 N t e m mode R O k0 d a b imm tx) (F121 N t e m mode R O k0 d a b imm tx) := by
  cases hc : F40 e m with
  | true => exact soft_st hN ht (fm_iff.1 hc) hO _ _ _ _ _ _
  | false =>
    unfold F122 F121
    simp only [lt]
    rw [hc]
    exact Sp2.id
theorem F118_0 {k0 d a b : BitVec 8} {imm : BitVec 64} {tx : List UInt8} : F118 N t 0#8 e m mode R O k0 d a b imm tx = (F121 N t e m mode R O k0 d a b imm tx).bind fun y => some (y.1, y.2) := by
  unfold F118 F118_1; rw [bt (by rfl)]
theorem F118_1' {k0 d a b : BitVec 8} {imm : BitVec 64} {tx : List UInt8} : F118 N t 1#8 e m mode R O k0 d a b imm tx = (F122 N t e m mode R O k0 d a b imm tx).bind fun y => some (y.1, y.2) := by
  unfold F118 F118_1 F118_2; rw [bf (by rfl), bt (by rfl)]
theorem F118_2' {k0 d a b : BitVec 8} {imm : BitVec 64} {tx : List UInt8} : F118 N t 2#8 e m mode R O k0 d a b imm tx = (F123 N t e m mode R O k0 d a b imm tx).bind fun y => some (y.1, y.2) := by
  unfold F118 F118_1 F118_2 F118_3; rw [bf (by rfl), bf (by rfl), bt (by rfl)]
theorem F57_go (h : F56 t x e m mode = true) {k0 d a b : BitVec 8} {imm : BitVec 64} {tx : List UInt8} : F57 N t x e m mode R O k0 d a b imm tx = F118 N t x e m mode R O k0 d a b imm tx := by
  unfold F57
  simp only [lt]
  rw [h]
  unfold F57_1 F57_2 F57_3 F57_4 F118 F118_1 F118_2 F118_3
  rfl
/-- Two engines do the same with every line of a script. -/
def Alike (N : Nat) (t : Tab) (x y e m mode : BitVec 8) (s : NS Opv) : Prop := ∀ i, i < s.2.1 → i < 256 → ∀ (R : Nat → BitVec 64) (O : NS (List UInt8)), O.2.1 ≤ 256 →
  Sp2 O (F118 N t x e m mode R O (s.2.2 i).1 (s.2.2 i).2.1 (s.2.2 i).2.2.1 (s.2.2 i).2.2.2.1 (s.2.2 i).2.2.2.2.1 (s.2.2 i).2.2.2.2.2) (F118 N t y e m mode R O (s.2.2 i).1 (s.2.2 i).2.1 (s.2.2 i).2.2.1 (s.2.2 i).2.2.2.1 (s.2.2 i).2.2.2.2.1 (s.2.2 i).2.2.2.2.2)
theorem alike_soft (hN : 110000 ≤ N) (ht : TabOk t) : Alike N t 1#8 0#8 e m mode s := by
  intro i _ _ R O hO
  rw [F118_1', F118_0]
  exact (soft_any hN ht (by omega) _ _ _ _ _ _).pair
/-- A line without flags. -/
def UF (o : Opv) : Prop := o.1 ≠ 22#8 ∧ o.1 ≠ 28#8 ∧ o.1 ≠ 29#8 ∧ o.1 ≠ 30#8 ∧ o.1 ≠ 33#8
theorem ne_of (h : mode = 0#8 ∨ 4 < mode.toNat) : NE mode := by
  rcases h with rfl | h
  · exact ne_zero
  · refine ⟨?_, ?_, ?_, ?_⟩ <;> rw [beq_eq_false_iff_ne] <;> intro g <;> rw [g] at h <;> exact absurd h (by decide)
theorem alike_na (hN : 110000 ≤ N) (ht : TabOk t) (h : NaF e m w) (hmo : mode = 0#8 ∨ 4 < mode.toNat) (hu : ∀ i, i < s.2.1 → UF (s.2.2 i)) : Alike N t 2#8 0#8 e m mode s := by
  intro i hi _ R O hO
  rw [F118_2', F118_0]
  obtain ⟨u1, u2, u3, u4, u5⟩ := hu i hi
  exact (na_st hN ht h hmo (ne_of hmo) (by omega) _ _ _ _ _ _ u1 u2 u3 u4 u5).pair
theorem w64_nat {i : Nat} (h : i ≤ 300) : w64 ((i : Int) + 1) = ((i + 1 : Nat) : Int) := by rw [w64_id (by omega)]; omega
theorem inb {i L : Nat} (h : i < L) : (decide ((0 : Int) ≤ (i : Int)) && decide ((i : Int) < (L : Int))) = true := by
  rw [decide_eq_true (show (0 : Int) ≤ (i : Int) by omega), decide_eq_true (show (i : Int) < (L : Int) by omega)]; rfl
theorem fold_go {x1 : Nat → BitVec 64} {x2 : NS (List UInt8)} (H : Alike N t x y e m mode s) : ∀ (k i M : Nat) (R : Nat → BitVec 64) (O : NS (List UInt8)), i + k = min s.2.1 256 → O.2.1 ≤ i → k < M →
    ∃ r, iterL (F53_L4 N t x e m mode s x1 x2) M ((i : Int), R, O) = some r ∧ iterL (F53_L4 N t y e m mode s x1 x2) M ((i : Int), R, O) = some r ∧ r.2.2.1 ≤ 256
  | 0, i, M, R, O, h1, h2, h3 => by
    obtain ⟨M', rfl⟩ : ∃ M', M = M' + 1 := ⟨M - 1, by omega⟩
    have hc : (decide ((i : Int) < (s.2.1 : Int)) && decide ((i : Int) < 256)) = false := by
      rw [Bool.and_eq_false_iff, decide_eq_false_iff_not, decide_eq_false_iff_not]; omega
    have hl : ∀ z : BitVec 8, F53_L4 N t z e m mode s x1 x2 ((i : Int), R, O) = (some (R, O)).map Sum.inr := by
      intro z
      unfold F53_L4 F53_L4b F53_5
      rw [bf hc]
      rfl
    refine ⟨(R, O), iterL_out (hl x), iterL_out (hl y), ?_⟩
    show O.2.1 ≤ 256
    omega
  | k + 1, i, M, R, O, h1, h2, h3 => by
    obtain ⟨M', rfl⟩ : ∃ M', M = M' + 1 := ⟨M - 1, by omega⟩
    have hc : (decide ((i : Int) < (s.2.1 : Int)) && decide ((i : Int) < 256)) = true := by
      rw [Bool.and_eq_true, decide_eq_true_eq, decide_eq_true_eq]; omega
    have hl : ∀ (z : BitVec 8) (r : (Nat → BitVec 64) × NS (List UInt8)), F118 N t z e m mode R O (s.2.2 i).1 (s.2.2 i).2.1 (s.2.2 i).2.2.1 (s.2.2 i).2.2.2.1 (s.2.2 i).2.2.2.2.1 (s.2.2 i).2.2.2.2.2 = some r →
        F53_L4 N t z e m mode s x1 x2 ((i : Int), R, O) = some (.inl (((i + 1 : Nat) : Int), r.1, r.2)) := by
      intro z r hr
      unfold F53_L4 F53_L4b F53_5
      rw [bt hc, bt (inb (by omega)), Int.toNat_natCast, hr, Option.bind_some]
      unfold F53_6
      rw [w64_nat (by omega)]
    obtain ⟨r, r1, r2, r3⟩ := H i (by omega) (by omega) R O (by omega)
    rw [iterL_in (hl x r r1), iterL_in (hl y r r2)]
    exact fold_go H k (i + 1) M' r.1 r.2 (by omega) (by omega) (by omega)
theorem fold_eq (hN : 300 ≤ N) (H : Alike N t x y e m mode s) : ∃ r, F54 N t x e m mode s = some r ∧ F54 N t y e m mode s = some r ∧ r.2.2.1 ≤ 256 := by
  obtain ⟨r, r1, r2, r3⟩ := fold_go (x1 := fun _ => 0#64) (x2 := (true, 0, fun _ => ([] : List UInt8))) H (min s.2.1 256) 0 N (fun _ => 0#64) (true, 0, fun _ => ([] : List UInt8)) (by omega) (Nat.le_refl 0) (by omega)
  refine ⟨r, ?_, ?_, r3⟩
  · unfold F54 F54_1 F53 F53_1 F53_2
    rw [show iterL (F53_L4 N t x e m mode s (fun _ => 0#64) (true, 0, fun _ => ([] : List UInt8))) N ((0 : Int), (fun _ => 0#64), (true, 0, fun _ => ([] : List UInt8))) = some r from r1]
    rfl
  · unfold F54 F54_1 F53 F53_1 F53_2
    rw [show iterL (F53_L4 N t y e m mode s (fun _ => 0#64) (true, 0, fun _ => ([] : List UInt8))) N ((0 : Int), (fun _ => 0#64), (true, 0, fun _ => ([] : List UInt8))) = some r from r2]
    rfl
theorem run_go {x1 : Nat → BitVec 64} {x2 : NS (List UInt8)} (hx : F56 t x e m mode = true) (hy : F56 t y e m mode = true) (hs : s.2.1 ≤ 256) (H : Alike N t x y e m mode s) : ∀ (k i M : Nat) (R : Nat → BitVec 64) (O : NS (List UInt8)), i + k = s.2.1 → O.2.1 ≤ i → k < M →
    ∃ r, iterL (F29_L6 N t x e m mode s x1 x2 (s.2.1 : Int)) M ((i : Int), R, O) = some r ∧ iterL (F29_L6 N t y e m mode s x1 x2 (s.2.1 : Int)) M ((i : Int), R, O) = some r ∧ r.2.2.2.1 ≤ 256
  | 0, i, M, R, O, h1, h2, h3 => by
    obtain ⟨M', rfl⟩ : ∃ M', M = M' + 1 := ⟨M - 1, by omega⟩
    have hc : decide ((i : Int) < (s.2.1 : Int)) = false := decide_eq_false (by omega)
    have hl : ∀ z : BitVec 8, F29_L6 N t z e m mode s x1 x2 (s.2.1 : Int) ((i : Int), R, O) = (some (false, R, O)).map Sum.inr := by
      intro z
      unfold F29_L6 F29_L6b F29_7
      rw [bf hc]
      rfl
    refine ⟨(false, R, O), iterL_out (hl x), iterL_out (hl y), ?_⟩
    show O.2.1 ≤ 256
    omega
  | k + 1, i, M, R, O, h1, h2, h3 => by
    obtain ⟨M', rfl⟩ : ∃ M', M = M' + 1 := ⟨M - 1, by omega⟩
    have hc : decide ((i : Int) < (s.2.1 : Int)) = true := decide_eq_true (by omega)
    have hl : ∀ (z : BitVec 8) (hz : F56 t z e m mode = true) (r : (Nat → BitVec 64) × NS (List UInt8)), F118 N t z e m mode R O (s.2.2 i).1 (s.2.2 i).2.1 (s.2.2 i).2.2.1 (s.2.2 i).2.2.2.1 (s.2.2 i).2.2.2.2.1 (s.2.2 i).2.2.2.2.2 = some r →
        F29_L6 N t z e m mode s x1 x2 (s.2.1 : Int) ((i : Int), R, O) = some (.inl (((i + 1 : Nat) : Int), r.1, r.2)) := by
      intro z hz r hr
      unfold F29_L6 F29_L6b F29_7
      rw [bt hc, bt (inb (by omega)), Int.toNat_natCast]
      unfold F29_9
      rw [F57_go hz, hr, Option.bind_some]
      unfold F29_8
      rw [w64_nat (by omega)]
    obtain ⟨r, r1, r2, r3⟩ := H i (by omega) (by omega) R O (by omega)
    rw [iterL_in (hl x hx r r1), iterL_in (hl y hy r r2)]
    exact run_go hx hy hs H k (i + 1) M' r.1 r.2 (by omega) (by omega) (by omega)
theorem run_eq (hN : 300 ≤ N) (hxy : F56 t x e m mode = F56 t y e m mode) (H : F56 t y e m mode = true → s.2.1 ≤ 256 → Alike N t x y e m mode s) : ∃ r, F29 N t x e m mode s = some r ∧ F29 N t y e m mode s = some r ∧ r.2.2.2.1 ≤ 256 := by
  unfold F29 F29_1
  simp only [lt]
  rw [hxy]
  unfold F29_2
  by_cases c : s.2.1 ≤ 256
  · rw [decide_eq_false (show ¬ ((s.2.1 : Int) > 256) by omega), Bool.or_false]
    cases hf : F56 t y e m mode with
    | false => exact ⟨_, rfl, rfl, by decide⟩
    | true =>
      rw [Bool.not_true, bf rfl, bf rfl]
      unfold F29_3 F29_5
      exact run_go (hxy.trans hf) hf c (H hf c) s.2.1 0 N (fun _ => 0#64) (true, 0, fun _ => ([] : List UInt8)) (by omega) (Nat.le_refl 0) (by omega)
  · rw [decide_eq_true (show ((s.2.1 : Int) > 256) by omega), Bool.or_true]
    exact ⟨_, rfl, rfl, by decide⟩
theorem eq8_self (f : Nat → BitVec 64) : eq8 f f = true := by
  unfold eq8
  simp
theorem equal_go {b : Bool} : ∀ (k i M : Nat), i + k = O.2.1 → O.2.1 ≤ 256 → k < M → iterL (F30_L3 N b R O b R O (O.2.1 : Int)) M (i : Int) = some true
  | 0, i, M, h1, h2, h3 => by
    obtain ⟨M', rfl⟩ : ∃ M', M = M' + 1 := ⟨M - 1, by omega⟩
    refine iterL_out (o := some true) ?_
    unfold F30_L3 F30_L3b F30_4
    rw [bf (decide_eq_false (by omega))]
  | k + 1, i, M, h1, h2, h3 => by
    obtain ⟨M', rfl⟩ : ∃ M', M = M' + 1 := ⟨M - 1, by omega⟩
    have hl : F30_L3 N b R O b R O (O.2.1 : Int) (i : Int) = some (.inl ((i + 1 : Nat) : Int)) := by
      unfold F30_L3 F30_L3b F30_4
      rw [bt (decide_eq_true (by omega)), bt (inb (by omega)), bt (inb (by omega))]
      unfold F30_5
      rw [bf (bne_self_eq_false _), w64_nat (by omega)]
    rw [iterL_in hl]
    exact equal_go k (i + 1) M' (by omega) h2 (by omega)
theorem equal_self (hN : 300 ≤ N) (b : Bool) (hO : O.2.1 ≤ 256) : F30 N b R O b R O = some true := by
  unfold F30 F30_1
  have h1 : (((b != b) || (!(eq8 R R))) || ((O.2.1 : Int) != (O.2.1 : Int))) = false := by
    rw [eq8_self, bne_self_eq_false, bne_self_eq_false]; rfl
  rw [bf h1]
  unfold F30_2
  exact equal_go O.2.1 0 N (by omega) hO (by omega)
/-- The script without the lines that ask for flags. -/
theorem unfl_go : ∀ (k i M : Nat) (acc : NS Opv), i + k = min s.2.1 256 → acc.2.1 ≤ i → (∀ j, j < acc.2.1 → UF (acc.2.2 j)) → (acc.2.1 = i → ∀ j, j < i → UF (s.2.2 j)) → k < M →
    ∃ u, iterL (F32_L4 N s) M ((i : Int), acc) = some u ∧ u.2.1 ≤ min s.2.1 256 ∧ (∀ j, j < u.2.1 → UF (u.2.2 j)) ∧ (u.2.1 = min s.2.1 256 → ∀ j, j < min s.2.1 256 → UF (s.2.2 j))
  | 0, i, M, acc, h1, h2, h3, h4, h5 => by
    obtain ⟨M', rfl⟩ : ∃ M', M = M' + 1 := ⟨M - 1, by omega⟩
    have hc : (decide ((i : Int) < (s.2.1 : Int)) && decide ((i : Int) < 256)) = false := by
      rw [Bool.and_eq_false_iff, decide_eq_false_iff_not, decide_eq_false_iff_not]; omega
    have hi : i = min s.2.1 256 := by omega
    refine ⟨acc, iterL_out (o := some acc) ?_, by omega, h3, fun g => ?_⟩
    · unfold F32_L4 F32_L4b F32_9
      rw [bf hc]; rfl
    · rw [← hi] at g ⊢
      exact h4 g
  | k + 1, i, M, acc, h1, h2, h3, h4, h5 => by
    obtain ⟨M', rfl⟩ : ∃ M', M = M' + 1 := ⟨M - 1, by omega⟩
    have hc : (decide ((i : Int) < (s.2.1 : Int)) && decide ((i : Int) < 256)) = true := by
      rw [Bool.and_eq_true, decide_eq_true_eq, decide_eq_true_eq]; omega
    obtain ⟨c, hcd⟩ : ∃ c, c = ((((((s.2.2 i).1 != (22#8)) && ((s.2.2 i).1 != (28#8))) && ((s.2.2 i).1 != (29#8))) && ((s.2.2 i).1 != (30#8))) && ((s.2.2 i).1 != (33#8))) := ⟨_, rfl⟩
    cases c with
    | true =>
      have hu : UF (s.2.2 i) := by
        have h := hcd.symm
        simp only [Bool.and_eq_true, bne_iff_ne] at h
        exact ⟨h.1.1.1.1, h.1.1.1.2, h.1.1.2, h.1.2, h.2⟩
      have hl : F32_L4 N s ((i : Int), acc) = some (.inl (((i + 1 : Nat) : Int), app acc (s.2.2 i))) := by
        unfold F32_L4 F32_L4b F32_9
        rw [bt hc]
        unfold F32_5
        rw [bt (inb (by omega)), Int.toNat_natCast]
        unfold F32_7
        rw [← hcd]
        unfold F32_8
        rw [bt rfl, bt (inb (by omega)), bt (decide_eq_true (show acc.2.1 < 4294967296 by omega))]
        unfold F32_6
        rw [w64_nat (by omega)]
        rfl
      rw [iterL_in hl]
      refine unfl_go k (i + 1) M' (app acc (s.2.2 i)) (by omega) (show acc.2.1 + 1 ≤ i + 1 by omega) ?_ ?_ (by omega)
      · intro j hj
        have hj : j < acc.2.1 + 1 := hj
        show UF (bif Nat.beq j acc.2.1 then s.2.2 i else acc.2.2 j)
        cases hb : Nat.beq j acc.2.1 with
        | true => exact hu
        | false =>
          have : j ≠ acc.2.1 := Nat.ne_of_beq_eq_false hb
          exact h3 j (by omega)
      · intro g j hj
        have g : acc.2.1 + 1 = i + 1 := g
        by_cases q : j = i
        · rw [q]; exact hu
        · exact h4 (by omega) j (by omega)
    | false =>
      have hl : F32_L4 N s ((i : Int), acc) = some (.inl (((i + 1 : Nat) : Int), acc)) := by
        unfold F32_L4 F32_L4b F32_9
        rw [bt hc]
        unfold F32_5
        rw [bt (inb (by omega)), Int.toNat_natCast]
        unfold F32_7
        rw [← hcd]
        unfold F32_8
        rw [bf rfl]
        unfold F32_6
        rw [w64_nat (by omega)]
      rw [iterL_in hl]
      exact unfl_go k (i + 1) M' acc (by omega) (by omega) h3 (fun g => by omega) (by omega)
theorem unfl (hN : 300 ≤ N) (s : NS Opv) : ∃ u, F32 N s = some u ∧ u.2.1 ≤ min s.2.1 256 ∧ (∀ j, j < u.2.1 → UF (u.2.2 j)) ∧ (u.2.1 = min s.2.1 256 → ∀ j, j < min s.2.1 256 → UF (s.2.2 j)) :=
  unfl_go (s := s) (min s.2.1 256) 0 N (true, 0, fun _ => (0#8, 0#8, 0#8, 0#8, 0#64, ([] : List UInt8))) (by omega) (Nat.le_refl 0) (fun j hj => absurd hj (by show ¬ j < 0; omega)) (fun _ j hj => by omega) (by omega)
end
end Go.Proofs.YfwaawGreat
