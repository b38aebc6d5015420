import Derived.Test.YfwaawGreatG1
import Derived.Test.YfwaawGreatG2
import Derived.Test.YfwaawGreatG3
import Derived.Test.YfwaawGreatG11
namespace Go.Proofs.YfwaawGreat
open Go.Aw
set_option linter.unusedVariables false
set_option maxRecDepth 100000
set_option maxHeartbeats 1000000
/-- exact.unitsOf -/
def F197_2 (N : Nat) (x4 : Nat) : Option (Nat) := some x4
def F197_1 (N : Nat) (a0_0 : Bool) (a0_1 : Nat) (a0_2 : Nat) (x1 : Bool) (x2 : Nat) (x3 : Nat) : Option (Nat) := bif lim a0_1 && lim x3 then bif lim a0_2 && lim x2 then (F245 N (0#8) false (a0_1 * x3) (a0_2 * x2)).bind fun y3 => F197_2 N y3.1 else none else none
def F197 (N : Nat) (a0_0 : Bool) (a0_1 : Nat) (a0_2 : Nat) (a1 : Int) : Option (Nat) := (F256 N a1).bind fun y4 => F197_1 N a0_0 a0_1 a0_2 y4.1 y4.2.1 y4.2.2
theorem C197 (N : Nat) (a0_0 : Bool) (a0_1 : Nat) (a0_2 : Nat) (a1 : Int) (r : Nat) (hr : some r = F197 N a0_0 a0_1 a0_2 a1) : Aw.Fn Hfaa.prog 197 [agg [is (Bl a0_0), big a0_1, big a0_2], is (I64 a1)] (big r) := by
  refine fn_intro Hfaa.func197 rfl rfl rfl ?_
  intro bn0 w0 H0
  refine AW_seq1 ?_
  refine AW_region ?_
  refine AL_cons (LR_box (at_tmp 0 _) (cells_agg _) rfl) (sS (sT1 rfl) sB0 (sF1 rfl)) ?_
  refine AL_cons (LR_assign at_nil rfl) (sS sT0 sB0 sF0) ?_
  refine AL_nil ?_
  refine thenN ?_
  refine AW_cut (σ := Bool × Nat × Nat) (fun v => ⟨[(2, .inr (.inl (2, 0))), (5, .inr (.inl (5, 0)))], [(2, pb 119 [is (Bl a0_0), big a0_1, big a0_2]), (5, pb 119 [is (Bl v.1), big v.2.1, big v.2.2])]⟩) (fun v => some r = F197_1 N a0_0 a0_1 a0_2 v.1 v.2.1 v.2.2) ?_ ?_
  · skip
    refine AW_region ?_
    refine AL_cons (LR_move (at_tmp 1 _) rfl) (sS (sT1 rfl) sB0 sF0) ?_
    obtain ⟨y4, hy4, hr⟩ := bind_some hr
    refine AL_cons (LR_call Hfaa.func256 rfl rfl (C256 N a1 y4 hy4) (all_cons (at_tmp 8 _) all_nil) rfl) (sS (sA (sT1 rfl) sT0) sB0 sF0) ?_
    refine AL_cons (zl119 rfl) (sS sT0 sB0 (sF1 rfl)) ?_
    refine AL_cons (LR_store (at_tmp 5 _) (at_tmp 9 _) (cells_agg _) (onC (one_is rfl) (onC (one_big _) (onC (one_big _) onN))) sz119 rfl rfl) (sS (sA (sT1 rfl) (sT1 rfl)) (sB1 rfl) sF0) ?_
    refine AL_nil ?_
    exact thenN (cutLeaf (v := (y4.1, y4.2.1, y4.2.2)) hr (weak0 ((sT rfl (sT rfl sT0))) (sub_keep (sub_keep sub_nil))))
  · rintro ⟨x1, x2, x3⟩ hr
    show AW Hfaa.prog _ _ _ ⟨[(2, .inr (.inl (2, 0))), (5, .inr (.inl (5, 0)))], [(2, pb 119 [is (Bl a0_0), big a0_1, big a0_2]), (5, pb 119 [is (Bl x1), big x2, big x3])]⟩
    have hr : some r = F197_1 N a0_0 a0_1 a0_2 x1 x2 x3 := hr
    refine AW_cut (σ := Nat) (fun v => ⟨[(6, .inl (big v))], []⟩) (fun v => some r = F197_2 N v) ?_ ?_
    · skip
      obtain ⟨hg3, hr⟩ := guard_some hr
      obtain ⟨hg4, hr⟩ := guard_some hr
      obtain ⟨y3, hy3, hr⟩ := bind_some hr
      refine AW_draw mixed
        (lrC (LR_fieldAddr (off := 0) (o := 1) (at_tmp 2 _) (fun b w => fa119_1 b 0 w) rfl)
        (lrC (LR_load (at_tmp 11 _) na49 rfl rfl)
        (lrC (LR_fieldAddr (off := 0) (o := 2) (at_tmp 5 _) (fun b w => fa119_2 b 0 w) rfl)
        (lrC (LR_load (at_tmp 13 _) na49 rfl rfl)
        (lrC (LR_call Hfaa.func22 rfl rfl (B22 a0_1 x3 hg3) (all_cons (at_tmp 12 _) (all_cons (at_tmp 14 _) all_nil)) rfl)
        (lrC (LR_fieldAddr (off := 0) (o := 2) (at_tmp 2 _) (fun b w => fa119_2 b 0 w) rfl)
        (lrC (LR_load (at_tmp 16 _) na49 rfl rfl)
        (lrC (LR_fieldAddr (off := 0) (o := 1) (at_tmp 5 _) (fun b w => fa119_1 b 0 w) rfl)
        (lrC (LR_load (at_tmp 18 _) na49 rfl rfl)
        (lrC (LR_call Hfaa.func22 rfl rfl (B22 a0_2 x2 hg4) (all_cons (at_tmp 17 _) (all_cons (at_tmp 19 _) all_nil)) rfl)
        (lrC (LR_call Hfaa.func245 rfl rfl (C245 N (0#8) false (a0_1 * x3) (a0_2 * x2) y3 hy3) (all_cons (at_c (v' := U8 (0#8)) rfl) (all_cons (at_c (v' := Bl false) rfl) (all_cons (at_tmp 15 _) (all_cons (at_tmp 20 _) all_nil)))) rfl)
        (lrC (LR_move (at_tmp 21 _) rfl)
        (lrC (LR_extract (at_tmp 10 _) rfl rfl)
        (lrC (LR_extract (at_tmp 10 _) rfl rfl)
        (lrC (zl181 rfl)
        (lrC (LR_assign (at_tmp 22 _) rfl)
        (lrC (LR_store (at_tmp 7 _) (at_tmp 23 _) (cells_agg _) (onC (one_is rfl) (onC (one_is rfl) onN)) sz181 rfl rfl)
        lrN)))))))))))))))))
        (by kernel_rfl)
        (saC (sS (sT1 rfl) sB0 sF0) (saC (sS (sT1 rfl) (sB1 rfl) sF0) (saC (sS (sT1 rfl) sB0 sF0) (saC (sS (sT1 rfl) (sB1 rfl) sF0) (saC (sS (sA (sT1 rfl) (sA (sT1 rfl) sT0)) sB0 sF0) (saC (sS (sT1 rfl) sB0 sF0) (saC (sS (sT1 rfl) (sB1 rfl) sF0) (saC (sS (sT1 rfl) sB0 sF0) (saC (sS (sT1 rfl) (sB1 rfl) sF0) (saC (sS (sA (sT1 rfl) (sA (sT1 rfl) sT0)) sB0 sF0) (saC (sS (sA sT0 (sA sT0 (sA (sT1 rfl) (sA (sT1 rfl) sT0)))) sB0 sF0) (saC (sS (sT1 rfl) sB0 sF0) (saC (sS (sT1 rfl) sB0 sF0) (saC (sS (sT1 rfl) sB0 sF0) (saC (sS sT0 sB0 (sF1 rfl)) (saC (sS (sT1 rfl) sB0 sF0) (saC (sS (sA (sT1 rfl) (sT1 rfl)) (sB1 rfl) sF0) saN))))))))))))))))) ?_
      exact thenN (cutLeaf (v := y3.1) hr (weak0 ((sT rfl sT0)) (sub_drop (sub_drop (sub_drop sub_nil)))))
    · rintro x4 hr
      show AW Hfaa.prog _ _ _ ⟨[(6, .inl (big x4))], []⟩
      have hr : some r = F197_2 N x4 := hr
      refine AW_seq1 ?_
      refine AW_region ?_
      refine AL_cons (LR_move (at_tmp 6 _) rfl) (sS (sT1 rfl) sB0 sF0) ?_
      refine AL_cons (LR_assign (at_tmp 24 _) rfl) (sS (sT1 rfl) sB0 sF0) ?_
      refine AL_nil ?_
      refine thenN ?_
      refine AW_ret ?_
      obtain rfl := Option.some.inj hr
      exact res1 rfl (rvT rfl)
/-- exact.digitsOf -/
def F198_5 (N : Nat) (a0 : Nat) (x4 : Nat → BitVec 8) (x5 : Int) (x6 : Bool) : Option (List UInt8) := bif x6 then some ([48] : List UInt8) else bif (decide (0 ≤ (x5 : Int)) && (decide ((x5 : Int) ≤ ((w64 ((w64 ((blen a0 : Int).tdiv 3)) + 9)).toNat : Int)) && decide (((w64 ((w64 ((blen a0 : Int).tdiv 3)) + 9)).toNat : Int) ≤ ((w64 ((w64 ((blen a0 : Int).tdiv 3)) + 9)).toNat : Int)))) then bif decide ((x5 : Int) < ((w64 ((w64 ((blen a0 : Int).tdiv 3)) + 9)).toNat : Int)) then bif decide (((x5 : Int).toNat) + ((((w64 ((w64 ((blen a0 : Int).tdiv 3)) + 9)).toNat : Int).toNat) - ((x5 : Int).toNat)) ≤ (w64 ((w64 ((blen a0 : Int).tdiv 3)) + 9)).toNat) then some (bys ((((w64 ((w64 ((blen a0 : Int).tdiv 3)) + 9)).toNat : Int).toNat) - ((x5 : Int).toNat)) (fun i => x4 (((x5 : Int).toNat) + i))) else none else none else none
def F198_4 (N : Nat) (a0 : Nat) (x4 : Nat → BitVec 8) (x5 : Int) : Option (List UInt8) := F198_5 N a0 x4 x5 (x5 == (((w64 ((w64 ((blen a0 : Int).tdiv 3)) + 9)).toNat : Int)))
def F198_7 (N : Nat) (a0 : Nat) (x4 : Nat → BitVec 8) (x7 : Int) (x8 : Bool) : Option ((Int) ⊕ (List UInt8)) := bif x8 then some (.inl (w64 (x7 + 1))) else (F198_4 N a0 x4 x7).map Sum.inr
def F198_L6b (N : Nat) (a0 : Nat) (x4 : Nat → BitVec 8) (x7 : Int) : Option ((Int) ⊕ (List UInt8)) := bif decide (x7 < (((w64 ((w64 ((blen a0 : Int).tdiv 3)) + 9)).toNat : Int))) then bif (decide (0 ≤ x7) && decide (x7 < ((w64 ((w64 ((blen a0 : Int).tdiv 3)) + 9)).toNat : Int))) then F198_7 N a0 x4 x7 ((x4 x7.toNat) == (48#8)) else none else F198_7 N a0 x4 x7 false
def F198_L6 (N : Nat) (a0 : Nat) (x4 : Nat → BitVec 8) : (Int) → Option ((Int) ⊕ (List UInt8)) := fun v => F198_L6b N a0 x4 v
def F198_3 (N : Nat) (a0 : Nat) (x3 : Int) (x4 : Nat → BitVec 8) : Option (List UInt8) := iterL (F198_L6 N a0 x4) N x3
def F198_14 (N : Nat) (a0 : Nat) (x13 : Nat) (x18 : Int) (x21 : Int) (x22 : BitVec 64) (x23 : Nat → BitVec 8) : Option ((Int × BitVec 64 × Int × (Nat → BitVec 8)) ⊕ ((Nat × Int × (Nat → BitVec 8)) ⊕ (List UInt8))) := some (.inl ((x21, x22, w64 (x18 + 1), x23)))
def F198_16 (N : Nat) (a0 : Nat) (x13 : Nat) (x17 : BitVec 64) (x18 : Int) (x24 : Int) (x25 : Nat → BitVec 8) : Option ((Int × BitVec 64 × Int × (Nat → BitVec 8)) ⊕ ((Nat × Int × (Nat → BitVec 8)) ⊕ (List UInt8))) := F198_14 N a0 x13 x18 x24 (x17 / (10#64)) x25
def F198_15 (N : Nat) (a0 : Nat) (x13 : Nat) (x17 : BitVec 64) (x18 : Int) (x19 : Nat → BitVec 8) (x24 : Int) : Option ((Int × BitVec 64 × Int × (Nat → BitVec 8)) ⊕ ((Nat × Int × (Nat → BitVec 8)) ⊕ (List UInt8))) := bif (decide (0 ≤ x24) && decide (x24 < ((w64 ((w64 ((blen a0 : Int).tdiv 3)) + 9)).toNat : Int))) then F198_16 N a0 x13 x17 x18 x24 (upd x19 x24.toNat (BitVec.ofInt 8 (((48#64) + (x17 % (10#64))).toNat : Int))) else none
def F198_13 (N : Nat) (a0 : Nat) (x13 : Nat) (x16 : Int) (x17 : BitVec 64) (x18 : Int) (x19 : Nat → BitVec 8) (x20 : Bool) : Option ((Int × BitVec 64 × Int × (Nat → BitVec 8)) ⊕ ((Nat × Int × (Nat → BitVec 8)) ⊕ (List UInt8))) := bif x20 then F198_15 N a0 x13 x17 x18 x19 (w64 (x16 - 1)) else (some (.inl (x13, x16, x19))).map Sum.inr
def F198_L12b (N : Nat) (a0 : Nat) (x13 : Nat) (x16 : Int) (x17 : BitVec 64) (x18 : Int) (x19 : Nat → BitVec 8) : Option ((Int × BitVec 64 × Int × (Nat → BitVec 8)) ⊕ ((Nat × Int × (Nat → BitVec 8)) ⊕ (List UInt8))) := F198_13 N a0 x13 x16 x17 x18 x19 (decide (x18 < 9))
def F198_L12 (N : Nat) (a0 : Nat) (x13 : Nat) : (Int × BitVec 64 × Int × (Nat → BitVec 8)) → Option ((Int × BitVec 64 × Int × (Nat → BitVec 8)) ⊕ ((Nat × Int × (Nat → BitVec 8)) ⊕ (List UInt8))) := fun v => F198_L12b N a0 x13 v.1 v.2.1 v.2.2.1 v.2.2.2
def F198_11 (N : Nat) (a0 : Nat) (x10 : Int) (x11 : Nat → BitVec 8) (x13 : Nat) (x15 : BitVec 64) : Option ((Nat × Int × (Nat → BitVec 8)) ⊕ (List UInt8)) := iterL (F198_L12 N a0 x13) N (x10, x15, 0, x11)
def F198_10 (N : Nat) (a0 : Nat) (x10 : Int) (x11 : Nat → BitVec 8) (x13 : Nat) (x14 : Nat) : Option ((Nat × Int × (Nat → BitVec 8)) ⊕ (List UInt8)) := bif lim x14 then F198_11 N a0 x10 x11 x13 (BitVec.ofNat 64 x14) else none
def F198_9 (N : Nat) (a0 : Nat) (x9 : Nat) (x10 : Int) (x11 : Nat → BitVec 8) (x12 : Bool) : Option ((Nat × Int × (Nat → BitVec 8)) ⊕ (List UInt8)) := bif x12 then bif lim x9 && lim ((1000000000#64).toNat) then F198_10 N a0 x10 x11 (x9 / ((1000000000#64).toNat)) (nmod x9 ((1000000000#64).toNat)) else none else (F198_3 N a0 x10 x11).map Sum.inr
def F198_L8b (N : Nat) (a0 : Nat) (x9 : Nat) (x10 : Int) (x11 : Nat → BitVec 8) : Option ((Nat × Int × (Nat → BitVec 8)) ⊕ (List UInt8)) := F198_9 N a0 x9 x10 x11 (x9 != 0)
def F198_L8 (N : Nat) (a0 : Nat) : (Nat × Int × (Nat → BitVec 8)) → Option ((Nat × Int × (Nat → BitVec 8)) ⊕ (List UInt8)) := fun v => F198_L8b N a0 v.1 v.2.1 v.2.2
def F198_2 (N : Nat) (a0 : Nat) (x1 : Nat → BitVec 8) (x2 : Int) : Option (List UInt8) := iterL (F198_L8 N a0) N (a0, x2, x1)
def F198_1 (N : Nat) (a0 : Nat) (x1 : Nat → BitVec 8) : Option (List UInt8) := F198_2 N a0 x1 (((w64 ((w64 ((blen a0 : Int).tdiv 3)) + 9)).toNat : Int))
def F198 (N : Nat) (a0 : Nat) : Option (List UInt8) := bif lim a0 then bif (decide (0 ≤ w64 ((w64 ((blen a0 : Int).tdiv 3)) + 9)) && decide (w64 ((w64 ((blen a0 : Int).tdiv 3)) + 9) ≤ 1099511627776)) then F198_1 N a0 (fun _ => 0#8) else none else none
theorem C198 (N : Nat) (a0 : Nat) (r : List UInt8) (hr : some r = F198 N a0) : Aw.Fn Hfaa.prog 198 [big a0] (is (Sv r)) := by
  refine fn_intro Hfaa.func198 rfl rfl rfl ?_
  intro bn0 w0 H0
  refine AW_seq1 ?_
  refine AW_region ?_
  refine AL_cons (LR_assign (at_c (v' := Sv ([] : List UInt8)) rfl) rfl) (sS sT0 sB0 sF0) ?_
  refine AL_nil ?_
  refine thenN ?_
  refine AW_cut (σ := (Nat → BitVec 8)) (fun v => ⟨[(0, .inl (big a0)), (3, .inr (.inr (.inl (11, 0, (w64 ((w64 ((blen a0 : Int).tdiv 3)) + 9)).toNat, (w64 ((w64 ((blen a0 : Int).tdiv 3)) + 9)).toNat))))], [(11, pb 5 (ar U8 ((w64 ((w64 ((blen a0 : Int).tdiv 3)) + 9)).toNat) v ++ []))]⟩) (fun v => some r = F198_1 N a0 v) ?_ ?_
  · skip
    refine AW_region ?_
    refine AL_cons (LR_move (at_tmp 0 _) rfl) (sS (sT1 rfl) sB0 sF0) ?_
    obtain ⟨hg137, hr⟩ := guard_some hr
    refine AL_cons (LR_call Hfaa.func34 rfl rfl (B34 a0 hg137) (all_cons (at_tmp 7 _) all_nil) rfl) (sS (sA (sT1 rfl) sT0) sB0 sF0) ?_
    refine AL_cons (LR_bin (at_tmp 8 _) (at_c (v' := I64 3) rfl) (quo_I64 (blen a0 : Int) 3 (by decide)) rfl) (sS (sA (sT1 rfl) sT0) sB0 sF0) ?_
    refine AL_cons (LR_bin (at_tmp 9 _) (at_c (v' := I64 9) rfl) (add_I64 (w64 ((blen a0 : Int).tdiv 3)) 9) rfl) (sS (sA (sT1 rfl) sT0) sB0 sF0) ?_
    obtain ⟨hg138, hr⟩ := guard_some hr
    refine AL_cons (LR_makeSlice Hfaa.underlying227 el5 (at_tmp 10 _) (dand hg138) rfl) (sS (sT1 rfl) sB0 (sF1 rfl)) ?_
    refine AL_cons (LR_assign (at_tmp 11 _) rfl) (sS (sT1 rfl) sB0 sF0) ?_
    refine AL_nil ?_
    exact thenN (cutLeaf (v := fun _ => 0#8) hr (weak0 ((sT rfl (sT rfl sT0))) (sub_keep sub_nil)))
  · rintro x1 hr
    show AW Hfaa.prog _ _ _ ⟨[(0, .inl (big a0)), (3, .inr (.inr (.inl (11, 0, (w64 ((w64 ((blen a0 : Int).tdiv 3)) + 9)).toNat, (w64 ((w64 ((blen a0 : Int).tdiv 3)) + 9)).toNat))))], [(11, pb 5 (ar U8 ((w64 ((w64 ((blen a0 : Int).tdiv 3)) + 9)).toNat) x1 ++ []))]⟩
    have hr : some r = F198_1 N a0 x1 := hr
    refine AW_cut (σ := Int) (fun v => ⟨[(0, .inl (big a0)), (3, .inr (.inr (.inl (11, 0, (w64 ((w64 ((blen a0 : Int).tdiv 3)) + 9)).toNat, (w64 ((w64 ((blen a0 : Int).tdiv 3)) + 9)).toNat)))), (4, .inl (is (I64 v)))], [(11, pb 5 (ar U8 ((w64 ((w64 ((blen a0 : Int).tdiv 3)) + 9)).toNat) x1 ++ []))]⟩) (fun v => some r = F198_2 N a0 x1 v) ?_ ?_
    · skip
      refine AW_region ?_
      refine AL_cons (LR_move (at_tmp 3 _) rfl) (sS (sT1 rfl) sB0 sF0) ?_
      refine AL_cons (LR_lenT (at_tmp 12 _) Hfaa.underlying227 rfl) (sS (sT1 rfl) sB0 sF0) ?_
      refine AL_cons (LR_assign (at_tmp 13 _) rfl) (sS (sT1 rfl) sB0 sF0) ?_
      refine AL_nil ?_
      exact thenN (cutLeaf (v := ((w64 ((w64 ((blen a0 : Int).tdiv 3)) + 9)).toNat : Int)) hr (weak0 ((sT rfl (sT rfl (sT rfl sT0)))) (sub_keep sub_nil)))
    · rintro x2 hr
      show AW Hfaa.prog _ _ _ ⟨[(0, .inl (big a0)), (3, .inr (.inr (.inl (11, 0, (w64 ((w64 ((blen a0 : Int).tdiv 3)) + 9)).toNat, (w64 ((w64 ((blen a0 : Int).tdiv 3)) + 9)).toNat)))), (4, .inl (is (I64 x2)))], [(11, pb 5 (ar U8 ((w64 ((w64 ((blen a0 : Int).tdiv 3)) + 9)).toNat) x1 ++ []))]⟩
      have hr : some r = F198_2 N a0 x1 x2 := hr
      refine AW_cut (σ := Int × (Nat → BitVec 8)) (fun v => ⟨[(3, .inr (.inr (.inl (11, 0, (w64 ((w64 ((blen a0 : Int).tdiv 3)) + 9)).toNat, (w64 ((w64 ((blen a0 : Int).tdiv 3)) + 9)).toNat)))), (4, .inl (is (I64 v.1)))], [(11, pb 5 (ar U8 ((w64 ((w64 ((blen a0 : Int).tdiv 3)) + 9)).toNat) v.2 ++ []))]⟩) (fun v => some r = F198_3 N a0 v.1 v.2) ?_ ?_
      · skip
        refine AW_block ?_
        refine AW_iterR (σ := Nat × Int × (Nat → BitVec 8)) (r := r) (x0 := (a0, x2, x1)) (emb := fun v => ⟨[(0, .inl (big v.1)), (3, .inr (.inr (.inl (11, 0, (w64 ((w64 ((blen a0 : Int).tdiv 3)) + 9)).toNat, (w64 ((w64 ((blen a0 : Int).tdiv 3)) + 9)).toNat)))), (4, .inl (is (I64 v.2.1)))], [(11, pb 5 (ar U8 ((w64 ((w64 ((blen a0 : Int).tdiv 3)) + 9)).toNat) v.2.2 ++ []))]⟩) ?_ hr ?_
        · exact weak0 ((sT rfl (sT rfl (sT rfl sT0)))) (sub_keep sub_nil)
        rintro ⟨x9, x10, x11⟩ out9 hr
        show AW Hfaa.prog _ _ _ ⟨[(0, .inl (big x9)), (3, .inr (.inr (.inl (11, 0, (w64 ((w64 ((blen a0 : Int).tdiv 3)) + 9)).toNat, (w64 ((w64 ((blen a0 : Int).tdiv 3)) + 9)).toNat)))), (4, .inl (is (I64 x10)))], [(11, pb 5 (ar U8 ((w64 ((w64 ((blen a0 : Int).tdiv 3)) + 9)).toNat) x11 ++ []))]⟩
        have hr : some out9 = F198_L8b N a0 x9 x10 x11 := hr
        refine AW_seq1 ?_
        refine AW_cut (σ := Bool) (fun v => ⟨[(0, .inl (big x9)), (3, .inr (.inr (.inl (11, 0, (w64 ((w64 ((blen a0 : Int).tdiv 3)) + 9)).toNat, (w64 ((w64 ((blen a0 : Int).tdiv 3)) + 9)).toNat)))), (4, .inl (is (I64 x10))), (15, .inl (is (Bl v)))], [(11, pb 5 (ar U8 ((w64 ((w64 ((blen a0 : Int).tdiv 3)) + 9)).toNat) x11 ++ []))]⟩) (fun v => some out9 = F198_9 N a0 x9 x10 x11 v) ?_ ?_
        · skip
          refine AW_region ?_
          refine AL_cons (LR_move (at_tmp 0 _) rfl) (sS (sT1 rfl) sB0 sF0) ?_
          refine AL_cons (LR_binA (at_tmp 14 _) at_nil (neqNil Hfaa.underlying49 x9) rfl) (sS (sA (sT1 rfl) sT0) sB0 sF0) ?_
          refine AL_nil ?_
          exact thenN (cutLeaf (v := x9 != 0) hr (weak0 ((sT rfl (sT rfl (sT rfl (sT rfl sT0))))) (sub_keep sub_nil)))
        · rintro x12 hr
          show AW Hfaa.prog _ _ _ ⟨[(0, .inl (big x9)), (3, .inr (.inr (.inl (11, 0, (w64 ((w64 ((blen a0 : Int).tdiv 3)) + 9)).toNat, (w64 ((w64 ((blen a0 : Int).tdiv 3)) + 9)).toNat)))), (4, .inl (is (I64 x10))), (15, .inl (is (Bl x12)))], [(11, pb 5 (ar U8 ((w64 ((w64 ((blen a0 : Int).tdiv 3)) + 9)).toNat) x11 ++ []))]⟩
          have hr : some out9 = F198_9 N a0 x9 x10 x11 x12 := hr
          refine AW_condT (b := x12) rfl (fun h => ?_) (fun h => ?_)
          · have hr := hr.trans (cond_t h)
            clear h
            refine AW_skip ?_
            refine thenN ?_
            refine AW_block ?_
            refine AW_seq1 ?_
            refine AW_region ?_
            refine AL_cons (LR_assign at_nil rfl) (sS sT0 sB0 sF0) ?_
            refine AL_nil ?_
            refine thenN ?_
            refine AW_cut (σ := Nat × Nat) (fun v => ⟨[(0, .inl (big v.1)), (3, .inr (.inr (.inl (11, 0, (w64 ((w64 ((blen a0 : Int).tdiv 3)) + 9)).toNat, (w64 ((w64 ((blen a0 : Int).tdiv 3)) + 9)).toNat)))), (4, .inl (is (I64 x10))), (5, .inl (big v.2))], [(11, pb 5 (ar U8 ((w64 ((w64 ((blen a0 : Int).tdiv 3)) + 9)).toNat) x11 ++ []))]⟩) (fun v => some out9 = F198_10 N a0 x10 x11 v.1 v.2) ?_ ?_
            · skip
              refine AW_region ?_
              refine AL_cons (LR_move (at_tmp 0 _) rfl) (sS (sT1 rfl) sB0 sF0) ?_
              refine AL_cons (LR_call Hfaa.func20 rfl rfl (B20 (1000000000#64)) (all_cons (at_c (v' := U64 (1000000000#64)) rfl) all_nil) rfl) (sS (sA sT0 sT0) sB0 sF0) ?_
              obtain ⟨hg136, hr⟩ := guard_some hr
              refine AL_cons (LR_call Hfaa.func35 rfl rfl (B35 x9 ((1000000000#64).toNat) hg136) (all_cons (at_tmp 17 _) (all_cons (at_tmp 18 _) all_nil)) rfl) (sS (sA (sT1 rfl) (sA (sT1 rfl) sT0)) sB0 sF0) ?_
              refine AL_cons (LR_move (at_tmp 19 _) rfl) (sS (sT1 rfl) sB0 sF0) ?_
              refine AL_cons (LR_extract (at_tmp 16 _) rfl rfl) (sS (sT1 rfl) sB0 sF0) ?_
              refine AL_cons (LR_extract (at_tmp 16 _) rfl rfl) (sS (sT1 rfl) sB0 sF0) ?_
              refine AL_cons (LR_extract (at_tmp 16 _) rfl rfl) (sS (sT1 rfl) sB0 sF0) ?_
              refine AL_cons (LR_assign (at_tmp 20 _) rfl) (sS (sT1 rfl) sB0 sF0) ?_
              refine AL_cons (LR_assign (at_tmp 21 _) rfl) (sS (sT1 rfl) sB0 sF0) ?_
              refine AL_nil ?_
              exact thenN (cutLeaf (v := (x9 / ((1000000000#64).toNat), nmod x9 ((1000000000#64).toNat))) hr (weak0 ((sT rfl (sT rfl (sT rfl (sT rfl sT0))))) (sub_keep sub_nil)))
            · rintro ⟨x13, x14⟩ hr
              show AW Hfaa.prog _ _ _ ⟨[(0, .inl (big x13)), (3, .inr (.inr (.inl (11, 0, (w64 ((w64 ((blen a0 : Int).tdiv 3)) + 9)).toNat, (w64 ((w64 ((blen a0 : Int).tdiv 3)) + 9)).toNat)))), (4, .inl (is (I64 x10))), (5, .inl (big x14))], [(11, pb 5 (ar U8 ((w64 ((w64 ((blen a0 : Int).tdiv 3)) + 9)).toNat) x11 ++ []))]⟩
              have hr : some out9 = F198_10 N a0 x10 x11 x13 x14 := hr
              refine AW_cut (σ := BitVec 64) (fun v => ⟨[(0, .inl (big x13)), (3, .inr (.inr (.inl (11, 0, (w64 ((w64 ((blen a0 : Int).tdiv 3)) + 9)).toNat, (w64 ((w64 ((blen a0 : Int).tdiv 3)) + 9)).toNat)))), (4, .inl (is (I64 x10))), (6, .inl (is (U64 v)))], [(11, pb 5 (ar U8 ((w64 ((w64 ((blen a0 : Int).tdiv 3)) + 9)).toNat) x11 ++ []))]⟩) (fun v => some out9 = F198_11 N a0 x10 x11 x13 v) ?_ ?_
              · skip
                refine AW_region ?_
                refine AL_cons (LR_move (at_tmp 5 _) rfl) (sS (sT1 rfl) sB0 sF0) ?_
                obtain ⟨hg135, hr⟩ := guard_some hr
                refine AL_cons (LR_call Hfaa.func210 rfl rfl (B210 x14 hg135) (all_cons (at_tmp 23 _) all_nil) rfl) (sS (sA (sT1 rfl) sT0) sB0 sF0) ?_
                refine AL_cons (LR_assign (at_tmp 24 _) rfl) (sS (sT1 rfl) sB0 sF0) ?_
                refine AL_nil ?_
                exact thenN (cutLeaf (v := BitVec.ofNat 64 x14) hr (weak0 ((sT rfl (sT rfl (sT rfl (sT rfl sT0))))) (sub_keep sub_nil)))
              · rintro x15 hr
                show AW Hfaa.prog _ _ _ ⟨[(0, .inl (big x13)), (3, .inr (.inr (.inl (11, 0, (w64 ((w64 ((blen a0 : Int).tdiv 3)) + 9)).toNat, (w64 ((w64 ((blen a0 : Int).tdiv 3)) + 9)).toNat)))), (4, .inl (is (I64 x10))), (6, .inl (is (U64 x15)))], [(11, pb 5 (ar U8 ((w64 ((w64 ((blen a0 : Int).tdiv 3)) + 9)).toNat) x11 ++ []))]⟩
                have hr : some out9 = F198_11 N a0 x10 x11 x13 x15 := hr
                refine AW_seq1 ?_
                refine AW_region ?_
                refine AL_cons (LR_move (at_c (v' := I64 0) rfl) rfl) (sS sT0 sB0 sF0) ?_
                refine AL_nil ?_
                refine thenN ?_
                refine AW_block ?_
                refine AW_iterR (σ := Int × BitVec 64 × Int × (Nat → BitVec 8)) (r := out9) (x0 := (x10, x15, 0, x11)) (emb := fun v => ⟨[(0, .inl (big x13)), (3, .inr (.inr (.inl (11, 0, (w64 ((w64 ((blen a0 : Int).tdiv 3)) + 9)).toNat, (w64 ((w64 ((blen a0 : Int).tdiv 3)) + 9)).toNat)))), (4, .inl (is (I64 v.1))), (6, .inl (is (U64 v.2.1))), (25, .inl (is (I64 v.2.2.1)))], [(11, pb 5 (ar U8 ((w64 ((w64 ((blen a0 : Int).tdiv 3)) + 9)).toNat) v.2.2.2 ++ []))]⟩) ?_ hr ?_
                · exact weak0 ((sT rfl (sT rfl (sT rfl (sT rfl (sT rfl sT0)))))) (sub_keep sub_nil)
                rintro ⟨x16, x17, x18, x19⟩ out10 hr
                show AW Hfaa.prog _ _ _ ⟨[(0, .inl (big x13)), (3, .inr (.inr (.inl (11, 0, (w64 ((w64 ((blen a0 : Int).tdiv 3)) + 9)).toNat, (w64 ((w64 ((blen a0 : Int).tdiv 3)) + 9)).toNat)))), (4, .inl (is (I64 x16))), (6, .inl (is (U64 x17))), (25, .inl (is (I64 x18)))], [(11, pb 5 (ar U8 ((w64 ((w64 ((blen a0 : Int).tdiv 3)) + 9)).toNat) x19 ++ []))]⟩
                have hr : some out10 = F198_L12b N a0 x13 x16 x17 x18 x19 := hr
                refine AW_cut (σ := Bool) (fun v => ⟨[(0, .inl (big x13)), (3, .inr (.inr (.inl (11, 0, (w64 ((w64 ((blen a0 : Int).tdiv 3)) + 9)).toNat, (w64 ((w64 ((blen a0 : Int).tdiv 3)) + 9)).toNat)))), (4, .inl (is (I64 x16))), (6, .inl (is (U64 x17))), (25, .inl (is (I64 x18))), (26, .inl (is (Bl v)))], [(11, pb 5 (ar U8 ((w64 ((w64 ((blen a0 : Int).tdiv 3)) + 9)).toNat) x19 ++ []))]⟩) (fun v => some out10 = F198_13 N a0 x13 x16 x17 x18 x19 v) ?_ ?_
                · skip
                  refine AW_region ?_
                  refine AL_cons (LR_bin (at_tmp 25 _) (at_c (v' := I64 9) rfl) (lss_I64 x18 9) rfl) (sS (sA (sT1 rfl) sT0) sB0 sF0) ?_
                  refine AL_nil ?_
                  exact thenN (cutLeaf (v := decide (x18 < 9)) hr (weak0 ((sT rfl (sT rfl (sT rfl (sT rfl (sT rfl (sT rfl sT0))))))) (sub_keep sub_nil)))
                · rintro x20 hr
                  show AW Hfaa.prog _ _ _ ⟨[(0, .inl (big x13)), (3, .inr (.inr (.inl (11, 0, (w64 ((w64 ((blen a0 : Int).tdiv 3)) + 9)).toNat, (w64 ((w64 ((blen a0 : Int).tdiv 3)) + 9)).toNat)))), (4, .inl (is (I64 x16))), (6, .inl (is (U64 x17))), (25, .inl (is (I64 x18))), (26, .inl (is (Bl x20)))], [(11, pb 5 (ar U8 ((w64 ((w64 ((blen a0 : Int).tdiv 3)) + 9)).toNat) x19 ++ []))]⟩
                  have hr : some out10 = F198_13 N a0 x13 x16 x17 x18 x19 x20 := hr
                  refine AW_seq1 ?_
                  refine AW_condT (b := x20) rfl (fun h => ?_) (fun h => ?_)
                  · have hr := hr.trans (cond_t h)
                    clear h
                    refine AW_skip ?_
                    refine thenN ?_
                    refine AW_cut (σ := Int × BitVec 64 × (Nat → BitVec 8)) (fun v => ⟨[(0, .inl (big x13)), (3, .inr (.inr (.inl (11, 0, (w64 ((w64 ((blen a0 : Int).tdiv 3)) + 9)).toNat, (w64 ((w64 ((blen a0 : Int).tdiv 3)) + 9)).toNat)))), (4, .inl (is (I64 v.1))), (6, .inl (is (U64 v.2.1))), (25, .inl (is (I64 x18)))], [(11, pb 5 (ar U8 ((w64 ((w64 ((blen a0 : Int).tdiv 3)) + 9)).toNat) v.2.2 ++ []))]⟩) (fun v => some out10 = F198_14 N a0 x13 x18 v.1 v.2.1 v.2.2) ?_ ?_
                    · skip
                      refine AW_block ?_
                      refine AW_cut (σ := Int) (fun v => ⟨[(0, .inl (big x13)), (3, .inr (.inr (.inl (11, 0, (w64 ((w64 ((blen a0 : Int).tdiv 3)) + 9)).toNat, (w64 ((w64 ((blen a0 : Int).tdiv 3)) + 9)).toNat)))), (4, .inl (is (I64 v))), (6, .inl (is (U64 x17))), (25, .inl (is (I64 x18)))], [(11, pb 5 (ar U8 ((w64 ((w64 ((blen a0 : Int).tdiv 3)) + 9)).toNat) x19 ++ []))]⟩) (fun v => some out10 = F198_15 N a0 x13 x17 x18 x19 v) ?_ ?_
                      · skip
                        refine AW_region ?_
                        refine AL_cons (LR_move (at_tmp 4 _) rfl) (sS (sT1 rfl) sB0 sF0) ?_
                        refine AL_cons (LR_bin (at_tmp 27 _) (at_c (v' := I64 1) rfl) (sub_I64 x16 1) rfl) (sS (sA (sT1 rfl) sT0) sB0 sF0) ?_
                        refine AL_cons (LR_assign (at_tmp 28 _) rfl) (sS (sT1 rfl) sB0 sF0) ?_
                        refine AL_nil ?_
                        exact thenN (cutLeaf (v := w64 (x16 - 1)) hr (weak0 ((sT rfl (sT rfl (sT rfl (sT rfl (sT rfl sT0)))))) (sub_keep sub_nil)))
                      · rintro x24 hr
                        show AW Hfaa.prog _ _ _ ⟨[(0, .inl (big x13)), (3, .inr (.inr (.inl (11, 0, (w64 ((w64 ((blen a0 : Int).tdiv 3)) + 9)).toNat, (w64 ((w64 ((blen a0 : Int).tdiv 3)) + 9)).toNat)))), (4, .inl (is (I64 x24))), (6, .inl (is (U64 x17))), (25, .inl (is (I64 x18)))], [(11, pb 5 (ar U8 ((w64 ((w64 ((blen a0 : Int).tdiv 3)) + 9)).toNat) x19 ++ []))]⟩
                        have hr : some out10 = F198_15 N a0 x13 x17 x18 x19 x24 := hr
                        refine AW_cut (σ := (Nat → BitVec 8)) (fun v => ⟨[(0, .inl (big x13)), (3, .inr (.inr (.inl (11, 0, (w64 ((w64 ((blen a0 : Int).tdiv 3)) + 9)).toNat, (w64 ((w64 ((blen a0 : Int).tdiv 3)) + 9)).toNat)))), (4, .inl (is (I64 x24))), (6, .inl (is (U64 x17))), (25, .inl (is (I64 x18)))], [(11, pb 5 (ar U8 ((w64 ((w64 ((blen a0 : Int).tdiv 3)) + 9)).toNat) v ++ []))]⟩) (fun v => some out10 = F198_16 N a0 x13 x17 x18 x24 v) ?_ ?_
                        · skip
                          refine AW_region ?_
                          refine AL_cons (LR_move (at_tmp 3 _) rfl) (sS (sT1 rfl) sB0 sF0) ?_
                          refine AL_cons (LR_move (at_tmp 4 _) rfl) (sS (sT1 rfl) sB0 sF0) ?_
                          refine AL_cons (LR_move (at_tmp 6 _) rfl) (sS (sT1 rfl) sB0 sF0) ?_
                          refine AL_cons (LR_bin (at_tmp 31 _) (at_c (v' := U64 (10#64)) rfl) (rem_U64 x17 (10#64) (by decide)) rfl) (sS (sA (sT1 rfl) sT0) sB0 sF0) ?_
                          refine AL_cons (LR_bin (at_c (v' := U64 (48#64)) rfl) (at_tmp 32 _) (add_U64 (48#64) (x17 % (10#64))) rfl) (sS (sA sT0 (sT1 rfl)) sB0 sF0) ?_
                          refine AL_cons (LR_conv (vx := U64 ((48#64) + (x17 % (10#64)))) (at_tmp 33 _) (conv_U8 Hfaa.underlying30 Hfaa.underlying5 (((48#64) + (x17 % (10#64))).toNat : Int)) rfl) (sS (sT1 rfl) sB0 sF0) ?_
                          obtain ⟨hg134, hr⟩ := guard_some hr
                          refine AL_cons (LR_indexAddrS (o := x24.toNat) Hfaa.underlying227 sz5 (at_tmp 29 _) (at_tmp 30 _) (dand hg134) (by first | rfl | omega) rfl) (sS (sA (sT1 rfl) (sT1 rfl)) sB0 sF0) ?_
                          refine AL_cons (LR_storeA (at_tmp 35 _) (at_tmp 34 _) (cells_one (one_is rfl)) (onC (one_is rfl) onN) sz5 rfl (ble_dyn (lnA ln0) (by have := (ltn (dand hg134)); omega)) (stA (ltn (dand hg134)))) (sS (sA (sT1 rfl) (sT1 rfl)) (sB1 rfl) sF0) ?_
                          refine AL_nil ?_
                          exact thenN (cutLeaf (v := upd x19 x24.toNat (BitVec.ofInt 8 (((48#64) + (x17 % (10#64))).toNat : Int))) hr (weak0 ((sT rfl (sT rfl (sT rfl (sT rfl (sT rfl sT0)))))) (sub_keep sub_nil)))
                        · rintro x25 hr
                          show AW Hfaa.prog _ _ _ ⟨[(0, .inl (big x13)), (3, .inr (.inr (.inl (11, 0, (w64 ((w64 ((blen a0 : Int).tdiv 3)) + 9)).toNat, (w64 ((w64 ((blen a0 : Int).tdiv 3)) + 9)).toNat)))), (4, .inl (is (I64 x24))), (6, .inl (is (U64 x17))), (25, .inl (is (I64 x18)))], [(11, pb 5 (ar U8 ((w64 ((w64 ((blen a0 : Int).tdiv 3)) + 9)).toNat) x25 ++ []))]⟩
                          have hr : some out10 = F198_16 N a0 x13 x17 x18 x24 x25 := hr
                          refine AW_region ?_
                          refine AL_cons (LR_move (at_tmp 6 _) rfl) (sS (sT1 rfl) sB0 sF0) ?_
                          refine AL_cons (LR_bin (at_tmp 36 _) (at_c (v' := U64 (10#64)) rfl) (quo_U64 x17 (10#64) (by decide)) rfl) (sS (sA (sT1 rfl) sT0) sB0 sF0) ?_
                          refine AL_cons (LR_assign (at_tmp 37 _) rfl) (sS (sT1 rfl) sB0 sF0) ?_
                          refine AL_nil ?_
                          refine blN ?_
                          exact thenN (cutLeaf (v := (x24, x17 / (10#64), x25)) hr (weak0 ((sT rfl (sT rfl (sT rfl (sT rfl (sT rfl sT0)))))) (sub_keep sub_nil)))
                    · rintro ⟨x21, x22, x23⟩ hr
                      show AW Hfaa.prog _ _ _ ⟨[(0, .inl (big x13)), (3, .inr (.inr (.inl (11, 0, (w64 ((w64 ((blen a0 : Int).tdiv 3)) + 9)).toNat, (w64 ((w64 ((blen a0 : Int).tdiv 3)) + 9)).toNat)))), (4, .inl (is (I64 x21))), (6, .inl (is (U64 x22))), (25, .inl (is (I64 x18)))], [(11, pb 5 (ar U8 ((w64 ((w64 ((blen a0 : Int).tdiv 3)) + 9)).toNat) x23 ++ []))]⟩
                      have hr : some out10 = F198_14 N a0 x13 x18 x21 x22 x23 := hr
                      refine AW_region ?_
                      refine AL_cons (LR_bin (at_tmp 25 _) (at_c (v' := I64 1) rfl) (add_I64 x18 1) rfl) (sS (sA (sT1 rfl) sT0) sB0 sF0) ?_
                      refine AL_cons (LR_move (at_tmp 38 _) rfl) (sS (sT1 rfl) sB0 sF0) ?_
                      refine AL_nil ?_
                      exact thenN (loopNext (x' := (x21, x22, w64 (x18 + 1), x23)) hr (weak0 ((sT rfl (sT rfl (sT rfl (sT rfl (sT rfl sT0)))))) (sub_keep sub_nil)))
                  · have hr := hr.trans (cond_f h)
                    clear h
                    refine AW_exit ?_
                    refine thenX ?_
                    obtain ⟨r', hro, hr⟩ := map_inr hr
                    refine thenX (loopOut hro (fun he => ?_))
                    rw [he] at hr
                    refine blH ?_
                    refine blN ?_
                    exact thenN (loopNext (x' := (x13, x16, x19)) hr (weak0 ((sT rfl (sT rfl (sT rfl sT0)))) (sub_keep sub_nil)))
          · have hr := hr.trans (cond_f h)
            clear h
            refine AW_exit ?_
            refine thenX ?_
            obtain ⟨r', hro, hr⟩ := map_inr hr
            refine thenX (loopOut hro (fun he => ?_))
            rw [he] at hr
            refine blH ?_
            exact thenN (cutLeaf (v := (x10, x11)) hr (weak0 ((sT rfl (sT rfl sT0))) (sub_keep sub_nil)))
      · rintro ⟨x3, x4⟩ hr
        show AW Hfaa.prog _ _ _ ⟨[(3, .inr (.inr (.inl (11, 0, (w64 ((w64 ((blen a0 : Int).tdiv 3)) + 9)).toNat, (w64 ((w64 ((blen a0 : Int).tdiv 3)) + 9)).toNat)))), (4, .inl (is (I64 x3)))], [(11, pb 5 (ar U8 ((w64 ((w64 ((blen a0 : Int).tdiv 3)) + 9)).toNat) x4 ++ []))]⟩
        have hr : some r = F198_3 N a0 x3 x4 := hr
        refine AW_cut (σ := Int) (fun v => ⟨[(3, .inr (.inr (.inl (11, 0, (w64 ((w64 ((blen a0 : Int).tdiv 3)) + 9)).toNat, (w64 ((w64 ((blen a0 : Int).tdiv 3)) + 9)).toNat)))), (4, .inl (is (I64 v)))], [(11, pb 5 (ar U8 ((w64 ((w64 ((blen a0 : Int).tdiv 3)) + 9)).toNat) x4 ++ []))]⟩) (fun v => some r = F198_4 N a0 x4 v) ?_ ?_
        · skip
          refine AW_block ?_
          refine AW_iterR (σ := Int) (r := r) (x0 := x3) (emb := fun v => ⟨[(3, .inr (.inr (.inl (11, 0, (w64 ((w64 ((blen a0 : Int).tdiv 3)) + 9)).toNat, (w64 ((w64 ((blen a0 : Int).tdiv 3)) + 9)).toNat)))), (4, .inl (is (I64 v)))], [(11, pb 5 (ar U8 ((w64 ((w64 ((blen a0 : Int).tdiv 3)) + 9)).toNat) x4 ++ []))]⟩) ?_ hr ?_
          · exact weak0 ((sT rfl (sT rfl sT0))) (sub_keep sub_nil)
          rintro x7 out6 hr
          show AW Hfaa.prog _ _ _ ⟨[(3, .inr (.inr (.inl (11, 0, (w64 ((w64 ((blen a0 : Int).tdiv 3)) + 9)).toNat, (w64 ((w64 ((blen a0 : Int).tdiv 3)) + 9)).toNat)))), (4, .inl (is (I64 x7)))], [(11, pb 5 (ar U8 ((w64 ((w64 ((blen a0 : Int).tdiv 3)) + 9)).toNat) x4 ++ []))]⟩
          have hr : some out6 = F198_L6b N a0 x4 x7 := hr
          refine AW_seq1 ?_
          refine AW_cut (σ := Bool) (fun v => ⟨[(3, .inr (.inr (.inl (11, 0, (w64 ((w64 ((blen a0 : Int).tdiv 3)) + 9)).toNat, (w64 ((w64 ((blen a0 : Int).tdiv 3)) + 9)).toNat)))), (4, .inl (is (I64 x7))), (49, .inl (is (Bl v)))], [(11, pb 5 (ar U8 ((w64 ((w64 ((blen a0 : Int).tdiv 3)) + 9)).toNat) x4 ++ []))]⟩) (fun v => some out6 = F198_7 N a0 x4 x7 v) ?_ ?_
          · skip
            refine AW_region ?_
            refine AL_cons (LR_move (at_tmp 4 _) rfl) (sS (sT1 rfl) sB0 sF0) ?_
            refine AL_cons (LR_move (at_tmp 3 _) rfl) (sS (sT1 rfl) sB0 sF0) ?_
            refine AL_cons (LR_lenT (at_tmp 40 _) Hfaa.underlying227 rfl) (sS (sT1 rfl) sB0 sF0) ?_
            refine AL_cons (LR_bin (at_tmp 39 _) (at_tmp 41 _) (lss_I64 x7 (((w64 ((w64 ((blen a0 : Int).tdiv 3)) + 9)).toNat : Int))) rfl) (sS (sA (sT1 rfl) (sT1 rfl)) sB0 sF0) ?_
            refine AL_cons (LR_move (at_tmp 42 _) rfl) (sS (sT1 rfl) sB0 sF0) ?_
            cases hb : decide (x7 < (((w64 ((w64 ((blen a0 : Int).tdiv 3)) + 9)).toNat : Int)))
            · have hr := hr.trans (cond_f hb)
              refine AL_cons (LR_off (b := false) rfl rfl rfl rfl) (sS (sT1 rfl) sB0 sF0) ?_
              refine AL_cons (LR_off (b := false) rfl rfl rfl rfl) (sS (sT1 rfl) sB0 sF0) ?_
              refine AL_cons (LR_off (b := false) rfl rfl rfl rfl) (sS (sT1 rfl) sB0 sF0) ?_
              refine AL_cons (LR_off (b := false) rfl rfl rfl rfl) (sS (sT1 rfl) sB0 sF0) ?_
              refine AL_cons (LR_off (b := false) rfl rfl rfl rfl) (sS (sT1 rfl) sB0 sF0) ?_
              refine AL_cons (LR_pick (b := false) (at_tmp 43 _) (at_tmp 48 _) (at_c (v' := Bl false) rfl) rfl) (sS (sA (sT1 rfl) (sA (sT1 rfl) sT0)) sB0 sF0) ?_
              refine AL_nil ?_
              exact thenN (cutLeaf (v := false) hr (weak0 ((sT rfl (sT rfl (sT rfl sT0)))) (sub_keep sub_nil)))
            · have hr := hr.trans (cond_t hb)
              refine AL_cons (LR_on rfl rfl rfl (LR_move (at_tmp 3 _) rfl)) (sS (sT rfl (sT1 rfl)) sB0 sF0) ?_
              refine AL_cons (LR_on rfl rfl rfl (LR_move (at_tmp 4 _) rfl)) (sS (sT rfl (sT1 rfl)) sB0 sF0) ?_
              obtain ⟨hg88, hr⟩ := guard_some hr
              refine AL_cons (LR_on rfl rfl rfl (LR_indexAddrS (o := x7.toNat) Hfaa.underlying227 sz5 (at_tmp 44 _) (at_tmp 45 _) (dand hg88) (by first | rfl | omega) rfl)) (sS (sT rfl (sA (sT1 rfl) (sT1 rfl))) sB0 sF0) ?_
              refine AL_cons (LR_on rfl rfl rfl (LR_load (at_tmp 46 _) na5 (gA (ltn (dand hg88))) rfl)) (sS (sT rfl (sT1 rfl)) (sB1 rfl) sF0) ?_
              refine AL_cons (LR_on rfl rfl rfl (LR_bin (at_tmp 47 _) (at_c (v' := U8 (48#8)) rfl) (eql_U8 (x4 x7.toNat) (48#8)) rfl)) (sS (sT rfl (sA (sT1 rfl) sT0)) sB0 sF0) ?_
              refine AL_cons (LR_pick (b := true) (at_tmp 43 _) (at_tmp 48 _) (at_c (v' := Bl false) rfl) rfl) (sS (sA (sT1 rfl) (sA (sT1 rfl) sT0)) sB0 sF0) ?_
              refine AL_nil ?_
              exact thenN (cutLeaf (v := (x4 x7.toNat) == (48#8)) hr (weak0 ((sT rfl (sT rfl (sT rfl sT0)))) (sub_keep sub_nil)))
          · rintro x8 hr
            show AW Hfaa.prog _ _ _ ⟨[(3, .inr (.inr (.inl (11, 0, (w64 ((w64 ((blen a0 : Int).tdiv 3)) + 9)).toNat, (w64 ((w64 ((blen a0 : Int).tdiv 3)) + 9)).toNat)))), (4, .inl (is (I64 x7))), (49, .inl (is (Bl x8)))], [(11, pb 5 (ar U8 ((w64 ((w64 ((blen a0 : Int).tdiv 3)) + 9)).toNat) x4 ++ []))]⟩
            have hr : some out6 = F198_7 N a0 x4 x7 x8 := hr
            refine AW_condT (b := x8) rfl (fun h => ?_) (fun h => ?_)
            · have hr := hr.trans (cond_t h)
              clear h
              refine AW_skip ?_
              refine thenN ?_
              refine AW_block ?_
              refine AW_region ?_
              refine AL_cons (LR_move (at_tmp 4 _) rfl) (sS (sT1 rfl) sB0 sF0) ?_
              refine AL_cons (LR_bin (at_tmp 50 _) (at_c (v' := I64 1) rfl) (add_I64 x7 1) rfl) (sS (sA (sT1 rfl) sT0) sB0 sF0) ?_
              refine AL_cons (LR_assign (at_tmp 51 _) rfl) (sS (sT1 rfl) sB0 sF0) ?_
              refine AL_nil ?_
              refine blN ?_
              exact thenN (loopNext (x' := w64 (x7 + 1)) hr (weak0 ((sT rfl (sT rfl sT0))) (sub_keep sub_nil)))
            · have hr := hr.trans (cond_f h)
              clear h
              refine AW_exit ?_
              refine thenX ?_
              obtain ⟨r', hro, hr⟩ := map_inr hr
              refine thenX (loopOut hro (fun he => ?_))
              rw [he] at hr
              refine blH ?_
              exact thenN (cutLeaf (v := x7) hr (weak0 ((sT rfl (sT rfl sT0))) (sub_keep sub_nil)))
        · rintro x5 hr
          show AW Hfaa.prog _ _ _ ⟨[(3, .inr (.inr (.inl (11, 0, (w64 ((w64 ((blen a0 : Int).tdiv 3)) + 9)).toNat, (w64 ((w64 ((blen a0 : Int).tdiv 3)) + 9)).toNat)))), (4, .inl (is (I64 x5)))], [(11, pb 5 (ar U8 ((w64 ((w64 ((blen a0 : Int).tdiv 3)) + 9)).toNat) x4 ++ []))]⟩
          have hr : some r = F198_4 N a0 x4 x5 := hr
          refine AW_seq1 ?_
          refine AW_cut (σ := Bool) (fun v => ⟨[(3, .inr (.inr (.inl (11, 0, (w64 ((w64 ((blen a0 : Int).tdiv 3)) + 9)).toNat, (w64 ((w64 ((blen a0 : Int).tdiv 3)) + 9)).toNat)))), (4, .inl (is (I64 x5))), (55, .inl (is (Bl v)))], [(11, pb 5 (ar U8 ((w64 ((w64 ((blen a0 : Int).tdiv 3)) + 9)).toNat) x4 ++ []))]⟩) (fun v => some r = F198_5 N a0 x4 x5 v) ?_ ?_
          · skip
            refine AW_region ?_
            refine AL_cons (LR_move (at_tmp 4 _) rfl) (sS (sT1 rfl) sB0 sF0) ?_
            refine AL_cons (LR_move (at_tmp 3 _) rfl) (sS (sT1 rfl) sB0 sF0) ?_
            refine AL_cons (LR_lenT (at_tmp 53 _) Hfaa.underlying227 rfl) (sS (sT1 rfl) sB0 sF0) ?_
            refine AL_cons (LR_bin (at_tmp 52 _) (at_tmp 54 _) (eql_I64 x5 (((w64 ((w64 ((blen a0 : Int).tdiv 3)) + 9)).toNat : Int))) rfl) (sS (sA (sT1 rfl) (sT1 rfl)) sB0 sF0) ?_
            refine AL_nil ?_
            exact thenN (cutLeaf (v := x5 == (((w64 ((w64 ((blen a0 : Int).tdiv 3)) + 9)).toNat : Int))) hr (weak0 ((sT rfl (sT rfl (sT rfl sT0)))) (sub_keep sub_nil)))
          · rintro x6 hr
            show AW Hfaa.prog _ _ _ ⟨[(3, .inr (.inr (.inl (11, 0, (w64 ((w64 ((blen a0 : Int).tdiv 3)) + 9)).toNat, (w64 ((w64 ((blen a0 : Int).tdiv 3)) + 9)).toNat)))), (4, .inl (is (I64 x5))), (55, .inl (is (Bl x6)))], [(11, pb 5 (ar U8 ((w64 ((w64 ((blen a0 : Int).tdiv 3)) + 9)).toNat) x4 ++ []))]⟩
            have hr : some r = F198_5 N a0 x4 x5 x6 := hr
            refine AW_condT (b := x6) rfl (fun h => ?_) (fun h => ?_)
            · have hr := hr.trans (cond_t h)
              clear h
              refine AW_seq1 ?_
              refine AW_region ?_
              refine AL_cons (LR_assign (at_c (v' := Sv ([48] : List UInt8)) rfl) rfl) (sS sT0 sB0 sF0) ?_
              refine AL_nil ?_
              refine thenN ?_
              refine AW_ret ?_
              refine thenR ?_
              obtain rfl := Option.some.inj hr
              exact res1 rfl (rvT rfl)
            · have hr := hr.trans (cond_f h)
              clear h
              refine AW_skip ?_
              refine thenN ?_
              refine AW_seq1 ?_
              refine AW_region ?_
              refine AL_cons (LR_move (at_tmp 3 _) rfl) (sS (sT1 rfl) sB0 sF0) ?_
              refine AL_cons (LR_move (at_tmp 4 _) rfl) (sS (sT1 rfl) sB0 sF0) ?_
              obtain ⟨hg70, hr⟩ := guard_some hr
              obtain ⟨hg71, hr⟩ := guard_some hr
              refine AL_cons (slcE (o' := (x5 : Int).toNat) (l' := (((w64 ((w64 ((blen a0 : Int).tdiv 3)) + 9)).toNat : Int).toNat) - ((x5 : Int).toNat)) (c' := (w64 ((w64 ((blen a0 : Int).tdiv 3)) + 9)).toNat - ((x5 : Int).toNat)) (LR_sliceT (i := (x5 : Int)) (j := ((w64 ((w64 ((blen a0 : Int).tdiv 3)) + 9)).toNat : Int)) Hfaa.underlying227 sz5 (at_tmp 56 _) (lo_some (at_tmp 57 _)) hi_none (dand3 hg70) (of_decide_eq_true hg71) rfl) (by first | rfl | (simp; done) | (simp <;> omega))) (sS (sA (sT1 rfl) (sA (sT1 rfl) sT0)) sB0 sF0) ?_
              obtain ⟨hg72, hr⟩ := guard_some hr
              refine AL_cons (LR_convT (f := fun i => x4 (((x5 : Int).toNat) + i)) Hfaa.underlying227 Hfaa.underlying5 Hfaa.underlying9 (at_tmp 58 _) (fun i hi => gA (Nat.lt_of_lt_of_le (Nat.add_lt_add_left hi _) (of_decide_eq_true hg72))) rfl) (sS (sT1 rfl) (sB1 rfl) sF0) ?_
              refine AL_cons (LR_assign (at_tmp 59 _) rfl) (sS (sT1 rfl) sB0 sF0) ?_
              refine AL_nil ?_
              refine thenN ?_
              refine AW_ret ?_
              obtain rfl := Option.some.inj hr
              exact res1 rfl (rvT rfl)
/-- exact.DigitsF -/
def F103_3 (N : Nat) (a2 : BitVec 16) (x2 : BitVec 64) (x3 : Bool) (x4 : Int) (x5 : Bool) (x6 : Nat) (x7 : Nat) (x8 : Bool) : Option (List UInt8) := bif x8 then some ([] : List UInt8) else (F197 N x5 x6 x7 (w64 (0 - (w64 (a2.toNat : Int))))).bind fun y7 => (F198 N y7).bind fun y8 => some y8
def F103_2 (N : Nat) (a2 : BitVec 16) (x2 : BitVec 64) (x3 : Bool) (x4 : Int) (x5 : Bool) (x6 : Nat) (x7 : Nat) : Option (List UInt8) := F103_3 N a2 x2 x3 x4 x5 x6 x7 ((x4 == 3) || (x4 == 4))
def F103_1 (N : Nat) (a0_0 : BitVec 8) (a0_1 : BitVec 8) (a1 : BitVec 64) (a2 : BitVec 16) (x1 : Bool) : Option (List UInt8) := bif x1 then some ([] : List UInt8) else (F144 N a0_0 a0_1 a1).bind fun y9 => F103_2 N a2 y9.1 y9.2.1 y9.2.2.1 y9.2.2.2.1 y9.2.2.2.2.1 y9.2.2.2.2.2
def F103 (N : Nat) (a0_0 : BitVec 8) (a0_1 : BitVec 8) (a1 : BitVec 64) (a2 : BitVec 16) : Option (List UInt8) := lt (F40 a0_0 a0_1) fun y10 => F103_1 N a0_0 a0_1 a1 a2 ((!y10) || (decide ((2000#16).toNat < a2.toNat)))
theorem C103 (N : Nat) (a0_0 : BitVec 8) (a0_1 : BitVec 8) (a1 : BitVec 64) (a2 : BitVec 16) (r : List UInt8) (hr : some r = F103 N a0_0 a0_1 a1 a2) : Aw.Fn Hfaa.prog 103 [agg [is (U8 a0_0), is (U8 a0_1)], is (U64 a1), is (U16 a2)] (is (Sv r)) := by
  refine fn_intro Hfaa.func103 rfl rfl rfl ?_
  intro bn0 w0 H0
  refine AW_seq1 ?_
  refine AW_region ?_
  refine AL_cons (LR_box (at_tmp 0 _) (cells_agg _) rfl) (sS (sT1 rfl) sB0 (sF1 rfl)) ?_
  refine AL_cons (LR_assign (at_c (v' := Sv ([] : List UInt8)) rfl) rfl) (sS sT0 sB0 sF0) ?_
  refine AL_nil ?_
  refine thenN ?_
  refine AW_seq1 ?_
  refine AW_cut (σ := Bool) (fun v => ⟨[(1, .inl (is (U64 a1))), (2, .inl (is (U16 a2))), (3, .inr (.inl (3, 0))), (14, .inl (is (Bl v)))], [(3, pb 23 [is (U8 a0_0), is (U8 a0_1)])]⟩) (fun v => some r = F103_1 N a0_0 a0_1 a1 a2 v) ?_ ?_
  · skip
    refine AW_region ?_
    refine AL_cons (LR_loads (at_tmp 3 _) ag23 sz23 rfl rfl rfl) (sS (sT1 rfl) (sB1 rfl) sF0) ?_
    obtain ⟨y10, hy10, hr⟩ := lt_some hr
    refine AL_cons (LR_call Hfaa.func40 rfl rfl (C40 a0_0 a0_1 y10 hy10) (all_cons (at_tmp 8 _) all_nil) rfl) (sS (sA (sT1 rfl) sT0) sB0 sF0) ?_
    refine AL_cons (LR_un (at_tmp 9 _) (not_Bl y10) rfl) (sS (sT1 rfl) sB0 sF0) ?_
    refine AL_cons (LR_move (at_tmp 10 _) rfl) (sS (sT1 rfl) sB0 sF0) ?_
    refine AL_cutAt 3 ⟨[(0, .inl (agg [is (U8 a0_0), is (U8 a0_1)])), (1, .inl (is (U64 a1))), (2, .inl (is (U16 a2))), (3, .inr (.inl (3, 0))), (6, .inl (is (Sv ([] : List UInt8)))), (8, .inl (agg [is (U8 a0_0), is (U8 a0_1)])), (9, .inl (is (Bl y10))), (10, .inl (is (Bl (!y10)))), (11, .inl (is (Bl (!y10)))), (14, .inl (is (Bl ((!y10) || (decide ((2000#16).toNat < a2.toNat))))))], [(3, pb 23 [is (U8 a0_0), is (U8 a0_1)])]⟩ ?_ ?_
    · cases hb : !y10
      · skip
        refine AL_cons (LR_on rfl rfl rfl (LR_move (at_tmp 2 _) rfl)) (sS (sT rfl (sT1 rfl)) sB0 sF0) ?_
        refine AL_cons (LR_on rfl rfl rfl (LR_bin (at_tmp 12 _) (at_c (v' := U16 (2000#16)) rfl) (gtr_U16 a2 (2000#16)) rfl)) (sS (sT rfl (sA (sT1 rfl) sT0)) sB0 sF0) ?_
        refine AL_cons (LR_pick (b := false) (at_tmp 11 _) (at_c (v' := Bl true) rfl) (at_tmp 13 _) rfl) (sS (sA (sT1 rfl) (sA sT0 (sT1 rfl))) sB0 sF0) ?_
        exact AL_nil ⟨rfl, weak0 ((sT rfl (sT rfl (sT rfl (sT rfl (sT rfl (sT rfl (sT rfl (sT rfl (sT rfl (sT rfl sT0))))))))))) (sub_keep sub_nil)⟩
      · skip
        refine AL_cons (LR_off (b := true) rfl rfl rfl rfl) (sS (sT1 rfl) sB0 sF0) ?_
        refine AL_cons (LR_off (b := true) rfl rfl rfl rfl) (sS (sT1 rfl) sB0 sF0) ?_
        refine AL_cons (LR_pick (b := true) (at_tmp 11 _) (at_c (v' := Bl true) rfl) (at_tmp 13 _) rfl) (sS (sA (sT1 rfl) (sA sT0 (sT1 rfl))) sB0 sF0) ?_
        exact AL_nil ⟨rfl, weak0 ((sT rfl (sT rfl (sT rfl (sT rfl (sT rfl (sT rfl (sT rfl (sT rfl (sT rfl (sT rfl sT0))))))))))) (sub_keep sub_nil)⟩
    refine AL_nil ?_
    exact thenN (cutLeaf (v := (!y10) || (decide ((2000#16).toNat < a2.toNat))) hr (weak0 ((sT rfl (sT rfl (sT rfl (sT rfl sT0))))) (sub_keep sub_nil)))
  · rintro x1 hr
    show AW Hfaa.prog _ _ _ ⟨[(1, .inl (is (U64 a1))), (2, .inl (is (U16 a2))), (3, .inr (.inl (3, 0))), (14, .inl (is (Bl x1)))], [(3, pb 23 [is (U8 a0_0), is (U8 a0_1)])]⟩
    have hr : some r = F103_1 N a0_0 a0_1 a1 a2 x1 := hr
    refine AW_condT (b := x1) rfl (fun h => ?_) (fun h => ?_)
    · have hr := hr.trans (cond_t h)
      clear h
      refine AW_seq1 ?_
      refine AW_region ?_
      refine AL_cons (LR_assign (at_c (v' := Sv ([] : List UInt8)) rfl) rfl) (sS sT0 sB0 sF0) ?_
      refine AL_nil ?_
      refine thenN ?_
      refine AW_ret ?_
      refine thenR ?_
      obtain rfl := Option.some.inj hr
      exact res1 rfl (rvT rfl)
    · have hr := hr.trans (cond_f h)
      clear h
      refine AW_skip ?_
      refine thenN ?_
      refine AW_cut (σ := BitVec 64 × Bool × Int × Bool × Nat × Nat) (fun v => ⟨[(2, .inl (is (U16 a2))), (7, .inr (.inl (7, 0)))], [(7, pb 175 [is (U64 v.1), is (Bl v.2.1), is (I8 v.2.2.1), is (Bl v.2.2.2.1), big v.2.2.2.2.1, big v.2.2.2.2.2])]⟩) (fun v => some r = F103_2 N a2 v.1 v.2.1 v.2.2.1 v.2.2.2.1 v.2.2.2.2.1 v.2.2.2.2.2) ?_ ?_
      · skip
        refine AW_region ?_
        refine AL_cons (LR_loads (at_tmp 3 _) ag23 sz23 rfl rfl rfl) (sS (sT1 rfl) (sB1 rfl) sF0) ?_
        refine AL_cons (LR_move (at_tmp 1 _) rfl) (sS (sT1 rfl) sB0 sF0) ?_
        obtain ⟨y9, hy9, hr⟩ := bind_some hr
        refine AL_cons (LR_call Hfaa.func144 rfl rfl (C144 N a0_0 a0_1 a1 y9 hy9) (all_cons (at_tmp 15 _) (all_cons (at_tmp 16 _) all_nil)) rfl) (sS (sA (sT1 rfl) (sA (sT1 rfl) sT0)) sB0 sF0) ?_
        refine AL_cons (zl175 rfl) (sS sT0 sB0 (sF1 rfl)) ?_
        refine AL_cons (LR_store (at_tmp 7 _) (at_tmp 17 _) (cells_agg _) (onC (one_is rfl) (onC (one_is rfl) (onC (one_is rfl) (onC (one_is rfl) (onC (one_big _) (onC (one_big _) onN)))))) sz175 rfl rfl) (sS (sA (sT1 rfl) (sT1 rfl)) (sB1 rfl) sF0) ?_
        refine AL_nil ?_
        exact thenN (cutLeaf (v := (y9.1, y9.2.1, y9.2.2.1, y9.2.2.2.1, y9.2.2.2.2.1, y9.2.2.2.2.2)) hr (weak0 ((sT rfl (sT rfl sT0))) (sub_drop (sub_keep sub_nil))))
      · rintro ⟨x2, x3, x4, x5, x6, x7⟩ hr
        show AW Hfaa.prog _ _ _ ⟨[(2, .inl (is (U16 a2))), (7, .inr (.inl (7, 0)))], [(7, pb 175 [is (U64 x2), is (Bl x3), is (I8 x4), is (Bl x5), big x6, big x7])]⟩
        have hr : some r = F103_2 N a2 x2 x3 x4 x5 x6 x7 := hr
        refine AW_seq1 ?_
        refine AW_cut (σ := Bool) (fun v => ⟨[(2, .inl (is (U16 a2))), (7, .inr (.inl (7, 0))), (25, .inl (is (Bl v)))], [(7, pb 175 [is (U64 x2), is (Bl x3), is (I8 x4), is (Bl x5), big x6, big x7])]⟩) (fun v => some r = F103_3 N a2 x2 x3 x4 x5 x6 x7 v) ?_ ?_
        · skip
          refine AW_region ?_
          refine AL_cons (LR_fieldAddr (off := 0) (o := 2) (at_tmp 7 _) (fun b w => fa175_2 b 0 w) rfl) (sS (sT1 rfl) sB0 sF0) ?_
          refine AL_cons (LR_load (at_tmp 18 _) na110 rfl rfl) (sS (sT1 rfl) (sB1 rfl) sF0) ?_
          refine AL_cons (LR_bin (at_tmp 19 _) (at_c (v' := I8 3) rfl) (eql_I8 x4 3) rfl) (sS (sA (sT1 rfl) sT0) sB0 sF0) ?_
          refine AL_cons (LR_move (at_tmp 20 _) rfl) (sS (sT1 rfl) sB0 sF0) ?_
          refine AL_cutAt 4 ⟨[(2, .inl (is (U16 a2))), (7, .inr (.inl (7, 0))), (18, .inr (.inl (7, 2))), (19, .inl (is (I8 x4))), (20, .inl (is (Bl (x4 == 3)))), (21, .inl (is (Bl (x4 == 3)))), (25, .inl (is (Bl ((x4 == 3) || (x4 == 4)))))], [(7, pb 175 [is (U64 x2), is (Bl x3), is (I8 x4), is (Bl x5), big x6, big x7])]⟩ ?_ ?_
          · cases hb : x4 == 3
            · skip
              refine AL_cons (LR_on rfl rfl rfl (LR_fieldAddr (off := 0) (o := 2) (at_tmp 7 _) (fun b w => fa175_2 b 0 w) rfl)) (sS (sT rfl (sT1 rfl)) sB0 sF0) ?_
              refine AL_cons (LR_on rfl rfl rfl (LR_load (at_tmp 22 _) na110 rfl rfl)) (sS (sT rfl (sT1 rfl)) (sB1 rfl) sF0) ?_
              refine AL_cons (LR_on rfl rfl rfl (LR_bin (at_tmp 23 _) (at_c (v' := I8 4) rfl) (eql_I8 x4 4) rfl)) (sS (sT rfl (sA (sT1 rfl) sT0)) sB0 sF0) ?_
              refine AL_cons (LR_pick (b := false) (at_tmp 21 _) (at_c (v' := Bl true) rfl) (at_tmp 24 _) rfl) (sS (sA (sT1 rfl) (sA sT0 (sT1 rfl))) sB0 sF0) ?_
              exact AL_nil ⟨rfl, weak0 ((sT rfl (sT rfl (sT rfl (sT rfl (sT rfl (sT rfl (sT rfl sT0)))))))) (sub_keep sub_nil)⟩
            · skip
              refine AL_cons (LR_off (b := true) rfl rfl rfl rfl) (sS (sT1 rfl) sB0 sF0) ?_
              refine AL_cons (LR_off (b := true) rfl rfl rfl rfl) (sS (sT1 rfl) sB0 sF0) ?_
              refine AL_cons (LR_off (b := true) rfl rfl rfl rfl) (sS (sT1 rfl) sB0 sF0) ?_
              refine AL_cons (LR_pick (b := true) (at_tmp 21 _) (at_c (v' := Bl true) rfl) (at_tmp 24 _) rfl) (sS (sA (sT1 rfl) (sA sT0 (sT1 rfl))) sB0 sF0) ?_
              exact AL_nil ⟨rfl, weak0 ((sT rfl (sT rfl (sT rfl (sT rfl (sT rfl (sT rfl (sT rfl sT0)))))))) (sub_keep sub_nil)⟩
          refine AL_nil ?_
          exact thenN (cutLeaf (v := (x4 == 3) || (x4 == 4)) hr (weak0 ((sT rfl (sT rfl (sT rfl sT0)))) (sub_keep sub_nil)))
        · rintro x8 hr
          show AW Hfaa.prog _ _ _ ⟨[(2, .inl (is (U16 a2))), (7, .inr (.inl (7, 0))), (25, .inl (is (Bl x8)))], [(7, pb 175 [is (U64 x2), is (Bl x3), is (I8 x4), is (Bl x5), big x6, big x7])]⟩
          have hr : some r = F103_3 N a2 x2 x3 x4 x5 x6 x7 x8 := hr
          refine AW_condT (b := x8) rfl (fun h => ?_) (fun h => ?_)
          · have hr := hr.trans (cond_t h)
            clear h
            refine AW_seq1 ?_
            refine AW_region ?_
            refine AL_cons (LR_assign (at_c (v' := Sv ([] : List UInt8)) rfl) rfl) (sS sT0 sB0 sF0) ?_
            refine AL_nil ?_
            refine thenN ?_
            refine AW_ret ?_
            refine thenR ?_
            obtain rfl := Option.some.inj hr
            exact res1 rfl (rvT rfl)
          · have hr := hr.trans (cond_f h)
            clear h
            refine AW_skip ?_
            refine thenN ?_
            refine AW_seq1 ?_
            refine AW_region ?_
            refine AL_cons (LR_fieldAddr (off := 0) (o := 3) (at_tmp 7 _) (fun b w => fa175_3 b 0 w) rfl) (sS (sT1 rfl) sB0 sF0) ?_
            refine AL_cons (LR_loads (at_tmp 26 _) ag119 sz119 rfl rfl rfl) (sS (sT1 rfl) (sB1 rfl) sF0) ?_
            refine AL_cons (LR_move (at_tmp 2 _) rfl) (sS (sT1 rfl) sB0 sF0) ?_
            refine AL_cons (LR_conv (vx := U16 a2) (at_tmp 28 _) (conv_I64 Hfaa.underlying71 Hfaa.underlying3 (a2.toNat : Int)) rfl) (sS (sT1 rfl) sB0 sF0) ?_
            refine AL_cons (LR_un (at_tmp 29 _) (neg_I64 (w64 (a2.toNat : Int))) rfl) (sS (sT1 rfl) sB0 sF0) ?_
            obtain ⟨y7, hy7, hr⟩ := bind_some hr
            refine AL_cons (LR_call Hfaa.func197 rfl rfl (C197 N x5 x6 x7 (w64 (0 - (w64 (a2.toNat : Int)))) y7 hy7) (all_cons (at_tmp 27 _) (all_cons (at_tmp 30 _) all_nil)) rfl) (sS (sA (sT1 rfl) (sA (sT1 rfl) sT0)) sB0 sF0) ?_
            obtain ⟨y8, hy8, hr⟩ := bind_some hr
            refine AL_cons (LR_call Hfaa.func198 rfl rfl (C198 N y7 y8 hy8) (all_cons (at_tmp 31 _) all_nil) rfl) (sS (sA (sT1 rfl) sT0) sB0 sF0) ?_
            refine AL_cons (LR_assign (at_tmp 32 _) rfl) (sS (sT1 rfl) sB0 sF0) ?_
            refine AL_nil ?_
            refine thenN ?_
            refine AW_ret ?_
            obtain rfl := Option.some.inj hr
            exact res1 rfl (rvT rfl)
/-- dec.TextF -/
def F378_7 (N : Nat) (x7 : NS (BitVec 8)) : Option (List UInt8) := some (bys x7.2.1 x7.2.2)
def F378_11 (N : Nat) (a1 : List UInt8) (x3 : Int) (x4 : Int) (x8 : Int) (x10 : NS (BitVec 8)) : Option ((Int × NS (BitVec 8)) ⊕ (List UInt8)) := some (.inl ((w64 (x8 + 1), x10)))
def F378_13 (N : Nat) (a1 : List UInt8) (x3 : Int) (x4 : Int) (x8 : Int) (x11 : NS (BitVec 8)) (x12 : Bool) : Option ((Int × NS (BitVec 8)) ⊕ (List UInt8)) := bif x12 then bif decide (x11.2.1 < 4294967296) then F378_11 N a1 x3 x4 x8 (app x11 (48#8)) else none else bif (decide (0 ≤ (w64 (x8 - x3) : Int)) && decide ((w64 (x8 - x3) : Int) < (a1.length : Int))) then bif decide (x11.2.1 < 4294967296) then F378_11 N a1 x3 x4 x8 (app x11 ((a1.getD ((w64 (x8 - x3) : Int)).toNat 0).toBitVec)) else none else none
def F378_12 (N : Nat) (a1 : List UInt8) (x3 : Int) (x4 : Int) (x8 : Int) (x11 : NS (BitVec 8)) : Option ((Int × NS (BitVec 8)) ⊕ (List UInt8)) := F378_13 N a1 x3 x4 x8 x11 (decide (x8 < x3))
def F378_14 (N : Nat) (a1 : List UInt8) (x3 : Int) (x4 : Int) (x8 : Int) (x9 : NS (BitVec 8)) (x13 : Bool) : Option ((Int × NS (BitVec 8)) ⊕ (List UInt8)) := bif x13 then bif decide (x9.2.1 < 4294967296) then F378_12 N a1 x3 x4 x8 (app x9 (46#8)) else none else F378_12 N a1 x3 x4 x8 x9
def F378_10 (N : Nat) (a1 : List UInt8) (x3 : Int) (x4 : Int) (x8 : Int) (x9 : NS (BitVec 8)) : Option ((Int × NS (BitVec 8)) ⊕ (List UInt8)) := F378_14 N a1 x3 x4 x8 x9 (x8 == x4)
def F378_15 (N : Nat) (a1 : List UInt8) (x3 : Int) (x4 : Int) (x8 : Int) (x9 : NS (BitVec 8)) (x14 : Bool) : Option ((Int × NS (BitVec 8)) ⊕ (List UInt8)) := bif x14 then F378_10 N a1 x3 x4 x8 x9 else (F378_7 N x9).map Sum.inr
def F378_L9b (N : Nat) (a1 : List UInt8) (x3 : Int) (x4 : Int) (x8 : Int) (x9 : NS (BitVec 8)) : Option ((Int × NS (BitVec 8)) ⊕ (List UInt8)) := F378_15 N a1 x3 x4 x8 x9 (decide (x8 < (w64 ((a1.length : Int) + x3))))
def F378_L9 (N : Nat) (a1 : List UInt8) (x3 : Int) (x4 : Int) : (Int × NS (BitVec 8)) → Option ((Int × NS (BitVec 8)) ⊕ (List UInt8)) := fun v => F378_L9b N a1 x3 x4 v.1 v.2
def F378_8 (N : Nat) (a1 : List UInt8) (x3 : Int) (x4 : Int) (x6 : NS (BitVec 8)) : Option (List UInt8) := iterL (F378_L9 N a1 x3 x4) N (0, x6)
def F378_6 (N : Nat) (a1 : List UInt8) (x3 : Int) (x4 : Int) (x6 : NS (BitVec 8)) : Option (List UInt8) := F378_8 N a1 x3 x4 x6
def F378_16 (N : Nat) (a0 : Bool) (a1 : List UInt8) (x3 : Int) (x4 : Int) (x5 : NS (BitVec 8)) : Option (List UInt8) := bif a0 then bif decide (x5.2.1 < 4294967296) then F378_6 N a1 x3 x4 (app x5 (45#8)) else none else F378_6 N a1 x3 x4 x5
def F378_5 (N : Nat) (a0 : Bool) (a1 : List UInt8) (x3 : Int) (x4 : Int) (x5 : NS (BitVec 8)) : Option (List UInt8) := F378_16 N a0 a1 x3 x4 x5
def F378_4 (N : Nat) (a0 : Bool) (a1 : List UInt8) (x3 : Int) (x4 : Int) : Option (List UInt8) := bif (decide (0 ≤ w64 ((w64 ((a1.length : Int) + x3)) + 2)) && decide (w64 ((w64 ((a1.length : Int) + x3)) + 2) ≤ 1099511627776)) then F378_5 N a0 a1 x3 x4 (false, 0, fun _ => 0#8) else none
def F378_3 (N : Nat) (a0 : Bool) (a1 : List UInt8) (x2 : Int) (x3 : Int) : Option (List UInt8) := F378_4 N a0 a1 x3 (w64 ((w64 ((a1.length : Int) + x3)) - x2))
def F378_2 (N : Nat) (a0 : Bool) (a1 : List UInt8) (x2 : Int) : Option (List UInt8) := F378_3 N a0 a1 x2 (max 0 (w64 ((w64 (x2 + 1)) - (a1.length : Int))))
def F378_1 (N : Nat) (a0 : Bool) (a1 : List UInt8) (a2 : BitVec 16) (x1 : Bool) : Option (List UInt8) := bif x1 then some ([] : List UInt8) else F378_2 N a0 a1 (w64 (a2.toNat : Int))
def F378 (N : Nat) (a0 : Bool) (a1 : List UInt8) (a2 : BitVec 16) : Option (List UInt8) := F378_1 N a0 a1 a2 ((a1 == ([] : List UInt8)) || (decide ((2000#16).toNat < a2.toNat)))
theorem C378 (N : Nat) (a0 : Bool) (a1 : List UInt8) (a2 : BitVec 16) (r : List UInt8) (hr : some r = F378 N a0 a1 a2) : Aw.Fn Hfaa.prog 378 [is (Bl a0), is (Sv a1), is (U16 a2)] (is (Sv r)) := by
  refine fn_intro Hfaa.func378 rfl rfl rfl ?_
  intro bn0 w0 H0
  refine AW_seq1 ?_
  refine AW_region ?_
  refine AL_cons (LR_assign (at_c (v' := Sv ([] : List UInt8)) rfl) rfl) (sS sT0 sB0 sF0) ?_
  refine AL_nil ?_
  refine thenN ?_
  refine AW_seq1 ?_
  refine AW_cut (σ := Bool) (fun v => ⟨[(0, .inl (is (Bl a0))), (1, .inl (is (Sv a1))), (2, .inl (is (U16 a2))), (17, .inl (is (Bl v)))], []⟩) (fun v => some r = F378_1 N a0 a1 a2 v) ?_ ?_
  · skip
    refine AW_region ?_
    refine AL_cons (LR_move (at_tmp 1 _) rfl) (sS (sT1 rfl) sB0 sF0) ?_
    refine AL_cons (LR_bin (at_tmp 12 _) (at_c (v' := Sv ([] : List UInt8)) rfl) (eql_S a1 ([] : List UInt8)) rfl) (sS (sA (sT1 rfl) sT0) sB0 sF0) ?_
    refine AL_cons (LR_move (at_tmp 13 _) rfl) (sS (sT1 rfl) sB0 sF0) ?_
    refine AL_cutAt 3 ⟨[(0, .inl (is (Bl a0))), (1, .inl (is (Sv a1))), (2, .inl (is (U16 a2))), (6, .inl (is (Sv ([] : List UInt8)))), (12, .inl (is (Sv a1))), (13, .inl (is (Bl (a1 == ([] : List UInt8))))), (14, .inl (is (Bl (a1 == ([] : List UInt8))))), (17, .inl (is (Bl ((a1 == ([] : List UInt8)) || (decide ((2000#16).toNat < a2.toNat))))))], []⟩ ?_ ?_
    · cases hb : a1 == ([] : List UInt8)
      · skip
        refine AL_cons (LR_on rfl rfl rfl (LR_move (at_tmp 2 _) rfl)) (sS (sT rfl (sT1 rfl)) sB0 sF0) ?_
        refine AL_cons (LR_on rfl rfl rfl (LR_bin (at_tmp 15 _) (at_c (v' := U16 (2000#16)) rfl) (gtr_U16 a2 (2000#16)) rfl)) (sS (sT rfl (sA (sT1 rfl) sT0)) sB0 sF0) ?_
        refine AL_cons (LR_pick (b := false) (at_tmp 14 _) (at_c (v' := Bl true) rfl) (at_tmp 16 _) rfl) (sS (sA (sT1 rfl) (sA sT0 (sT1 rfl))) sB0 sF0) ?_
        exact AL_nil ⟨rfl, weak0 ((sT rfl (sT rfl (sT rfl (sT rfl (sT rfl (sT rfl (sT rfl (sT rfl sT0))))))))) sub_nil⟩
      · skip
        refine AL_cons (LR_off (b := true) rfl rfl rfl rfl) (sS (sT1 rfl) sB0 sF0) ?_
        refine AL_cons (LR_off (b := true) rfl rfl rfl rfl) (sS (sT1 rfl) sB0 sF0) ?_
        refine AL_cons (LR_pick (b := true) (at_tmp 14 _) (at_c (v' := Bl true) rfl) (at_tmp 16 _) rfl) (sS (sA (sT1 rfl) (sA sT0 (sT1 rfl))) sB0 sF0) ?_
        exact AL_nil ⟨rfl, weak0 ((sT rfl (sT rfl (sT rfl (sT rfl (sT rfl (sT rfl (sT rfl (sT rfl sT0))))))))) sub_nil⟩
    refine AL_nil ?_
    exact thenN (cutLeaf (v := (a1 == ([] : List UInt8)) || (decide ((2000#16).toNat < a2.toNat))) hr (weak0 ((sT rfl (sT rfl (sT rfl (sT rfl sT0))))) sub_nil))
  · rintro x1 hr
    show AW Hfaa.prog _ _ _ ⟨[(0, .inl (is (Bl a0))), (1, .inl (is (Sv a1))), (2, .inl (is (U16 a2))), (17, .inl (is (Bl x1)))], []⟩
    have hr : some r = F378_1 N a0 a1 a2 x1 := hr
    refine AW_condT (b := x1) rfl (fun h => ?_) (fun h => ?_)
    · have hr := hr.trans (cond_t h)
      clear h
      refine AW_seq1 ?_
      refine AW_region ?_
      refine AL_cons (LR_assign (at_c (v' := Sv ([] : List UInt8)) rfl) rfl) (sS sT0 sB0 sF0) ?_
      refine AL_nil ?_
      refine thenN ?_
      refine AW_ret ?_
      refine thenR ?_
      obtain rfl := Option.some.inj hr
      exact res1 rfl (rvT rfl)
    · have hr := hr.trans (cond_f h)
      clear h
      refine AW_skip ?_
      refine thenN ?_
      refine AW_cut (σ := Int) (fun v => ⟨[(0, .inl (is (Bl a0))), (1, .inl (is (Sv a1))), (7, .inl (is (I64 v)))], []⟩) (fun v => some r = F378_2 N a0 a1 v) ?_ ?_
      · skip
        refine AW_region ?_
        refine AL_cons (LR_move (at_tmp 2 _) rfl) (sS (sT1 rfl) sB0 sF0) ?_
        refine AL_cons (LR_conv (vx := U16 a2) (at_tmp 18 _) (conv_I64 Hfaa.underlying71 Hfaa.underlying3 (a2.toNat : Int)) rfl) (sS (sT1 rfl) sB0 sF0) ?_
        refine AL_cons (LR_assign (at_tmp 19 _) rfl) (sS (sT1 rfl) sB0 sF0) ?_
        refine AL_nil ?_
        exact thenN (cutLeaf (v := w64 (a2.toNat : Int)) hr (weak0 ((sT rfl (sT rfl (sT rfl sT0)))) sub_nil))
      · rintro x2 hr
        show AW Hfaa.prog _ _ _ ⟨[(0, .inl (is (Bl a0))), (1, .inl (is (Sv a1))), (7, .inl (is (I64 x2)))], []⟩
        have hr : some r = F378_2 N a0 a1 x2 := hr
        refine AW_cut (σ := Int) (fun v => ⟨[(0, .inl (is (Bl a0))), (1, .inl (is (Sv a1))), (7, .inl (is (I64 x2))), (8, .inl (is (I64 v)))], []⟩) (fun v => some r = F378_3 N a0 a1 x2 v) ?_ ?_
        · skip
          refine AW_region ?_
          refine AL_cons (LR_move (at_tmp 7 _) rfl) (sS (sT1 rfl) sB0 sF0) ?_
          refine AL_cons (LR_bin (at_tmp 20 _) (at_c (v' := I64 1) rfl) (add_I64 x2 1) rfl) (sS (sA (sT1 rfl) sT0) sB0 sF0) ?_
          refine AL_cons (LR_move (at_tmp 1 _) rfl) (sS (sT1 rfl) sB0 sF0) ?_
          refine AL_cons (LR_bi1 (at_tmp 22 _) (len_S Hfaa.underlying9 a1) rfl) (sS (sT1 rfl) sB0 sF0) ?_
          refine AL_cons (LR_bin (at_tmp 21 _) (at_tmp 23 _) (sub_I64 (w64 (x2 + 1)) (a1.length : Int)) rfl) (sS (sA (sT1 rfl) (sT1 rfl)) sB0 sF0) ?_
          refine AL_cons (LR_bi2 (vx := I64 0) (vy := I64 (w64 ((w64 (x2 + 1)) - (a1.length : Int)))) (v := I64 (max 0 (w64 ((w64 (x2 + 1)) - (a1.length : Int))))) (at_c (v' := I64 0) rfl) (at_tmp 24 _) (fun cs w => max_I .i64 0 (w64 ((w64 (x2 + 1)) - (a1.length : Int))) cs w) rfl) (sS (sA sT0 (sT1 rfl)) sB0 sF0) ?_
          refine AL_cons (LR_assign (at_tmp 25 _) rfl) (sS (sT1 rfl) sB0 sF0) ?_
          refine AL_nil ?_
          exact thenN (cutLeaf (v := max 0 (w64 ((w64 (x2 + 1)) - (a1.length : Int)))) hr (weak0 ((sT rfl (sT rfl (sT rfl (sT rfl sT0))))) sub_nil))
        · rintro x3 hr
          show AW Hfaa.prog _ _ _ ⟨[(0, .inl (is (Bl a0))), (1, .inl (is (Sv a1))), (7, .inl (is (I64 x2))), (8, .inl (is (I64 x3)))], []⟩
          have hr : some r = F378_3 N a0 a1 x2 x3 := hr
          refine AW_cut (σ := Int) (fun v => ⟨[(0, .inl (is (Bl a0))), (1, .inl (is (Sv a1))), (8, .inl (is (I64 x3))), (9, .inl (is (I64 v)))], []⟩) (fun v => some r = F378_4 N a0 a1 x3 v) ?_ ?_
          · skip
            refine AW_region ?_
            refine AL_cons (LR_move (at_tmp 1 _) rfl) (sS (sT1 rfl) sB0 sF0) ?_
            refine AL_cons (LR_bi1 (at_tmp 26 _) (len_S Hfaa.underlying9 a1) rfl) (sS (sT1 rfl) sB0 sF0) ?_
            refine AL_cons (LR_move (at_tmp 8 _) rfl) (sS (sT1 rfl) sB0 sF0) ?_
            refine AL_cons (LR_bin (at_tmp 27 _) (at_tmp 28 _) (add_I64 (a1.length : Int) x3) rfl) (sS (sA (sT1 rfl) (sT1 rfl)) sB0 sF0) ?_
            refine AL_cons (LR_move (at_tmp 7 _) rfl) (sS (sT1 rfl) sB0 sF0) ?_
            refine AL_cons (LR_bin (at_tmp 29 _) (at_tmp 30 _) (sub_I64 (w64 ((a1.length : Int) + x3)) x2) rfl) (sS (sA (sT1 rfl) (sT1 rfl)) sB0 sF0) ?_
            refine AL_cons (LR_assign (at_tmp 31 _) rfl) (sS (sT1 rfl) sB0 sF0) ?_
            refine AL_nil ?_
            exact thenN (cutLeaf (v := w64 ((w64 ((a1.length : Int) + x3)) - x2)) hr (weak0 ((sT rfl (sT rfl (sT rfl (sT rfl sT0))))) sub_nil))
          · rintro x4 hr
            show AW Hfaa.prog _ _ _ ⟨[(0, .inl (is (Bl a0))), (1, .inl (is (Sv a1))), (8, .inl (is (I64 x3))), (9, .inl (is (I64 x4)))], []⟩
            have hr : some r = F378_4 N a0 a1 x3 x4 := hr
            refine AW_cut (σ := Value × NS (BitVec 8)) (fun v => ⟨[(0, .inl (is (Bl a0))), (1, .inl (is (Sv a1))), (8, .inl (is (I64 x3))), (9, .inl (is (I64 x4))), (10, .inl (is ( v.1)))], [(37, rowc v.1 (k1 U8) 1 v.2)]⟩) (fun v => isCell v.1 = true ∧ some r = F378_5 N a0 a1 x3 x4 v.2) ?_ ?_
            · skip
              refine AW_region ?_
              refine AL_cons (LR_move (at_tmp 1 _) rfl) (sS (sT1 rfl) sB0 sF0) ?_
              refine AL_cons (LR_bi1 (at_tmp 32 _) (len_S Hfaa.underlying9 a1) rfl) (sS (sT1 rfl) sB0 sF0) ?_
              refine AL_cons (LR_move (at_tmp 8 _) rfl) (sS (sT1 rfl) sB0 sF0) ?_
              refine AL_cons (LR_bin (at_tmp 33 _) (at_tmp 34 _) (add_I64 (a1.length : Int) x3) rfl) (sS (sA (sT1 rfl) (sT1 rfl)) sB0 sF0) ?_
              refine AL_cons (LR_bin (at_tmp 35 _) (at_c (v' := I64 2) rfl) (add_I64 (w64 ((a1.length : Int) + x3)) 2) rfl) (sS (sA (sT1 rfl) sT0) sB0 sF0) ?_
              obtain ⟨hg64, hr⟩ := guard_some hr
              refine AL_consV (make0_opk (K := (k1 U8)) Hfaa.underlying227 eN5 (at_tmp 36 _) (dand hg64) rfl (fun _ => 0#8)) (sS (sT1 rfl) sB0 (sF1 rfl)) rfl ?_
              intro sv17 hsv17
              refine AL_cons (LR_assign (at_tmp 37 _) rfl) (sS (sT1 rfl) sB0 sF0) ?_
              refine AL_nil ?_
              exact thenN (cutLeaf (v := (sv17, (false, 0, fun _ => 0#8))) ⟨hsv17, hr⟩ (weak0 ((sT rfl (sT rfl (sT rfl (sT rfl (sT rfl sT0)))))) (sub_keep sub_nil)))
            · rintro ⟨sv1, x5⟩ ⟨hsv1, hr⟩
              show AW Hfaa.prog _ _ _ ⟨[(0, .inl (is (Bl a0))), (1, .inl (is (Sv a1))), (8, .inl (is (I64 x3))), (9, .inl (is (I64 x4))), (10, .inl (is ( sv1)))], [(37, rowc sv1 (k1 U8) 1 x5)]⟩
              have hr : some r = F378_5 N a0 a1 x3 x4 x5 := hr
              refine AW_cut (σ := Value × NS (BitVec 8)) (fun v => ⟨[(1, .inl (is (Sv a1))), (8, .inl (is (I64 x3))), (9, .inl (is (I64 x4))), (10, .inl (is ( v.1)))], [(37, rowc v.1 (k1 U8) 1 v.2)]⟩) (fun v => isCell v.1 = true ∧ some r = F378_6 N a1 x3 x4 v.2) ?_ ?_
              · skip
                refine AW_cut (σ := Value) (fun v => ⟨[(1, .inl (is (Sv a1))), (8, .inl (is (I64 x3))), (9, .inl (is (I64 x4))), (10, .inl (is ( v))), (38, .inl (is (Bl a0)))], [(37, rowc v (k1 U8) 1 x5)]⟩) (fun v => isCell v = true ∧ some r = F378_16 N a0 a1 x3 x4 x5) ?_ ?_
                · skip
                  refine AW_region ?_
                  refine AL_cons (LR_move (at_tmp 0 _) rfl) (sS (sT1 rfl) sB0 sF0) ?_
                  refine AL_nil ?_
                  exact thenN (cutLeaf (v := sv1) ⟨hsv1, hr⟩ (weak0 ((sT rfl (sT rfl (sT rfl (sT rfl (sT rfl sT0)))))) (sub_keep sub_nil)))
                · rintro sv15 ⟨hsv15, hr⟩
                  show AW Hfaa.prog _ _ _ ⟨[(1, .inl (is (Sv a1))), (8, .inl (is (I64 x3))), (9, .inl (is (I64 x4))), (10, .inl (is ( sv15))), (38, .inl (is (Bl a0)))], [(37, rowc sv15 (k1 U8) 1 x5)]⟩
                  have hr : some r = F378_16 N a0 a1 x3 x4 x5 := hr
                  refine AW_condT (b := a0) rfl (fun h => ?_) (fun h => ?_)
                  · have hr := hr.trans (cond_t h)
                    clear h
                    refine AW_region ?_
                    refine AL_cons (LR_move (at_tmp 10 _) rfl) (sS (sT1 rfl) sB0 sF0) ?_
                    refine AL_cons (LR_bs1 Hfaa.underlying227 el5 (fun _ => rfl) (at_c (v' := U8 (45#8)) rfl) rfl) (sS sT0 sB0 sF0) ?_
                    obtain ⟨hg63, hr⟩ := guard_some hr
                    refine AL_consV (app_opk (K := (k1 U8)) (r := 37) (z := x5) (u := 45#8) Hfaa.underlying227 eN5 k1_len (k1_cell fun _ => rfl) (at_tmp 39 _) (at_tmp 40 _) (oneAt_k1 rfl) (of_decide_eq_true hg63) rfl rfl) (sS (sA (sT1 rfl) (sT1 rfl)) (sB1 rfl) sF0) rfl ?_
                    intro sv16 hsv16
                    refine AL_cons (LR_assign (at_tmp 41 _) rfl) (sS (sT1 rfl) sB0 sF0) ?_
                    refine AL_nil ?_
                    exact thenN (cutLeaf (v := (sv16, app x5 (45#8))) ⟨hsv16, hr⟩ (weak0 ((sT rfl (sT rfl (sT rfl (sT rfl sT0))))) (sub_keep sub_nil)))
                  · have hr := hr.trans (cond_f h)
                    clear h
                    refine AW_skip ?_
                    exact thenN (cutLeaf (v := (sv15, x5)) ⟨hsv15, hr⟩ (weak0 ((sT rfl (sT rfl (sT rfl (sT rfl sT0))))) (sub_keep sub_nil)))
              · rintro ⟨sv2, x6⟩ ⟨hsv2, hr⟩
                show AW Hfaa.prog _ _ _ ⟨[(1, .inl (is (Sv a1))), (8, .inl (is (I64 x3))), (9, .inl (is (I64 x4))), (10, .inl (is ( sv2)))], [(37, rowc sv2 (k1 U8) 1 x6)]⟩
                have hr : some r = F378_6 N a1 x3 x4 x6 := hr
                refine AW_cut (σ := Value × NS (BitVec 8)) (fun v => ⟨[(10, .inl (is ( v.1)))], [(37, rowc v.1 (k1 U8) 1 v.2)]⟩) (fun v => isCell v.1 = true ∧ some r = F378_7 N v.2) ?_ ?_
                · skip
                  refine AW_cut (σ := Value) (fun v => ⟨[(1, .inl (is (Sv a1))), (8, .inl (is (I64 x3))), (9, .inl (is (I64 x4))), (10, .inl (is ( v))), (11, .inl (is (I64 0)))], [(37, rowc v (k1 U8) 1 x6)]⟩) (fun v => isCell v = true ∧ some r = F378_8 N a1 x3 x4 x6) ?_ ?_
                  · skip
                    refine AW_region ?_
                    refine AL_cons (LR_assign (at_c (v' := I64 0) rfl) rfl) (sS sT0 sB0 sF0) ?_
                    refine AL_nil ?_
                    exact thenN (cutLeaf (v := sv2) ⟨hsv2, hr⟩ (weak0 ((sT rfl (sT rfl (sT rfl (sT rfl (sT rfl sT0)))))) (sub_keep sub_nil)))
                  · rintro sv4 ⟨hsv4, hr⟩
                    show AW Hfaa.prog _ _ _ ⟨[(1, .inl (is (Sv a1))), (8, .inl (is (I64 x3))), (9, .inl (is (I64 x4))), (10, .inl (is ( sv4))), (11, .inl (is (I64 0)))], [(37, rowc sv4 (k1 U8) 1 x6)]⟩
                    have hr : some r = F378_8 N a1 x3 x4 x6 := hr
                    refine AW_block ?_
                    refine AW_iterV (σ := Int × NS (BitVec 8)) (r := r) (v0 := sv4) (x0 := (0, x6)) (emb := fun sv v => ⟨[(1, .inl (is (Sv a1))), (8, .inl (is (I64 x3))), (9, .inl (is (I64 x4))), (10, .inl (is ( sv))), (11, .inl (is (I64 v.1)))], [(37, rowc sv (k1 U8) 1 v.2)]⟩) hsv4 ?_ hr ?_
                    · exact weak0 ((sT rfl (sT rfl (sT rfl (sT rfl (sT rfl sT0)))))) (sub_keep sub_nil)
                    rintro sv5 hsv5 ⟨x8, x9⟩ out2 hr
                    show AW Hfaa.prog _ _ _ ⟨[(1, .inl (is (Sv a1))), (8, .inl (is (I64 x3))), (9, .inl (is (I64 x4))), (10, .inl (is ( sv5))), (11, .inl (is (I64 x8)))], [(37, rowc sv5 (k1 U8) 1 x9)]⟩
                    have hr : some out2 = F378_L9b N a1 x3 x4 x8 x9 := hr
                    refine AW_cut (σ := Value) (fun v => ⟨[(1, .inl (is (Sv a1))), (8, .inl (is (I64 x3))), (9, .inl (is (I64 x4))), (10, .inl (is ( v))), (11, .inl (is (I64 x8)))], [(37, rowc v (k1 U8) 1 x9)]⟩) (fun v => isCell v = true ∧ some out2 = F378_10 N a1 x3 x4 x8 x9) ?_ ?_
                    · skip
                      refine AW_cut (σ := Value × Bool) (fun v => ⟨[(1, .inl (is (Sv a1))), (8, .inl (is (I64 x3))), (9, .inl (is (I64 x4))), (10, .inl (is ( v.1))), (11, .inl (is (I64 x8))), (47, .inl (is (Bl v.2)))], [(37, rowc v.1 (k1 U8) 1 x9)]⟩) (fun v => isCell v.1 = true ∧ some out2 = F378_15 N a1 x3 x4 x8 x9 v.2) ?_ ?_
                      · skip
                        refine AW_region ?_
                        refine AL_cons (LR_move (at_tmp 11 _) rfl) (sS (sT1 rfl) sB0 sF0) ?_
                        refine AL_cons (LR_move (at_tmp 1 _) rfl) (sS (sT1 rfl) sB0 sF0) ?_
                        refine AL_cons (LR_bi1 (at_tmp 43 _) (len_S Hfaa.underlying9 a1) rfl) (sS (sT1 rfl) sB0 sF0) ?_
                        refine AL_cons (LR_move (at_tmp 8 _) rfl) (sS (sT1 rfl) sB0 sF0) ?_
                        refine AL_cons (LR_bin (at_tmp 44 _) (at_tmp 45 _) (add_I64 (a1.length : Int) x3) rfl) (sS (sA (sT1 rfl) (sT1 rfl)) sB0 sF0) ?_
                        refine AL_cons (LR_bin (at_tmp 42 _) (at_tmp 46 _) (lss_I64 x8 (w64 ((a1.length : Int) + x3))) rfl) (sS (sA (sT1 rfl) (sT1 rfl)) sB0 sF0) ?_
                        refine AL_nil ?_
                        exact thenN (cutLeaf (v := (sv5, decide (x8 < (w64 ((a1.length : Int) + x3))))) ⟨hsv5, hr⟩ (weak0 ((sT rfl (sT rfl (sT rfl (sT rfl (sT rfl (sT rfl sT0))))))) (sub_keep sub_nil)))
                      · rintro ⟨sv14, x14⟩ ⟨hsv14, hr⟩
                        show AW Hfaa.prog _ _ _ ⟨[(1, .inl (is (Sv a1))), (8, .inl (is (I64 x3))), (9, .inl (is (I64 x4))), (10, .inl (is ( sv14))), (11, .inl (is (I64 x8))), (47, .inl (is (Bl x14)))], [(37, rowc sv14 (k1 U8) 1 x9)]⟩
                        have hr : some out2 = F378_15 N a1 x3 x4 x8 x9 x14 := hr
                        refine AW_condT (b := x14) rfl (fun h => ?_) (fun h => ?_)
                        · have hr := hr.trans (cond_t h)
                          clear h
                          refine AW_skip ?_
                          exact thenN (cutLeaf (v := sv14) ⟨hsv14, hr⟩ (weak0 ((sT rfl (sT rfl (sT rfl (sT rfl (sT rfl sT0)))))) (sub_keep sub_nil)))
                        · have hr := hr.trans (cond_f h)
                          clear h
                          refine AW_exit ?_
                          refine thenX ?_
                          obtain ⟨r', hro, hr⟩ := map_inr hr
                          refine thenX (loopOut hro (fun he => ?_))
                          rw [he] at hr
                          refine blH ?_
                          exact thenN (cutLeaf (v := (sv14, x9)) ⟨hsv14, hr⟩ (weak0 ((sT rfl sT0)) (sub_keep sub_nil)))
                    · rintro sv6 ⟨hsv6, hr⟩
                      show AW Hfaa.prog _ _ _ ⟨[(1, .inl (is (Sv a1))), (8, .inl (is (I64 x3))), (9, .inl (is (I64 x4))), (10, .inl (is ( sv6))), (11, .inl (is (I64 x8)))], [(37, rowc sv6 (k1 U8) 1 x9)]⟩
                      have hr : some out2 = F378_10 N a1 x3 x4 x8 x9 := hr
                      refine AW_cut (σ := Value × NS (BitVec 8)) (fun v => ⟨[(1, .inl (is (Sv a1))), (8, .inl (is (I64 x3))), (9, .inl (is (I64 x4))), (10, .inl (is ( v.1))), (11, .inl (is (I64 x8)))], [(37, rowc v.1 (k1 U8) 1 v.2)]⟩) (fun v => isCell v.1 = true ∧ some out2 = F378_11 N a1 x3 x4 x8 v.2) ?_ ?_
                      · skip
                        refine AW_block ?_
                        refine AW_cut (σ := Value × NS (BitVec 8)) (fun v => ⟨[(1, .inl (is (Sv a1))), (8, .inl (is (I64 x3))), (9, .inl (is (I64 x4))), (10, .inl (is ( v.1))), (11, .inl (is (I64 x8)))], [(37, rowc v.1 (k1 U8) 1 v.2)]⟩) (fun v => isCell v.1 = true ∧ some out2 = F378_12 N a1 x3 x4 x8 v.2) ?_ ?_
                        · skip
                          refine AW_cut (σ := Value × Bool) (fun v => ⟨[(1, .inl (is (Sv a1))), (8, .inl (is (I64 x3))), (9, .inl (is (I64 x4))), (10, .inl (is ( v.1))), (11, .inl (is (I64 x8))), (52, .inl (is (Bl v.2)))], [(37, rowc v.1 (k1 U8) 1 x9)]⟩) (fun v => isCell v.1 = true ∧ some out2 = F378_14 N a1 x3 x4 x8 x9 v.2) ?_ ?_
                          · skip
                            refine AW_region ?_
                            refine AL_cons (LR_move (at_tmp 11 _) rfl) (sS (sT1 rfl) sB0 sF0) ?_
                            refine AL_cons (LR_move (at_tmp 9 _) rfl) (sS (sT1 rfl) sB0 sF0) ?_
                            refine AL_cons (LR_bin (at_tmp 50 _) (at_tmp 51 _) (eql_I64 x8 x4) rfl) (sS (sA (sT1 rfl) (sT1 rfl)) sB0 sF0) ?_
                            refine AL_nil ?_
                            exact thenN (cutLeaf (v := (sv6, x8 == x4)) ⟨hsv6, hr⟩ (weak0 ((sT rfl (sT rfl (sT rfl (sT rfl (sT rfl (sT rfl sT0))))))) (sub_keep sub_nil)))
                          · rintro ⟨sv12, x13⟩ ⟨hsv12, hr⟩
                            show AW Hfaa.prog _ _ _ ⟨[(1, .inl (is (Sv a1))), (8, .inl (is (I64 x3))), (9, .inl (is (I64 x4))), (10, .inl (is ( sv12))), (11, .inl (is (I64 x8))), (52, .inl (is (Bl x13)))], [(37, rowc sv12 (k1 U8) 1 x9)]⟩
                            have hr : some out2 = F378_14 N a1 x3 x4 x8 x9 x13 := hr
                            refine AW_condT (b := x13) rfl (fun h => ?_) (fun h => ?_)
                            · have hr := hr.trans (cond_t h)
                              clear h
                              refine AW_region ?_
                              refine AL_cons (LR_move (at_tmp 10 _) rfl) (sS (sT1 rfl) sB0 sF0) ?_
                              refine AL_cons (LR_bs1 Hfaa.underlying227 el5 (fun _ => rfl) (at_c (v' := U8 (46#8)) rfl) rfl) (sS sT0 sB0 sF0) ?_
                              obtain ⟨hg62, hr⟩ := guard_some hr
                              refine AL_consV (app_opk (K := (k1 U8)) (r := 37) (z := x9) (u := 46#8) Hfaa.underlying227 eN5 k1_len (k1_cell fun _ => rfl) (at_tmp 53 _) (at_tmp 54 _) (oneAt_k1 rfl) (of_decide_eq_true hg62) rfl rfl) (sS (sA (sT1 rfl) (sT1 rfl)) (sB1 rfl) sF0) rfl ?_
                              intro sv13 hsv13
                              refine AL_cons (LR_assign (at_tmp 55 _) rfl) (sS (sT1 rfl) sB0 sF0) ?_
                              refine AL_nil ?_
                              exact thenN (cutLeaf (v := (sv13, app x9 (46#8))) ⟨hsv13, hr⟩ (weak0 ((sT rfl (sT rfl (sT rfl (sT rfl (sT rfl sT0)))))) (sub_keep sub_nil)))
                            · have hr := hr.trans (cond_f h)
                              clear h
                              refine AW_skip ?_
                              exact thenN (cutLeaf (v := (sv12, x9)) ⟨hsv12, hr⟩ (weak0 ((sT rfl (sT rfl (sT rfl (sT rfl (sT rfl sT0)))))) (sub_keep sub_nil)))
                        · rintro ⟨sv8, x11⟩ ⟨hsv8, hr⟩
                          show AW Hfaa.prog _ _ _ ⟨[(1, .inl (is (Sv a1))), (8, .inl (is (I64 x3))), (9, .inl (is (I64 x4))), (10, .inl (is ( sv8))), (11, .inl (is (I64 x8)))], [(37, rowc sv8 (k1 U8) 1 x11)]⟩
                          have hr : some out2 = F378_12 N a1 x3 x4 x8 x11 := hr
                          refine AW_cut (σ := Value × Bool) (fun v => ⟨[(1, .inl (is (Sv a1))), (8, .inl (is (I64 x3))), (9, .inl (is (I64 x4))), (10, .inl (is ( v.1))), (11, .inl (is (I64 x8))), (58, .inl (is (Bl v.2)))], [(37, rowc v.1 (k1 U8) 1 x11)]⟩) (fun v => isCell v.1 = true ∧ some out2 = F378_13 N a1 x3 x4 x8 x11 v.2) ?_ ?_
                          · skip
                            refine AW_region ?_
                            refine AL_cons (LR_move (at_tmp 11 _) rfl) (sS (sT1 rfl) sB0 sF0) ?_
                            refine AL_cons (LR_move (at_tmp 8 _) rfl) (sS (sT1 rfl) sB0 sF0) ?_
                            refine AL_cons (LR_bin (at_tmp 56 _) (at_tmp 57 _) (lss_I64 x8 x3) rfl) (sS (sA (sT1 rfl) (sT1 rfl)) sB0 sF0) ?_
                            refine AL_nil ?_
                            exact thenN (cutLeaf (v := (sv8, decide (x8 < x3))) ⟨hsv8, hr⟩ (weak0 ((sT rfl (sT rfl (sT rfl (sT rfl (sT rfl (sT rfl sT0))))))) (sub_keep sub_nil)))
                          · rintro ⟨sv9, x12⟩ ⟨hsv9, hr⟩
                            show AW Hfaa.prog _ _ _ ⟨[(1, .inl (is (Sv a1))), (8, .inl (is (I64 x3))), (9, .inl (is (I64 x4))), (10, .inl (is ( sv9))), (11, .inl (is (I64 x8))), (58, .inl (is (Bl x12)))], [(37, rowc sv9 (k1 U8) 1 x11)]⟩
                            have hr : some out2 = F378_13 N a1 x3 x4 x8 x11 x12 := hr
                            refine AW_condT (b := x12) rfl (fun h => ?_) (fun h => ?_)
                            · have hr := hr.trans (cond_t h)
                              clear h
                              refine AW_region ?_
                              refine AL_cons (LR_move (at_tmp 10 _) rfl) (sS (sT1 rfl) sB0 sF0) ?_
                              refine AL_cons (LR_bs1 Hfaa.underlying227 el5 (fun _ => rfl) (at_c (v' := U8 (48#8)) rfl) rfl) (sS sT0 sB0 sF0) ?_
                              obtain ⟨hg59, hr⟩ := guard_some hr
                              refine AL_consV (app_opk (K := (k1 U8)) (r := 37) (z := x11) (u := 48#8) Hfaa.underlying227 eN5 k1_len (k1_cell fun _ => rfl) (at_tmp 59 _) (at_tmp 60 _) (oneAt_k1 rfl) (of_decide_eq_true hg59) rfl rfl) (sS (sA (sT1 rfl) (sT1 rfl)) (sB1 rfl) sF0) rfl ?_
                              intro sv10 hsv10
                              refine AL_cons (LR_assign (at_tmp 61 _) rfl) (sS (sT1 rfl) sB0 sF0) ?_
                              refine AL_nil ?_
                              refine blN ?_
                              exact thenN (cutLeaf (v := (sv10, app x11 (48#8))) ⟨hsv10, hr⟩ (weak0 ((sT rfl (sT rfl (sT rfl (sT rfl (sT rfl sT0)))))) (sub_keep sub_nil)))
                            · have hr := hr.trans (cond_f h)
                              clear h
                              refine AW_region ?_
                              refine AL_cons (LR_move (at_tmp 10 _) rfl) (sS (sT1 rfl) sB0 sF0) ?_
                              refine AL_cons (LR_move (at_tmp 1 _) rfl) (sS (sT1 rfl) sB0 sF0) ?_
                              refine AL_cons (LR_move (at_tmp 11 _) rfl) (sS (sT1 rfl) sB0 sF0) ?_
                              refine AL_cons (LR_move (at_tmp 8 _) rfl) (sS (sT1 rfl) sB0 sF0) ?_
                              refine AL_cons (LR_bin (at_tmp 64 _) (at_tmp 65 _) (sub_I64 x8 x3) rfl) (sS (sA (sT1 rfl) (sT1 rfl)) sB0 sF0) ?_
                              obtain ⟨hg60, hr⟩ := guard_some hr
                              refine AL_cons (LR_indexS (i := (w64 (x8 - x3) : Int)) Hfaa.underlying9 (at_tmp 63 _) (at_tmp 66 _) (dand hg60) rfl) (sS (sA (sT1 rfl) (sT1 rfl)) sB0 sF0) ?_
                              refine AL_cons (LR_bs1 Hfaa.underlying227 el5 (fun _ => rfl) (at_tmp 67 _) rfl) (sS (sT1 rfl) sB0 sF0) ?_
                              obtain ⟨hg61, hr⟩ := guard_some hr
                              refine AL_consV (app_opk (K := (k1 U8)) (r := 37) (z := x11) (u := (a1.getD ((w64 (x8 - x3) : Int)).toNat 0).toBitVec) Hfaa.underlying227 eN5 k1_len (k1_cell fun _ => rfl) (at_tmp 62 _) (at_tmp 68 _) (oneAt_k1 rfl) (of_decide_eq_true hg61) rfl rfl) (sS (sA (sT1 rfl) (sT1 rfl)) (sB1 rfl) sF0) rfl ?_
                              intro sv11 hsv11
                              refine AL_cons (LR_assign (at_tmp 69 _) rfl) (sS (sT1 rfl) sB0 sF0) ?_
                              refine AL_nil ?_
                              refine blN ?_
                              exact thenN (cutLeaf (v := (sv11, app x11 ((a1.getD ((w64 (x8 - x3) : Int)).toNat 0).toBitVec))) ⟨hsv11, hr⟩ (weak0 ((sT rfl (sT rfl (sT rfl (sT rfl (sT rfl sT0)))))) (sub_keep sub_nil)))
                      · rintro ⟨sv7, x10⟩ ⟨hsv7, hr⟩
                        show AW Hfaa.prog _ _ _ ⟨[(1, .inl (is (Sv a1))), (8, .inl (is (I64 x3))), (9, .inl (is (I64 x4))), (10, .inl (is ( sv7))), (11, .inl (is (I64 x8)))], [(37, rowc sv7 (k1 U8) 1 x10)]⟩
                        have hr : some out2 = F378_11 N a1 x3 x4 x8 x10 := hr
                        refine AW_region ?_
                        refine AL_cons (LR_move (at_tmp 11 _) rfl) (sS (sT1 rfl) sB0 sF0) ?_
                        refine AL_cons (LR_bin (at_tmp 48 _) (at_c (v' := I64 1) rfl) (add_I64 x8 1) rfl) (sS (sA (sT1 rfl) sT0) sB0 sF0) ?_
                        refine AL_cons (LR_assign (at_tmp 49 _) rfl) (sS (sT1 rfl) sB0 sF0) ?_
                        refine AL_nil ?_
                        exact thenN (loopNextV (v' := sv7) (x' := (w64 (x8 + 1), x10)) hsv7 hr (weak0 ((sT rfl (sT rfl (sT rfl (sT rfl (sT rfl sT0)))))) (sub_keep sub_nil)))
                · rintro ⟨sv3, x7⟩ ⟨hsv3, hr⟩
                  show AW Hfaa.prog _ _ _ ⟨[(10, .inl (is ( sv3)))], [(37, rowc sv3 (k1 U8) 1 x7)]⟩
                  have hr : some r = F378_7 N x7 := hr
                  refine AW_seq1 ?_
                  refine AW_region ?_
                  refine AL_cons (LR_move (at_tmp 10 _) rfl) (sS (sT1 rfl) sB0 sF0) ?_
                  refine AL_frzRow (fun H => (nsq (k1 U8) 1 x7).p H sv3) 37 ⟨[(10, .inl (ns U8 x7)), (70, .inl (ns U8 x7))], []⟩ k1_len rfl (fun _ h => h) (cbD cb0) (ctC rfl (cv_sv (fun _ h => nsq_k1 h)) (ctC rfl (cv_sv (fun _ h => nsq_k1 h)) ct0)) ?_
                  refine AL_cons (LR_convQ Hfaa.underlying227 Hfaa.underlying5 Hfaa.underlying9 (at_tmp 70 _) rfl) (sS (sT1 rfl) sB0 sF0) ?_
                  refine AL_cons (LR_assign (at_tmp 71 _) rfl) (sS (sT1 rfl) sB0 sF0) ?_
                  refine AL_nil ?_
                  refine thenN ?_
                  refine AW_ret ?_
                  obtain rfl := Option.some.inj hr
                  exact res1 rfl (rvT rfl)
end Go.Proofs.YfwaawGreat
