import Derived.Test.YfwaawGreatG26
import Derived.Test.YfwaawGreatG28
import Derived.Test.YfwaawGreatG48
namespace Go.Proofs.YfwaawGreat
open Go.Aw
set_option linter.unusedVariables false
set_option maxRecDepth 100000
set_option maxHeartbeats 1000000
/-- (*expand.expansion).enough -/
def F373_1 (b0_0 : Nat → BitVec 8) (b0_1 : Int) (b0_2 : Int) (b0_3 : Int) (b0_4 : Int) (x1 : Bool) : Bool × (Nat → BitVec 8) × Int × Int × Int × Int := (x1, b0_0, b0_1, b0_2, b0_3, b0_4)
def F373 (b0_0 : Nat → BitVec 8) (b0_1 : Int) (b0_2 : Int) (b0_3 : Int) (b0_4 : Int) (a1 : Int) : Bool × (Nat → BitVec 8) × Int × Int × Int × Int := bif decide (b0_1 > b0_3) then F373_1 b0_0 b0_1 b0_2 b0_3 b0_4 true else F373_1 b0_0 b0_1 b0_2 b0_3 b0_4 (decide (a1 > b0_4))
theorem C373 (b0_0 : Nat → BitVec 8) (b0_1 : Int) (b0_2 : Int) (b0_3 : Int) (b0_4 : Int) (a1 : Int) (r : Bool × (Nat → BitVec 8) × Int × Int × Int × Int) (hr : r = F373 b0_0 b0_1 b0_2 b0_3 b0_4 a1) : FnB Hfaa.prog 373 [.inr (.inl (0, 0)), .inl (is (I64 a1))] [(0, pb 215 (ar U8 1441 b0_0 ++ (is (I64 b0_1) :: (is (I64 b0_2) :: (is (I64 b0_3) :: (is (I64 b0_4) :: []))))))] (is (Bl r.1)) [(0, pb 215 (ar U8 1441 r.2.1 ++ (is (I64 r.2.2.1) :: (is (I64 r.2.2.2.1) :: (is (I64 r.2.2.2.2.1) :: (is (I64 r.2.2.2.2.2) :: []))))))] := by
  refine fnB_intro Hfaa.func373 rfl rfl rfl rfl rfl ⟨hf_pb _ _, trivial⟩ ?_
  intro bn0 w0 H0
  refine AW_seq1 ?_
  refine AW_region ?_
  refine AL_cons (LR_assign (at_c (v' := Bl false) rfl) rfl) (sS sT0 sB0 sF0) ?_
  refine AL_nil ?_
  refine thenN ?_
  refine AW_cut (σ := Bool) (fun v => ⟨[(4, .inl (is (Bl v)))], [(0, pb 215 (ar U8 1441 b0_0 ++ (is (I64 b0_1) :: (is (I64 b0_2) :: (is (I64 b0_3) :: (is (I64 b0_4) :: []))))))]⟩) (fun v => r = F373_1 b0_0 b0_1 b0_2 b0_3 b0_4 v) ?_ ?_
  · skip
    rcases bool_em (decide (b0_1 > b0_3)) with hb2 | hb2
    · have hr := hr.trans (cond_f hb2)
      refine AW_draw mixed
        (lrC (LR_move (at_tmp 0 _) rfl)
        (lrC (LR_nilCheck (at_tmp 5 _) rfl)
        (lrC (LR_fieldAddr (off := 0) (o := 1441) (at_tmp 6 _) (fun b w => fa215_1 b 0 w) rfl)
        (lrC (LR_load (at_tmp 7 _) na3 (gP g0) rfl)
        (lrC (LR_move (at_tmp 0 _) rfl)
        (lrC (LR_nilCheck (at_tmp 9 _) rfl)
        (lrC (LR_fieldAddr (off := 0) (o := 1443) (at_tmp 10 _) (fun b w => fa215_3 b 0 w) rfl)
        (lrC (LR_load (at_tmp 11 _) na3 (gP (gS (gS g0))) rfl)
        (lrC (LR_asB (LR_bin (at_tmp 8 _) (at_tmp 12 _) (gtr_I64 b0_1 b0_3) rfl) hb2)
        (lrC (LR_move (at_tmp 13 _) rfl)
        (lrC (LR_on rfl rfl rfl (LR_move (at_tmp 1 _) rfl))
        (lrC (LR_on rfl rfl rfl (LR_move (at_tmp 0 _) rfl))
        (lrC (LR_on rfl rfl rfl (LR_nilCheck (at_tmp 16 _) rfl))
        (lrC (LR_on rfl rfl rfl (LR_fieldAddr (off := 0) (o := 1444) (at_tmp 17 _) (fun b w => fa215_4 b 0 w) rfl))
        (lrC (LR_on rfl rfl rfl (LR_load (at_tmp 18 _) na3 (gP (gS (gS (gS g0)))) rfl))
        (lrC (LR_on rfl rfl rfl (LR_bin (at_tmp 15 _) (at_tmp 19 _) (gtr_I64 a1 b0_4) rfl))
        (lrC (LR_pick (b := false) (at_tmp 14 _) (at_c (v' := Bl true) rfl) (at_tmp 20 _) rfl)
        (lrC (LR_assign (at_tmp 21 _) rfl)
        lrN))))))))))))))))))
        (by kernel_rfl)
        (saC (sS (sT1 rfl) sB0 sF0) (saC (sS (sT1 rfl) sB0 sF0) (saC (sS (sT1 rfl) sB0 sF0) (saC (sS (sT1 rfl) (sB1 rfl) sF0) (saC (sS (sT1 rfl) sB0 sF0) (saC (sS (sT1 rfl) sB0 sF0) (saC (sS (sT1 rfl) sB0 sF0) (saC (sS (sT1 rfl) (sB1 rfl) sF0) (saC (sS (sA (sT1 rfl) (sT1 rfl)) sB0 sF0) (saC (sS (sT1 rfl) sB0 sF0) (saC (sS (sT rfl (sT1 rfl)) sB0 sF0) (saC (sS (sT rfl (sT1 rfl)) sB0 sF0) (saC (sS (sT rfl (sT1 rfl)) sB0 sF0) (saC (sS (sT rfl (sT1 rfl)) sB0 sF0) (saC (sS (sT rfl (sT1 rfl)) (sB1 rfl) sF0) (saC (sS (sT rfl (sA (sT1 rfl) (sT1 rfl))) sB0 sF0) (saC (sS (sA (sT1 rfl) (sA sT0 (sT1 rfl))) sB0 sF0) (saC (sS (sT1 rfl) sB0 sF0) saN)))))))))))))))))) ?_
      exact thenN (cutLeaf (v := decide (a1 > b0_4)) hr (weakB ((sT rfl sT0)) (sub_keep sub_nil) rfl))
    · have hr := hr.trans (cond_t hb2)
      refine AW_draw mixed
        (lrC (LR_move (at_tmp 0 _) rfl)
        (lrC (LR_nilCheck (at_tmp 5 _) rfl)
        (lrC (LR_fieldAddr (off := 0) (o := 1441) (at_tmp 6 _) (fun b w => fa215_1 b 0 w) rfl)
        (lrC (LR_load (at_tmp 7 _) na3 (gP g0) rfl)
        (lrC (LR_move (at_tmp 0 _) rfl)
        (lrC (LR_nilCheck (at_tmp 9 _) rfl)
        (lrC (LR_fieldAddr (off := 0) (o := 1443) (at_tmp 10 _) (fun b w => fa215_3 b 0 w) rfl)
        (lrC (LR_load (at_tmp 11 _) na3 (gP (gS (gS g0))) rfl)
        (lrC (LR_asB (LR_bin (at_tmp 8 _) (at_tmp 12 _) (gtr_I64 b0_1 b0_3) rfl) hb2)
        (lrC (LR_move (at_tmp 13 _) rfl)
        (lrC (LR_off (b := true) rfl rfl rfl rfl)
        (lrC (LR_off (b := true) rfl rfl rfl rfl)
        (lrC (LR_off (b := true) rfl rfl rfl rfl)
        (lrC (LR_off (b := true) rfl rfl rfl rfl)
        (lrC (LR_off (b := true) rfl rfl rfl rfl)
        (lrC (LR_off (b := true) rfl rfl rfl rfl)
        (lrC (LR_pick (b := true) (at_tmp 14 _) (at_c (v' := Bl true) rfl) (at_tmp 20 _) rfl)
        (lrC (LR_assign (at_tmp 21 _) rfl)
        lrN))))))))))))))))))
        (by kernel_rfl)
        (saC (sS (sT1 rfl) sB0 sF0) (saC (sS (sT1 rfl) sB0 sF0) (saC (sS (sT1 rfl) sB0 sF0) (saC (sS (sT1 rfl) (sB1 rfl) sF0) (saC (sS (sT1 rfl) sB0 sF0) (saC (sS (sT1 rfl) sB0 sF0) (saC (sS (sT1 rfl) sB0 sF0) (saC (sS (sT1 rfl) (sB1 rfl) sF0) (saC (sS (sA (sT1 rfl) (sT1 rfl)) sB0 sF0) (saC (sS (sT1 rfl) sB0 sF0) (saC (sS (sT1 rfl) sB0 sF0) (saC (sS (sT1 rfl) sB0 sF0) (saC (sS (sT1 rfl) sB0 sF0) (saC (sS (sT1 rfl) sB0 sF0) (saC (sS (sT1 rfl) sB0 sF0) (saC (sS (sT1 rfl) sB0 sF0) (saC (sS (sA (sT1 rfl) (sA sT0 (sT1 rfl))) sB0 sF0) (saC (sS (sT1 rfl) sB0 sF0) saN)))))))))))))))))) ?_
      exact thenN (cutLeaf (v := true) hr (weakB ((sT rfl sT0)) (sub_keep sub_nil) rfl))
  · rintro x1 hr
    show AW Hfaa.prog _ _ _ ⟨[(4, .inl (is (Bl x1)))], [(0, pb 215 (ar U8 1441 b0_0 ++ (is (I64 b0_1) :: (is (I64 b0_2) :: (is (I64 b0_3) :: (is (I64 b0_4) :: []))))))]⟩
    have hr : r = F373_1 b0_0 b0_1 b0_2 b0_3 b0_4 x1 := hr
    refine AW_ret ?_
    subst hr
    exact ⟨res1 rfl (rvT rfl), (sub_keep sub_nil)⟩
/-- (*expand.expansion).fraction -/
def F283_8 (N : Nat) (x9 : Int) (x16 : Int) (x17 : Int) (x18 : Nat → BitVec 8) (x19 : Int) (x20 : Int) (x21 : Int) (x22 : Int) (x23 : Nat → BitVec 64) : Option ((Int × Int × Int × (Nat → BitVec 8) × Int × Int × Int × Int × (Nat → BitVec 64)) ⊕ ((Nat → BitVec 8) × Int × Int × Int × Int)) := some (.inl ((x16, x17, w64 (x9 + 1), x18, x19, x20, x21, x22, x23)))
def F283_12 (N : Nat) (x9 : Int) (x24 : Int) (x25 : Nat → BitVec 8) (x26 : Int) (x27 : Int) (x28 : Int) (x29 : Int) (x32 : Int) (x33 : BitVec 64) (x34 : Nat → BitVec 64) : Option ((Int × Int × Int × (Nat → BitVec 8) × Int × Int × Int × Int × (Nat → BitVec 64)) ⊕ ((Nat → BitVec 8) × Int × Int × Int × Int)) := (F282 N x25 x26 x27 x28 x29 x33 true).bind fun y292 => F283_8 N x9 x24 x32 y292.1 y292.2.1 y292.2.2.1 y292.2.2.2.1 y292.2.2.2.2 x34
def F283_14 (N : Nat) (x8 : Int) (x9 : Int) (x24 : Int) (x25 : Nat → BitVec 8) (x26 : Int) (x27 : Int) (x28 : Int) (x29 : Int) (x36 : Nat → BitVec 64) : Option ((Int × Int × Int × (Nat → BitVec 8) × Int × Int × Int × Int × (Nat → BitVec 64)) ⊕ ((Nat → BitVec 8) × Int × Int × Int × Int)) := F283_12 N x9 x24 x25 x26 x27 x28 x29 (w64 (x8 + 1)) (0#64) x36
def F283_13 (N : Nat) (x8 : Int) (x9 : Int) (x24 : Int) (x25 : Nat → BitVec 8) (x26 : Int) (x27 : Int) (x28 : Int) (x29 : Int) (x30 : BitVec 64) (x31 : Nat → BitVec 64) (x35 : Bool) : Option ((Int × Int × Int × (Nat → BitVec 8) × Int × Int × Int × Int × (Nat → BitVec 64)) ⊕ ((Nat → BitVec 8) × Int × Int × Int × Int)) := bif x35 then bif (decide (0 ≤ x8) && decide (x8 < (18 : Int))) then F283_14 N x8 x9 x24 x25 x26 x27 x28 x29 (upd x31 x8.toNat x30) else none else F283_12 N x9 x24 x25 x26 x27 x28 x29 x8 x30 x31
def F283_11 (N : Nat) (x8 : Int) (x9 : Int) (x24 : Int) (x25 : Nat → BitVec 8) (x26 : Int) (x27 : Int) (x28 : Int) (x29 : Int) (x30 : BitVec 64) (x31 : Nat → BitVec 64) : Option ((Int × Int × Int × (Nat → BitVec 8) × Int × Int × Int × Int × (Nat → BitVec 64)) ⊕ ((Nat → BitVec 8) × Int × Int × Int × Int)) := F283_13 N x8 x9 x24 x25 x26 x27 x28 x29 x30 x31 ((decide (x8 < 18)) && (x30 != (0#64)))
def F283_17 (N : Nat) (x8 : Int) (x9 : Int) (x24 : Int) (x25 : Nat → BitVec 8) (x26 : Int) (x27 : Int) (x28 : Int) (x29 : Int) (x38 : Int) (x41 : BitVec 64) (x42 : Nat → BitVec 64) : Option ((BitVec 64 × Int × (Nat → BitVec 64)) ⊕ ((Int × Int × Int × (Nat → BitVec 8) × Int × Int × Int × Int × (Nat → BitVec 64)) ⊕ ((Nat → BitVec 8) × Int × Int × Int × Int))) := some (.inl ((x41, w64 (x38 + 1), x42)))
def F283_18 (N : Nat) (x8 : Int) (x9 : Int) (x24 : Int) (x25 : Nat → BitVec 8) (x26 : Int) (x27 : Int) (x28 : Int) (x29 : Int) (x38 : Int) (x39 : Nat → BitVec 64) (x43 : BitVec 64) (x44 : BitVec 64) : Option ((BitVec 64 × Int × (Nat → BitVec 64)) ⊕ ((Int × Int × Int × (Nat → BitVec 8) × Int × Int × Int × Int × (Nat → BitVec 64)) ⊕ ((Nat → BitVec 8) × Int × Int × Int × Int))) := bif (decide (0 ≤ x38) && decide (x38 < (18 : Int))) then F283_17 N x8 x9 x24 x25 x26 x27 x28 x29 x38 x43 (upd x39 x38.toNat x44) else none
def F283_16 (N : Nat) (x8 : Int) (x9 : Int) (x24 : Int) (x25 : Nat → BitVec 8) (x26 : Int) (x27 : Int) (x28 : Int) (x29 : Int) (x37 : BitVec 64) (x38 : Int) (x39 : Nat → BitVec 64) (x40 : Bool) : Option ((BitVec 64 × Int × (Nat → BitVec 64)) ⊕ ((Int × Int × Int × (Nat → BitVec 8) × Int × Int × Int × Int × (Nat → BitVec 64)) ⊕ ((Nat → BitVec 8) × Int × Int × Int × Int))) := bif x40 then bif (decide (0 ≤ x38) && decide (x38 < (18 : Int))) then lt (F165 (x39 x38.toNat) (1000000000000000000#64)) fun y315 => lt (F166 y315.1 y315.2 (0#64) x37) fun y316 => F283_18 N x8 x9 x24 x25 x26 x27 x28 x29 x38 x39 y316.1 y316.2.1 else none else (F283_11 N x8 x9 x24 x25 x26 x27 x28 x29 x37 x39).map Sum.inr
def F283_L15b (N : Nat) (x8 : Int) (x9 : Int) (x24 : Int) (x25 : Nat → BitVec 8) (x26 : Int) (x27 : Int) (x28 : Int) (x29 : Int) (x37 : BitVec 64) (x38 : Int) (x39 : Nat → BitVec 64) : Option ((BitVec 64 × Int × (Nat → BitVec 64)) ⊕ ((Int × Int × Int × (Nat → BitVec 8) × Int × Int × Int × Int × (Nat → BitVec 64)) ⊕ ((Nat → BitVec 8) × Int × Int × Int × Int))) := F283_16 N x8 x9 x24 x25 x26 x27 x28 x29 x37 x38 x39 (decide (x38 < x8))
def F283_L15 (N : Nat) (x8 : Int) (x9 : Int) (x24 : Int) (x25 : Nat → BitVec 8) (x26 : Int) (x27 : Int) (x28 : Int) (x29 : Int) : (BitVec 64 × Int × (Nat → BitVec 64)) → Option ((BitVec 64 × Int × (Nat → BitVec 64)) ⊕ ((Int × Int × Int × (Nat → BitVec 8) × Int × Int × Int × Int × (Nat → BitVec 64)) ⊕ ((Nat → BitVec 8) × Int × Int × Int × Int))) := fun v => F283_L15b N x8 x9 x24 x25 x26 x27 x28 x29 v.1 v.2.1 v.2.2
def F283_10 (N : Nat) (x8 : Int) (x9 : Int) (x15 : Nat → BitVec 64) (x24 : Int) (x25 : Nat → BitVec 8) (x26 : Int) (x27 : Int) (x28 : Int) (x29 : Int) : Option ((Int × Int × Int × (Nat → BitVec 8) × Int × Int × Int × Int × (Nat → BitVec 64)) ⊕ ((Nat → BitVec 8) × Int × Int × Int × Int)) := iterL (F283_L15 N x8 x9 x24 x25 x26 x27 x28 x29) N (0#64, x24, x15)
def F283_21 (N : Nat) (x48 : Int) (x49 : Int) (x50 : Int) (x51 : Int) (x52 : Nat → BitVec 8) : Option ((Int × Int × Int × (Nat → BitVec 8) × Int × Int × Int × Int × (Nat → BitVec 64)) ⊕ ((Nat → BitVec 8) × Int × Int × Int × Int)) := (some ((x52, w64 (x48 + 1), x49, x50, x51))).map Sum.inr
def F283_20 (N : Nat) (x8 : Int) (x9 : Int) (x15 : Nat → BitVec 64) (x24 : Int) (x46 : Bool) (x47 : Nat → BitVec 8) (x48 : Int) (x49 : Int) (x50 : Int) (x51 : Int) : Option ((Int × Int × Int × (Nat → BitVec 8) × Int × Int × Int × Int × (Nat → BitVec 64)) ⊕ ((Nat → BitVec 8) × Int × Int × Int × Int)) := bif x46 then bif (decide (0 ≤ x48) && decide (x48 < (1441 : Int))) then F283_21 N x48 x49 x50 x51 (upd x47 x48.toNat (49#8)) else none else F283_10 N x8 x9 x15 x24 x47 x48 x49 x50 x51
def F283_19 (N : Nat) (x8 : Int) (x9 : Int) (x10 : Nat → BitVec 8) (x11 : Int) (x12 : Int) (x13 : Int) (x14 : Int) (x15 : Nat → BitVec 64) (x24 : Int) (x45 : Bool) : Option ((Int × Int × Int × (Nat → BitVec 8) × Int × Int × Int × Int × (Nat → BitVec 64)) ⊕ ((Nat → BitVec 8) × Int × Int × Int × Int)) := bif x45 then (some (x10, x11, x12, x13, x14)).map Sum.inr else lt (F373 x10 x11 x12 x13 x14 (w64 ((w64 (x9 - 1)) * 18))) fun y318 => F283_20 N x8 x9 x15 x24 y318.1 y318.2.1 y318.2.2.1 y318.2.2.2.1 y318.2.2.2.2.1 y318.2.2.2.2.2
def F283_9 (N : Nat) (x8 : Int) (x9 : Int) (x10 : Nat → BitVec 8) (x11 : Int) (x12 : Int) (x13 : Int) (x14 : Int) (x15 : Nat → BitVec 64) (x24 : Int) : Option ((Int × Int × Int × (Nat → BitVec 8) × Int × Int × Int × Int × (Nat → BitVec 64)) ⊕ ((Nat → BitVec 8) × Int × Int × Int × Int)) := F283_19 N x8 x9 x10 x11 x12 x13 x14 x15 x24 (x24 == x8)
def F283_23 (N : Nat) (x8 : Int) (x9 : Int) (x10 : Nat → BitVec 8) (x11 : Int) (x12 : Int) (x13 : Int) (x14 : Int) (x15 : Nat → BitVec 64) (x53 : Int) (x54 : Bool) : Option ((Int) ⊕ ((Int × Int × Int × (Nat → BitVec 8) × Int × Int × Int × Int × (Nat → BitVec 64)) ⊕ ((Nat → BitVec 8) × Int × Int × Int × Int))) := bif x54 then some (.inl (w64 (x53 + 1))) else (F283_9 N x8 x9 x10 x11 x12 x13 x14 x15 x53).map Sum.inr
def F283_L22b (N : Nat) (x8 : Int) (x9 : Int) (x10 : Nat → BitVec 8) (x11 : Int) (x12 : Int) (x13 : Int) (x14 : Int) (x15 : Nat → BitVec 64) (x53 : Int) : Option ((Int) ⊕ ((Int × Int × Int × (Nat → BitVec 8) × Int × Int × Int × Int × (Nat → BitVec 64)) ⊕ ((Nat → BitVec 8) × Int × Int × Int × Int))) := bif decide (x53 < x8) then bif (decide (0 ≤ x53) && decide (x53 < (18 : Int))) then F283_23 N x8 x9 x10 x11 x12 x13 x14 x15 x53 ((x15 x53.toNat) == (0#64)) else none else F283_23 N x8 x9 x10 x11 x12 x13 x14 x15 x53 false
def F283_L22 (N : Nat) (x8 : Int) (x9 : Int) (x10 : Nat → BitVec 8) (x11 : Int) (x12 : Int) (x13 : Int) (x14 : Int) (x15 : Nat → BitVec 64) : (Int) → Option ((Int) ⊕ ((Int × Int × Int × (Nat → BitVec 8) × Int × Int × Int × Int × (Nat → BitVec 64)) ⊕ ((Nat → BitVec 8) × Int × Int × Int × Int))) := fun v => F283_L22b N x8 x9 x10 x11 x12 x13 x14 x15 v
def F283_L7b (N : Nat) (x7 : Int) (x8 : Int) (x9 : Int) (x10 : Nat → BitVec 8) (x11 : Int) (x12 : Int) (x13 : Int) (x14 : Int) (x15 : Nat → BitVec 64) : Option ((Int × Int × Int × (Nat → BitVec 8) × Int × Int × Int × Int × (Nat → BitVec 64)) ⊕ ((Nat → BitVec 8) × Int × Int × Int × Int)) := iterL (F283_L22 N x8 x9 x10 x11 x12 x13 x14 x15) N x7
def F283_L7 (N : Nat) : (Int × Int × Int × (Nat → BitVec 8) × Int × Int × Int × Int × (Nat → BitVec 64)) → Option ((Int × Int × Int × (Nat → BitVec 8) × Int × Int × Int × Int × (Nat → BitVec 64)) ⊕ ((Nat → BitVec 8) × Int × Int × Int × Int)) := fun v => F283_L7b N v.1 v.2.1 v.2.2.1 v.2.2.2.1 v.2.2.2.2.1 v.2.2.2.2.2.1 v.2.2.2.2.2.2.1 v.2.2.2.2.2.2.2.1 v.2.2.2.2.2.2.2.2
def F283_6 (N : Nat) (b0_0 : Nat → BitVec 8) (b0_1 : Int) (b0_2 : Int) (b0_3 : Int) (b0_4 : Int) (x4 : Nat → BitVec 64) (x6 : Int) : Option ((Nat → BitVec 8) × Int × Int × Int × Int) := iterL (F283_L7 N) N (0, x6, 1, b0_0, b0_1, b0_2, b0_3, b0_4, x4)
def F283_24 (N : Nat) (b0_0 : Nat → BitVec 8) (b0_1 : Int) (b0_2 : Int) (b0_3 : Int) (b0_4 : Int) (x4 : Nat → BitVec 64) (x5 : Int) (x55 : Bool) : Option ((Nat → BitVec 8) × Int × Int × Int × Int) := bif x55 then F283_6 N b0_0 b0_1 b0_2 b0_3 b0_4 x4 (w64 (x5 + 1)) else F283_6 N b0_0 b0_1 b0_2 b0_3 b0_4 x4 x5
def F283_5 (N : Nat) (b0_0 : Nat → BitVec 8) (b0_1 : Int) (b0_2 : Int) (b0_3 : Int) (b0_4 : Int) (x2 : Int) (x4 : Nat → BitVec 64) (x5 : Int) : Option ((Nat → BitVec 8) × Int × Int × Int × Int) := F283_24 N b0_0 b0_1 b0_2 b0_3 b0_4 x4 x5 (((x2.tmod 64) != 0) && (decide (x5 < 18)))
def F283_4 (N : Nat) (b0_0 : Nat → BitVec 8) (b0_1 : Int) (b0_2 : Int) (b0_3 : Int) (b0_4 : Int) (x2 : Int) (x4 : Nat → BitVec 64) : Option ((Nat → BitVec 8) × Int × Int × Int × Int) := F283_5 N b0_0 b0_1 b0_2 b0_3 b0_4 x2 x4 (w64 ((w64 (w16 (x2.tdiv 64))) + 1))
def F283_25 (N : Nat) (b0_0 : Nat → BitVec 8) (b0_1 : Int) (b0_2 : Int) (b0_3 : Int) (b0_4 : Int) (a1 : BitVec 64) (x2 : Int) (x3 : Nat → BitVec 64) (x56 : Bool) : Option ((Nat → BitVec 8) × Int × Int × Int × Int) := bif x56 then bif decide (0 ≤ (w16 (64 - (x2.tmod 64)))) then bif (decide (0 ≤ w16 ((w16 (x2.tdiv 64)) + 1)) && decide (w16 ((w16 (x2.tdiv 64)) + 1) < (18 : Int))) then F283_4 N b0_0 b0_1 b0_2 b0_3 b0_4 x2 (upd x3 ((w16 ((w16 (x2.tdiv 64)) + 1)).toNat) (a1 >>> (w16 (64 - (x2.tmod 64))).toNat)) else none else none else F283_4 N b0_0 b0_1 b0_2 b0_3 b0_4 x2 x3
def F283_3 (N : Nat) (b0_0 : Nat → BitVec 8) (b0_1 : Int) (b0_2 : Int) (b0_3 : Int) (b0_4 : Int) (a1 : BitVec 64) (x2 : Int) (x3 : Nat → BitVec 64) : Option ((Nat → BitVec 8) × Int × Int × Int × Int) := F283_25 N b0_0 b0_1 b0_2 b0_3 b0_4 a1 x2 x3 (((x2.tmod 64) != 0) && (decide ((w16 ((w16 (x2.tdiv 64)) + 1)) < 18)))
def F283_2 (N : Nat) (b0_0 : Nat → BitVec 8) (b0_1 : Int) (b0_2 : Int) (b0_3 : Int) (b0_4 : Int) (a1 : BitVec 64) (x1 : Nat → BitVec 64) (x2 : Int) : Option ((Nat → BitVec 8) × Int × Int × Int × Int) := bif decide (0 ≤ (x2.tmod 64)) then bif (decide (0 ≤ w16 (x2.tdiv 64)) && decide (w16 (x2.tdiv 64) < (18 : Int))) then F283_3 N b0_0 b0_1 b0_2 b0_3 b0_4 a1 x2 (upd x1 ((w16 (x2.tdiv 64)).toNat) (a1 <<< (x2.tmod 64).toNat)) else none else none
def F283_1 (N : Nat) (b0_0 : Nat → BitVec 8) (b0_1 : Int) (b0_2 : Int) (b0_3 : Int) (b0_4 : Int) (a1 : BitVec 64) (a2 : Int) (x1 : Nat → BitVec 64) : Option ((Nat → BitVec 8) × Int × Int × Int × Int) := F283_2 N b0_0 b0_1 b0_2 b0_3 b0_4 a1 x1 (w16 (1152 - a2))
def F283 (N : Nat) (b0_0 : Nat → BitVec 8) (b0_1 : Int) (b0_2 : Int) (b0_3 : Int) (b0_4 : Int) (a1 : BitVec 64) (a2 : Int) : Option ((Nat → BitVec 8) × Int × Int × Int × Int) := F283_1 N b0_0 b0_1 b0_2 b0_3 b0_4 a1 a2 (fun _ => 0#64)
theorem C283 (N : Nat) (b0_0 : Nat → BitVec 8) (b0_1 : Int) (b0_2 : Int) (b0_3 : Int) (b0_4 : Int) (a1 : BitVec 64) (a2 : Int) (r : (Nat → BitVec 8) × Int × Int × Int × Int) (hr : some r = F283 N b0_0 b0_1 b0_2 b0_3 b0_4 a1 a2) : FnB Hfaa.prog 283 [.inr (.inl (0, 0)), .inl (is (U64 a1)), .inl (is (I16 a2))] [(0, pb 215 (ar U8 1441 b0_0 ++ (is (I64 b0_1) :: (is (I64 b0_2) :: (is (I64 b0_3) :: (is (I64 b0_4) :: []))))))] (tup []) [(0, pb 215 (ar U8 1441 r.1 ++ (is (I64 r.2.1) :: (is (I64 r.2.2.1) :: (is (I64 r.2.2.2.1) :: (is (I64 r.2.2.2.2) :: []))))))] := by
  refine fnB_intro Hfaa.func283 rfl rfl rfl rfl rfl ⟨hf_pb _ _, trivial⟩ ?_
  intro bn0 w0 H0
  refine AW_cut (σ := (Nat → BitVec 64)) (fun v => ⟨[(0, .inr (.inl (0, 0))), (1, .inl (is (U64 a1))), (2, .inl (is (I16 a2))), (6, .inr (.inl (6, 0)))], [(0, pb 215 (ar U8 1441 b0_0 ++ (is (I64 b0_1) :: (is (I64 b0_2) :: (is (I64 b0_3) :: (is (I64 b0_4) :: [])))))), (6, pb 340 (ar U64 18 v ++ []))]⟩) (fun v => some r = F283_1 N b0_0 b0_1 b0_2 b0_3 b0_4 a1 a2 v) ?_ ?_
  · skip
    refine AW_region ?_
    refine AL_cons (zl340 rfl) (sS sT0 sB0 (sF1 rfl)) ?_
    refine AL_nil ?_
    exact thenN (cutLeaf (v := fun _ => 0#64) hr (weakB ((sT rfl (sT rfl (sT rfl (sT rfl sT0))))) (sub_keep (sub_keep sub_nil)) rfl))
  · rintro x1 hr
    show AW Hfaa.prog _ _ _ ⟨[(0, .inr (.inl (0, 0))), (1, .inl (is (U64 a1))), (2, .inl (is (I16 a2))), (6, .inr (.inl (6, 0)))], [(0, pb 215 (ar U8 1441 b0_0 ++ (is (I64 b0_1) :: (is (I64 b0_2) :: (is (I64 b0_3) :: (is (I64 b0_4) :: [])))))), (6, pb 340 (ar U64 18 x1 ++ []))]⟩
    have hr : some r = F283_1 N b0_0 b0_1 b0_2 b0_3 b0_4 a1 a2 x1 := hr
    refine AW_cut (σ := Int) (fun v => ⟨[(0, .inr (.inl (0, 0))), (1, .inl (is (U64 a1))), (6, .inr (.inl (6, 0))), (7, .inl (is (I16 v)))], [(0, pb 215 (ar U8 1441 b0_0 ++ (is (I64 b0_1) :: (is (I64 b0_2) :: (is (I64 b0_3) :: (is (I64 b0_4) :: [])))))), (6, pb 340 (ar U64 18 x1 ++ []))]⟩) (fun v => some r = F283_2 N b0_0 b0_1 b0_2 b0_3 b0_4 a1 x1 v) ?_ ?_
    · skip
      refine AW_region ?_
      refine AL_cons (LR_move (at_tmp 2 _) rfl) (sS (sT1 rfl) sB0 sF0) ?_
      refine AL_cons (LR_bin (at_c (v' := I16 1152) rfl) (at_tmp 15 _) (sub_I16 1152 a2) rfl) (sS (sA sT0 (sT1 rfl)) sB0 sF0) ?_
      refine AL_cons (LR_assign (at_tmp 16 _) rfl) (sS (sT1 rfl) sB0 sF0) ?_
      refine AL_nil ?_
      exact thenN (cutLeaf (v := w16 (1152 - a2)) hr (weakB ((sT rfl (sT rfl (sT rfl (sT rfl sT0))))) (sub_keep (sub_keep sub_nil)) rfl))
    · rintro x2 hr
      show AW Hfaa.prog _ _ _ ⟨[(0, .inr (.inl (0, 0))), (1, .inl (is (U64 a1))), (6, .inr (.inl (6, 0))), (7, .inl (is (I16 x2)))], [(0, pb 215 (ar U8 1441 b0_0 ++ (is (I64 b0_1) :: (is (I64 b0_2) :: (is (I64 b0_3) :: (is (I64 b0_4) :: [])))))), (6, pb 340 (ar U64 18 x1 ++ []))]⟩
      have hr : some r = F283_2 N b0_0 b0_1 b0_2 b0_3 b0_4 a1 x1 x2 := hr
      refine AW_cut (σ := (Nat → BitVec 64)) (fun v => ⟨[(0, .inr (.inl (0, 0))), (1, .inl (is (U64 a1))), (6, .inr (.inl (6, 0))), (7, .inl (is (I16 x2)))], [(0, pb 215 (ar U8 1441 b0_0 ++ (is (I64 b0_1) :: (is (I64 b0_2) :: (is (I64 b0_3) :: (is (I64 b0_4) :: [])))))), (6, pb 340 (ar U64 18 v ++ []))]⟩) (fun v => some r = F283_3 N b0_0 b0_1 b0_2 b0_3 b0_4 a1 x2 v) ?_ ?_
      · skip
        refine AW_region ?_
        refine AL_cons (LR_move (at_tmp 7 _) rfl) (sS (sT1 rfl) sB0 sF0) ?_
        refine AL_cons (LR_bin (at_tmp 17 _) (at_c (v' := I16 64) rfl) (quo_I16 x2 64 (by decide)) rfl) (sS (sA (sT1 rfl) sT0) sB0 sF0) ?_
        refine AL_cons (LR_move (at_tmp 1 _) rfl) (sS (sT1 rfl) sB0 sF0) ?_
        refine AL_cons (LR_move (at_tmp 7 _) rfl) (sS (sT1 rfl) sB0 sF0) ?_
        refine AL_cons (LR_bin (at_tmp 20 _) (at_c (v' := I16 64) rfl) (rem_I16 x2 64 (by decide)) rfl) (sS (sA (sT1 rfl) sT0) sB0 sF0) ?_
        obtain ⟨hg463, hr⟩ := guard_some hr
        refine AL_cons (LR_bin (at_tmp 19 _) (at_tmp 21 _) (shl_U64 a1 (x2.tmod 64) (of_decide_eq_true hg463)) rfl) (sS (sA (sT1 rfl) (sT1 rfl)) sB0 sF0) ?_
        obtain ⟨hg464, hr⟩ := guard_some hr
        refine AL_cons (LR_indexAddr (o := (w16 (x2.tdiv 64)).toNat) Hfaa.underlying340 sz30 (at_tmp 6 _) (at_tmp 18 _) (dand hg464) (by first | rfl | omega) rfl) (sS (sA (sT1 rfl) (sT1 rfl)) sB0 sF0) ?_
        refine AL_cons (LR_storeA (at_tmp 23 _) (at_tmp 22 _) (cells_one (one_is rfl)) (onC (one_is rfl) onN) sz30 rfl (ble_dyn (lnA ln0) (by have := (ltn (dand hg464)); omega)) (stA (ltn (dand hg464)))) (sS (sA (sT1 rfl) (sT1 rfl)) (sB1 rfl) sF0) ?_
        refine AL_nil ?_
        exact thenN (cutLeaf (v := upd x1 ((w16 (x2.tdiv 64)).toNat) (a1 <<< (x2.tmod 64).toNat)) hr (weakB ((sT rfl (sT rfl (sT rfl (sT rfl sT0))))) (sub_keep (sub_keep sub_nil)) rfl))
      · rintro x3 hr
        show AW Hfaa.prog _ _ _ ⟨[(0, .inr (.inl (0, 0))), (1, .inl (is (U64 a1))), (6, .inr (.inl (6, 0))), (7, .inl (is (I16 x2)))], [(0, pb 215 (ar U8 1441 b0_0 ++ (is (I64 b0_1) :: (is (I64 b0_2) :: (is (I64 b0_3) :: (is (I64 b0_4) :: [])))))), (6, pb 340 (ar U64 18 x3 ++ []))]⟩
        have hr : some r = F283_3 N b0_0 b0_1 b0_2 b0_3 b0_4 a1 x2 x3 := hr
        refine AW_cut (σ := (Nat → BitVec 64)) (fun v => ⟨[(0, .inr (.inl (0, 0))), (6, .inr (.inl (6, 0))), (7, .inl (is (I16 x2)))], [(0, pb 215 (ar U8 1441 b0_0 ++ (is (I64 b0_1) :: (is (I64 b0_2) :: (is (I64 b0_3) :: (is (I64 b0_4) :: [])))))), (6, pb 340 (ar U64 18 v ++ []))]⟩) (fun v => some r = F283_4 N b0_0 b0_1 b0_2 b0_3 b0_4 x2 v) ?_ ?_
        · skip
          refine AW_cut (σ := Bool) (fun v => ⟨[(0, .inr (.inl (0, 0))), (1, .inl (is (U64 a1))), (6, .inr (.inl (6, 0))), (7, .inl (is (I16 x2))), (32, .inl (is (Bl v)))], [(0, pb 215 (ar U8 1441 b0_0 ++ (is (I64 b0_1) :: (is (I64 b0_2) :: (is (I64 b0_3) :: (is (I64 b0_4) :: [])))))), (6, pb 340 (ar U64 18 x3 ++ []))]⟩) (fun v => some r = F283_25 N b0_0 b0_1 b0_2 b0_3 b0_4 a1 x2 x3 v) ?_ ?_
          · skip
            refine AW_region ?_
            refine AL_cons (LR_move (at_tmp 7 _) rfl) (sS (sT1 rfl) sB0 sF0) ?_
            refine AL_cons (LR_bin (at_tmp 24 _) (at_c (v' := I16 64) rfl) (rem_I16 x2 64 (by decide)) rfl) (sS (sA (sT1 rfl) sT0) sB0 sF0) ?_
            refine AL_cons (LR_bin (at_tmp 25 _) (at_c (v' := I16 0) rfl) (neq_I16 (x2.tmod 64) 0) rfl) (sS (sA (sT1 rfl) sT0) sB0 sF0) ?_
            refine AL_cons (LR_move (at_tmp 26 _) rfl) (sS (sT1 rfl) sB0 sF0) ?_
            refine AL_cutAt 5 ⟨[(0, .inr (.inl (0, 0))), (1, .inl (is (U64 a1))), (6, .inr (.inl (6, 0))), (7, .inl (is (I16 x2))), (24, .inl (is (I16 x2))), (25, .inl (is (I16 (x2.tmod 64)))), (26, .inl (is (Bl ((x2.tmod 64) != 0)))), (27, .inl (is (Bl ((x2.tmod 64) != 0)))), (32, .inl (is (Bl (((x2.tmod 64) != 0) && (decide ((w16 ((w16 (x2.tdiv 64)) + 1)) < 18))))))], [(0, pb 215 (ar U8 1441 b0_0 ++ (is (I64 b0_1) :: (is (I64 b0_2) :: (is (I64 b0_3) :: (is (I64 b0_4) :: [])))))), (6, pb 340 (ar U64 18 x3 ++ []))]⟩ ?_ ?_
            · cases hb : (x2.tmod 64) != 0
              · skip
                refine AL_cons (LR_off (b := false) rfl rfl rfl rfl) (sS (sT1 rfl) sB0 sF0) ?_
                refine AL_cons (LR_off (b := false) rfl rfl rfl rfl) (sS (sT1 rfl) sB0 sF0) ?_
                refine AL_cons (LR_off (b := false) rfl rfl rfl rfl) (sS (sT1 rfl) sB0 sF0) ?_
                refine AL_cons (LR_off (b := false) rfl rfl rfl rfl) (sS (sT1 rfl) sB0 sF0) ?_
                refine AL_cons (LR_pick (b := false) (at_tmp 27 _) (at_tmp 31 _) (at_c (v' := Bl false) rfl) rfl) (sS (sA (sT1 rfl) (sA (sT1 rfl) sT0)) sB0 sF0) ?_
                exact AL_nil ⟨rfl, weakB ((sT rfl (sT rfl (sT rfl (sT rfl (sT rfl (sT rfl (sT rfl (sT rfl (sT rfl sT0)))))))))) (sub_keep (sub_keep sub_nil)) rfl⟩
              · skip
                refine AL_cons (LR_on rfl rfl rfl (LR_move (at_tmp 7 _) rfl)) (sS (sT rfl (sT1 rfl)) sB0 sF0) ?_
                refine AL_cons (LR_on rfl rfl rfl (LR_bin (at_tmp 28 _) (at_c (v' := I16 64) rfl) (quo_I16 x2 64 (by decide)) rfl)) (sS (sT rfl (sA (sT1 rfl) sT0)) sB0 sF0) ?_
                refine AL_cons (LR_on rfl rfl rfl (LR_bin (at_tmp 29 _) (at_c (v' := I16 1) rfl) (add_I16 (w16 (x2.tdiv 64)) 1) rfl)) (sS (sT rfl (sA (sT1 rfl) sT0)) sB0 sF0) ?_
                refine AL_cons (LR_on rfl rfl rfl (LR_bin (at_tmp 30 _) (at_c (v' := I16 18) rfl) (lss_I16 (w16 ((w16 (x2.tdiv 64)) + 1)) 18) rfl)) (sS (sT rfl (sA (sT1 rfl) sT0)) sB0 sF0) ?_
                refine AL_cons (LR_pick (b := true) (at_tmp 27 _) (at_tmp 31 _) (at_c (v' := Bl false) rfl) rfl) (sS (sA (sT1 rfl) (sA (sT1 rfl) sT0)) sB0 sF0) ?_
                exact AL_nil ⟨rfl, weakB ((sT rfl (sT rfl (sT rfl (sT rfl (sT rfl (sT rfl (sT rfl (sT rfl (sT rfl sT0)))))))))) (sub_keep (sub_keep sub_nil)) rfl⟩
            refine AL_nil ?_
            exact thenN (cutLeaf (v := ((x2.tmod 64) != 0) && (decide ((w16 ((w16 (x2.tdiv 64)) + 1)) < 18))) hr (weakB ((sT rfl (sT rfl (sT rfl (sT rfl (sT rfl sT0)))))) (sub_keep (sub_keep sub_nil)) rfl))
          · rintro x56 hr
            show AW Hfaa.prog _ _ _ ⟨[(0, .inr (.inl (0, 0))), (1, .inl (is (U64 a1))), (6, .inr (.inl (6, 0))), (7, .inl (is (I16 x2))), (32, .inl (is (Bl x56)))], [(0, pb 215 (ar U8 1441 b0_0 ++ (is (I64 b0_1) :: (is (I64 b0_2) :: (is (I64 b0_3) :: (is (I64 b0_4) :: [])))))), (6, pb 340 (ar U64 18 x3 ++ []))]⟩
            have hr : some r = F283_25 N b0_0 b0_1 b0_2 b0_3 b0_4 a1 x2 x3 x56 := hr
            refine AW_condT (b := x56) rfl (fun h => ?_) (fun h => ?_)
            · have hr := hr.trans (cond_t h)
              clear h
              refine AW_region ?_
              refine AL_cons (LR_move (at_tmp 7 _) rfl) (sS (sT1 rfl) sB0 sF0) ?_
              refine AL_cons (LR_bin (at_tmp 33 _) (at_c (v' := I16 64) rfl) (quo_I16 x2 64 (by decide)) rfl) (sS (sA (sT1 rfl) sT0) sB0 sF0) ?_
              refine AL_cons (LR_bin (at_tmp 34 _) (at_c (v' := I16 1) rfl) (add_I16 (w16 (x2.tdiv 64)) 1) rfl) (sS (sA (sT1 rfl) sT0) sB0 sF0) ?_
              refine AL_cons (LR_move (at_tmp 1 _) rfl) (sS (sT1 rfl) sB0 sF0) ?_
              refine AL_cons (LR_move (at_tmp 7 _) rfl) (sS (sT1 rfl) sB0 sF0) ?_
              refine AL_cons (LR_bin (at_tmp 37 _) (at_c (v' := I16 64) rfl) (rem_I16 x2 64 (by decide)) rfl) (sS (sA (sT1 rfl) sT0) sB0 sF0) ?_
              refine AL_cons (LR_bin (at_c (v' := I16 64) rfl) (at_tmp 38 _) (sub_I16 64 (x2.tmod 64)) rfl) (sS (sA sT0 (sT1 rfl)) sB0 sF0) ?_
              obtain ⟨hg461, hr⟩ := guard_some hr
              refine AL_cons (LR_bin (at_tmp 36 _) (at_tmp 39 _) (shr_U64 a1 (w16 (64 - (x2.tmod 64))) (of_decide_eq_true hg461)) rfl) (sS (sA (sT1 rfl) (sT1 rfl)) sB0 sF0) ?_
              obtain ⟨hg462, hr⟩ := guard_some hr
              refine AL_cons (LR_indexAddr (o := (w16 ((w16 (x2.tdiv 64)) + 1)).toNat) Hfaa.underlying340 sz30 (at_tmp 6 _) (at_tmp 35 _) (dand hg462) (by first | rfl | omega) rfl) (sS (sA (sT1 rfl) (sT1 rfl)) sB0 sF0) ?_
              refine AL_cons (LR_storeA (at_tmp 41 _) (at_tmp 40 _) (cells_one (one_is rfl)) (onC (one_is rfl) onN) sz30 rfl (ble_dyn (lnA ln0) (by have := (ltn (dand hg462)); omega)) (stA (ltn (dand hg462)))) (sS (sA (sT1 rfl) (sT1 rfl)) (sB1 rfl) sF0) ?_
              refine AL_nil ?_
              exact thenN (cutLeaf (v := upd x3 ((w16 ((w16 (x2.tdiv 64)) + 1)).toNat) (a1 >>> (w16 (64 - (x2.tmod 64))).toNat)) hr (weakB ((sT rfl (sT rfl (sT rfl sT0)))) (sub_keep (sub_keep sub_nil)) rfl))
            · have hr := hr.trans (cond_f h)
              clear h
              refine AW_skip ?_
              exact thenN (cutLeaf (v := x3) hr (weakB ((sT rfl (sT rfl (sT rfl sT0)))) (sub_keep (sub_keep sub_nil)) rfl))
        · rintro x4 hr
          show AW Hfaa.prog _ _ _ ⟨[(0, .inr (.inl (0, 0))), (6, .inr (.inl (6, 0))), (7, .inl (is (I16 x2)))], [(0, pb 215 (ar U8 1441 b0_0 ++ (is (I64 b0_1) :: (is (I64 b0_2) :: (is (I64 b0_3) :: (is (I64 b0_4) :: [])))))), (6, pb 340 (ar U64 18 x4 ++ []))]⟩
          have hr : some r = F283_4 N b0_0 b0_1 b0_2 b0_3 b0_4 x2 x4 := hr
          refine AW_cut (σ := Int) (fun v => ⟨[(0, .inr (.inl (0, 0))), (6, .inr (.inl (6, 0))), (7, .inl (is (I16 x2))), (8, .inl (is (I64 0))), (9, .inl (is (I64 v)))], [(0, pb 215 (ar U8 1441 b0_0 ++ (is (I64 b0_1) :: (is (I64 b0_2) :: (is (I64 b0_3) :: (is (I64 b0_4) :: [])))))), (6, pb 340 (ar U64 18 x4 ++ []))]⟩) (fun v => some r = F283_5 N b0_0 b0_1 b0_2 b0_3 b0_4 x2 x4 v) ?_ ?_
          · skip
            refine AW_region ?_
            refine AL_cons (LR_move (at_tmp 7 _) rfl) (sS (sT1 rfl) sB0 sF0) ?_
            refine AL_cons (LR_bin (at_tmp 42 _) (at_c (v' := I16 64) rfl) (quo_I16 x2 64 (by decide)) rfl) (sS (sA (sT1 rfl) sT0) sB0 sF0) ?_
            refine AL_cons (LR_conv (vx := I16 (w16 (x2.tdiv 64))) (at_tmp 43 _) (conv_I64 Hfaa.underlying44 Hfaa.underlying3 (w16 (x2.tdiv 64))) rfl) (sS (sT1 rfl) sB0 sF0) ?_
            refine AL_cons (LR_bin (at_tmp 44 _) (at_c (v' := I64 1) rfl) (add_I64 (w64 (w16 (x2.tdiv 64))) 1) rfl) (sS (sA (sT1 rfl) sT0) sB0 sF0) ?_
            refine AL_cons (LR_assign (at_c (v' := I64 0) rfl) rfl) (sS sT0 sB0 sF0) ?_
            refine AL_cons (LR_assign (at_tmp 45 _) rfl) (sS (sT1 rfl) sB0 sF0) ?_
            refine AL_nil ?_
            exact thenN (cutLeaf (v := w64 ((w64 (w16 (x2.tdiv 64))) + 1)) hr (weakB ((sT rfl (sT rfl (sT rfl (sT rfl (sT rfl sT0)))))) (sub_keep (sub_keep sub_nil)) rfl))
          · rintro x5 hr
            show AW Hfaa.prog _ _ _ ⟨[(0, .inr (.inl (0, 0))), (6, .inr (.inl (6, 0))), (7, .inl (is (I16 x2))), (8, .inl (is (I64 0))), (9, .inl (is (I64 x5)))], [(0, pb 215 (ar U8 1441 b0_0 ++ (is (I64 b0_1) :: (is (I64 b0_2) :: (is (I64 b0_3) :: (is (I64 b0_4) :: [])))))), (6, pb 340 (ar U64 18 x4 ++ []))]⟩
            have hr : some r = F283_5 N b0_0 b0_1 b0_2 b0_3 b0_4 x2 x4 x5 := hr
            refine AW_cut (σ := Int) (fun v => ⟨[(0, .inr (.inl (0, 0))), (6, .inr (.inl (6, 0))), (8, .inl (is (I64 0))), (9, .inl (is (I64 v)))], [(0, pb 215 (ar U8 1441 b0_0 ++ (is (I64 b0_1) :: (is (I64 b0_2) :: (is (I64 b0_3) :: (is (I64 b0_4) :: [])))))), (6, pb 340 (ar U64 18 x4 ++ []))]⟩) (fun v => some r = F283_6 N b0_0 b0_1 b0_2 b0_3 b0_4 x4 v) ?_ ?_
            · skip
              refine AW_cut (σ := Bool) (fun v => ⟨[(0, .inr (.inl (0, 0))), (6, .inr (.inl (6, 0))), (8, .inl (is (I64 0))), (9, .inl (is (I64 x5))), (52, .inl (is (Bl v)))], [(0, pb 215 (ar U8 1441 b0_0 ++ (is (I64 b0_1) :: (is (I64 b0_2) :: (is (I64 b0_3) :: (is (I64 b0_4) :: [])))))), (6, pb 340 (ar U64 18 x4 ++ []))]⟩) (fun v => some r = F283_24 N b0_0 b0_1 b0_2 b0_3 b0_4 x4 x5 v) ?_ ?_
              · skip
                refine AW_region ?_
                refine AL_cons (LR_move (at_tmp 7 _) rfl) (sS (sT1 rfl) sB0 sF0) ?_
                refine AL_cons (LR_bin (at_tmp 46 _) (at_c (v' := I16 64) rfl) (rem_I16 x2 64 (by decide)) rfl) (sS (sA (sT1 rfl) sT0) sB0 sF0) ?_
                refine AL_cons (LR_bin (at_tmp 47 _) (at_c (v' := I16 0) rfl) (neq_I16 (x2.tmod 64) 0) rfl) (sS (sA (sT1 rfl) sT0) sB0 sF0) ?_
                refine AL_cons (LR_move (at_tmp 48 _) rfl) (sS (sT1 rfl) sB0 sF0) ?_
                refine AL_cutAt 3 ⟨[(0, .inr (.inl (0, 0))), (6, .inr (.inl (6, 0))), (7, .inl (is (I16 x2))), (8, .inl (is (I64 0))), (9, .inl (is (I64 x5))), (46, .inl (is (I16 x2))), (47, .inl (is (I16 (x2.tmod 64)))), (48, .inl (is (Bl ((x2.tmod 64) != 0)))), (49, .inl (is (Bl ((x2.tmod 64) != 0)))), (52, .inl (is (Bl (((x2.tmod 64) != 0) && (decide (x5 < 18))))))], [(0, pb 215 (ar U8 1441 b0_0 ++ (is (I64 b0_1) :: (is (I64 b0_2) :: (is (I64 b0_3) :: (is (I64 b0_4) :: [])))))), (6, pb 340 (ar U64 18 x4 ++ []))]⟩ ?_ ?_
                · cases hb : (x2.tmod 64) != 0
                  · skip
                    refine AL_cons (LR_off (b := false) rfl rfl rfl rfl) (sS (sT1 rfl) sB0 sF0) ?_
                    refine AL_cons (LR_off (b := false) rfl rfl rfl rfl) (sS (sT1 rfl) sB0 sF0) ?_
                    refine AL_cons (LR_pick (b := false) (at_tmp 49 _) (at_tmp 51 _) (at_c (v' := Bl false) rfl) rfl) (sS (sA (sT1 rfl) (sA (sT1 rfl) sT0)) sB0 sF0) ?_
                    exact AL_nil ⟨rfl, weakB ((sT rfl (sT rfl (sT rfl (sT rfl (sT rfl (sT rfl (sT rfl (sT rfl (sT rfl (sT rfl sT0))))))))))) (sub_keep (sub_keep sub_nil)) rfl⟩
                  · skip
                    refine AL_cons (LR_on rfl rfl rfl (LR_move (at_tmp 9 _) rfl)) (sS (sT rfl (sT1 rfl)) sB0 sF0) ?_
                    refine AL_cons (LR_on rfl rfl rfl (LR_bin (at_tmp 50 _) (at_c (v' := I64 18) rfl) (lss_I64 x5 18) rfl)) (sS (sT rfl (sA (sT1 rfl) sT0)) sB0 sF0) ?_
                    refine AL_cons (LR_pick (b := true) (at_tmp 49 _) (at_tmp 51 _) (at_c (v' := Bl false) rfl) rfl) (sS (sA (sT1 rfl) (sA (sT1 rfl) sT0)) sB0 sF0) ?_
                    exact AL_nil ⟨rfl, weakB ((sT rfl (sT rfl (sT rfl (sT rfl (sT rfl (sT rfl (sT rfl (sT rfl (sT rfl (sT rfl sT0))))))))))) (sub_keep (sub_keep sub_nil)) rfl⟩
                refine AL_nil ?_
                exact thenN (cutLeaf (v := ((x2.tmod 64) != 0) && (decide (x5 < 18))) hr (weakB ((sT rfl (sT rfl (sT rfl (sT rfl (sT rfl sT0)))))) (sub_keep (sub_keep sub_nil)) rfl))
              · rintro x55 hr
                show AW Hfaa.prog _ _ _ ⟨[(0, .inr (.inl (0, 0))), (6, .inr (.inl (6, 0))), (8, .inl (is (I64 0))), (9, .inl (is (I64 x5))), (52, .inl (is (Bl x55)))], [(0, pb 215 (ar U8 1441 b0_0 ++ (is (I64 b0_1) :: (is (I64 b0_2) :: (is (I64 b0_3) :: (is (I64 b0_4) :: [])))))), (6, pb 340 (ar U64 18 x4 ++ []))]⟩
                have hr : some r = F283_24 N b0_0 b0_1 b0_2 b0_3 b0_4 x4 x5 x55 := hr
                refine AW_condT (b := x55) rfl (fun h => ?_) (fun h => ?_)
                · have hr := hr.trans (cond_t h)
                  clear h
                  refine AW_region ?_
                  refine AL_cons (LR_move (at_tmp 9 _) rfl) (sS (sT1 rfl) sB0 sF0) ?_
                  refine AL_cons (LR_bin (at_tmp 53 _) (at_c (v' := I64 1) rfl) (add_I64 x5 1) rfl) (sS (sA (sT1 rfl) sT0) sB0 sF0) ?_
                  refine AL_cons (LR_assign (at_tmp 54 _) rfl) (sS (sT1 rfl) sB0 sF0) ?_
                  refine AL_nil ?_
                  exact thenN (cutLeaf (v := w64 (x5 + 1)) hr (weakB ((sT rfl (sT rfl (sT rfl (sT rfl sT0))))) (sub_keep (sub_keep sub_nil)) rfl))
                · have hr := hr.trans (cond_f h)
                  clear h
                  refine AW_skip ?_
                  exact thenN (cutLeaf (v := x5) hr (weakB ((sT rfl (sT rfl (sT rfl (sT rfl sT0))))) (sub_keep (sub_keep sub_nil)) rfl))
            · rintro x6 hr
              show AW Hfaa.prog _ _ _ ⟨[(0, .inr (.inl (0, 0))), (6, .inr (.inl (6, 0))), (8, .inl (is (I64 0))), (9, .inl (is (I64 x6)))], [(0, pb 215 (ar U8 1441 b0_0 ++ (is (I64 b0_1) :: (is (I64 b0_2) :: (is (I64 b0_3) :: (is (I64 b0_4) :: [])))))), (6, pb 340 (ar U64 18 x4 ++ []))]⟩
              have hr : some r = F283_6 N b0_0 b0_1 b0_2 b0_3 b0_4 x4 x6 := hr
              refine AW_seq1 ?_
              refine AW_region ?_
              refine AL_cons (LR_assign (at_c (v' := I64 1) rfl) rfl) (sS sT0 sB0 sF0) ?_
              refine AL_nil ?_
              refine thenN ?_
              refine AW_block ?_
              refine AW_iterR (σ := Int × Int × Int × (Nat → BitVec 8) × Int × Int × Int × Int × (Nat → BitVec 64)) (r := r) (x0 := (0, x6, 1, b0_0, b0_1, b0_2, b0_3, b0_4, x4)) (emb := fun v => ⟨[(0, .inr (.inl (0, 0))), (6, .inr (.inl (6, 0))), (8, .inl (is (I64 v.1))), (9, .inl (is (I64 v.2.1))), (10, .inl (is (I64 v.2.2.1)))], [(0, pb 215 (ar U8 1441 v.2.2.2.1 ++ (is (I64 v.2.2.2.2.1) :: (is (I64 v.2.2.2.2.2.1) :: (is (I64 v.2.2.2.2.2.2.1) :: (is (I64 v.2.2.2.2.2.2.2.1) :: [])))))), (6, pb 340 (ar U64 18 v.2.2.2.2.2.2.2.2 ++ []))]⟩) ?_ hr ?_
              · exact weakB ((sT rfl (sT rfl (sT rfl (sT rfl (sT rfl sT0)))))) (sub_keep (sub_keep sub_nil)) rfl
              rintro ⟨x7, x8, x9, x10, x11, x12, x13, x14, x15⟩ out17 hr
              show AW Hfaa.prog _ _ _ ⟨[(0, .inr (.inl (0, 0))), (6, .inr (.inl (6, 0))), (8, .inl (is (I64 x7))), (9, .inl (is (I64 x8))), (10, .inl (is (I64 x9)))], [(0, pb 215 (ar U8 1441 x10 ++ (is (I64 x11) :: (is (I64 x12) :: (is (I64 x13) :: (is (I64 x14) :: [])))))), (6, pb 340 (ar U64 18 x15 ++ []))]⟩
              have hr : some out17 = F283_L7b N x7 x8 x9 x10 x11 x12 x13 x14 x15 := hr
              refine AW_cut (σ := Int × Int × (Nat → BitVec 8) × Int × Int × Int × Int × (Nat → BitVec 64)) (fun v => ⟨[(0, .inr (.inl (0, 0))), (6, .inr (.inl (6, 0))), (8, .inl (is (I64 v.1))), (9, .inl (is (I64 v.2.1))), (10, .inl (is (I64 x9)))], [(0, pb 215 (ar U8 1441 v.2.2.1 ++ (is (I64 v.2.2.2.1) :: (is (I64 v.2.2.2.2.1) :: (is (I64 v.2.2.2.2.2.1) :: (is (I64 v.2.2.2.2.2.2.1) :: [])))))), (6, pb 340 (ar U64 18 v.2.2.2.2.2.2.2 ++ []))]⟩) (fun v => some out17 = F283_8 N x9 v.1 v.2.1 v.2.2.1 v.2.2.2.1 v.2.2.2.2.1 v.2.2.2.2.2.1 v.2.2.2.2.2.2.1 v.2.2.2.2.2.2.2) ?_ ?_
              · skip
                refine AW_block ?_
                refine AW_cut (σ := Int) (fun v => ⟨[(0, .inr (.inl (0, 0))), (6, .inr (.inl (6, 0))), (8, .inl (is (I64 v))), (9, .inl (is (I64 x8))), (10, .inl (is (I64 x9)))], [(0, pb 215 (ar U8 1441 x10 ++ (is (I64 x11) :: (is (I64 x12) :: (is (I64 x13) :: (is (I64 x14) :: [])))))), (6, pb 340 (ar U64 18 x15 ++ []))]⟩) (fun v => some out17 = F283_9 N x8 x9 x10 x11 x12 x13 x14 x15 v) ?_ ?_
                · skip
                  refine AW_block ?_
                  refine AW_iterR (σ := Int) (r := out17) (x0 := x7) (emb := fun v => ⟨[(0, .inr (.inl (0, 0))), (6, .inr (.inl (6, 0))), (8, .inl (is (I64 v))), (9, .inl (is (I64 x8))), (10, .inl (is (I64 x9)))], [(0, pb 215 (ar U8 1441 x10 ++ (is (I64 x11) :: (is (I64 x12) :: (is (I64 x13) :: (is (I64 x14) :: [])))))), (6, pb 340 (ar U64 18 x15 ++ []))]⟩) ?_ hr ?_
                  · exact weakB ((sT rfl (sT rfl (sT rfl (sT rfl (sT rfl sT0)))))) (sub_keep (sub_keep sub_nil)) rfl
                  rintro x53 out25 hr
                  show AW Hfaa.prog _ _ _ ⟨[(0, .inr (.inl (0, 0))), (6, .inr (.inl (6, 0))), (8, .inl (is (I64 x53))), (9, .inl (is (I64 x8))), (10, .inl (is (I64 x9)))], [(0, pb 215 (ar U8 1441 x10 ++ (is (I64 x11) :: (is (I64 x12) :: (is (I64 x13) :: (is (I64 x14) :: [])))))), (6, pb 340 (ar U64 18 x15 ++ []))]⟩
                  have hr : some out25 = F283_L22b N x8 x9 x10 x11 x12 x13 x14 x15 x53 := hr
                  refine AW_seq1 ?_
                  refine AW_cut (σ := Bool) (fun v => ⟨[(0, .inr (.inl (0, 0))), (6, .inr (.inl (6, 0))), (8, .inl (is (I64 x53))), (9, .inl (is (I64 x8))), (10, .inl (is (I64 x9))), (65, .inl (is (Bl v)))], [(0, pb 215 (ar U8 1441 x10 ++ (is (I64 x11) :: (is (I64 x12) :: (is (I64 x13) :: (is (I64 x14) :: [])))))), (6, pb 340 (ar U64 18 x15 ++ []))]⟩) (fun v => some out25 = F283_23 N x8 x9 x10 x11 x12 x13 x14 x15 x53 v) ?_ ?_
                  · skip
                    refine AW_region ?_
                    refine AL_cons (LR_move (at_tmp 8 _) rfl) (sS (sT1 rfl) sB0 sF0) ?_
                    refine AL_cons (LR_move (at_tmp 9 _) rfl) (sS (sT1 rfl) sB0 sF0) ?_
                    refine AL_cons (LR_bin (at_tmp 57 _) (at_tmp 58 _) (lss_I64 x53 x8) rfl) (sS (sA (sT1 rfl) (sT1 rfl)) sB0 sF0) ?_
                    refine AL_cons (LR_move (at_tmp 59 _) rfl) (sS (sT1 rfl) sB0 sF0) ?_
                    cases hb : decide (x53 < x8)
                    · have hr := hr.trans (cond_f hb)
                      refine AL_cons (LR_off (b := false) rfl rfl rfl rfl) (sS (sT1 rfl) sB0 sF0) ?_
                      refine AL_cons (LR_off (b := false) rfl rfl rfl rfl) (sS (sT1 rfl) sB0 sF0) ?_
                      refine AL_cons (LR_off (b := false) rfl rfl rfl rfl) (sS (sT1 rfl) sB0 sF0) ?_
                      refine AL_cons (LR_off (b := false) rfl rfl rfl rfl) (sS (sT1 rfl) sB0 sF0) ?_
                      refine AL_cons (LR_pick (b := false) (at_tmp 60 _) (at_tmp 64 _) (at_c (v' := Bl false) rfl) rfl) (sS (sA (sT1 rfl) (sA (sT1 rfl) sT0)) sB0 sF0) ?_
                      refine AL_nil ?_
                      exact thenN (cutLeaf (v := false) hr (weakB ((sT rfl (sT rfl (sT rfl (sT rfl (sT rfl (sT rfl sT0))))))) (sub_keep (sub_keep sub_nil)) rfl))
                    · have hr := hr.trans (cond_t hb)
                      refine AL_cons (LR_on rfl rfl rfl (LR_move (at_tmp 8 _) rfl)) (sS (sT rfl (sT1 rfl)) sB0 sF0) ?_
                      obtain ⟨hg460, hr⟩ := guard_some hr
                      refine AL_cons (LR_on rfl rfl rfl (LR_indexAddr (o := x53.toNat) Hfaa.underlying340 sz30 (at_tmp 6 _) (at_tmp 61 _) (dand hg460) (by first | rfl | omega) rfl)) (sS (sT rfl (sA (sT1 rfl) (sT1 rfl))) sB0 sF0) ?_
                      refine AL_cons (LR_on rfl rfl rfl (LR_load (at_tmp 62 _) na30 (gA (ltn (dand hg460))) rfl)) (sS (sT rfl (sT1 rfl)) (sB1 rfl) sF0) ?_
                      refine AL_cons (LR_on rfl rfl rfl (LR_bin (at_tmp 63 _) (at_c (v' := U64 (0#64)) rfl) (eql_U64 (x15 x53.toNat) (0#64)) rfl)) (sS (sT rfl (sA (sT1 rfl) sT0)) sB0 sF0) ?_
                      refine AL_cons (LR_pick (b := true) (at_tmp 60 _) (at_tmp 64 _) (at_c (v' := Bl false) rfl) rfl) (sS (sA (sT1 rfl) (sA (sT1 rfl) sT0)) sB0 sF0) ?_
                      refine AL_nil ?_
                      exact thenN (cutLeaf (v := (x15 x53.toNat) == (0#64)) hr (weakB ((sT rfl (sT rfl (sT rfl (sT rfl (sT rfl (sT rfl sT0))))))) (sub_keep (sub_keep sub_nil)) rfl))
                  · rintro x54 hr
                    show AW Hfaa.prog _ _ _ ⟨[(0, .inr (.inl (0, 0))), (6, .inr (.inl (6, 0))), (8, .inl (is (I64 x53))), (9, .inl (is (I64 x8))), (10, .inl (is (I64 x9))), (65, .inl (is (Bl x54)))], [(0, pb 215 (ar U8 1441 x10 ++ (is (I64 x11) :: (is (I64 x12) :: (is (I64 x13) :: (is (I64 x14) :: [])))))), (6, pb 340 (ar U64 18 x15 ++ []))]⟩
                    have hr : some out25 = F283_23 N x8 x9 x10 x11 x12 x13 x14 x15 x53 x54 := hr
                    refine AW_condT (b := x54) rfl (fun h => ?_) (fun h => ?_)
                    · have hr := hr.trans (cond_t h)
                      clear h
                      refine AW_skip ?_
                      refine thenN ?_
                      refine AW_block ?_
                      refine AW_region ?_
                      refine AL_cons (LR_move (at_tmp 8 _) rfl) (sS (sT1 rfl) sB0 sF0) ?_
                      refine AL_cons (LR_bin (at_tmp 66 _) (at_c (v' := I64 1) rfl) (add_I64 x53 1) rfl) (sS (sA (sT1 rfl) sT0) sB0 sF0) ?_
                      refine AL_cons (LR_assign (at_tmp 67 _) rfl) (sS (sT1 rfl) sB0 sF0) ?_
                      refine AL_nil ?_
                      refine blN ?_
                      exact thenN (loopNext (x' := w64 (x53 + 1)) hr (weakB ((sT rfl (sT rfl (sT rfl (sT rfl (sT rfl sT0)))))) (sub_keep (sub_keep sub_nil)) rfl))
                    · have hr := hr.trans (cond_f h)
                      clear h
                      refine AW_exit ?_
                      refine thenX ?_
                      obtain ⟨r', hro, hr⟩ := map_inr hr
                      refine thenX (loopOut hro (fun he => ?_))
                      rw [he] at hr
                      refine blH ?_
                      exact thenN (cutLeaf (v := x53) hr (weakB ((sT rfl (sT rfl (sT rfl (sT rfl (sT rfl sT0)))))) (sub_keep (sub_keep sub_nil)) rfl))
                · rintro x24 hr
                  show AW Hfaa.prog _ _ _ ⟨[(0, .inr (.inl (0, 0))), (6, .inr (.inl (6, 0))), (8, .inl (is (I64 x24))), (9, .inl (is (I64 x8))), (10, .inl (is (I64 x9)))], [(0, pb 215 (ar U8 1441 x10 ++ (is (I64 x11) :: (is (I64 x12) :: (is (I64 x13) :: (is (I64 x14) :: [])))))), (6, pb 340 (ar U64 18 x15 ++ []))]⟩
                  have hr : some out17 = F283_9 N x8 x9 x10 x11 x12 x13 x14 x15 x24 := hr
                  refine AW_cut (σ := (Nat → BitVec 8) × Int × Int × Int × Int) (fun v => ⟨[(0, .inr (.inl (0, 0))), (6, .inr (.inl (6, 0))), (8, .inl (is (I64 x24))), (9, .inl (is (I64 x8))), (10, .inl (is (I64 x9)))], [(0, pb 215 (ar U8 1441 v.1 ++ (is (I64 v.2.1) :: (is (I64 v.2.2.1) :: (is (I64 v.2.2.2.1) :: (is (I64 v.2.2.2.2) :: [])))))), (6, pb 340 (ar U64 18 x15 ++ []))]⟩) (fun v => some out17 = F283_10 N x8 x9 x15 x24 v.1 v.2.1 v.2.2.1 v.2.2.2.1 v.2.2.2.2) ?_ ?_
                  · skip
                    refine AW_block ?_
                    refine AW_cut (σ := Bool) (fun v => ⟨[(0, .inr (.inl (0, 0))), (6, .inr (.inl (6, 0))), (8, .inl (is (I64 x24))), (9, .inl (is (I64 x8))), (10, .inl (is (I64 x9))), (68, .inl (is (Bl v)))], [(0, pb 215 (ar U8 1441 x10 ++ (is (I64 x11) :: (is (I64 x12) :: (is (I64 x13) :: (is (I64 x14) :: [])))))), (6, pb 340 (ar U64 18 x15 ++ []))]⟩) (fun v => some out17 = F283_19 N x8 x9 x10 x11 x12 x13 x14 x15 x24 v) ?_ ?_
                    · skip
                      refine AW_region ?_
                      refine AL_cons (LR_move (at_tmp 8 _) rfl) (sS (sT1 rfl) sB0 sF0) ?_
                      refine AL_cons (LR_move (at_tmp 9 _) rfl) (sS (sT1 rfl) sB0 sF0) ?_
                      refine AL_cons (LR_bin (at_tmp 69 _) (at_tmp 70 _) (eql_I64 x24 x8) rfl) (sS (sA (sT1 rfl) (sT1 rfl)) sB0 sF0) ?_
                      refine AL_cons (LR_assign (at_tmp 71 _) rfl) (sS (sT1 rfl) sB0 sF0) ?_
                      refine AL_nil ?_
                      exact thenN (cutLeaf (v := x24 == x8) hr (weakB ((sT rfl (sT rfl (sT rfl (sT rfl (sT rfl (sT rfl sT0))))))) (sub_keep (sub_keep sub_nil)) rfl))
                    · rintro x45 hr
                      show AW Hfaa.prog _ _ _ ⟨[(0, .inr (.inl (0, 0))), (6, .inr (.inl (6, 0))), (8, .inl (is (I64 x24))), (9, .inl (is (I64 x8))), (10, .inl (is (I64 x9))), (68, .inl (is (Bl x45)))], [(0, pb 215 (ar U8 1441 x10 ++ (is (I64 x11) :: (is (I64 x12) :: (is (I64 x13) :: (is (I64 x14) :: [])))))), (6, pb 340 (ar U64 18 x15 ++ []))]⟩
                      have hr : some out17 = F283_19 N x8 x9 x10 x11 x12 x13 x14 x15 x24 x45 := hr
                      refine AW_condT (b := x45) rfl (fun h => ?_) (fun h => ?_)
                      · have hr := hr.trans (cond_t h)
                        clear h
                        refine AW_ret ?_
                        refine blR ?_
                        refine thenR ?_
                        refine blR ?_
                        refine thenR ?_
                        obtain ⟨r', hro, hr⟩ := map_inr hr
                        refine thenR (loopOut hro (fun he => ?_))
                        rw [he] at hr
                        refine blR ?_
                        obtain rfl := Option.some.inj hr
                        exact ⟨res0 rfl , (sub_keep (sub_drop sub_nil))⟩
                      · have hr := hr.trans (cond_f h)
                        clear h
                        refine AW_cut (σ := Bool × (Nat → BitVec 8) × Int × Int × Int × Int) (fun v => ⟨[(0, .inr (.inl (0, 0))), (6, .inr (.inl (6, 0))), (8, .inl (is (I64 x24))), (9, .inl (is (I64 x8))), (10, .inl (is (I64 x9))), (72, .inl (is (Bl v.1)))], [(0, pb 215 (ar U8 1441 v.2.1 ++ (is (I64 v.2.2.1) :: (is (I64 v.2.2.2.1) :: (is (I64 v.2.2.2.2.1) :: (is (I64 v.2.2.2.2.2) :: [])))))), (6, pb 340 (ar U64 18 x15 ++ []))]⟩) (fun v => some out17 = F283_20 N x8 x9 x15 x24 v.1 v.2.1 v.2.2.1 v.2.2.2.1 v.2.2.2.2.1 v.2.2.2.2.2) ?_ ?_
                        · skip
                          refine AW_region ?_
                          refine AL_cons (LR_move (at_tmp 0 _) rfl) (sS (sT1 rfl) sB0 sF0) ?_
                          refine AL_cons (LR_move (at_tmp 10 _) rfl) (sS (sT1 rfl) sB0 sF0) ?_
                          refine AL_cons (LR_bin (at_tmp 74 _) (at_c (v' := I64 1) rfl) (sub_I64 x9 1) rfl) (sS (sA (sT1 rfl) sT0) sB0 sF0) ?_
                          refine AL_cons (LR_bin (at_tmp 75 _) (at_c (v' := I64 18) rfl) (mul_I64 (w64 (x9 - 1)) 18) rfl) (sS (sA (sT1 rfl) sT0) sB0 sF0) ?_
                          obtain ⟨y318, hy318, hr⟩ := lt_some hr
                          refine AL_cons (LR_callB [(0, 0)] [(0, 0)] Hfaa.func373 rfl rfl (C373 x10 x11 x12 x13 x14 (w64 ((w64 (x9 - 1)) * 18)) y318 hy318) (aTC (at_tmp 73 _) (aTC (at_tmp 76 _) aT0)) rfl rfl rfl rfl rfl) (sS (sA (sT1 rfl) (sA (sT1 rfl) sT0)) (sB1 rfl) sF0) ?_
                          refine AL_cons (LR_assign (at_tmp 77 _) rfl) (sS (sT1 rfl) sB0 sF0) ?_
                          refine AL_nil ?_
                          exact thenN (cutLeaf (v := (y318.1, y318.2.1, y318.2.2.1, y318.2.2.2.1, y318.2.2.2.2.1, y318.2.2.2.2.2)) hr (weakB ((sT rfl (sT rfl (sT rfl (sT rfl (sT rfl (sT rfl sT0))))))) (sub_keep (sub_keep sub_nil)) rfl))
                        · rintro ⟨x46, x47, x48, x49, x50, x51⟩ hr
                          show AW Hfaa.prog _ _ _ ⟨[(0, .inr (.inl (0, 0))), (6, .inr (.inl (6, 0))), (8, .inl (is (I64 x24))), (9, .inl (is (I64 x8))), (10, .inl (is (I64 x9))), (72, .inl (is (Bl x46)))], [(0, pb 215 (ar U8 1441 x47 ++ (is (I64 x48) :: (is (I64 x49) :: (is (I64 x50) :: (is (I64 x51) :: [])))))), (6, pb 340 (ar U64 18 x15 ++ []))]⟩
                          have hr : some out17 = F283_20 N x8 x9 x15 x24 x46 x47 x48 x49 x50 x51 := hr
                          refine AW_condT (b := x46) rfl (fun h => ?_) (fun h => ?_)
                          · have hr := hr.trans (cond_t h)
                            clear h
                            refine AW_cut (σ := (Nat → BitVec 8)) (fun v => ⟨[(0, .inr (.inl (0, 0)))], [(0, pb 215 (ar U8 1441 v ++ (is (I64 x48) :: (is (I64 x49) :: (is (I64 x50) :: (is (I64 x51) :: []))))))]⟩) (fun v => some out17 = F283_21 N x48 x49 x50 x51 v) ?_ ?_
                            · skip
                              obtain ⟨hg444, hr⟩ := guard_some hr
                              refine AW_draw mixed
                                (lrC (LR_move (at_tmp 0 _) rfl)
                                (lrC (LR_move (at_tmp 0 _) rfl)
                                (lrC (LR_nilCheck (at_tmp 79 _) rfl)
                                (lrC (LR_fieldAddr (off := 0) (o := 1441) (at_tmp 80 _) (fun b w => fa215_1 b 0 w) rfl)
                                (lrC (LR_load (at_tmp 81 _) na3 (gP g0) rfl)
                                (lrC (LR_nilCheck (at_tmp 78 _) rfl)
                                (lrC (LR_fieldAddr (off := 0) (o := 0) (at_tmp 83 _) (fun b w => fa215_0 b 0 w) rfl)
                                (lrC (LR_indexAddr (o := x48.toNat) Hfaa.underlying213 sz5 (at_tmp 84 _) (at_tmp 82 _) (dand hg444) (by first | rfl | omega) rfl)
                                (lrC (LR_storeA (at_tmp 85 _) (at_c (v' := U8 (49#8)) rfl) (cells_one (one_is rfl)) (onC (one_is rfl) onN) sz5 rfl (ble_dyn (lnA (lnC (lnC (lnC (lnC ln0))))) (by have := (ltn (dand hg444)); omega)) (stA (ltn (dand hg444))))
                                lrN)))))))))
                                (by kernel_rfl)
                                (saC (sS (sT1 rfl) sB0 sF0) (saC (sS (sT1 rfl) sB0 sF0) (saC (sS (sT1 rfl) sB0 sF0) (saC (sS (sT1 rfl) sB0 sF0) (saC (sS (sT1 rfl) (sB1 rfl) sF0) (saC (sS (sT1 rfl) sB0 sF0) (saC (sS (sT1 rfl) sB0 sF0) (saC (sS (sA (sT1 rfl) (sT1 rfl)) sB0 sF0) (saC (sS (sA (sT1 rfl) sT0) (sB1 rfl) sF0) saN))))))))) ?_
                              exact thenN (cutLeaf (v := upd x47 x48.toNat (49#8)) hr (weakB ((sT rfl sT0)) (sub_keep (sub_drop sub_nil)) rfl))
                            · rintro x52 hr
                              show AW Hfaa.prog _ _ _ ⟨[(0, .inr (.inl (0, 0)))], [(0, pb 215 (ar U8 1441 x52 ++ (is (I64 x48) :: (is (I64 x49) :: (is (I64 x50) :: (is (I64 x51) :: []))))))]⟩
                              have hr : some out17 = F283_21 N x48 x49 x50 x51 x52 := hr
                              refine AW_seq1 ?_
                              refine AW_region ?_
                              refine AL_cons (LR_move (at_tmp 0 _) rfl) (sS (sT1 rfl) sB0 sF0) ?_
                              refine AL_cons (LR_nilCheck (at_tmp 86 _) rfl) (sS (sT1 rfl) sB0 sF0) ?_
                              refine AL_cons (LR_fieldAddr (off := 0) (o := 1441) (at_tmp 87 _) (fun b w => fa215_1 b 0 w) rfl) (sS (sT1 rfl) sB0 sF0) ?_
                              refine AL_cons (LR_load (at_tmp 88 _) na3 (gP g0) rfl) (sS (sT1 rfl) (sB1 rfl) sF0) ?_
                              refine AL_cons (LR_bin (at_tmp 89 _) (at_c (v' := I64 1) rfl) (add_I64 x48 1) rfl) (sS (sA (sT1 rfl) sT0) sB0 sF0) ?_
                              refine AL_cons (LR_nilCheck (at_tmp 86 _) rfl) (sS (sT1 rfl) sB0 sF0) ?_
                              refine AL_cons (LR_fieldAddr (off := 0) (o := 1441) (at_tmp 91 _) (fun b w => fa215_1 b 0 w) rfl) (sS (sT1 rfl) sB0 sF0) ?_
                              refine AL_cons (LR_storeA (at_tmp 92 _) (at_tmp 90 _) (cells_one (one_is rfl)) (onC (one_is rfl) onN) sz3 rfl (bleLen (lnA (lnC (lnC (lnC (lnC ln0))))) rfl) (stP st0)) (sS (sA (sT1 rfl) (sT1 rfl)) (sB1 rfl) sF0) ?_
                              refine AL_nil ?_
                              refine thenN ?_
                              refine AW_ret ?_
                              refine blR ?_
                              refine thenR ?_
                              refine blR ?_
                              refine thenR ?_
                              obtain ⟨r', hro, hr⟩ := map_inr hr
                              refine thenR (loopOut hro (fun he => ?_))
                              rw [he] at hr
                              refine blR ?_
                              obtain rfl := Option.some.inj hr
                              exact ⟨res0 rfl , (sub_keep sub_nil)⟩
                          · have hr := hr.trans (cond_f h)
                            clear h
                            refine AW_skip ?_
                            refine blN ?_
                            exact thenN (cutLeaf (v := (x47, x48, x49, x50, x51)) hr (weakB ((sT rfl (sT rfl (sT rfl (sT rfl (sT rfl sT0)))))) (sub_keep (sub_keep sub_nil)) rfl))
                  · rintro ⟨x25, x26, x27, x28, x29⟩ hr
                    show AW Hfaa.prog _ _ _ ⟨[(0, .inr (.inl (0, 0))), (6, .inr (.inl (6, 0))), (8, .inl (is (I64 x24))), (9, .inl (is (I64 x8))), (10, .inl (is (I64 x9)))], [(0, pb 215 (ar U8 1441 x25 ++ (is (I64 x26) :: (is (I64 x27) :: (is (I64 x28) :: (is (I64 x29) :: [])))))), (6, pb 340 (ar U64 18 x15 ++ []))]⟩
                    have hr : some out17 = F283_10 N x8 x9 x15 x24 x25 x26 x27 x28 x29 := hr
                    refine AW_seq1 ?_
                    refine AW_region ?_
                    refine AL_cons (LR_assign (at_c (v' := U64 (0#64)) rfl) rfl) (sS sT0 sB0 sF0) ?_
                    refine AL_nil ?_
                    refine thenN ?_
                    refine AW_cut (σ := BitVec 64 × (Nat → BitVec 64)) (fun v => ⟨[(0, .inr (.inl (0, 0))), (6, .inr (.inl (6, 0))), (8, .inl (is (I64 x24))), (9, .inl (is (I64 x8))), (10, .inl (is (I64 x9))), (11, .inl (is (U64 v.1)))], [(0, pb 215 (ar U8 1441 x25 ++ (is (I64 x26) :: (is (I64 x27) :: (is (I64 x28) :: (is (I64 x29) :: [])))))), (6, pb 340 (ar U64 18 v.2 ++ []))]⟩) (fun v => some out17 = F283_11 N x8 x9 x24 x25 x26 x27 x28 x29 v.1 v.2) ?_ ?_
                    · skip
                      refine AW_seq1 ?_
                      refine AW_region ?_
                      refine AL_cons (LR_move (at_tmp 8 _) rfl) (sS (sT1 rfl) sB0 sF0) ?_
                      refine AL_cons (LR_assign (at_tmp 93 _) rfl) (sS (sT1 rfl) sB0 sF0) ?_
                      refine AL_nil ?_
                      refine thenN ?_
                      refine AW_block ?_
                      refine AW_iterR (σ := BitVec 64 × Int × (Nat → BitVec 64)) (r := out17) (x0 := (0#64, x24, x15)) (emb := fun v => ⟨[(0, .inr (.inl (0, 0))), (6, .inr (.inl (6, 0))), (8, .inl (is (I64 x24))), (9, .inl (is (I64 x8))), (10, .inl (is (I64 x9))), (11, .inl (is (U64 v.1))), (12, .inl (is (I64 v.2.1)))], [(0, pb 215 (ar U8 1441 x25 ++ (is (I64 x26) :: (is (I64 x27) :: (is (I64 x28) :: (is (I64 x29) :: [])))))), (6, pb 340 (ar U64 18 v.2.2 ++ []))]⟩) ?_ hr ?_
                      · exact weakB ((sT rfl (sT rfl (sT rfl (sT rfl (sT rfl (sT rfl (sT rfl sT0)))))))) (sub_keep (sub_keep sub_nil)) rfl
                      rintro ⟨x37, x38, x39⟩ out24 hr
                      show AW Hfaa.prog _ _ _ ⟨[(0, .inr (.inl (0, 0))), (6, .inr (.inl (6, 0))), (8, .inl (is (I64 x24))), (9, .inl (is (I64 x8))), (10, .inl (is (I64 x9))), (11, .inl (is (U64 x37))), (12, .inl (is (I64 x38)))], [(0, pb 215 (ar U8 1441 x25 ++ (is (I64 x26) :: (is (I64 x27) :: (is (I64 x28) :: (is (I64 x29) :: [])))))), (6, pb 340 (ar U64 18 x39 ++ []))]⟩
                      have hr : some out24 = F283_L15b N x8 x9 x24 x25 x26 x27 x28 x29 x37 x38 x39 := hr
                      refine AW_seq1 ?_
                      refine AW_cut (σ := Bool) (fun v => ⟨[(0, .inr (.inl (0, 0))), (6, .inr (.inl (6, 0))), (8, .inl (is (I64 x24))), (9, .inl (is (I64 x8))), (10, .inl (is (I64 x9))), (11, .inl (is (U64 x37))), (12, .inl (is (I64 x38))), (96, .inl (is (Bl v)))], [(0, pb 215 (ar U8 1441 x25 ++ (is (I64 x26) :: (is (I64 x27) :: (is (I64 x28) :: (is (I64 x29) :: [])))))), (6, pb 340 (ar U64 18 x39 ++ []))]⟩) (fun v => some out24 = F283_16 N x8 x9 x24 x25 x26 x27 x28 x29 x37 x38 x39 v) ?_ ?_
                      · skip
                        refine AW_region ?_
                        refine AL_cons (LR_move (at_tmp 12 _) rfl) (sS (sT1 rfl) sB0 sF0) ?_
                        refine AL_cons (LR_move (at_tmp 9 _) rfl) (sS (sT1 rfl) sB0 sF0) ?_
                        refine AL_cons (LR_bin (at_tmp 94 _) (at_tmp 95 _) (lss_I64 x38 x8) rfl) (sS (sA (sT1 rfl) (sT1 rfl)) sB0 sF0) ?_
                        refine AL_nil ?_
                        exact thenN (cutLeaf (v := decide (x38 < x8)) hr (weakB ((sT rfl (sT rfl (sT rfl (sT rfl (sT rfl (sT rfl (sT rfl (sT rfl sT0))))))))) (sub_keep (sub_keep sub_nil)) rfl))
                      · rintro x40 hr
                        show AW Hfaa.prog _ _ _ ⟨[(0, .inr (.inl (0, 0))), (6, .inr (.inl (6, 0))), (8, .inl (is (I64 x24))), (9, .inl (is (I64 x8))), (10, .inl (is (I64 x9))), (11, .inl (is (U64 x37))), (12, .inl (is (I64 x38))), (96, .inl (is (Bl x40)))], [(0, pb 215 (ar U8 1441 x25 ++ (is (I64 x26) :: (is (I64 x27) :: (is (I64 x28) :: (is (I64 x29) :: [])))))), (6, pb 340 (ar U64 18 x39 ++ []))]⟩
                        have hr : some out24 = F283_16 N x8 x9 x24 x25 x26 x27 x28 x29 x37 x38 x39 x40 := hr
                        refine AW_condT (b := x40) rfl (fun h => ?_) (fun h => ?_)
                        · have hr := hr.trans (cond_t h)
                          clear h
                          refine AW_skip ?_
                          refine thenN ?_
                          refine AW_cut (σ := BitVec 64 × (Nat → BitVec 64)) (fun v => ⟨[(0, .inr (.inl (0, 0))), (6, .inr (.inl (6, 0))), (8, .inl (is (I64 x24))), (9, .inl (is (I64 x8))), (10, .inl (is (I64 x9))), (12, .inl (is (I64 x38))), (11, .inl (is (U64 v.1)))], [(0, pb 215 (ar U8 1441 x25 ++ (is (I64 x26) :: (is (I64 x27) :: (is (I64 x28) :: (is (I64 x29) :: [])))))), (6, pb 340 (ar U64 18 v.2 ++ []))]⟩) (fun v => some out24 = F283_17 N x8 x9 x24 x25 x26 x27 x28 x29 x38 v.1 v.2) ?_ ?_
                          · skip
                            refine AW_block ?_
                            refine AW_cut (σ := BitVec 64 × BitVec 64) (fun v => ⟨[(0, .inr (.inl (0, 0))), (6, .inr (.inl (6, 0))), (8, .inl (is (I64 x24))), (9, .inl (is (I64 x8))), (10, .inl (is (I64 x9))), (12, .inl (is (I64 x38))), (13, .inr (.inl (13, 0)))], [(0, pb 215 (ar U8 1441 x25 ++ (is (I64 x26) :: (is (I64 x27) :: (is (I64 x28) :: (is (I64 x29) :: [])))))), (6, pb 340 (ar U64 18 x39 ++ [])), (13, pb 42 [is (U64 v.1), is (U64 v.2)])]⟩) (fun v => some out24 = F283_18 N x8 x9 x24 x25 x26 x27 x28 x29 x38 x39 v.1 v.2) ?_ ?_
                            · skip
                              refine AW_region ?_
                              refine AL_cons (LR_move (at_tmp 12 _) rfl) (sS (sT1 rfl) sB0 sF0) ?_
                              obtain ⟨hg442, hr⟩ := guard_some hr
                              refine AL_cons (LR_indexAddr (o := x38.toNat) Hfaa.underlying340 sz30 (at_tmp 6 _) (at_tmp 100 _) (dand hg442) (by first | rfl | omega) rfl) (sS (sA (sT1 rfl) (sT1 rfl)) sB0 sF0) ?_
                              refine AL_cons (LR_load (at_tmp 101 _) na30 (gA (ltn (dand hg442))) rfl) (sS (sT1 rfl) (sB1 rfl) sF0) ?_
                              obtain ⟨y315, hy315, hr⟩ := lt_some hr
                              refine AL_cons (LR_call Hfaa.func165 rfl rfl (C165 (x39 x38.toNat) (1000000000000000000#64) y315 hy315) (all_cons (at_tmp 102 _) (all_cons (at_c (v' := U64 (1000000000000000000#64)) rfl) all_nil)) rfl) (sS (sA (sT1 rfl) (sA sT0 sT0)) sB0 sF0) ?_
                              refine AL_cons (LR_move (at_tmp 11 _) rfl) (sS (sT1 rfl) sB0 sF0) ?_
                              refine AL_cons (bl42 (parts_cons (i := 1) (off := 1) (at_tmp 104 _) (cells_one (one_is rfl)) rfl rfl parts_nil) rfl rfl) (sS (sA (sT1 rfl) sT0) sB0 sF0) ?_
                              obtain ⟨y316, hy316, hr⟩ := lt_some hr
                              refine AL_cons (LR_call Hfaa.func166 rfl rfl (C166 y315.1 y315.2 (0#64) x37 y316 hy316) (all_cons (at_tmp 103 _) (all_cons (at_tmp 105 _) all_nil)) rfl) (sS (sA (sT1 rfl) (sA (sT1 rfl) sT0)) sB0 sF0) ?_
                              refine AL_cons (LR_move (at_tmp 106 _) rfl) (sS (sT1 rfl) sB0 sF0) ?_
                              refine AL_cons (LR_extract (at_tmp 99 _) rfl rfl) (sS (sT1 rfl) sB0 sF0) ?_
                              refine AL_cons (LR_extract (at_tmp 99 _) rfl rfl) (sS (sT1 rfl) sB0 sF0) ?_
                              refine AL_cons (zl42 rfl) (sS sT0 sB0 (sF1 rfl)) ?_
                              refine AL_cons (LR_store (at_tmp 13 _) (at_tmp 107 _) (cells_agg _) (onC (one_is rfl) (onC (one_is rfl) onN)) sz42 rfl rfl) (sS (sA (sT1 rfl) (sT1 rfl)) (sB1 rfl) sF0) ?_
                              refine AL_cons (LR_assign (at_tmp 108 _) rfl) (sS (sT1 rfl) sB0 sF0) ?_
                              refine AL_nil ?_
                              exact thenN (cutLeaf (v := (y316.1, y316.2.1)) hr (weakB ((sT rfl (sT rfl (sT rfl (sT rfl (sT rfl (sT rfl (sT rfl sT0)))))))) (sub_keep (sub_keep (sub_keep sub_nil))) rfl))
                            · rintro ⟨x43, x44⟩ hr
                              show AW Hfaa.prog _ _ _ ⟨[(0, .inr (.inl (0, 0))), (6, .inr (.inl (6, 0))), (8, .inl (is (I64 x24))), (9, .inl (is (I64 x8))), (10, .inl (is (I64 x9))), (12, .inl (is (I64 x38))), (13, .inr (.inl (13, 0)))], [(0, pb 215 (ar U8 1441 x25 ++ (is (I64 x26) :: (is (I64 x27) :: (is (I64 x28) :: (is (I64 x29) :: [])))))), (6, pb 340 (ar U64 18 x39 ++ [])), (13, pb 42 [is (U64 x43), is (U64 x44)])]⟩
                              have hr : some out24 = F283_18 N x8 x9 x24 x25 x26 x27 x28 x29 x38 x39 x43 x44 := hr
                              obtain ⟨hg441, hr⟩ := guard_some hr
                              refine AW_draw mixed
                                (lrC (LR_move (at_tmp 12 _) rfl)
                                (lrC (LR_fieldAddr (off := 0) (o := 1) (at_tmp 13 _) (fun b w => fa42_1 b 0 w) rfl)
                                (lrC (LR_load (at_tmp 110 _) na30 rfl rfl)
                                (lrC (LR_fieldAddr (off := 0) (o := 0) (at_tmp 13 _) (fun b w => fa42_0 b 0 w) rfl)
                                (lrC (LR_load (at_tmp 112 _) na30 rfl rfl)
                                (lrC (LR_indexAddr (o := x38.toNat) Hfaa.underlying340 sz30 (at_tmp 6 _) (at_tmp 109 _) (dand hg441) (by first | rfl | omega) rfl)
                                (lrC (LR_storeA (at_tmp 114 _) (at_tmp 111 _) (cells_one (one_is rfl)) (onC (one_is rfl) onN) sz30 rfl (ble_dyn (lnA ln0) (by have := (ltn (dand hg441)); omega)) (stA (ltn (dand hg441))))
                                (lrC (LR_assign (at_tmp 113 _) rfl)
                                lrN))))))))
                                (by kernel_rfl)
                                (saC (sS (sT1 rfl) sB0 sF0) (saC (sS (sT1 rfl) sB0 sF0) (saC (sS (sT1 rfl) (sB1 rfl) sF0) (saC (sS (sT1 rfl) sB0 sF0) (saC (sS (sT1 rfl) (sB1 rfl) sF0) (saC (sS (sA (sT1 rfl) (sT1 rfl)) sB0 sF0) (saC (sS (sA (sT1 rfl) (sT1 rfl)) (sB1 rfl) sF0) (saC (sS (sT1 rfl) sB0 sF0) saN)))))))) ?_
                              refine blN ?_
                              exact thenN (cutLeaf (v := (x43, upd x39 x38.toNat x44)) hr (weakB ((sT rfl (sT rfl (sT rfl (sT rfl (sT rfl (sT rfl (sT rfl sT0)))))))) (sub_keep (sub_keep (sub_drop sub_nil))) rfl))
                          · rintro ⟨x41, x42⟩ hr
                            show AW Hfaa.prog _ _ _ ⟨[(0, .inr (.inl (0, 0))), (6, .inr (.inl (6, 0))), (8, .inl (is (I64 x24))), (9, .inl (is (I64 x8))), (10, .inl (is (I64 x9))), (12, .inl (is (I64 x38))), (11, .inl (is (U64 x41)))], [(0, pb 215 (ar U8 1441 x25 ++ (is (I64 x26) :: (is (I64 x27) :: (is (I64 x28) :: (is (I64 x29) :: [])))))), (6, pb 340 (ar U64 18 x42 ++ []))]⟩
                            have hr : some out24 = F283_17 N x8 x9 x24 x25 x26 x27 x28 x29 x38 x41 x42 := hr
                            refine AW_region ?_
                            refine AL_cons (LR_move (at_tmp 12 _) rfl) (sS (sT1 rfl) sB0 sF0) ?_
                            refine AL_cons (LR_bin (at_tmp 97 _) (at_c (v' := I64 1) rfl) (add_I64 x38 1) rfl) (sS (sA (sT1 rfl) sT0) sB0 sF0) ?_
                            refine AL_cons (LR_assign (at_tmp 98 _) rfl) (sS (sT1 rfl) sB0 sF0) ?_
                            refine AL_nil ?_
                            exact thenN (loopNext (x' := (x41, w64 (x38 + 1), x42)) hr (weakB ((sT rfl (sT rfl (sT rfl (sT rfl (sT rfl (sT rfl (sT rfl sT0)))))))) (sub_keep (sub_keep sub_nil)) rfl))
                        · have hr := hr.trans (cond_f h)
                          clear h
                          refine AW_exit ?_
                          refine thenX ?_
                          obtain ⟨r', hro, hr⟩ := map_inr hr
                          refine thenX (loopOut hro (fun he => ?_))
                          rw [he] at hr
                          refine blH ?_
                          exact thenN (cutLeaf (v := (x37, x39)) hr (weakB ((sT rfl (sT rfl (sT rfl (sT rfl (sT rfl (sT rfl sT0))))))) (sub_keep (sub_keep sub_nil)) rfl))
                    · rintro ⟨x30, x31⟩ hr
                      show AW Hfaa.prog _ _ _ ⟨[(0, .inr (.inl (0, 0))), (6, .inr (.inl (6, 0))), (8, .inl (is (I64 x24))), (9, .inl (is (I64 x8))), (10, .inl (is (I64 x9))), (11, .inl (is (U64 x30)))], [(0, pb 215 (ar U8 1441 x25 ++ (is (I64 x26) :: (is (I64 x27) :: (is (I64 x28) :: (is (I64 x29) :: [])))))), (6, pb 340 (ar U64 18 x31 ++ []))]⟩
                      have hr : some out17 = F283_11 N x8 x9 x24 x25 x26 x27 x28 x29 x30 x31 := hr
                      refine AW_cut (σ := Int × BitVec 64 × (Nat → BitVec 64)) (fun v => ⟨[(0, .inr (.inl (0, 0))), (6, .inr (.inl (6, 0))), (8, .inl (is (I64 x24))), (9, .inl (is (I64 v.1))), (10, .inl (is (I64 x9))), (11, .inl (is (U64 v.2.1)))], [(0, pb 215 (ar U8 1441 x25 ++ (is (I64 x26) :: (is (I64 x27) :: (is (I64 x28) :: (is (I64 x29) :: [])))))), (6, pb 340 (ar U64 18 v.2.2 ++ []))]⟩) (fun v => some out17 = F283_12 N x9 x24 x25 x26 x27 x28 x29 v.1 v.2.1 v.2.2) ?_ ?_
                      · skip
                        refine AW_cut (σ := Bool) (fun v => ⟨[(0, .inr (.inl (0, 0))), (6, .inr (.inl (6, 0))), (8, .inl (is (I64 x24))), (9, .inl (is (I64 x8))), (10, .inl (is (I64 x9))), (11, .inl (is (U64 x30))), (120, .inl (is (Bl v)))], [(0, pb 215 (ar U8 1441 x25 ++ (is (I64 x26) :: (is (I64 x27) :: (is (I64 x28) :: (is (I64 x29) :: [])))))), (6, pb 340 (ar U64 18 x31 ++ []))]⟩) (fun v => some out17 = F283_13 N x8 x9 x24 x25 x26 x27 x28 x29 x30 x31 v) ?_ ?_
                        · skip
                          refine AW_region ?_
                          refine AL_cons (LR_move (at_tmp 9 _) rfl) (sS (sT1 rfl) sB0 sF0) ?_
                          refine AL_cons (LR_bin (at_tmp 115 _) (at_c (v' := I64 18) rfl) (lss_I64 x8 18) rfl) (sS (sA (sT1 rfl) sT0) sB0 sF0) ?_
                          refine AL_cons (LR_move (at_tmp 116 _) rfl) (sS (sT1 rfl) sB0 sF0) ?_
                          refine AL_cutAt 3 ⟨[(0, .inr (.inl (0, 0))), (6, .inr (.inl (6, 0))), (8, .inl (is (I64 x24))), (9, .inl (is (I64 x8))), (10, .inl (is (I64 x9))), (11, .inl (is (U64 x30))), (115, .inl (is (I64 x8))), (116, .inl (is (Bl (decide (x8 < 18))))), (117, .inl (is (Bl (decide (x8 < 18))))), (120, .inl (is (Bl ((decide (x8 < 18)) && (x30 != (0#64))))))], [(0, pb 215 (ar U8 1441 x25 ++ (is (I64 x26) :: (is (I64 x27) :: (is (I64 x28) :: (is (I64 x29) :: [])))))), (6, pb 340 (ar U64 18 x31 ++ []))]⟩ ?_ ?_
                          · cases hb : decide (x8 < 18)
                            · skip
                              refine AL_cons (LR_off (b := false) rfl rfl rfl rfl) (sS (sT1 rfl) sB0 sF0) ?_
                              refine AL_cons (LR_off (b := false) rfl rfl rfl rfl) (sS (sT1 rfl) sB0 sF0) ?_
                              refine AL_cons (LR_pick (b := false) (at_tmp 117 _) (at_tmp 119 _) (at_c (v' := Bl false) rfl) rfl) (sS (sA (sT1 rfl) (sA (sT1 rfl) sT0)) sB0 sF0) ?_
                              exact AL_nil ⟨rfl, weakB ((sT rfl (sT rfl (sT rfl (sT rfl (sT rfl (sT rfl (sT rfl (sT rfl (sT rfl (sT rfl sT0))))))))))) (sub_keep (sub_keep sub_nil)) rfl⟩
                            · skip
                              refine AL_cons (LR_on rfl rfl rfl (LR_move (at_tmp 11 _) rfl)) (sS (sT rfl (sT1 rfl)) sB0 sF0) ?_
                              refine AL_cons (LR_on rfl rfl rfl (LR_bin (at_tmp 118 _) (at_c (v' := U64 (0#64)) rfl) (neq_U64 x30 (0#64)) rfl)) (sS (sT rfl (sA (sT1 rfl) sT0)) sB0 sF0) ?_
                              refine AL_cons (LR_pick (b := true) (at_tmp 117 _) (at_tmp 119 _) (at_c (v' := Bl false) rfl) rfl) (sS (sA (sT1 rfl) (sA (sT1 rfl) sT0)) sB0 sF0) ?_
                              exact AL_nil ⟨rfl, weakB ((sT rfl (sT rfl (sT rfl (sT rfl (sT rfl (sT rfl (sT rfl (sT rfl (sT rfl (sT rfl sT0))))))))))) (sub_keep (sub_keep sub_nil)) rfl⟩
                          refine AL_nil ?_
                          exact thenN (cutLeaf (v := (decide (x8 < 18)) && (x30 != (0#64))) hr (weakB ((sT rfl (sT rfl (sT rfl (sT rfl (sT rfl (sT rfl (sT rfl sT0)))))))) (sub_keep (sub_keep sub_nil)) rfl))
                        · rintro x35 hr
                          show AW Hfaa.prog _ _ _ ⟨[(0, .inr (.inl (0, 0))), (6, .inr (.inl (6, 0))), (8, .inl (is (I64 x24))), (9, .inl (is (I64 x8))), (10, .inl (is (I64 x9))), (11, .inl (is (U64 x30))), (120, .inl (is (Bl x35)))], [(0, pb 215 (ar U8 1441 x25 ++ (is (I64 x26) :: (is (I64 x27) :: (is (I64 x28) :: (is (I64 x29) :: [])))))), (6, pb 340 (ar U64 18 x31 ++ []))]⟩
                          have hr : some out17 = F283_13 N x8 x9 x24 x25 x26 x27 x28 x29 x30 x31 x35 := hr
                          refine AW_condT (b := x35) rfl (fun h => ?_) (fun h => ?_)
                          · have hr := hr.trans (cond_t h)
                            clear h
                            refine AW_cut (σ := (Nat → BitVec 64)) (fun v => ⟨[(0, .inr (.inl (0, 0))), (6, .inr (.inl (6, 0))), (8, .inl (is (I64 x24))), (9, .inl (is (I64 x8))), (10, .inl (is (I64 x9))), (11, .inl (is (U64 (0#64))))], [(0, pb 215 (ar U8 1441 x25 ++ (is (I64 x26) :: (is (I64 x27) :: (is (I64 x28) :: (is (I64 x29) :: [])))))), (6, pb 340 (ar U64 18 v ++ []))]⟩) (fun v => some out17 = F283_14 N x8 x9 x24 x25 x26 x27 x28 x29 v) ?_ ?_
                            · skip
                              refine AW_region ?_
                              refine AL_cons (LR_move (at_tmp 9 _) rfl) (sS (sT1 rfl) sB0 sF0) ?_
                              refine AL_cons (LR_move (at_tmp 11 _) rfl) (sS (sT1 rfl) sB0 sF0) ?_
                              obtain ⟨hg424, hr⟩ := guard_some hr
                              refine AL_cons (LR_indexAddr (o := x8.toNat) Hfaa.underlying340 sz30 (at_tmp 6 _) (at_tmp 121 _) (dand hg424) (by first | rfl | omega) rfl) (sS (sA (sT1 rfl) (sT1 rfl)) sB0 sF0) ?_
                              refine AL_cons (LR_storeA (at_tmp 123 _) (at_tmp 122 _) (cells_one (one_is rfl)) (onC (one_is rfl) onN) sz30 rfl (ble_dyn (lnA ln0) (by have := (ltn (dand hg424)); omega)) (stA (ltn (dand hg424)))) (sS (sA (sT1 rfl) (sT1 rfl)) (sB1 rfl) sF0) ?_
                              refine AL_cons (LR_assign (at_c (v' := U64 (0#64)) rfl) rfl) (sS sT0 sB0 sF0) ?_
                              refine AL_nil ?_
                              exact thenN (cutLeaf (v := upd x31 x8.toNat x30) hr (weakB ((sT rfl (sT rfl (sT rfl (sT rfl (sT rfl (sT rfl sT0))))))) (sub_keep (sub_keep sub_nil)) rfl))
                            · rintro x36 hr
                              show AW Hfaa.prog _ _ _ ⟨[(0, .inr (.inl (0, 0))), (6, .inr (.inl (6, 0))), (8, .inl (is (I64 x24))), (9, .inl (is (I64 x8))), (10, .inl (is (I64 x9))), (11, .inl (is (U64 (0#64))))], [(0, pb 215 (ar U8 1441 x25 ++ (is (I64 x26) :: (is (I64 x27) :: (is (I64 x28) :: (is (I64 x29) :: [])))))), (6, pb 340 (ar U64 18 x36 ++ []))]⟩
                              have hr : some out17 = F283_14 N x8 x9 x24 x25 x26 x27 x28 x29 x36 := hr
                              refine AW_region ?_
                              refine AL_cons (LR_move (at_tmp 9 _) rfl) (sS (sT1 rfl) sB0 sF0) ?_
                              refine AL_cons (LR_bin (at_tmp 124 _) (at_c (v' := I64 1) rfl) (add_I64 x8 1) rfl) (sS (sA (sT1 rfl) sT0) sB0 sF0) ?_
                              refine AL_cons (LR_assign (at_tmp 125 _) rfl) (sS (sT1 rfl) sB0 sF0) ?_
                              refine AL_nil ?_
                              exact thenN (cutLeaf (v := (w64 (x8 + 1), 0#64, x36)) hr (weakB ((sT rfl (sT rfl (sT rfl (sT rfl (sT rfl (sT rfl sT0))))))) (sub_keep (sub_keep sub_nil)) rfl))
                          · have hr := hr.trans (cond_f h)
                            clear h
                            refine AW_skip ?_
                            exact thenN (cutLeaf (v := (x8, x30, x31)) hr (weakB ((sT rfl (sT rfl (sT rfl (sT rfl (sT rfl (sT rfl sT0))))))) (sub_keep (sub_keep sub_nil)) rfl))
                      · rintro ⟨x32, x33, x34⟩ hr
                        show AW Hfaa.prog _ _ _ ⟨[(0, .inr (.inl (0, 0))), (6, .inr (.inl (6, 0))), (8, .inl (is (I64 x24))), (9, .inl (is (I64 x32))), (10, .inl (is (I64 x9))), (11, .inl (is (U64 x33)))], [(0, pb 215 (ar U8 1441 x25 ++ (is (I64 x26) :: (is (I64 x27) :: (is (I64 x28) :: (is (I64 x29) :: [])))))), (6, pb 340 (ar U64 18 x34 ++ []))]⟩
                        have hr : some out17 = F283_12 N x9 x24 x25 x26 x27 x28 x29 x32 x33 x34 := hr
                        refine AW_region ?_
                        refine AL_cons (LR_move (at_tmp 0 _) rfl) (sS (sT1 rfl) sB0 sF0) ?_
                        refine AL_cons (LR_move (at_tmp 11 _) rfl) (sS (sT1 rfl) sB0 sF0) ?_
                        obtain ⟨y292, hy292, hr⟩ := bind_some hr
                        refine AL_cons (LR_callB [(0, 0)] [(0, 0)] Hfaa.func282 rfl rfl (C282 N x25 x26 x27 x28 x29 x33 true y292 hy292) (aTC (at_tmp 126 _) (aTC (at_tmp 127 _) (aTC (at_c (v' := Bl true) rfl) aT0))) rfl rfl rfl rfl rfl) (sS (sA (sT1 rfl) (sA (sT1 rfl) (sA sT0 sT0))) (sB1 rfl) sF0) ?_
                        refine AL_nil ?_
                        refine blN ?_
                        exact thenN (cutLeaf (v := (x24, x32, y292.1, y292.2.1, y292.2.2.1, y292.2.2.2.1, y292.2.2.2.2, x34)) hr (weakB ((sT rfl (sT rfl (sT rfl (sT rfl (sT rfl sT0)))))) (sub_keep (sub_keep sub_nil)) rfl))
              · rintro ⟨x16, x17, x18, x19, x20, x21, x22, x23⟩ hr
                show AW Hfaa.prog _ _ _ ⟨[(0, .inr (.inl (0, 0))), (6, .inr (.inl (6, 0))), (8, .inl (is (I64 x16))), (9, .inl (is (I64 x17))), (10, .inl (is (I64 x9)))], [(0, pb 215 (ar U8 1441 x18 ++ (is (I64 x19) :: (is (I64 x20) :: (is (I64 x21) :: (is (I64 x22) :: [])))))), (6, pb 340 (ar U64 18 x23 ++ []))]⟩
                have hr : some out17 = F283_8 N x9 x16 x17 x18 x19 x20 x21 x22 x23 := hr
                refine AW_region ?_
                refine AL_cons (LR_move (at_tmp 10 _) rfl) (sS (sT1 rfl) sB0 sF0) ?_
                refine AL_cons (LR_bin (at_tmp 55 _) (at_c (v' := I64 1) rfl) (add_I64 x9 1) rfl) (sS (sA (sT1 rfl) sT0) sB0 sF0) ?_
                refine AL_cons (LR_assign (at_tmp 56 _) rfl) (sS (sT1 rfl) sB0 sF0) ?_
                refine AL_nil ?_
                exact thenN (loopNext (x' := (x16, x17, w64 (x9 + 1), x18, x19, x20, x21, x22, x23)) hr (weakB ((sT rfl (sT rfl (sT rfl (sT rfl (sT rfl sT0)))))) (sub_keep (sub_keep sub_nil)) rfl))
end Go.Proofs.YfwaawGreat
