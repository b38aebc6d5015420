import Derived.Test.YfwaawGreatG1
import Derived.Test.YfwaawGreatG8
import Derived.Test.YfwaawGreatG17
import Derived.Test.YfwaawGreatG18
import Derived.Test.YfwaawGreatG25
import Derived.Test.YfwaawGreatG43
import Derived.Test.YfwaawGreatG47
import Derived.Test.YfwaawGreatG50
namespace Go.Proofs.YfwaawGreat
open Go.Aw
set_option linter.unusedVariables false
set_option maxRecDepth 100000
set_option maxHeartbeats 1000000
/-- expand.DigitsF -/
def F104_5 (N : Nat) (a2 : BitVec 16) (x6 : Nat → BitVec 8) (x7 : Int) (x8 : Int) (x9 : Int) (x10 : Int) : Option (List UInt8) := (F202 N x6 x7 x8 x9 x10 (w64 ((w64 (x8 + 1)) + (w64 (a2.toNat : Int))))).bind fun y6 => some y6.1
def F104_4 (N : Nat) (a0_0 : BitVec 8) (a0_1 : BitVec 8) (a1 : BitVec 64) (a2 : BitVec 16) (x4 : Nat → BitVec 8) (x5 : Int) : Option (List UInt8) := (F201 N x4 0 0 2880 x5 a0_0 a0_1 a1).bind fun y7 => F104_5 N a2 y7.1 y7.2.1 y7.2.2.1 y7.2.2.2.1 y7.2.2.2.2
def F104_3 (N : Nat) (a0_0 : BitVec 8) (a0_1 : BitVec 8) (a1 : BitVec 64) (a2 : BitVec 16) (x3 : Bool) : Option (List UInt8) := bif x3 then some ([48] : List UInt8) else F104_4 N a0_0 a0_1 a1 a2 (fun _ => 0#8) (w64 (a2.toNat : Int))
def F104_2 (N : Nat) (a0_0 : BitVec 8) (a0_1 : BitVec 8) (a1 : BitVec 64) (a2 : BitVec 16) (x1 : Int) (x2 : Bool) : Option (List UInt8) := bif x2 then some ([] : List UInt8) else F104_3 N a0_0 a0_1 a1 a2 (x1 == 0)
def F104_6 (N : Nat) (a0_0 : BitVec 8) (a0_1 : BitVec 8) (a1 : BitVec 64) (a2 : BitVec 16) (x1 : Int) (x11 : Bool) : Option (List UInt8) := bif x11 then F104_2 N a0_0 a0_1 a1 a2 x1 x11 else F104_2 N a0_0 a0_1 a1 a2 x1 (x1 == 4)
def F104_1 (N : Nat) (a0_0 : BitVec 8) (a0_1 : BitVec 8) (a1 : BitVec 64) (a2 : BitVec 16) (x1 : Int) : Option (List UInt8) := F104_6 N a0_0 a0_1 a1 a2 x1 (x1 == 3)
def F104 (N : Nat) (a0_0 : BitVec 8) (a0_1 : BitVec 8) (a1 : BitVec 64) (a2 : BitVec 16) : Option (List UInt8) := lt (F199 a0_0 a0_1 a1 a2) fun y8 => F104_1 N a0_0 a0_1 a1 a2 y8
theorem C104 (N : Nat) (a0_0 : BitVec 8) (a0_1 : BitVec 8) (a1 : BitVec 64) (a2 : BitVec 16) (r : List UInt8) (hr : some r = F104 N a0_0 a0_1 a1 a2) : Aw.Fn Hfaa.prog 104 [agg [is (U8 a0_0), is (U8 a0_1)], is (U64 a1), is (U16 a2)] (is (Sv r)) := by
  refine fn_intro Hfaa.func104 rfl rfl rfl ?_
  intro bn0 w0 H0
  refine AW_seq1 ?_
  refine AW_region ?_
  refine AL_cons (LR_box (at_tmp 0 _) (cells_agg _) rfl) (sS (sT1 rfl) sB0 (sF1 rfl)) ?_
  refine AL_cons (LR_assign (at_c (v' := Sv ([] : List UInt8)) rfl) rfl) (sS sT0 sB0 sF0) ?_
  refine AL_nil ?_
  refine thenN ?_
  refine AW_seq1 ?_
  refine AW_cut (σ := Int) (fun v => ⟨[(1, .inl (is (U64 a1))), (2, .inl (is (U16 a2))), (3, .inr (.inl (3, 0))), (11, .inl (is (I8 v)))], [(3, pb 23 [is (U8 a0_0), is (U8 a0_1)])]⟩) (fun v => some r = F104_1 N a0_0 a0_1 a1 a2 v) ?_ ?_
  · skip
    refine AW_region ?_
    refine AL_cons (LR_loads (at_tmp 3 _) ag23 sz23 rfl rfl rfl) (sS (sT1 rfl) (sB1 rfl) sF0) ?_
    refine AL_cons (LR_move (at_tmp 1 _) rfl) (sS (sT1 rfl) sB0 sF0) ?_
    refine AL_cons (LR_move (at_tmp 2 _) rfl) (sS (sT1 rfl) sB0 sF0) ?_
    obtain ⟨y8, hy8, hr⟩ := lt_some hr
    refine AL_cons (LR_call Hfaa.func199 rfl rfl (C199 a0_0 a0_1 a1 a2 y8 hy8) (all_cons (at_tmp 8 _) (all_cons (at_tmp 9 _) (all_cons (at_tmp 10 _) all_nil))) rfl) (sS (sA (sT1 rfl) (sA (sT1 rfl) (sA (sT1 rfl) sT0))) sB0 sF0) ?_
    refine AL_nil ?_
    exact thenN (cutLeaf (v := y8) hr (weak0 ((sT rfl (sT rfl (sT rfl (sT rfl sT0))))) (sub_keep sub_nil)))
  · rintro x1 hr
    show AW Hfaa.prog _ _ _ ⟨[(1, .inl (is (U64 a1))), (2, .inl (is (U16 a2))), (3, .inr (.inl (3, 0))), (11, .inl (is (I8 x1)))], [(3, pb 23 [is (U8 a0_0), is (U8 a0_1)])]⟩
    have hr : some r = F104_1 N a0_0 a0_1 a1 a2 x1 := hr
    refine AW_block ?_
    refine AW_cut (σ := Bool) (fun v => ⟨[(1, .inl (is (U64 a1))), (2, .inl (is (U16 a2))), (3, .inr (.inl (3, 0))), (11, .inl (is (I8 x1))), (12, .inl (is (Bl v)))], [(3, pb 23 [is (U8 a0_0), is (U8 a0_1)])]⟩) (fun v => some r = F104_2 N a0_0 a0_1 a1 a2 x1 v) ?_ ?_
    · skip
      refine AW_cut (σ := Bool) (fun v => ⟨[(1, .inl (is (U64 a1))), (2, .inl (is (U16 a2))), (3, .inr (.inl (3, 0))), (11, .inl (is (I8 x1))), (12, .inl (is (Bl v)))], [(3, pb 23 [is (U8 a0_0), is (U8 a0_1)])]⟩) (fun v => some r = F104_6 N a0_0 a0_1 a1 a2 x1 v) ?_ ?_
      · skip
        refine AW_region ?_
        refine AL_cons (LR_bin (at_tmp 11 _) (at_c (v' := I8 3) rfl) (eql_I8 x1 3) rfl) (sS (sA (sT1 rfl) sT0) sB0 sF0) ?_
        refine AL_cons (LR_assign (at_tmp 13 _) rfl) (sS (sT1 rfl) sB0 sF0) ?_
        refine AL_nil ?_
        exact thenN (cutLeaf (v := x1 == 3) hr (weak0 ((sT rfl (sT rfl (sT rfl (sT rfl (sT rfl sT0)))))) (sub_keep sub_nil)))
      · rintro x11 hr
        show AW Hfaa.prog _ _ _ ⟨[(1, .inl (is (U64 a1))), (2, .inl (is (U16 a2))), (3, .inr (.inl (3, 0))), (11, .inl (is (I8 x1))), (12, .inl (is (Bl x11)))], [(3, pb 23 [is (U8 a0_0), is (U8 a0_1)])]⟩
        have hr : some r = F104_6 N a0_0 a0_1 a1 a2 x1 x11 := hr
        refine AW_condT (b := x11) rfl (fun h => ?_) (fun h => ?_)
        · have hr := hr.trans (cond_t h)
          clear h
          refine AW_skip ?_
          exact thenN (cutLeaf (v := x11) hr (weak0 ((sT rfl (sT rfl (sT rfl (sT rfl (sT rfl sT0)))))) (sub_keep sub_nil)))
        · have hr := hr.trans (cond_f h)
          clear h
          refine AW_region ?_
          refine AL_cons (LR_bin (at_tmp 11 _) (at_c (v' := I8 4) rfl) (eql_I8 x1 4) rfl) (sS (sA (sT1 rfl) sT0) sB0 sF0) ?_
          refine AL_cons (LR_assign (at_tmp 14 _) rfl) (sS (sT1 rfl) sB0 sF0) ?_
          refine AL_nil ?_
          exact thenN (cutLeaf (v := x1 == 4) hr (weak0 ((sT rfl (sT rfl (sT rfl (sT rfl (sT rfl sT0)))))) (sub_keep sub_nil)))
    · rintro x2 hr
      show AW Hfaa.prog _ _ _ ⟨[(1, .inl (is (U64 a1))), (2, .inl (is (U16 a2))), (3, .inr (.inl (3, 0))), (11, .inl (is (I8 x1))), (12, .inl (is (Bl x2)))], [(3, pb 23 [is (U8 a0_0), is (U8 a0_1)])]⟩
      have hr : some r = F104_2 N a0_0 a0_1 a1 a2 x1 x2 := hr
      refine AW_condT (b := x2) rfl (fun h => ?_) (fun h => ?_)
      · have hr := hr.trans (cond_t h)
        clear h
        refine AW_seq1 ?_
        refine AW_region ?_
        refine AL_cons (LR_assign (at_c (v' := Sv ([] : List UInt8)) rfl) rfl) (sS sT0 sB0 sF0) ?_
        refine AL_nil ?_
        refine thenN ?_
        refine AW_ret ?_
        refine blR ?_
        refine thenR ?_
        obtain rfl := Option.some.inj hr
        exact res1 rfl (rvT rfl)
      · have hr := hr.trans (cond_f h)
        clear h
        refine AW_cut (σ := Bool) (fun v => ⟨[(1, .inl (is (U64 a1))), (2, .inl (is (U16 a2))), (3, .inr (.inl (3, 0))), (15, .inl (is (Bl v)))], [(3, pb 23 [is (U8 a0_0), is (U8 a0_1)])]⟩) (fun v => some r = F104_3 N a0_0 a0_1 a1 a2 v) ?_ ?_
        · skip
          refine AW_region ?_
          refine AL_cons (LR_bin (at_tmp 11 _) (at_c (v' := I8 0) rfl) (eql_I8 x1 0) rfl) (sS (sA (sT1 rfl) sT0) sB0 sF0) ?_
          refine AL_cons (LR_assign (at_tmp 16 _) rfl) (sS (sT1 rfl) sB0 sF0) ?_
          refine AL_nil ?_
          exact thenN (cutLeaf (v := x1 == 0) hr (weak0 ((sT rfl (sT rfl (sT rfl (sT rfl sT0))))) (sub_keep sub_nil)))
        · rintro x3 hr
          show AW Hfaa.prog _ _ _ ⟨[(1, .inl (is (U64 a1))), (2, .inl (is (U16 a2))), (3, .inr (.inl (3, 0))), (15, .inl (is (Bl x3)))], [(3, pb 23 [is (U8 a0_0), is (U8 a0_1)])]⟩
          have hr : some r = F104_3 N a0_0 a0_1 a1 a2 x3 := hr
          refine AW_condT (b := x3) rfl (fun h => ?_) (fun h => ?_)
          · have hr := hr.trans (cond_t h)
            clear h
            refine AW_seq1 ?_
            refine AW_region ?_
            refine AL_cons (LR_assign (at_c (v' := Sv ([48] : List UInt8)) rfl) rfl) (sS sT0 sB0 sF0) ?_
            refine AL_nil ?_
            refine thenN ?_
            refine AW_ret ?_
            refine blR ?_
            refine thenR ?_
            obtain rfl := Option.some.inj hr
            exact res1 rfl (rvT rfl)
          · have hr := hr.trans (cond_f h)
            clear h
            refine AW_skip ?_
            refine blN ?_
            refine thenN ?_
            refine AW_cut (σ := (Nat → BitVec 8) × Int) (fun v => ⟨[(1, .inl (is (U64 a1))), (2, .inl (is (U16 a2))), (3, .inr (.inl (3, 0))), (7, .inr (.inl (7, 0)))], [(3, pb 23 [is (U8 a0_0), is (U8 a0_1)]), (7, pb 215 (ar U8 1441 v.1 ++ (is (I64 0) :: (is (I64 0) :: (is (I64 2880) :: (is (I64 v.2) :: []))))))]⟩) (fun v => some r = F104_4 N a0_0 a0_1 a1 a2 v.1 v.2) ?_ ?_
            · skip
              refine AW_region ?_
              refine AL_cons (LR_move (at_tmp 2 _) rfl) (sS (sT1 rfl) sB0 sF0) ?_
              refine AL_cons (LR_conv (vx := U16 a2) (at_tmp 17 _) (conv_I64 Hfaa.underlying71 Hfaa.underlying3 (a2.toNat : Int)) rfl) (sS (sT1 rfl) sB0 sF0) ?_
              refine AL_cons (LR_aggE (blA215 (parts_cons' (i := 3) (off := 1443) (m := 1) (at_c (v' := I64 2880) rfl) (cells_one (one_is rfl)) rfl rfl rfl (parts_cons' (i := 4) (off := 1444) (m := 1) (at_tmp 18 _) (cells_one (one_is rfl)) rfl rfl rfl parts_nil)) rfl rfl) (flC (stP (stS (stS st0))) (flC (stP (stS (stS (stS st0)))) fl0))) (sS (sA sT0 (sA (sT1 rfl) sT0)) sB0 sF0) ?_
              refine AL_cons (zl215 rfl) (sS sT0 sB0 (sF1 rfl)) ?_
              refine AL_cons (LR_storeA (at_tmp 7 _) (at_tmp 19 _) (cells_agg _) (ones_ar (fun _ => rfl) (onC (one_is rfl) (onC (one_is rfl) (onC (one_is rfl) (onC (one_is rfl) onN))))) sz215 (lnA (lnC (lnC (lnC (lnC ln0))))) (bleLen (lnA (lnC (lnC (lnC (lnC ln0))))) rfl) (setSeg_full _ _ (lenEq (lnA (lnC (lnC (lnC (lnC ln0))))) (lnA (lnC (lnC (lnC (lnC ln0)))))))) (sS (sA (sT1 rfl) (sT1 rfl)) (sB1 rfl) sF0) ?_
              refine AL_nil ?_
              exact thenN (cutLeaf (v := (fun _ => 0#8, w64 (a2.toNat : Int))) hr (weak0 ((sT rfl (sT rfl (sT rfl (sT rfl sT0))))) (sub_keep (sub_keep sub_nil))))
            · rintro ⟨x4, x5⟩ hr
              show AW Hfaa.prog _ _ _ ⟨[(1, .inl (is (U64 a1))), (2, .inl (is (U16 a2))), (3, .inr (.inl (3, 0))), (7, .inr (.inl (7, 0)))], [(3, pb 23 [is (U8 a0_0), is (U8 a0_1)]), (7, pb 215 (ar U8 1441 x4 ++ (is (I64 0) :: (is (I64 0) :: (is (I64 2880) :: (is (I64 x5) :: []))))))]⟩
              have hr : some r = F104_4 N a0_0 a0_1 a1 a2 x4 x5 := hr
              refine AW_cut (σ := (Nat → BitVec 8) × Int × Int × Int × Int) (fun v => ⟨[(2, .inl (is (U16 a2))), (7, .inr (.inl (7, 0)))], [(7, pb 215 (ar U8 1441 v.1 ++ (is (I64 v.2.1) :: (is (I64 v.2.2.1) :: (is (I64 v.2.2.2.1) :: (is (I64 v.2.2.2.2) :: []))))))]⟩) (fun v => some r = F104_5 N a2 v.1 v.2.1 v.2.2.1 v.2.2.2.1 v.2.2.2.2) ?_ ?_
              · skip
                refine AW_region ?_
                refine AL_cons (LR_loads (at_tmp 3 _) ag23 sz23 rfl rfl rfl) (sS (sT1 rfl) (sB1 rfl) sF0) ?_
                refine AL_cons (LR_move (at_tmp 1 _) rfl) (sS (sT1 rfl) sB0 sF0) ?_
                obtain ⟨y7, hy7, hr⟩ := bind_some hr
                refine AL_cons (LR_callB [(0, 7)] [(7, 0)] Hfaa.func201 rfl rfl (C201 N x4 0 0 2880 x5 a0_0 a0_1 a1 y7 hy7) (aTC (at_tmp 7 _) (aTC (at_tmp 20 _) (aTC (at_tmp 21 _) aT0))) rfl rfl rfl rfl rfl) (sS (sA (sT1 rfl) (sA (sT1 rfl) (sA (sT1 rfl) sT0))) (sB1 rfl) sF0) ?_
                refine AL_nil ?_
                exact thenN (cutLeaf (v := (y7.1, y7.2.1, y7.2.2.1, y7.2.2.2.1, y7.2.2.2.2)) hr (weak0 ((sT rfl (sT rfl sT0))) (sub_drop (sub_keep sub_nil))))
              · rintro ⟨x6, x7, x8, x9, x10⟩ hr
                show AW Hfaa.prog _ _ _ ⟨[(2, .inl (is (U16 a2))), (7, .inr (.inl (7, 0)))], [(7, pb 215 (ar U8 1441 x6 ++ (is (I64 x7) :: (is (I64 x8) :: (is (I64 x9) :: (is (I64 x10) :: []))))))]⟩
                have hr : some r = F104_5 N a2 x6 x7 x8 x9 x10 := hr
                refine AW_seq1 ?_
                refine AW_region ?_
                refine AL_cons (LR_fieldAddr (off := 0) (o := 1442) (at_tmp 7 _) (fun b w => fa215_2 b 0 w) rfl) (sS (sT1 rfl) sB0 sF0) ?_
                refine AL_cons (LR_load (at_tmp 23 _) na3 (gP (gS g0)) rfl) (sS (sT1 rfl) (sB1 rfl) sF0) ?_
                refine AL_cons (LR_bin (at_tmp 24 _) (at_c (v' := I64 1) rfl) (add_I64 x8 1) rfl) (sS (sA (sT1 rfl) sT0) sB0 sF0) ?_
                refine AL_cons (LR_move (at_tmp 2 _) rfl) (sS (sT1 rfl) sB0 sF0) ?_
                refine AL_cons (LR_conv (vx := U16 a2) (at_tmp 26 _) (conv_I64 Hfaa.underlying71 Hfaa.underlying3 (a2.toNat : Int)) rfl) (sS (sT1 rfl) sB0 sF0) ?_
                refine AL_cons (LR_bin (at_tmp 25 _) (at_tmp 27 _) (add_I64 (w64 (x8 + 1)) (w64 (a2.toNat : Int))) rfl) (sS (sA (sT1 rfl) (sT1 rfl)) sB0 sF0) ?_
                obtain ⟨y6, hy6, hr⟩ := bind_some hr
                refine AL_cons (LR_callB [(0, 7)] [(7, 0)] Hfaa.func202 rfl rfl (C202 N x6 x7 x8 x9 x10 (w64 ((w64 (x8 + 1)) + (w64 (a2.toNat : Int)))) y6 hy6) (aTC (at_tmp 7 _) (aTC (at_tmp 28 _) aT0)) rfl rfl rfl rfl rfl) (sS (sA (sT1 rfl) (sA (sT1 rfl) sT0)) (sB1 rfl) sF0) ?_
                refine AL_cons (LR_assign (at_tmp 29 _) rfl) (sS (sT1 rfl) sB0 sF0) ?_
                refine AL_nil ?_
                refine thenN ?_
                refine AW_ret ?_
                obtain rfl := Option.some.inj hr
                exact res1 rfl (rvT rfl)
/-- expand.DigitsE -/
def F100_7 (N : Nat) (a2 : BitVec 16) (x11 : List UInt8) (x12 : Nat → BitVec 8) (x13 : Int) (x14 : Int) (x15 : Int) (x16 : Int) (x17 : Bool) : Option (List UInt8 × Int) := bif x17 then bif (decide (0 ≤ (0 : Int)) && (decide ((0 : Int) ≤ ((a2 + (1#16)).toNat : Int)) && decide (((a2 + (1#16)).toNat : Int) ≤ (x11.length : Int)))) then some (((x11.drop ((0 : Int)).toNat).take ((((a2 + (1#16)).toNat : Int)).toNat - ((0 : Int)).toNat), w16 (w64 (x14 + 1)))) else none else some (x11, w16 x14)
def F100_6 (N : Nat) (a2 : BitVec 16) (x11 : List UInt8) (x12 : Nat → BitVec 8) (x13 : Int) (x14 : Int) (x15 : Int) (x16 : Int) : Option (List UInt8 × Int) := F100_7 N a2 x11 x12 x13 x14 x15 x16 (decide ((x11.length : Int) > (w64 ((w64 (a2.toNat : Int)) + 1))))
def F100_5 (N : Nat) (a2 : BitVec 16) (x6 : Nat → BitVec 8) (x7 : Int) (x8 : Int) (x9 : Int) (x10 : Int) : Option (List UInt8 × Int) := (F202 N x6 x7 x8 x9 x10 (w64 ((w64 (a2.toNat : Int)) + 1))).bind fun y10 => F100_6 N a2 y10.1 y10.2.1 y10.2.2.1 y10.2.2.2.1 y10.2.2.2.2.1 y10.2.2.2.2.2
def F100_4 (N : Nat) (a0_0 : BitVec 8) (a0_1 : BitVec 8) (a1 : BitVec 64) (a2 : BitVec 16) (x4 : Nat → BitVec 8) (x5 : Int) : Option (List UInt8 × Int) := (F201 N x4 0 0 x5 2880 a0_0 a0_1 a1).bind fun y11 => F100_5 N a2 y11.1 y11.2.1 y11.2.2.1 y11.2.2.2.1 y11.2.2.2.2
def F100_3 (N : Nat) (a0_0 : BitVec 8) (a0_1 : BitVec 8) (a1 : BitVec 64) (a2 : BitVec 16) (x3 : Bool) : Option (List UInt8 × Int) := bif x3 then (F200 N (w64 ((w64 (a2.toNat : Int)) + 1))).bind fun y7 => some (y7, 0) else F100_4 N a0_0 a0_1 a1 a2 (fun _ => 0#8) (w64 ((w64 (a2.toNat : Int)) + 1))
def F100_2 (N : Nat) (a0_0 : BitVec 8) (a0_1 : BitVec 8) (a1 : BitVec 64) (a2 : BitVec 16) (x1 : Int) (x2 : Bool) : Option (List UInt8 × Int) := bif x2 then some ((([] : List UInt8), 0)) else F100_3 N a0_0 a0_1 a1 a2 (x1 == 0)
def F100_8 (N : Nat) (a0_0 : BitVec 8) (a0_1 : BitVec 8) (a1 : BitVec 64) (a2 : BitVec 16) (x1 : Int) (x18 : Bool) : Option (List UInt8 × Int) := bif x18 then F100_2 N a0_0 a0_1 a1 a2 x1 x18 else F100_2 N a0_0 a0_1 a1 a2 x1 (x1 == 4)
def F100_1 (N : Nat) (a0_0 : BitVec 8) (a0_1 : BitVec 8) (a1 : BitVec 64) (a2 : BitVec 16) (x1 : Int) : Option (List UInt8 × Int) := F100_8 N a0_0 a0_1 a1 a2 x1 (x1 == 3)
def F100 (N : Nat) (a0_0 : BitVec 8) (a0_1 : BitVec 8) (a1 : BitVec 64) (a2 : BitVec 16) : Option (List UInt8 × Int) := lt (F199 a0_0 a0_1 a1 a2) fun y12 => F100_1 N a0_0 a0_1 a1 a2 y12
theorem C100 (N : Nat) (a0_0 : BitVec 8) (a0_1 : BitVec 8) (a1 : BitVec 64) (a2 : BitVec 16) (r : List UInt8 × Int) (hr : some r = F100 N a0_0 a0_1 a1 a2) : Aw.Fn Hfaa.prog 100 [agg [is (U8 a0_0), is (U8 a0_1)], is (U64 a1), is (U16 a2)] (tup [is (Sv r.1), is (I16 r.2)]) := by
  refine fn_intro Hfaa.func100 rfl rfl rfl ?_
  intro bn0 w0 H0
  refine AW_seq1 ?_
  refine AW_region ?_
  refine AL_cons (LR_box (at_tmp 0 _) (cells_agg _) rfl) (sS (sT1 rfl) sB0 (sF1 rfl)) ?_
  refine AL_cons (LR_assign (at_c (v' := Sv ([] : List UInt8)) rfl) rfl) (sS sT0 sB0 sF0) ?_
  refine AL_cons (LR_assign (at_c (v' := I16 0) rfl) rfl) (sS sT0 sB0 sF0) ?_
  refine AL_nil ?_
  refine thenN ?_
  refine AW_seq1 ?_
  refine AW_cut (σ := Int) (fun v => ⟨[(1, .inl (is (U64 a1))), (2, .inl (is (U16 a2))), (3, .inr (.inl (3, 0))), (12, .inl (is (I8 v)))], [(3, pb 23 [is (U8 a0_0), is (U8 a0_1)])]⟩) (fun v => some r = F100_1 N a0_0 a0_1 a1 a2 v) ?_ ?_
  · skip
    refine AW_region ?_
    refine AL_cons (LR_loads (at_tmp 3 _) ag23 sz23 rfl rfl rfl) (sS (sT1 rfl) (sB1 rfl) sF0) ?_
    refine AL_cons (LR_move (at_tmp 1 _) rfl) (sS (sT1 rfl) sB0 sF0) ?_
    refine AL_cons (LR_move (at_tmp 2 _) rfl) (sS (sT1 rfl) sB0 sF0) ?_
    obtain ⟨y12, hy12, hr⟩ := lt_some hr
    refine AL_cons (LR_call Hfaa.func199 rfl rfl (C199 a0_0 a0_1 a1 a2 y12 hy12) (all_cons (at_tmp 9 _) (all_cons (at_tmp 10 _) (all_cons (at_tmp 11 _) all_nil))) rfl) (sS (sA (sT1 rfl) (sA (sT1 rfl) (sA (sT1 rfl) sT0))) sB0 sF0) ?_
    refine AL_nil ?_
    exact thenN (cutLeaf (v := y12) hr (weak0 ((sT rfl (sT rfl (sT rfl (sT rfl sT0))))) (sub_keep sub_nil)))
  · rintro x1 hr
    show AW Hfaa.prog _ _ _ ⟨[(1, .inl (is (U64 a1))), (2, .inl (is (U16 a2))), (3, .inr (.inl (3, 0))), (12, .inl (is (I8 x1)))], [(3, pb 23 [is (U8 a0_0), is (U8 a0_1)])]⟩
    have hr : some r = F100_1 N a0_0 a0_1 a1 a2 x1 := hr
    refine AW_block ?_
    refine AW_cut (σ := Bool) (fun v => ⟨[(1, .inl (is (U64 a1))), (2, .inl (is (U16 a2))), (3, .inr (.inl (3, 0))), (12, .inl (is (I8 x1))), (13, .inl (is (Bl v)))], [(3, pb 23 [is (U8 a0_0), is (U8 a0_1)])]⟩) (fun v => some r = F100_2 N a0_0 a0_1 a1 a2 x1 v) ?_ ?_
    · skip
      refine AW_cut (σ := Bool) (fun v => ⟨[(1, .inl (is (U64 a1))), (2, .inl (is (U16 a2))), (3, .inr (.inl (3, 0))), (12, .inl (is (I8 x1))), (13, .inl (is (Bl v)))], [(3, pb 23 [is (U8 a0_0), is (U8 a0_1)])]⟩) (fun v => some r = F100_8 N a0_0 a0_1 a1 a2 x1 v) ?_ ?_
      · skip
        refine AW_region ?_
        refine AL_cons (LR_bin (at_tmp 12 _) (at_c (v' := I8 3) rfl) (eql_I8 x1 3) rfl) (sS (sA (sT1 rfl) sT0) sB0 sF0) ?_
        refine AL_cons (LR_assign (at_tmp 14 _) rfl) (sS (sT1 rfl) sB0 sF0) ?_
        refine AL_nil ?_
        exact thenN (cutLeaf (v := x1 == 3) hr (weak0 ((sT rfl (sT rfl (sT rfl (sT rfl (sT rfl sT0)))))) (sub_keep sub_nil)))
      · rintro x18 hr
        show AW Hfaa.prog _ _ _ ⟨[(1, .inl (is (U64 a1))), (2, .inl (is (U16 a2))), (3, .inr (.inl (3, 0))), (12, .inl (is (I8 x1))), (13, .inl (is (Bl x18)))], [(3, pb 23 [is (U8 a0_0), is (U8 a0_1)])]⟩
        have hr : some r = F100_8 N a0_0 a0_1 a1 a2 x1 x18 := hr
        refine AW_condT (b := x18) rfl (fun h => ?_) (fun h => ?_)
        · have hr := hr.trans (cond_t h)
          clear h
          refine AW_skip ?_
          exact thenN (cutLeaf (v := x18) hr (weak0 ((sT rfl (sT rfl (sT rfl (sT rfl (sT rfl sT0)))))) (sub_keep sub_nil)))
        · have hr := hr.trans (cond_f h)
          clear h
          refine AW_region ?_
          refine AL_cons (LR_bin (at_tmp 12 _) (at_c (v' := I8 4) rfl) (eql_I8 x1 4) rfl) (sS (sA (sT1 rfl) sT0) sB0 sF0) ?_
          refine AL_cons (LR_assign (at_tmp 15 _) rfl) (sS (sT1 rfl) sB0 sF0) ?_
          refine AL_nil ?_
          exact thenN (cutLeaf (v := x1 == 4) hr (weak0 ((sT rfl (sT rfl (sT rfl (sT rfl (sT rfl sT0)))))) (sub_keep sub_nil)))
    · rintro x2 hr
      show AW Hfaa.prog _ _ _ ⟨[(1, .inl (is (U64 a1))), (2, .inl (is (U16 a2))), (3, .inr (.inl (3, 0))), (12, .inl (is (I8 x1))), (13, .inl (is (Bl x2)))], [(3, pb 23 [is (U8 a0_0), is (U8 a0_1)])]⟩
      have hr : some r = F100_2 N a0_0 a0_1 a1 a2 x1 x2 := hr
      refine AW_condT (b := x2) rfl (fun h => ?_) (fun h => ?_)
      · have hr := hr.trans (cond_t h)
        clear h
        refine AW_seq1 ?_
        refine AW_region ?_
        refine AL_cons (LR_assign (at_c (v' := Sv ([] : List UInt8)) rfl) rfl) (sS sT0 sB0 sF0) ?_
        refine AL_cons (LR_assign (at_c (v' := I16 0) rfl) rfl) (sS sT0 sB0 sF0) ?_
        refine AL_nil ?_
        refine thenN ?_
        refine AW_ret ?_
        refine blR ?_
        refine thenR ?_
        obtain rfl := Option.some.inj hr
        exact res2 rfl (rvT rfl) (rvT rfl)
      · have hr := hr.trans (cond_f h)
        clear h
        refine AW_cut (σ := Bool) (fun v => ⟨[(1, .inl (is (U64 a1))), (2, .inl (is (U16 a2))), (3, .inr (.inl (3, 0))), (16, .inl (is (Bl v)))], [(3, pb 23 [is (U8 a0_0), is (U8 a0_1)])]⟩) (fun v => some r = F100_3 N a0_0 a0_1 a1 a2 v) ?_ ?_
        · skip
          refine AW_region ?_
          refine AL_cons (LR_bin (at_tmp 12 _) (at_c (v' := I8 0) rfl) (eql_I8 x1 0) rfl) (sS (sA (sT1 rfl) sT0) sB0 sF0) ?_
          refine AL_cons (LR_assign (at_tmp 17 _) rfl) (sS (sT1 rfl) sB0 sF0) ?_
          refine AL_nil ?_
          exact thenN (cutLeaf (v := x1 == 0) hr (weak0 ((sT rfl (sT rfl (sT rfl (sT rfl sT0))))) (sub_keep sub_nil)))
        · rintro x3 hr
          show AW Hfaa.prog _ _ _ ⟨[(1, .inl (is (U64 a1))), (2, .inl (is (U16 a2))), (3, .inr (.inl (3, 0))), (16, .inl (is (Bl x3)))], [(3, pb 23 [is (U8 a0_0), is (U8 a0_1)])]⟩
          have hr : some r = F100_3 N a0_0 a0_1 a1 a2 x3 := hr
          refine AW_condT (b := x3) rfl (fun h => ?_) (fun h => ?_)
          · have hr := hr.trans (cond_t h)
            clear h
            refine AW_seq1 ?_
            refine AW_region ?_
            refine AL_cons (LR_move (at_tmp 2 _) rfl) (sS (sT1 rfl) sB0 sF0) ?_
            refine AL_cons (LR_conv (vx := U16 a2) (at_tmp 18 _) (conv_I64 Hfaa.underlying71 Hfaa.underlying3 (a2.toNat : Int)) rfl) (sS (sT1 rfl) sB0 sF0) ?_
            refine AL_cons (LR_bin (at_tmp 19 _) (at_c (v' := I64 1) rfl) (add_I64 (w64 (a2.toNat : Int)) 1) rfl) (sS (sA (sT1 rfl) sT0) sB0 sF0) ?_
            obtain ⟨y7, hy7, hr⟩ := bind_some hr
            refine AL_cons (LR_call Hfaa.func200 rfl rfl (C200 N (w64 ((w64 (a2.toNat : Int)) + 1)) y7 hy7) (all_cons (at_tmp 20 _) all_nil) rfl) (sS (sA (sT1 rfl) sT0) sB0 sF0) ?_
            refine AL_cons (LR_assign (at_tmp 21 _) rfl) (sS (sT1 rfl) sB0 sF0) ?_
            refine AL_cons (LR_assign (at_c (v' := I16 0) rfl) rfl) (sS sT0 sB0 sF0) ?_
            refine AL_nil ?_
            refine thenN ?_
            refine AW_ret ?_
            refine blR ?_
            refine thenR ?_
            obtain rfl := Option.some.inj hr
            exact res2 rfl (rvT rfl) (rvT rfl)
          · have hr := hr.trans (cond_f h)
            clear h
            refine AW_skip ?_
            refine blN ?_
            refine thenN ?_
            refine AW_cut (σ := (Nat → BitVec 8) × Int) (fun v => ⟨[(1, .inl (is (U64 a1))), (2, .inl (is (U16 a2))), (3, .inr (.inl (3, 0))), (8, .inr (.inl (8, 0)))], [(3, pb 23 [is (U8 a0_0), is (U8 a0_1)]), (8, pb 215 (ar U8 1441 v.1 ++ (is (I64 0) :: (is (I64 0) :: (is (I64 v.2) :: (is (I64 2880) :: []))))))]⟩) (fun v => some r = F100_4 N a0_0 a0_1 a1 a2 v.1 v.2) ?_ ?_
            · skip
              refine AW_region ?_
              refine AL_cons (LR_move (at_tmp 2 _) rfl) (sS (sT1 rfl) sB0 sF0) ?_
              refine AL_cons (LR_conv (vx := U16 a2) (at_tmp 22 _) (conv_I64 Hfaa.underlying71 Hfaa.underlying3 (a2.toNat : Int)) rfl) (sS (sT1 rfl) sB0 sF0) ?_
              refine AL_cons (LR_bin (at_tmp 23 _) (at_c (v' := I64 1) rfl) (add_I64 (w64 (a2.toNat : Int)) 1) rfl) (sS (sA (sT1 rfl) sT0) sB0 sF0) ?_
              refine AL_cons (LR_aggE (blA215 (parts_cons' (i := 3) (off := 1443) (m := 1) (at_tmp 24 _) (cells_one (one_is rfl)) rfl rfl rfl (parts_cons' (i := 4) (off := 1444) (m := 1) (at_c (v' := I64 2880) rfl) (cells_one (one_is rfl)) rfl rfl rfl parts_nil)) rfl rfl) (flC (stP (stS (stS st0))) (flC (stP (stS (stS (stS st0)))) fl0))) (sS (sA (sT1 rfl) (sA sT0 sT0)) sB0 sF0) ?_
              refine AL_cons (zl215 rfl) (sS sT0 sB0 (sF1 rfl)) ?_
              refine AL_cons (LR_storeA (at_tmp 8 _) (at_tmp 25 _) (cells_agg _) (ones_ar (fun _ => rfl) (onC (one_is rfl) (onC (one_is rfl) (onC (one_is rfl) (onC (one_is rfl) onN))))) sz215 (lnA (lnC (lnC (lnC (lnC ln0))))) (bleLen (lnA (lnC (lnC (lnC (lnC ln0))))) rfl) (setSeg_full _ _ (lenEq (lnA (lnC (lnC (lnC (lnC ln0))))) (lnA (lnC (lnC (lnC (lnC ln0)))))))) (sS (sA (sT1 rfl) (sT1 rfl)) (sB1 rfl) sF0) ?_
              refine AL_nil ?_
              exact thenN (cutLeaf (v := (fun _ => 0#8, w64 ((w64 (a2.toNat : Int)) + 1))) hr (weak0 ((sT rfl (sT rfl (sT rfl (sT rfl sT0))))) (sub_keep (sub_keep sub_nil))))
            · rintro ⟨x4, x5⟩ hr
              show AW Hfaa.prog _ _ _ ⟨[(1, .inl (is (U64 a1))), (2, .inl (is (U16 a2))), (3, .inr (.inl (3, 0))), (8, .inr (.inl (8, 0)))], [(3, pb 23 [is (U8 a0_0), is (U8 a0_1)]), (8, pb 215 (ar U8 1441 x4 ++ (is (I64 0) :: (is (I64 0) :: (is (I64 x5) :: (is (I64 2880) :: []))))))]⟩
              have hr : some r = F100_4 N a0_0 a0_1 a1 a2 x4 x5 := hr
              refine AW_cut (σ := (Nat → BitVec 8) × Int × Int × Int × Int) (fun v => ⟨[(2, .inl (is (U16 a2))), (8, .inr (.inl (8, 0)))], [(8, pb 215 (ar U8 1441 v.1 ++ (is (I64 v.2.1) :: (is (I64 v.2.2.1) :: (is (I64 v.2.2.2.1) :: (is (I64 v.2.2.2.2) :: []))))))]⟩) (fun v => some r = F100_5 N a2 v.1 v.2.1 v.2.2.1 v.2.2.2.1 v.2.2.2.2) ?_ ?_
              · skip
                refine AW_region ?_
                refine AL_cons (LR_loads (at_tmp 3 _) ag23 sz23 rfl rfl rfl) (sS (sT1 rfl) (sB1 rfl) sF0) ?_
                refine AL_cons (LR_move (at_tmp 1 _) rfl) (sS (sT1 rfl) sB0 sF0) ?_
                obtain ⟨y11, hy11, hr⟩ := bind_some hr
                refine AL_cons (LR_callB [(0, 8)] [(8, 0)] Hfaa.func201 rfl rfl (C201 N x4 0 0 x5 2880 a0_0 a0_1 a1 y11 hy11) (aTC (at_tmp 8 _) (aTC (at_tmp 26 _) (aTC (at_tmp 27 _) aT0))) rfl rfl rfl rfl rfl) (sS (sA (sT1 rfl) (sA (sT1 rfl) (sA (sT1 rfl) sT0))) (sB1 rfl) sF0) ?_
                refine AL_nil ?_
                exact thenN (cutLeaf (v := (y11.1, y11.2.1, y11.2.2.1, y11.2.2.2.1, y11.2.2.2.2)) hr (weak0 ((sT rfl (sT rfl sT0))) (sub_drop (sub_keep sub_nil))))
              · rintro ⟨x6, x7, x8, x9, x10⟩ hr
                show AW Hfaa.prog _ _ _ ⟨[(2, .inl (is (U16 a2))), (8, .inr (.inl (8, 0)))], [(8, pb 215 (ar U8 1441 x6 ++ (is (I64 x7) :: (is (I64 x8) :: (is (I64 x9) :: (is (I64 x10) :: []))))))]⟩
                have hr : some r = F100_5 N a2 x6 x7 x8 x9 x10 := hr
                refine AW_cut (σ := List UInt8 × (Nat → BitVec 8) × Int × Int × Int × Int) (fun v => ⟨[(2, .inl (is (U16 a2))), (8, .inr (.inl (8, 0))), (6, .inl (is (Sv v.1)))], [(8, pb 215 (ar U8 1441 v.2.1 ++ (is (I64 v.2.2.1) :: (is (I64 v.2.2.2.1) :: (is (I64 v.2.2.2.2.1) :: (is (I64 v.2.2.2.2.2) :: []))))))]⟩) (fun v => some r = F100_6 N a2 v.1 v.2.1 v.2.2.1 v.2.2.2.1 v.2.2.2.2.1 v.2.2.2.2.2) ?_ ?_
                · skip
                  refine AW_region ?_
                  refine AL_cons (LR_move (at_tmp 2 _) rfl) (sS (sT1 rfl) sB0 sF0) ?_
                  refine AL_cons (LR_conv (vx := U16 a2) (at_tmp 29 _) (conv_I64 Hfaa.underlying71 Hfaa.underlying3 (a2.toNat : Int)) rfl) (sS (sT1 rfl) sB0 sF0) ?_
                  refine AL_cons (LR_bin (at_tmp 30 _) (at_c (v' := I64 1) rfl) (add_I64 (w64 (a2.toNat : Int)) 1) rfl) (sS (sA (sT1 rfl) sT0) sB0 sF0) ?_
                  obtain ⟨y10, hy10, hr⟩ := bind_some hr
                  refine AL_cons (LR_callB [(0, 8)] [(8, 0)] Hfaa.func202 rfl rfl (C202 N x6 x7 x8 x9 x10 (w64 ((w64 (a2.toNat : Int)) + 1)) y10 hy10) (aTC (at_tmp 8 _) (aTC (at_tmp 31 _) aT0)) rfl rfl rfl rfl rfl) (sS (sA (sT1 rfl) (sA (sT1 rfl) sT0)) (sB1 rfl) sF0) ?_
                  refine AL_cons (LR_assign (at_tmp 32 _) rfl) (sS (sT1 rfl) sB0 sF0) ?_
                  refine AL_nil ?_
                  exact thenN (cutLeaf (v := (y10.1, y10.2.1, y10.2.2.1, y10.2.2.2.1, y10.2.2.2.2.1, y10.2.2.2.2.2)) hr (weak0 ((sT rfl (sT rfl (sT rfl sT0)))) (sub_keep sub_nil)))
                · rintro ⟨x11, x12, x13, x14, x15, x16⟩ hr
                  show AW Hfaa.prog _ _ _ ⟨[(2, .inl (is (U16 a2))), (8, .inr (.inl (8, 0))), (6, .inl (is (Sv x11)))], [(8, pb 215 (ar U8 1441 x12 ++ (is (I64 x13) :: (is (I64 x14) :: (is (I64 x15) :: (is (I64 x16) :: []))))))]⟩
                  have hr : some r = F100_6 N a2 x11 x12 x13 x14 x15 x16 := hr
                  refine AW_seq1 ?_
                  refine AW_cut (σ := Bool) (fun v => ⟨[(2, .inl (is (U16 a2))), (8, .inr (.inl (8, 0))), (6, .inl (is (Sv x11))), (38, .inl (is (Bl v)))], [(8, pb 215 (ar U8 1441 x12 ++ (is (I64 x13) :: (is (I64 x14) :: (is (I64 x15) :: (is (I64 x16) :: []))))))]⟩) (fun v => some r = F100_7 N a2 x11 x12 x13 x14 x15 x16 v) ?_ ?_
                  · skip
                    refine AW_region ?_
                    refine AL_cons (LR_move (at_tmp 6 _) rfl) (sS (sT1 rfl) sB0 sF0) ?_
                    refine AL_cons (LR_bi1 (at_tmp 33 _) (len_S Hfaa.underlying9 x11) rfl) (sS (sT1 rfl) sB0 sF0) ?_
                    refine AL_cons (LR_move (at_tmp 2 _) rfl) (sS (sT1 rfl) sB0 sF0) ?_
                    refine AL_cons (LR_conv (vx := U16 a2) (at_tmp 35 _) (conv_I64 Hfaa.underlying71 Hfaa.underlying3 (a2.toNat : Int)) rfl) (sS (sT1 rfl) sB0 sF0) ?_
                    refine AL_cons (LR_bin (at_tmp 36 _) (at_c (v' := I64 1) rfl) (add_I64 (w64 (a2.toNat : Int)) 1) rfl) (sS (sA (sT1 rfl) sT0) sB0 sF0) ?_
                    refine AL_cons (LR_bin (at_tmp 34 _) (at_tmp 37 _) (gtr_I64 (x11.length : Int) (w64 ((w64 (a2.toNat : Int)) + 1))) rfl) (sS (sA (sT1 rfl) (sT1 rfl)) sB0 sF0) ?_
                    refine AL_nil ?_
                    exact thenN (cutLeaf (v := decide ((x11.length : Int) > (w64 ((w64 (a2.toNat : Int)) + 1)))) hr (weak0 ((sT rfl (sT rfl (sT rfl (sT rfl sT0))))) (sub_keep sub_nil)))
                  · rintro x17 hr
                    show AW Hfaa.prog _ _ _ ⟨[(2, .inl (is (U16 a2))), (8, .inr (.inl (8, 0))), (6, .inl (is (Sv x11))), (38, .inl (is (Bl x17)))], [(8, pb 215 (ar U8 1441 x12 ++ (is (I64 x13) :: (is (I64 x14) :: (is (I64 x15) :: (is (I64 x16) :: []))))))]⟩
                    have hr : some r = F100_7 N a2 x11 x12 x13 x14 x15 x16 x17 := hr
                    refine AW_condT (b := x17) rfl (fun h => ?_) (fun h => ?_)
                    · have hr := hr.trans (cond_t h)
                      clear h
                      refine AW_seq1 ?_
                      obtain ⟨hg4, hr⟩ := guard_some hr
                      refine AW_draw mixed
                        (lrC (LR_move (at_tmp 6 _) rfl)
                        (lrC (LR_move (at_tmp 2 _) rfl)
                        (lrC (LR_bin (at_tmp 40 _) (at_c (v' := U16 (1#16)) rfl) (add_U16 a2 (1#16)) rfl)
                        (lrC (LR_sliceS (i := (0 : Int)) (j := ((a2 + (1#16)).toNat : Int)) Hfaa.underlying9 (at_tmp 39 _) (fun _ _ _ _ _ _ _ => .inl ⟨rfl, rfl⟩) (fun B bn s a w hs hr => .inr ⟨_, congrArg some ((at_tmp 41 (.inl (is (U16 (a2 + (1#16)))))) B bn s a w hs hr)⟩) (dand3 hg4) rfl)
                        (lrC (LR_fieldAddr (off := 0) (o := 1442) (at_tmp 8 _) (fun b w => fa215_2 b 0 w) rfl)
                        (lrC (LR_load (at_tmp 43 _) na3 (gP (gS g0)) rfl)
                        (lrC (LR_bin (at_tmp 44 _) (at_c (v' := I64 1) rfl) (add_I64 x14 1) rfl)
                        (lrC (LR_conv (vx := I64 (w64 (x14 + 1))) (at_tmp 45 _) (conv_I16 Hfaa.underlying3 Hfaa.underlying44 (w64 (x14 + 1))) rfl)
                        (lrC (LR_assign (at_tmp 42 _) rfl)
                        (lrC (LR_assign (at_tmp 46 _) rfl)
                        lrN))))))))))
                        (by kernel_rfl)
                        (saC (sS (sT1 rfl) sB0 sF0) (saC (sS (sT1 rfl) sB0 sF0) (saC (sS (sA (sT1 rfl) sT0) sB0 sF0) (saC (sS (sA (sT1 rfl) (sA sT0 (sT1 rfl))) sB0 sF0) (saC (sS (sT1 rfl) sB0 sF0) (saC (sS (sT1 rfl) (sB1 rfl) sF0) (saC (sS (sA (sT1 rfl) sT0) sB0 sF0) (saC (sS (sT1 rfl) sB0 sF0) (saC (sS (sT1 rfl) sB0 sF0) (saC (sS (sT1 rfl) sB0 sF0) saN)))))))))) ?_
                      refine thenN ?_
                      refine AW_ret ?_
                      refine thenR ?_
                      obtain rfl := Option.some.inj hr
                      exact res2 rfl (rvT rfl) (rvT rfl)
                    · have hr := hr.trans (cond_f h)
                      clear h
                      refine AW_skip ?_
                      refine thenN ?_
                      refine AW_seq1 ?_
                      refine AW_draw mixed
                        (lrC (LR_move (at_tmp 6 _) rfl)
                        (lrC (LR_fieldAddr (off := 0) (o := 1442) (at_tmp 8 _) (fun b w => fa215_2 b 0 w) rfl)
                        (lrC (LR_load (at_tmp 48 _) na3 (gP (gS g0)) rfl)
                        (lrC (LR_conv (vx := I64 x14) (at_tmp 49 _) (conv_I16 Hfaa.underlying3 Hfaa.underlying44 x14) rfl)
                        (lrC (LR_assign (at_tmp 47 _) rfl)
                        (lrC (LR_assign (at_tmp 50 _) rfl)
                        lrN))))))
                        (by kernel_rfl)
                        (saC (sS (sT1 rfl) sB0 sF0) (saC (sS (sT1 rfl) sB0 sF0) (saC (sS (sT1 rfl) (sB1 rfl) sF0) (saC (sS (sT1 rfl) sB0 sF0) (saC (sS (sT1 rfl) sB0 sF0) (saC (sS (sT1 rfl) sB0 sF0) saN)))))) ?_
                      refine thenN ?_
                      refine AW_ret ?_
                      obtain rfl := Option.some.inj hr
                      exact res2 rfl (rvT rfl) (rvT rfl)
/-- calc/so.digits -/
def F322_3 (N : Nat) (a0_0 : BitVec 8) (a0_1 : BitVec 8) (a1 : BitVec 64) (x2 : Bool) (x4 : List UInt8) (x5 : Int) : Option (List UInt8) := (F379 N x2 x4 x5).bind fun y17 => lt (F313 a0_0 a0_1 a1 y17) fun y18 => some y18
def F322_2 (N : Nat) (a0_0 : BitVec 8) (a0_1 : BitVec 8) (a1 : BitVec 64) (x1 : BitVec 16) (x2 : Bool) (x3 : Bool) : Option (List UInt8) := bif x3 then (F104 N a0_0 a0_1 a1 x1).bind fun y11 => (F378 N x2 y11 x1).bind fun y12 => lt (F313 a0_0 a0_1 a1 y12) fun y13 => some y13 else (F100 N a0_0 a0_1 a1 x1).bind fun y19 => F322_3 N a0_0 a0_1 a1 x2 y19.1 y19.2
def F322_1 (N : Nat) (a0_0 : BitVec 8) (a0_1 : BitVec 8) (a1 : BitVec 64) (a2_0 : BitVec 8) (a2_1 : BitVec 8) (a2_2 : BitVec 8) (a2_3 : BitVec 8) (a2_4 : BitVec 64) (a2_5 : List UInt8) (x1 : BitVec 16) (x2 : Bool) : Option (List UInt8) := F322_2 N a0_0 a0_1 a1 x1 x2 (a2_0 == (24#8))
def F322 (N : Nat) (a0_0 : BitVec 8) (a0_1 : BitVec 8) (a1 : BitVec 64) (a2_0 : BitVec 8) (a2_1 : BitVec 8) (a2_2 : BitVec 8) (a2_3 : BitVec 8) (a2_4 : BitVec 64) (a2_5 : List UInt8) : Option (List UInt8) := lt (F70 a0_0 a0_1) fun y20 => F322_1 N a0_0 a0_1 a1 a2_0 a2_1 a2_2 a2_3 a2_4 a2_5 (BitVec.ofInt 16 ((a2_4 % (2001#64)).toNat : Int)) ((a1 &&& y20) != (0#64))
theorem C322 (N : Nat) (a0_0 : BitVec 8) (a0_1 : BitVec 8) (a1 : BitVec 64) (a2_0 : BitVec 8) (a2_1 : BitVec 8) (a2_2 : BitVec 8) (a2_3 : BitVec 8) (a2_4 : BitVec 64) (a2_5 : List UInt8) (r : List UInt8) (hr : some r = F322 N a0_0 a0_1 a1 a2_0 a2_1 a2_2 a2_3 a2_4 a2_5) : Aw.Fn Hfaa.prog 322 [agg [is (U8 a0_0), is (U8 a0_1)], is (U64 a1), agg [is (U8 a2_0), is (U8 a2_1), is (U8 a2_2), is (U8 a2_3), is (U64 a2_4), is (Sv a2_5)]] (is (Sv r)) := by
  refine fn_intro Hfaa.func322 rfl rfl rfl ?_
  intro bn0 w0 H0
  refine AW_seq1 ?_
  refine AW_region ?_
  refine AL_cons (LR_box (at_tmp 0 _) (cells_agg _) rfl) (sS (sT1 rfl) sB0 (sF1 rfl)) ?_
  refine AL_cons (LR_box (at_tmp 2 _) (cells_agg _) rfl) (sS (sT1 rfl) sB0 (sF1 rfl)) ?_
  refine AL_cons (LR_assign (at_c (v' := Sv ([] : List UInt8)) rfl) rfl) (sS sT0 sB0 sF0) ?_
  refine AL_nil ?_
  refine thenN ?_
  refine AW_cut (σ := BitVec 16 × Bool) (fun v => ⟨[(1, .inl (is (U64 a1))), (3, .inr (.inl (3, 0))), (5, .inr (.inl (5, 0))), (7, .inl (is (U16 v.1))), (8, .inl (is (Bl v.2)))], [(3, pb 23 [is (U8 a0_0), is (U8 a0_1)]), (5, pb 96 [is (U8 a2_0), is (U8 a2_1), is (U8 a2_2), is (U8 a2_3), is (U64 a2_4), is (Sv a2_5)])]⟩) (fun v => some r = F322_1 N a0_0 a0_1 a1 a2_0 a2_1 a2_2 a2_3 a2_4 a2_5 v.1 v.2) ?_ ?_
  · skip
    obtain ⟨y20, hy20, hr⟩ := lt_some hr
    refine AW_draw mixed
      (lrC (LR_fieldAddr (off := 0) (o := 4) (at_tmp 5 _) (fun b w => fa96_4 b 0 w) rfl)
      (lrC (LR_load (at_tmp 11 _) na30 rfl rfl)
      (lrC (LR_bin (at_tmp 12 _) (at_c (v' := U64 (2001#64)) rfl) (rem_U64 a2_4 (2001#64) (by decide)) rfl)
      (lrC (LR_conv (vx := U64 (a2_4 % (2001#64))) (at_tmp 13 _) (conv_U16 Hfaa.underlying30 Hfaa.underlying71 ((a2_4 % (2001#64)).toNat : Int)) rfl)
      (lrC (LR_move (at_tmp 1 _) rfl)
      (lrC (LR_loads (at_tmp 3 _) ag23 sz23 rfl rfl rfl)
      (lrC (LR_call Hfaa.func70 rfl rfl (C70 a0_0 a0_1 y20 hy20) (all_cons (at_tmp 16 _) all_nil) rfl)
      (lrC (LR_bin (at_tmp 15 _) (at_tmp 17 _) (and_U64 a1 y20) rfl)
      (lrC (LR_bin (at_tmp 18 _) (at_c (v' := U64 (0#64)) rfl) (neq_U64 (a1 &&& y20) (0#64)) rfl)
      (lrC (LR_assign (at_tmp 14 _) rfl)
      (lrC (LR_assign (at_tmp 19 _) rfl)
      lrN)))))))))))
      (by kernel_rfl)
      (saC (sS (sT1 rfl) sB0 sF0) (saC (sS (sT1 rfl) (sB1 rfl) sF0) (saC (sS (sA (sT1 rfl) sT0) sB0 sF0) (saC (sS (sT1 rfl) sB0 sF0) (saC (sS (sT1 rfl) sB0 sF0) (saC (sS (sT1 rfl) (sB1 rfl) sF0) (saC (sS (sA (sT1 rfl) sT0) sB0 sF0) (saC (sS (sA (sT1 rfl) (sT1 rfl)) sB0 sF0) (saC (sS (sA (sT1 rfl) sT0) sB0 sF0) (saC (sS (sT1 rfl) sB0 sF0) (saC (sS (sT1 rfl) sB0 sF0) saN))))))))))) ?_
    exact thenN (cutLeaf (v := (BitVec.ofInt 16 ((a2_4 % (2001#64)).toNat : Int), (a1 &&& y20) != (0#64))) hr (weak0 ((sT rfl (sT rfl (sT rfl (sT rfl (sT rfl sT0)))))) (sub_keep (sub_keep sub_nil))))
  · rintro ⟨x1, x2⟩ hr
    show AW Hfaa.prog _ _ _ ⟨[(1, .inl (is (U64 a1))), (3, .inr (.inl (3, 0))), (5, .inr (.inl (5, 0))), (7, .inl (is (U16 x1))), (8, .inl (is (Bl x2)))], [(3, pb 23 [is (U8 a0_0), is (U8 a0_1)]), (5, pb 96 [is (U8 a2_0), is (U8 a2_1), is (U8 a2_2), is (U8 a2_3), is (U64 a2_4), is (Sv a2_5)])]⟩
    have hr : some r = F322_1 N a0_0 a0_1 a1 a2_0 a2_1 a2_2 a2_3 a2_4 a2_5 x1 x2 := hr
    refine AW_seq1 ?_
    refine AW_cut (σ := Bool) (fun v => ⟨[(1, .inl (is (U64 a1))), (3, .inr (.inl (3, 0))), (7, .inl (is (U16 x1))), (8, .inl (is (Bl x2))), (22, .inl (is (Bl v)))], [(3, pb 23 [is (U8 a0_0), is (U8 a0_1)])]⟩) (fun v => some r = F322_2 N a0_0 a0_1 a1 x1 x2 v) ?_ ?_
    · skip
      refine AW_region ?_
      refine AL_cons (LR_fieldAddr (off := 0) (o := 0) (at_tmp 5 _) (fun b w => fa96_0 b 0 w) rfl) (sS (sT1 rfl) sB0 sF0) ?_
      refine AL_cons (LR_load (at_tmp 20 _) na5 rfl rfl) (sS (sT1 rfl) (sB1 rfl) sF0) ?_
      refine AL_cons (LR_bin (at_tmp 21 _) (at_c (v' := U8 (24#8)) rfl) (eql_U8 a2_0 (24#8)) rfl) (sS (sA (sT1 rfl) sT0) sB0 sF0) ?_
      refine AL_nil ?_
      exact thenN (cutLeaf (v := a2_0 == (24#8)) hr (weak0 ((sT rfl (sT rfl (sT rfl (sT rfl (sT rfl sT0)))))) (sub_keep (sub_drop sub_nil))))
    · rintro x3 hr
      show AW Hfaa.prog _ _ _ ⟨[(1, .inl (is (U64 a1))), (3, .inr (.inl (3, 0))), (7, .inl (is (U16 x1))), (8, .inl (is (Bl x2))), (22, .inl (is (Bl x3)))], [(3, pb 23 [is (U8 a0_0), is (U8 a0_1)])]⟩
      have hr : some r = F322_2 N a0_0 a0_1 a1 x1 x2 x3 := hr
      refine AW_condT (b := x3) rfl (fun h => ?_) (fun h => ?_)
      · have hr := hr.trans (cond_t h)
        clear h
        refine AW_seq1 ?_
        obtain ⟨y11, hy11, hr⟩ := bind_some hr
        obtain ⟨y12, hy12, hr⟩ := bind_some hr
        obtain ⟨y13, hy13, hr⟩ := lt_some hr
        refine AW_draw mixed
          (lrC (LR_loads (at_tmp 3 _) ag23 sz23 rfl rfl rfl)
          (lrC (LR_move (at_tmp 1 _) rfl)
          (lrC (LR_move (at_tmp 8 _) rfl)
          (lrC (LR_loads (at_tmp 3 _) ag23 sz23 rfl rfl rfl)
          (lrC (LR_move (at_tmp 1 _) rfl)
          (lrC (LR_move (at_tmp 7 _) rfl)
          (lrC (LR_call Hfaa.func104 rfl rfl (C104 N a0_0 a0_1 a1 x1 y11 hy11) (all_cons (at_tmp 26 _) (all_cons (at_tmp 27 _) (all_cons (at_tmp 28 _) all_nil))) rfl)
          (lrC (LR_move (at_tmp 7 _) rfl)
          (lrC (LR_call Hfaa.func378 rfl rfl (C378 N x2 y11 x1 y12 hy12) (all_cons (at_tmp 25 _) (all_cons (at_tmp 29 _) (all_cons (at_tmp 30 _) all_nil))) rfl)
          (lrC (LR_call Hfaa.func313 rfl rfl (C313 a0_0 a0_1 a1 y12 y13 hy13) (all_cons (at_tmp 23 _) (all_cons (at_tmp 24 _) (all_cons (at_tmp 31 _) all_nil))) rfl)
          (lrC (LR_assign (at_tmp 32 _) rfl)
          lrN)))))))))))
          (by kernel_rfl)
          (saC (sS (sT1 rfl) (sB1 rfl) sF0) (saC (sS (sT1 rfl) sB0 sF0) (saC (sS (sT1 rfl) sB0 sF0) (saC (sS (sT1 rfl) (sB1 rfl) sF0) (saC (sS (sT1 rfl) sB0 sF0) (saC (sS (sT1 rfl) sB0 sF0) (saC (sS (sA (sT1 rfl) (sA (sT1 rfl) (sA (sT1 rfl) sT0))) sB0 sF0) (saC (sS (sT1 rfl) sB0 sF0) (saC (sS (sA (sT1 rfl) (sA (sT1 rfl) (sA (sT1 rfl) sT0))) sB0 sF0) (saC (sS (sA (sT1 rfl) (sA (sT1 rfl) (sA (sT1 rfl) sT0))) sB0 sF0) (saC (sS (sT1 rfl) sB0 sF0) saN))))))))))) ?_
        refine thenN ?_
        refine AW_ret ?_
        refine thenR ?_
        obtain rfl := Option.some.inj hr
        exact res1 rfl (rvT rfl)
      · have hr := hr.trans (cond_f h)
        clear h
        refine AW_skip ?_
        refine thenN ?_
        refine AW_cut (σ := List UInt8 × Int) (fun v => ⟨[(1, .inl (is (U64 a1))), (3, .inr (.inl (3, 0))), (8, .inl (is (Bl x2))), (9, .inl (is (Sv v.1))), (10, .inl (is (I16 v.2)))], [(3, pb 23 [is (U8 a0_0), is (U8 a0_1)])]⟩) (fun v => some r = F322_3 N a0_0 a0_1 a1 x2 v.1 v.2) ?_ ?_
        · skip
          refine AW_region ?_
          refine AL_cons (LR_loads (at_tmp 3 _) ag23 sz23 rfl rfl rfl) (sS (sT1 rfl) (sB1 rfl) sF0) ?_
          refine AL_cons (LR_move (at_tmp 1 _) rfl) (sS (sT1 rfl) sB0 sF0) ?_
          refine AL_cons (LR_move (at_tmp 7 _) rfl) (sS (sT1 rfl) sB0 sF0) ?_
          obtain ⟨y19, hy19, hr⟩ := bind_some hr
          refine AL_cons (LR_call Hfaa.func100 rfl rfl (C100 N a0_0 a0_1 a1 x1 y19 hy19) (all_cons (at_tmp 34 _) (all_cons (at_tmp 35 _) (all_cons (at_tmp 36 _) all_nil))) rfl) (sS (sA (sT1 rfl) (sA (sT1 rfl) (sA (sT1 rfl) sT0))) sB0 sF0) ?_
          refine AL_cons (LR_move (at_tmp 37 _) rfl) (sS (sT1 rfl) sB0 sF0) ?_
          refine AL_cons (LR_extract (at_tmp 33 _) rfl rfl) (sS (sT1 rfl) sB0 sF0) ?_
          refine AL_cons (LR_extract (at_tmp 33 _) rfl rfl) (sS (sT1 rfl) sB0 sF0) ?_
          refine AL_cons (LR_assign (at_tmp 38 _) rfl) (sS (sT1 rfl) sB0 sF0) ?_
          refine AL_cons (LR_assign (at_tmp 39 _) rfl) (sS (sT1 rfl) sB0 sF0) ?_
          refine AL_nil ?_
          exact thenN (cutLeaf (v := (y19.1, y19.2)) hr (weak0 ((sT rfl (sT rfl (sT rfl (sT rfl (sT rfl sT0)))))) (sub_keep sub_nil)))
        · rintro ⟨x4, x5⟩ hr
          show AW Hfaa.prog _ _ _ ⟨[(1, .inl (is (U64 a1))), (3, .inr (.inl (3, 0))), (8, .inl (is (Bl x2))), (9, .inl (is (Sv x4))), (10, .inl (is (I16 x5)))], [(3, pb 23 [is (U8 a0_0), is (U8 a0_1)])]⟩
          have hr : some r = F322_3 N a0_0 a0_1 a1 x2 x4 x5 := hr
          refine AW_seq1 ?_
          obtain ⟨y17, hy17, hr⟩ := bind_some hr
          obtain ⟨y18, hy18, hr⟩ := lt_some hr
          refine AW_draw mixed
            (lrC (LR_loads (at_tmp 3 _) ag23 sz23 rfl rfl rfl)
            (lrC (LR_move (at_tmp 1 _) rfl)
            (lrC (LR_move (at_tmp 8 _) rfl)
            (lrC (LR_move (at_tmp 9 _) rfl)
            (lrC (LR_move (at_tmp 10 _) rfl)
            (lrC (LR_call Hfaa.func379 rfl rfl (C379 N x2 x4 x5 y17 hy17) (all_cons (at_tmp 42 _) (all_cons (at_tmp 43 _) (all_cons (at_tmp 44 _) all_nil))) rfl)
            (lrC (LR_call Hfaa.func313 rfl rfl (C313 a0_0 a0_1 a1 y17 y18 hy18) (all_cons (at_tmp 40 _) (all_cons (at_tmp 41 _) (all_cons (at_tmp 45 _) all_nil))) rfl)
            (lrC (LR_assign (at_tmp 46 _) rfl)
            lrN))))))))
            (by kernel_rfl)
            (saC (sS (sT1 rfl) (sB1 rfl) sF0) (saC (sS (sT1 rfl) sB0 sF0) (saC (sS (sT1 rfl) sB0 sF0) (saC (sS (sT1 rfl) sB0 sF0) (saC (sS (sT1 rfl) sB0 sF0) (saC (sS (sA (sT1 rfl) (sA (sT1 rfl) (sA (sT1 rfl) sT0))) sB0 sF0) (saC (sS (sA (sT1 rfl) (sA (sT1 rfl) (sA (sT1 rfl) sT0))) sB0 sF0) (saC (sS (sT1 rfl) sB0 sF0) saN)))))))) ?_
          refine thenN ?_
          refine AW_ret ?_
          obtain rfl := Option.some.inj hr
          exact res1 rfl (rvT rfl)
/-- hexa.Text -/
def F106_6 (N : Nat) (x7 : List UInt8) (x8 : Int) (x9 : Bool) : Option (List UInt8) := bif x9 then bif decide (x7.length + ([112, 45] : List UInt8).length ≤ 9223372036854775807) then (F170 N (w64 (0 - x8))).bind fun y8 => bif decide ((x7 ++ ([112, 45] : List UInt8)).length + y8.length ≤ 9223372036854775807) then some ((x7 ++ ([112, 45] : List UInt8)) ++ y8) else none else none else bif decide (x7.length + ([112, 43] : List UInt8).length ≤ 9223372036854775807) then (F170 N x8).bind fun y10 => bif decide ((x7 ++ ([112, 43] : List UInt8)).length + y10.length ≤ 9223372036854775807) then some ((x7 ++ ([112, 43] : List UInt8)) ++ y10) else none else none
def F106_5 (N : Nat) (x7 : List UInt8) (x8 : Int) : Option (List UInt8) := F106_6 N x7 x8 (decide (x8 < 0))
def F106_7 (N : Nat) (x1 : Bool) (x2 : Int) (x3 : Int) (x4 : BitVec 64) (x7 : List UInt8) (x10 : Bool) : Option (List UInt8) := bif x10 then (F164 N x4).bind fun y11 => F106_5 N x7 (w64 ((w64 ((w64 x3) + 63)) - (w64 (y11.toNat : Int)))) else F106_5 N x7 0
def F106_4 (N : Nat) (x1 : Bool) (x2 : Int) (x3 : Int) (x4 : BitVec 64) (x7 : List UInt8) : Option (List UInt8) := F106_7 N x1 x2 x3 x4 x7 (x2 != 0)
def F106_11 (N : Nat) (x1 : Bool) (x2 : Int) (x3 : Int) (x4 : BitVec 64) (x6 : List UInt8) (x14 : Int) (x15 : Nat → BitVec 8) : Option (List UInt8) := bif (decide (0 ≤ (0 : Int)) && (decide ((0 : Int) ≤ (x14 : Int)) && decide ((x14 : Int) ≤ (16 : Int)))) then bif decide ((((x14 : Int).toNat)) ≤ 16) then bif decide (([46] : List UInt8).length + (bys (((x14 : Int).toNat)) x15).length ≤ 9223372036854775807) then bif decide (x6.length + (([46] : List UInt8) ++ (bys (((x14 : Int).toNat)) x15)).length ≤ 9223372036854775807) then F106_4 N x1 x2 x3 x4 (x6 ++ (([46] : List UInt8) ++ (bys (((x14 : Int).toNat)) x15))) else none else none else none else none
def F106_14 (N : Nat) (x1 : Bool) (x2 : Int) (x3 : Int) (x4 : BitVec 64) (x6 : List UInt8) (x16 : BitVec 64) (x20 : Int) (x21 : Nat → BitVec 8) : Option ((BitVec 64 × Int × (Nat → BitVec 8)) ⊕ (List UInt8)) := some (.inl (x16 <<< 4, x20, x21))
def F106_15 (N : Nat) (x1 : Bool) (x2 : Int) (x3 : Int) (x4 : BitVec 64) (x6 : List UInt8) (x16 : BitVec 64) (x17 : Int) (x22 : Nat → BitVec 8) : Option ((BitVec 64 × Int × (Nat → BitVec 8)) ⊕ (List UInt8)) := F106_14 N x1 x2 x3 x4 x6 x16 (w64 (x17 + 1)) x22
def F106_13 (N : Nat) (x1 : Bool) (x2 : Int) (x3 : Int) (x4 : BitVec 64) (x6 : List UInt8) (x16 : BitVec 64) (x17 : Int) (x18 : Nat → BitVec 8) (x19 : Bool) : Option ((BitVec 64 × Int × (Nat → BitVec 8)) ⊕ (List UInt8)) := bif x19 then bif (decide (0 ≤ ((x16 >>> 60).toNat : Int)) && decide (((x16 >>> 60).toNat : Int) < (str1.length : Int))) then bif (decide (0 ≤ x17) && decide (x17 < (16 : Int))) then F106_15 N x1 x2 x3 x4 x6 x16 x17 (upd x18 x17.toNat ((str1.getD (((x16 >>> 60).toNat : Int)).toNat 0).toBitVec)) else none else none else (F106_11 N x1 x2 x3 x4 x6 x17 x18).map Sum.inr
def F106_L12b (N : Nat) (x1 : Bool) (x2 : Int) (x3 : Int) (x4 : BitVec 64) (x6 : List UInt8) (x16 : BitVec 64) (x17 : Int) (x18 : Nat → BitVec 8) : Option ((BitVec 64 × Int × (Nat → BitVec 8)) ⊕ (List UInt8)) := F106_13 N x1 x2 x3 x4 x6 x16 x17 x18 (x16 != (0#64))
def F106_L12 (N : Nat) (x1 : Bool) (x2 : Int) (x3 : Int) (x4 : BitVec 64) (x6 : List UInt8) : (BitVec 64 × Int × (Nat → BitVec 8)) → Option ((BitVec 64 × Int × (Nat → BitVec 8)) ⊕ (List UInt8)) := fun v => F106_L12b N x1 x2 x3 x4 x6 v.1 v.2.1 v.2.2
def F106_10 (N : Nat) (x1 : Bool) (x2 : Int) (x3 : Int) (x4 : BitVec 64) (x6 : List UInt8) (x11 : BitVec 64) (x13 : Nat → BitVec 8) : Option (List UInt8) := iterL (F106_L12 N x1 x2 x3 x4 x6) N (x11, 0, x13)
def F106_9 (N : Nat) (x1 : Bool) (x2 : Int) (x3 : Int) (x4 : BitVec 64) (x6 : List UInt8) (x11 : BitVec 64) (x12 : Bool) : Option (List UInt8) := bif x12 then F106_10 N x1 x2 x3 x4 x6 x11 (fun _ => 0#8) else F106_4 N x1 x2 x3 x4 x6
def F106_8 (N : Nat) (x1 : Bool) (x2 : Int) (x3 : Int) (x4 : BitVec 64) (x6 : List UInt8) (x11 : BitVec 64) : Option (List UInt8) := F106_9 N x1 x2 x3 x4 x6 x11 (x11 != (0#64))
def F106_3 (N : Nat) (a0_0 : BitVec 8) (a0_1 : BitVec 8) (x1 : Bool) (x2 : Int) (x3 : Int) (x4 : BitVec 64) (x6 : List UInt8) : Option (List UInt8) := F106_8 N x1 x2 x3 x4 x6 ((x4 <<< ((63#8) - a0_1).toNat) <<< 1)
def F106_2 (N : Nat) (a0_0 : BitVec 8) (a0_1 : BitVec 8) (x1 : Bool) (x2 : Int) (x3 : Int) (x4 : BitVec 64) (x5 : List UInt8) : Option (List UInt8) := bif x1 then bif decide (([45] : List UInt8).length + x5.length ≤ 9223372036854775807) then F106_3 N a0_0 a0_1 x1 x2 x3 x4 (([45] : List UInt8) ++ x5) else none else F106_3 N a0_0 a0_1 x1 x2 x3 x4 x5
def F106_17 (N : Nat) (a0_0 : BitVec 8) (a0_1 : BitVec 8) (x1 : Bool) (x2 : Int) (x3 : Int) (x4 : BitVec 64) (x24 : Bool) : Option (List UInt8) := bif x24 then F106_2 N a0_0 a0_1 x1 x2 x3 x4 ([48, 120, 48] : List UInt8) else F106_2 N a0_0 a0_1 x1 x2 x3 x4 ([48, 120, 49] : List UInt8)
def F106_16 (N : Nat) (a0_0 : BitVec 8) (a0_1 : BitVec 8) (x1 : Bool) (x2 : Int) (x3 : Int) (x4 : BitVec 64) (x23 : Bool) : Option (List UInt8) := bif x23 then some ([] : List UInt8) else F106_17 N a0_0 a0_1 x1 x2 x3 x4 (x2 == 0)
def F106_1 (N : Nat) (a0_0 : BitVec 8) (a0_1 : BitVec 8) (x1 : Bool) (x2 : Int) (x3 : Int) (x4 : BitVec 64) : Option (List UInt8) := lt (F40 a0_0 a0_1) fun y13 => F106_16 N a0_0 a0_1 x1 x2 x3 x4 (((!y13) || (x2 == 4)) || (x2 == 3))
def F106 (N : Nat) (a0_0 : BitVec 8) (a0_1 : BitVec 8) (a1 : BitVec 64) : Option (List UInt8) := lt (F65 a0_0 a0_1 a1) fun y14 => F106_1 N a0_0 a0_1 y14.1 y14.2.1 y14.2.2.1 y14.2.2.2
theorem C106 (N : Nat) (a0_0 : BitVec 8) (a0_1 : BitVec 8) (a1 : BitVec 64) (r : List UInt8) (hr : some r = F106 N a0_0 a0_1 a1) : Aw.Fn Hfaa.prog 106 [agg [is (U8 a0_0), is (U8 a0_1)], is (U64 a1)] (is (Sv r)) := by
  refine fn_intro Hfaa.func106 rfl rfl rfl ?_
  intro bn0 w0 H0
  refine AW_seq1 ?_
  refine AW_region ?_
  refine AL_cons (LR_box (at_tmp 0 _) (cells_agg _) rfl) (sS (sT1 rfl) sB0 (sF1 rfl)) ?_
  refine AL_cons (LR_assign (at_c (v' := Sv ([] : List UInt8)) rfl) rfl) (sS sT0 sB0 sF0) ?_
  refine AL_nil ?_
  refine thenN ?_
  refine AW_cut (σ := Bool × Int × Int × BitVec 64) (fun v => ⟨[(2, .inr (.inl (2, 0))), (5, .inr (.inl (5, 0)))], [(2, pb 23 [is (U8 a0_0), is (U8 a0_1)]), (5, pb 112 [is (Bl v.1), is (I8 v.2.1), is (I16 v.2.2.1), is (U64 v.2.2.2)])]⟩) (fun v => some r = F106_1 N a0_0 a0_1 v.1 v.2.1 v.2.2.1 v.2.2.2) ?_ ?_
  · skip
    refine AW_region ?_
    refine AL_cons (LR_loads (at_tmp 2 _) ag23 sz23 rfl rfl rfl) (sS (sT1 rfl) (sB1 rfl) sF0) ?_
    refine AL_cons (LR_move (at_tmp 1 _) rfl) (sS (sT1 rfl) sB0 sF0) ?_
    obtain ⟨y14, hy14, hr⟩ := lt_some hr
    refine AL_cons (LR_call Hfaa.func65 rfl rfl (C65 a0_0 a0_1 a1 y14 hy14) (all_cons (at_tmp 11 _) (all_cons (at_tmp 12 _) all_nil)) rfl) (sS (sA (sT1 rfl) (sA (sT1 rfl) sT0)) sB0 sF0) ?_
    refine AL_cons (zl112 rfl) (sS sT0 sB0 (sF1 rfl)) ?_
    refine AL_cons (LR_store (at_tmp 5 _) (at_tmp 13 _) (cells_agg _) (onC (one_is rfl) (onC (one_is rfl) (onC (one_is rfl) (onC (one_is rfl) onN)))) sz112 rfl rfl) (sS (sA (sT1 rfl) (sT1 rfl)) (sB1 rfl) sF0) ?_
    refine AL_nil ?_
    exact thenN (cutLeaf (v := (y14.1, y14.2.1, y14.2.2.1, y14.2.2.2)) hr (weak0 ((sT rfl (sT rfl sT0))) (sub_keep (sub_keep sub_nil))))
  · rintro ⟨x1, x2, x3, x4⟩ hr
    show AW Hfaa.prog _ _ _ ⟨[(2, .inr (.inl (2, 0))), (5, .inr (.inl (5, 0)))], [(2, pb 23 [is (U8 a0_0), is (U8 a0_1)]), (5, pb 112 [is (Bl x1), is (I8 x2), is (I16 x3), is (U64 x4)])]⟩
    have hr : some r = F106_1 N a0_0 a0_1 x1 x2 x3 x4 := hr
    refine AW_seq1 ?_
    refine AW_region ?_
    refine AL_cons (LR_assign (at_c (v' := Sv ([48, 120, 49] : List UInt8)) rfl) rfl) (sS sT0 sB0 sF0) ?_
    refine AL_nil ?_
    refine thenN ?_
    refine AW_cut (σ := List UInt8) (fun v => ⟨[(2, .inr (.inl (2, 0))), (5, .inr (.inl (5, 0))), (6, .inl (is (Sv v)))], [(2, pb 23 [is (U8 a0_0), is (U8 a0_1)]), (5, pb 112 [is (Bl x1), is (I8 x2), is (I16 x3), is (U64 x4)])]⟩) (fun v => some r = F106_2 N a0_0 a0_1 x1 x2 x3 x4 v) ?_ ?_
    · skip
      refine AW_block ?_
      refine AW_cut (σ := Bool) (fun v => ⟨[(2, .inr (.inl (2, 0))), (5, .inr (.inl (5, 0))), (6, .inl (is (Sv ([48, 120, 49] : List UInt8)))), (14, .inl (is (Bl v)))], [(2, pb 23 [is (U8 a0_0), is (U8 a0_1)]), (5, pb 112 [is (Bl x1), is (I8 x2), is (I16 x3), is (U64 x4)])]⟩) (fun v => some r = F106_16 N a0_0 a0_1 x1 x2 x3 x4 v) ?_ ?_
      · skip
        refine AW_region ?_
        refine AL_cons (LR_loads (at_tmp 2 _) ag23 sz23 rfl rfl rfl) (sS (sT1 rfl) (sB1 rfl) sF0) ?_
        obtain ⟨y13, hy13, hr⟩ := lt_some hr
        refine AL_cons (LR_call Hfaa.func40 rfl rfl (C40 a0_0 a0_1 y13 hy13) (all_cons (at_tmp 15 _) all_nil) rfl) (sS (sA (sT1 rfl) sT0) sB0 sF0) ?_
        refine AL_cons (LR_un (at_tmp 16 _) (not_Bl y13) rfl) (sS (sT1 rfl) sB0 sF0) ?_
        refine AL_cons (LR_move (at_tmp 17 _) rfl) (sS (sT1 rfl) sB0 sF0) ?_
        refine AL_cutAt 4 ⟨[(2, .inr (.inl (2, 0))), (5, .inr (.inl (5, 0))), (6, .inl (is (Sv ([48, 120, 49] : List UInt8)))), (15, .inl (agg [is (U8 a0_0), is (U8 a0_1)])), (16, .inl (is (Bl y13))), (17, .inl (is (Bl (!y13)))), (18, .inl (is (Bl (!y13)))), (22, .inl (is (Bl ((!y13) || (x2 == 4)))))], [(2, pb 23 [is (U8 a0_0), is (U8 a0_1)]), (5, pb 112 [is (Bl x1), is (I8 x2), is (I16 x3), is (U64 x4)])]⟩ ?_ ?_
        · cases hb : !y13
          · skip
            refine AL_cons (LR_on rfl rfl rfl (LR_fieldAddr (off := 0) (o := 1) (at_tmp 5 _) (fun b w => fa112_1 b 0 w) rfl)) (sS (sT rfl (sT1 rfl)) sB0 sF0) ?_
            refine AL_cons (LR_on rfl rfl rfl (LR_load (at_tmp 19 _) na110 rfl rfl)) (sS (sT rfl (sT1 rfl)) (sB1 rfl) sF0) ?_
            refine AL_cons (LR_on rfl rfl rfl (LR_bin (at_tmp 20 _) (at_c (v' := I8 4) rfl) (eql_I8 x2 4) rfl)) (sS (sT rfl (sA (sT1 rfl) sT0)) sB0 sF0) ?_
            refine AL_cons (LR_pick (b := false) (at_tmp 18 _) (at_c (v' := Bl true) rfl) (at_tmp 21 _) rfl) (sS (sA (sT1 rfl) (sA sT0 (sT1 rfl))) sB0 sF0) ?_
            exact AL_nil ⟨rfl, weak0 ((sT rfl (sT rfl (sT rfl (sT rfl (sT rfl (sT rfl (sT rfl (sT rfl sT0))))))))) (sub_keep (sub_keep sub_nil))⟩
          · skip
            refine AL_cons (LR_off (b := true) rfl rfl rfl rfl) (sS (sT1 rfl) sB0 sF0) ?_
            refine AL_cons (LR_off (b := true) rfl rfl rfl rfl) (sS (sT1 rfl) sB0 sF0) ?_
            refine AL_cons (LR_off (b := true) rfl rfl rfl rfl) (sS (sT1 rfl) sB0 sF0) ?_
            refine AL_cons (LR_pick (b := true) (at_tmp 18 _) (at_c (v' := Bl true) rfl) (at_tmp 21 _) rfl) (sS (sA (sT1 rfl) (sA sT0 (sT1 rfl))) sB0 sF0) ?_
            exact AL_nil ⟨rfl, weak0 ((sT rfl (sT rfl (sT rfl (sT rfl (sT rfl (sT rfl (sT rfl (sT rfl sT0))))))))) (sub_keep (sub_keep sub_nil))⟩
        refine AL_cons (LR_move (at_tmp 22 _) rfl) (sS (sT1 rfl) sB0 sF0) ?_
        refine AL_cutAt 4 ⟨[(2, .inr (.inl (2, 0))), (5, .inr (.inl (5, 0))), (6, .inl (is (Sv ([48, 120, 49] : List UInt8)))), (15, .inl (agg [is (U8 a0_0), is (U8 a0_1)])), (16, .inl (is (Bl y13))), (17, .inl (is (Bl (!y13)))), (18, .inl (is (Bl (!y13)))), (22, .inl (is (Bl ((!y13) || (x2 == 4))))), (23, .inl (is (Bl ((!y13) || (x2 == 4))))), (27, .inl (is (Bl (((!y13) || (x2 == 4)) || (x2 == 3)))))], [(2, pb 23 [is (U8 a0_0), is (U8 a0_1)]), (5, pb 112 [is (Bl x1), is (I8 x2), is (I16 x3), is (U64 x4)])]⟩ ?_ ?_
        · cases hb : (!y13) || (x2 == 4)
          · skip
            refine AL_cons (LR_on rfl rfl rfl (LR_fieldAddr (off := 0) (o := 1) (at_tmp 5 _) (fun b w => fa112_1 b 0 w) rfl)) (sS (sT rfl (sT1 rfl)) sB0 sF0) ?_
            refine AL_cons (LR_on rfl rfl rfl (LR_load (at_tmp 24 _) na110 rfl rfl)) (sS (sT rfl (sT1 rfl)) (sB1 rfl) sF0) ?_
            refine AL_cons (LR_on rfl rfl rfl (LR_bin (at_tmp 25 _) (at_c (v' := I8 3) rfl) (eql_I8 x2 3) rfl)) (sS (sT rfl (sA (sT1 rfl) sT0)) sB0 sF0) ?_
            refine AL_cons (LR_pick (b := false) (at_tmp 23 _) (at_c (v' := Bl true) rfl) (at_tmp 26 _) rfl) (sS (sA (sT1 rfl) (sA sT0 (sT1 rfl))) sB0 sF0) ?_
            exact AL_nil ⟨rfl, weak0 ((sT rfl (sT rfl (sT rfl (sT rfl (sT rfl (sT rfl (sT rfl (sT rfl (sT rfl (sT rfl sT0))))))))))) (sub_keep (sub_keep sub_nil))⟩
          · skip
            refine AL_cons (LR_off (b := true) rfl rfl rfl rfl) (sS (sT1 rfl) sB0 sF0) ?_
            refine AL_cons (LR_off (b := true) rfl rfl rfl rfl) (sS (sT1 rfl) sB0 sF0) ?_
            refine AL_cons (LR_off (b := true) rfl rfl rfl rfl) (sS (sT1 rfl) sB0 sF0) ?_
            refine AL_cons (LR_pick (b := true) (at_tmp 23 _) (at_c (v' := Bl true) rfl) (at_tmp 26 _) rfl) (sS (sA (sT1 rfl) (sA sT0 (sT1 rfl))) sB0 sF0) ?_
            exact AL_nil ⟨rfl, weak0 ((sT rfl (sT rfl (sT rfl (sT rfl (sT rfl (sT rfl (sT rfl (sT rfl (sT rfl (sT rfl sT0))))))))))) (sub_keep (sub_keep sub_nil))⟩
        refine AL_cons (LR_assign (at_tmp 27 _) rfl) (sS (sT1 rfl) sB0 sF0) ?_
        refine AL_nil ?_
        exact thenN (cutLeaf (v := ((!y13) || (x2 == 4)) || (x2 == 3)) hr (weak0 ((sT rfl (sT rfl (sT rfl (sT rfl sT0))))) (sub_keep (sub_keep sub_nil))))
      · rintro x23 hr
        show AW Hfaa.prog _ _ _ ⟨[(2, .inr (.inl (2, 0))), (5, .inr (.inl (5, 0))), (6, .inl (is (Sv ([48, 120, 49] : List UInt8)))), (14, .inl (is (Bl x23)))], [(2, pb 23 [is (U8 a0_0), is (U8 a0_1)]), (5, pb 112 [is (Bl x1), is (I8 x2), is (I16 x3), is (U64 x4)])]⟩
        have hr : some r = F106_16 N a0_0 a0_1 x1 x2 x3 x4 x23 := hr
        refine AW_condT (b := x23) rfl (fun h => ?_) (fun h => ?_)
        · have hr := hr.trans (cond_t h)
          clear h
          refine AW_seq1 ?_
          refine AW_region ?_
          refine AL_cons (LR_assign (at_c (v' := Sv ([] : List UInt8)) rfl) rfl) (sS sT0 sB0 sF0) ?_
          refine AL_nil ?_
          refine thenN ?_
          refine AW_ret ?_
          refine blR ?_
          refine thenR ?_
          obtain rfl := Option.some.inj hr
          exact res1 rfl (rvT rfl)
        · have hr := hr.trans (cond_f h)
          clear h
          refine AW_cut (σ := Bool) (fun v => ⟨[(2, .inr (.inl (2, 0))), (5, .inr (.inl (5, 0))), (6, .inl (is (Sv ([48, 120, 49] : List UInt8)))), (28, .inl (is (Bl v)))], [(2, pb 23 [is (U8 a0_0), is (U8 a0_1)]), (5, pb 112 [is (Bl x1), is (I8 x2), is (I16 x3), is (U64 x4)])]⟩) (fun v => some r = F106_17 N a0_0 a0_1 x1 x2 x3 x4 v) ?_ ?_
          · skip
            refine AW_region ?_
            refine AL_cons (LR_fieldAddr (off := 0) (o := 1) (at_tmp 5 _) (fun b w => fa112_1 b 0 w) rfl) (sS (sT1 rfl) sB0 sF0) ?_
            refine AL_cons (LR_load (at_tmp 29 _) na110 rfl rfl) (sS (sT1 rfl) (sB1 rfl) sF0) ?_
            refine AL_cons (LR_bin (at_tmp 30 _) (at_c (v' := I8 0) rfl) (eql_I8 x2 0) rfl) (sS (sA (sT1 rfl) sT0) sB0 sF0) ?_
            refine AL_cons (LR_assign (at_tmp 31 _) rfl) (sS (sT1 rfl) sB0 sF0) ?_
            refine AL_nil ?_
            exact thenN (cutLeaf (v := x2 == 0) hr (weak0 ((sT rfl (sT rfl (sT rfl (sT rfl sT0))))) (sub_keep (sub_keep sub_nil))))
          · rintro x24 hr
            show AW Hfaa.prog _ _ _ ⟨[(2, .inr (.inl (2, 0))), (5, .inr (.inl (5, 0))), (6, .inl (is (Sv ([48, 120, 49] : List UInt8)))), (28, .inl (is (Bl x24)))], [(2, pb 23 [is (U8 a0_0), is (U8 a0_1)]), (5, pb 112 [is (Bl x1), is (I8 x2), is (I16 x3), is (U64 x4)])]⟩
            have hr : some r = F106_17 N a0_0 a0_1 x1 x2 x3 x4 x24 := hr
            refine AW_condT (b := x24) rfl (fun h => ?_) (fun h => ?_)
            · have hr := hr.trans (cond_t h)
              clear h
              refine AW_region ?_
              refine AL_cons (LR_assign (at_c (v' := Sv ([48, 120, 48] : List UInt8)) rfl) rfl) (sS sT0 sB0 sF0) ?_
              refine AL_nil ?_
              refine blN ?_
              exact thenN (cutLeaf (v := ([48, 120, 48] : List UInt8)) hr (weak0 ((sT rfl (sT rfl (sT rfl sT0)))) (sub_keep (sub_keep sub_nil))))
            · have hr := hr.trans (cond_f h)
              clear h
              refine AW_skip ?_
              refine blN ?_
              exact thenN (cutLeaf (v := ([48, 120, 49] : List UInt8)) hr (weak0 ((sT rfl (sT rfl (sT rfl sT0)))) (sub_keep (sub_keep sub_nil))))
    · rintro x5 hr
      show AW Hfaa.prog _ _ _ ⟨[(2, .inr (.inl (2, 0))), (5, .inr (.inl (5, 0))), (6, .inl (is (Sv x5)))], [(2, pb 23 [is (U8 a0_0), is (U8 a0_1)]), (5, pb 112 [is (Bl x1), is (I8 x2), is (I16 x3), is (U64 x4)])]⟩
      have hr : some r = F106_2 N a0_0 a0_1 x1 x2 x3 x4 x5 := hr
      refine AW_cut (σ := List UInt8) (fun v => ⟨[(2, .inr (.inl (2, 0))), (5, .inr (.inl (5, 0))), (6, .inl (is (Sv v)))], [(2, pb 23 [is (U8 a0_0), is (U8 a0_1)]), (5, pb 112 [is (Bl x1), is (I8 x2), is (I16 x3), is (U64 x4)])]⟩) (fun v => some r = F106_3 N a0_0 a0_1 x1 x2 x3 x4 v) ?_ ?_
      · skip
        refine AW_seq1 ?_
        refine AW_region ?_
        refine AL_cons (LR_fieldAddr (off := 0) (o := 0) (at_tmp 5 _) (fun b w => fa112_0 b 0 w) rfl) (sS (sT1 rfl) sB0 sF0) ?_
        refine AL_cons (LR_load (at_tmp 32 _) na4 rfl rfl) (sS (sT1 rfl) (sB1 rfl) sF0) ?_
        refine AL_nil ?_
        refine thenN ?_
        refine AW_condT (b := x1) rfl (fun h => ?_) (fun h => ?_)
        · have hr := hr.trans (cond_t h)
          clear h
          refine AW_region ?_
          refine AL_cons (LR_move (at_tmp 6 _) rfl) (sS (sT1 rfl) sB0 sF0) ?_
          obtain ⟨hg118, hr⟩ := guard_some hr
          refine AL_cons (LR_bin (at_c (v' := Sv ([45] : List UInt8)) rfl) (at_tmp 34 _) (add_S ([45] : List UInt8) x5 (of_decide_eq_true hg118)) rfl) (sS (sA sT0 (sT1 rfl)) sB0 sF0) ?_
          refine AL_cons (LR_assign (at_tmp 35 _) rfl) (sS (sT1 rfl) sB0 sF0) ?_
          refine AL_nil ?_
          exact thenN (cutLeaf (v := ([45] : List UInt8) ++ x5) hr (weak0 ((sT rfl (sT rfl (sT rfl sT0)))) (sub_keep (sub_keep sub_nil))))
        · have hr := hr.trans (cond_f h)
          clear h
          refine AW_skip ?_
          exact thenN (cutLeaf (v := x5) hr (weak0 ((sT rfl (sT rfl (sT rfl sT0)))) (sub_keep (sub_keep sub_nil))))
      · rintro x6 hr
        show AW Hfaa.prog _ _ _ ⟨[(2, .inr (.inl (2, 0))), (5, .inr (.inl (5, 0))), (6, .inl (is (Sv x6)))], [(2, pb 23 [is (U8 a0_0), is (U8 a0_1)]), (5, pb 112 [is (Bl x1), is (I8 x2), is (I16 x3), is (U64 x4)])]⟩
        have hr : some r = F106_3 N a0_0 a0_1 x1 x2 x3 x4 x6 := hr
        refine AW_cut (σ := List UInt8) (fun v => ⟨[(5, .inr (.inl (5, 0))), (6, .inl (is (Sv v)))], [(5, pb 112 [is (Bl x1), is (I8 x2), is (I16 x3), is (U64 x4)])]⟩) (fun v => some r = F106_4 N x1 x2 x3 x4 v) ?_ ?_
        · skip
          refine AW_cut (σ := BitVec 64) (fun v => ⟨[(5, .inr (.inl (5, 0))), (6, .inl (is (Sv x6))), (7, .inl (is (U64 v)))], [(5, pb 112 [is (Bl x1), is (I8 x2), is (I16 x3), is (U64 x4)])]⟩) (fun v => some r = F106_8 N x1 x2 x3 x4 x6 v) ?_ ?_
          · skip
            refine AW_region ?_
            refine AL_cons (LR_fieldAddr (off := 0) (o := 3) (at_tmp 5 _) (fun b w => fa112_3 b 0 w) rfl) (sS (sT1 rfl) sB0 sF0) ?_
            refine AL_cons (LR_load (at_tmp 36 _) na30 rfl rfl) (sS (sT1 rfl) (sB1 rfl) sF0) ?_
            refine AL_cons (LR_fieldAddr (off := 0) (o := 1) (at_tmp 2 _) (fun b w => fa23_1 b 0 w) rfl) (sS (sT1 rfl) sB0 sF0) ?_
            refine AL_cons (LR_load (at_tmp 38 _) na5 rfl rfl) (sS (sT1 rfl) (sB1 rfl) sF0) ?_
            refine AL_cons (LR_bin (at_c (v' := U8 (63#8)) rfl) (at_tmp 39 _) (sub_U8 (63#8) a0_1) rfl) (sS (sA sT0 (sT1 rfl)) sB0 sF0) ?_
            refine AL_cons (LR_bin (at_tmp 37 _) (at_tmp 40 _) (shl_U64 x4 (((63#8) - a0_1).toNat : Int) (Int.natCast_nonneg _)) rfl) (sS (sA (sT1 rfl) (sT1 rfl)) sB0 sF0) ?_
            refine AL_cons (LR_bin (at_tmp 41 _) (at_c (v' := U64 (1#64)) rfl) (shl_U64 (x4 <<< ((63#8) - a0_1).toNat) ((1#64).toNat : Int) (Int.natCast_nonneg _)) rfl) (sS (sA (sT1 rfl) sT0) sB0 sF0) ?_
            refine AL_cons (LR_assign (at_tmp 42 _) rfl) (sS (sT1 rfl) sB0 sF0) ?_
            refine AL_nil ?_
            exact thenN (cutLeaf (v := (x4 <<< ((63#8) - a0_1).toNat) <<< 1) hr (weak0 ((sT rfl (sT rfl (sT rfl sT0)))) (sub_drop (sub_keep sub_nil))))
          · rintro x11 hr
            show AW Hfaa.prog _ _ _ ⟨[(5, .inr (.inl (5, 0))), (6, .inl (is (Sv x6))), (7, .inl (is (U64 x11)))], [(5, pb 112 [is (Bl x1), is (I8 x2), is (I16 x3), is (U64 x4)])]⟩
            have hr : some r = F106_8 N x1 x2 x3 x4 x6 x11 := hr
            refine AW_cut (σ := Bool) (fun v => ⟨[(5, .inr (.inl (5, 0))), (6, .inl (is (Sv x6))), (7, .inl (is (U64 x11))), (44, .inl (is (Bl v)))], [(5, pb 112 [is (Bl x1), is (I8 x2), is (I16 x3), is (U64 x4)])]⟩) (fun v => some r = F106_9 N x1 x2 x3 x4 x6 x11 v) ?_ ?_
            · skip
              refine AW_region ?_
              refine AL_cons (LR_move (at_tmp 7 _) rfl) (sS (sT1 rfl) sB0 sF0) ?_
              refine AL_cons (LR_bin (at_tmp 43 _) (at_c (v' := U64 (0#64)) rfl) (neq_U64 x11 (0#64)) rfl) (sS (sA (sT1 rfl) sT0) sB0 sF0) ?_
              refine AL_nil ?_
              exact thenN (cutLeaf (v := x11 != (0#64)) hr (weak0 ((sT rfl (sT rfl (sT rfl (sT rfl sT0))))) (sub_keep sub_nil)))
            · rintro x12 hr
              show AW Hfaa.prog _ _ _ ⟨[(5, .inr (.inl (5, 0))), (6, .inl (is (Sv x6))), (7, .inl (is (U64 x11))), (44, .inl (is (Bl x12)))], [(5, pb 112 [is (Bl x1), is (I8 x2), is (I16 x3), is (U64 x4)])]⟩
              have hr : some r = F106_9 N x1 x2 x3 x4 x6 x11 x12 := hr
              refine AW_condT (b := x12) rfl (fun h => ?_) (fun h => ?_)
              · have hr := hr.trans (cond_t h)
                clear h
                refine AW_cut (σ := (Nat → BitVec 8)) (fun v => ⟨[(5, .inr (.inl (5, 0))), (6, .inl (is (Sv x6))), (7, .inl (is (U64 x11))), (8, .inr (.inl (8, 0)))], [(5, pb 112 [is (Bl x1), is (I8 x2), is (I16 x3), is (U64 x4)]), (8, pb 226 (ar U8 16 v ++ []))]⟩) (fun v => some r = F106_10 N x1 x2 x3 x4 x6 x11 v) ?_ ?_
                · skip
                  refine AW_region ?_
                  refine AL_cons (zl226 rfl) (sS sT0 sB0 (sF1 rfl)) ?_
                  refine AL_nil ?_
                  exact thenN (cutLeaf (v := fun _ => 0#8) hr (weak0 ((sT rfl (sT rfl (sT rfl (sT rfl sT0))))) (sub_keep (sub_keep sub_nil))))
                · rintro x13 hr
                  show AW Hfaa.prog _ _ _ ⟨[(5, .inr (.inl (5, 0))), (6, .inl (is (Sv x6))), (7, .inl (is (U64 x11))), (8, .inr (.inl (8, 0)))], [(5, pb 112 [is (Bl x1), is (I8 x2), is (I16 x3), is (U64 x4)]), (8, pb 226 (ar U8 16 x13 ++ []))]⟩
                  have hr : some r = F106_10 N x1 x2 x3 x4 x6 x11 x13 := hr
                  refine AW_seq1 ?_
                  refine AW_region ?_
                  refine AL_cons (LR_assign (at_c (v' := I64 0) rfl) rfl) (sS sT0 sB0 sF0) ?_
                  refine AL_nil ?_
                  refine thenN ?_
                  refine AW_cut (σ := Int × (Nat → BitVec 8)) (fun v => ⟨[(5, .inr (.inl (5, 0))), (6, .inl (is (Sv x6))), (8, .inr (.inl (8, 0))), (9, .inl (is (I64 v.1)))], [(5, pb 112 [is (Bl x1), is (I8 x2), is (I16 x3), is (U64 x4)]), (8, pb 226 (ar U8 16 v.2 ++ []))]⟩) (fun v => some r = F106_11 N x1 x2 x3 x4 x6 v.1 v.2) ?_ ?_
                  · skip
                    refine AW_block ?_
                    refine AW_iterR (σ := BitVec 64 × Int × (Nat → BitVec 8)) (r := r) (x0 := (x11, 0, x13)) (emb := fun v => ⟨[(5, .inr (.inl (5, 0))), (6, .inl (is (Sv x6))), (7, .inl (is (U64 v.1))), (8, .inr (.inl (8, 0))), (9, .inl (is (I64 v.2.1)))], [(5, pb 112 [is (Bl x1), is (I8 x2), is (I16 x3), is (U64 x4)]), (8, pb 226 (ar U8 16 v.2.2 ++ []))]⟩) ?_ hr ?_
                    · exact weak0 ((sT rfl (sT rfl (sT rfl (sT rfl (sT rfl sT0)))))) (sub_keep (sub_keep sub_nil))
                    rintro ⟨x16, x17, x18⟩ out4 hr
                    show AW Hfaa.prog _ _ _ ⟨[(5, .inr (.inl (5, 0))), (6, .inl (is (Sv x6))), (7, .inl (is (U64 x16))), (8, .inr (.inl (8, 0))), (9, .inl (is (I64 x17)))], [(5, pb 112 [is (Bl x1), is (I8 x2), is (I16 x3), is (U64 x4)]), (8, pb 226 (ar U8 16 x18 ++ []))]⟩
                    have hr : some out4 = F106_L12b N x1 x2 x3 x4 x6 x16 x17 x18 := hr
                    refine AW_seq1 ?_
                    refine AW_cut (σ := Bool) (fun v => ⟨[(5, .inr (.inl (5, 0))), (6, .inl (is (Sv x6))), (7, .inl (is (U64 x16))), (8, .inr (.inl (8, 0))), (9, .inl (is (I64 x17))), (46, .inl (is (Bl v)))], [(5, pb 112 [is (Bl x1), is (I8 x2), is (I16 x3), is (U64 x4)]), (8, pb 226 (ar U8 16 x18 ++ []))]⟩) (fun v => some out4 = F106_13 N x1 x2 x3 x4 x6 x16 x17 x18 v) ?_ ?_
                    · skip
                      refine AW_region ?_
                      refine AL_cons (LR_move (at_tmp 7 _) rfl) (sS (sT1 rfl) sB0 sF0) ?_
                      refine AL_cons (LR_bin (at_tmp 45 _) (at_c (v' := U64 (0#64)) rfl) (neq_U64 x16 (0#64)) rfl) (sS (sA (sT1 rfl) sT0) sB0 sF0) ?_
                      refine AL_nil ?_
                      exact thenN (cutLeaf (v := x16 != (0#64)) hr (weak0 ((sT rfl (sT rfl (sT rfl (sT rfl (sT rfl (sT rfl sT0))))))) (sub_keep (sub_keep sub_nil))))
                    · rintro x19 hr
                      show AW Hfaa.prog _ _ _ ⟨[(5, .inr (.inl (5, 0))), (6, .inl (is (Sv x6))), (7, .inl (is (U64 x16))), (8, .inr (.inl (8, 0))), (9, .inl (is (I64 x17))), (46, .inl (is (Bl x19)))], [(5, pb 112 [is (Bl x1), is (I8 x2), is (I16 x3), is (U64 x4)]), (8, pb 226 (ar U8 16 x18 ++ []))]⟩
                      have hr : some out4 = F106_13 N x1 x2 x3 x4 x6 x16 x17 x18 x19 := hr
                      refine AW_condT (b := x19) rfl (fun h => ?_) (fun h => ?_)
                      · have hr := hr.trans (cond_t h)
                        clear h
                        refine AW_skip ?_
                        refine thenN ?_
                        refine AW_cut (σ := Int × (Nat → BitVec 8)) (fun v => ⟨[(5, .inr (.inl (5, 0))), (6, .inl (is (Sv x6))), (7, .inl (is (U64 x16))), (8, .inr (.inl (8, 0))), (9, .inl (is (I64 v.1)))], [(5, pb 112 [is (Bl x1), is (I8 x2), is (I16 x3), is (U64 x4)]), (8, pb 226 (ar U8 16 v.2 ++ []))]⟩) (fun v => some out4 = F106_14 N x1 x2 x3 x4 x6 x16 v.1 v.2) ?_ ?_
                        · skip
                          refine AW_block ?_
                          refine AW_cut (σ := (Nat → BitVec 8)) (fun v => ⟨[(5, .inr (.inl (5, 0))), (6, .inl (is (Sv x6))), (7, .inl (is (U64 x16))), (8, .inr (.inl (8, 0))), (9, .inl (is (I64 x17)))], [(5, pb 112 [is (Bl x1), is (I8 x2), is (I16 x3), is (U64 x4)]), (8, pb 226 (ar U8 16 v ++ []))]⟩) (fun v => some out4 = F106_15 N x1 x2 x3 x4 x6 x16 x17 v) ?_ ?_
                          · skip
                            refine AW_region ?_
                            refine AL_cons (LR_move (at_tmp 9 _) rfl) (sS (sT1 rfl) sB0 sF0) ?_
                            refine AL_cons (LR_move (at_tmp 7 _) rfl) (sS (sT1 rfl) sB0 sF0) ?_
                            refine AL_cons (LR_bin (at_tmp 50 _) (at_c (v' := U64 (60#64)) rfl) (shr_U64 x16 ((60#64).toNat : Int) (Int.natCast_nonneg _)) rfl) (sS (sA (sT1 rfl) sT0) sB0 sF0) ?_
                            obtain ⟨hg116, hr⟩ := guard_some hr
                            refine AL_cons (LR_indexS (i := ((x16 >>> 60).toNat : Int)) Hfaa.underlying9 (at_c (v' := Sv str1) rfl) (at_tmp 51 _) (dand hg116) rfl) (sS (sA sT0 (sT1 rfl)) sB0 sF0) ?_
                            obtain ⟨hg117, hr⟩ := guard_some hr
                            refine AL_cons (LR_indexAddr (o := x17.toNat) Hfaa.underlying226 sz5 (at_tmp 8 _) (at_tmp 49 _) (dand hg117) (by first | rfl | omega) rfl) (sS (sA (sT1 rfl) (sT1 rfl)) sB0 sF0) ?_
                            refine AL_cons (LR_storeA (at_tmp 53 _) (at_tmp 52 _) (cells_one (one_is rfl)) (onC (one_is rfl) onN) sz5 rfl (ble_dyn (lnA ln0) (by have := (ltn (dand hg117)); omega)) (stA (ltn (dand hg117)))) (sS (sA (sT1 rfl) (sT1 rfl)) (sB1 rfl) sF0) ?_
                            refine AL_nil ?_
                            exact thenN (cutLeaf (v := upd x18 x17.toNat ((str1.getD (((x16 >>> 60).toNat : Int)).toNat 0).toBitVec)) hr (weak0 ((sT rfl (sT rfl (sT rfl (sT rfl (sT rfl sT0)))))) (sub_keep (sub_keep sub_nil))))
                          · rintro x22 hr
                            show AW Hfaa.prog _ _ _ ⟨[(5, .inr (.inl (5, 0))), (6, .inl (is (Sv x6))), (7, .inl (is (U64 x16))), (8, .inr (.inl (8, 0))), (9, .inl (is (I64 x17)))], [(5, pb 112 [is (Bl x1), is (I8 x2), is (I16 x3), is (U64 x4)]), (8, pb 226 (ar U8 16 x22 ++ []))]⟩
                            have hr : some out4 = F106_15 N x1 x2 x3 x4 x6 x16 x17 x22 := hr
                            refine AW_region ?_
                            refine AL_cons (LR_move (at_tmp 9 _) rfl) (sS (sT1 rfl) sB0 sF0) ?_
                            refine AL_cons (LR_bin (at_tmp 54 _) (at_c (v' := I64 1) rfl) (add_I64 x17 1) rfl) (sS (sA (sT1 rfl) sT0) sB0 sF0) ?_
                            refine AL_cons (LR_assign (at_tmp 55 _) rfl) (sS (sT1 rfl) sB0 sF0) ?_
                            refine AL_nil ?_
                            refine blN ?_
                            exact thenN (cutLeaf (v := (w64 (x17 + 1), x22)) hr (weak0 ((sT rfl (sT rfl (sT rfl (sT rfl (sT rfl sT0)))))) (sub_keep (sub_keep sub_nil))))
                        · rintro ⟨x20, x21⟩ hr
                          show AW Hfaa.prog _ _ _ ⟨[(5, .inr (.inl (5, 0))), (6, .inl (is (Sv x6))), (7, .inl (is (U64 x16))), (8, .inr (.inl (8, 0))), (9, .inl (is (I64 x20)))], [(5, pb 112 [is (Bl x1), is (I8 x2), is (I16 x3), is (U64 x4)]), (8, pb 226 (ar U8 16 x21 ++ []))]⟩
                          have hr : some out4 = F106_14 N x1 x2 x3 x4 x6 x16 x20 x21 := hr
                          refine AW_region ?_
                          refine AL_cons (LR_move (at_tmp 7 _) rfl) (sS (sT1 rfl) sB0 sF0) ?_
                          refine AL_cons (LR_bin (at_tmp 47 _) (at_c (v' := U64 (4#64)) rfl) (shl_U64 x16 ((4#64).toNat : Int) (Int.natCast_nonneg _)) rfl) (sS (sA (sT1 rfl) sT0) sB0 sF0) ?_
                          refine AL_cons (LR_assign (at_tmp 48 _) rfl) (sS (sT1 rfl) sB0 sF0) ?_
                          refine AL_nil ?_
                          exact thenN (loopNext (x' := (x16 <<< 4, x20, x21)) hr (weak0 ((sT rfl (sT rfl (sT rfl (sT rfl (sT rfl sT0)))))) (sub_keep (sub_keep sub_nil))))
                      · have hr := hr.trans (cond_f h)
                        clear h
                        refine AW_exit ?_
                        refine thenX ?_
                        obtain ⟨r', hro, hr⟩ := map_inr hr
                        refine thenX (loopOut hro (fun he => ?_))
                        rw [he] at hr
                        refine blH ?_
                        exact thenN (cutLeaf (v := (x17, x18)) hr (weak0 ((sT rfl (sT rfl (sT rfl (sT rfl sT0))))) (sub_keep (sub_keep sub_nil))))
                  · rintro ⟨x14, x15⟩ hr
                    show AW Hfaa.prog _ _ _ ⟨[(5, .inr (.inl (5, 0))), (6, .inl (is (Sv x6))), (8, .inr (.inl (8, 0))), (9, .inl (is (I64 x14)))], [(5, pb 112 [is (Bl x1), is (I8 x2), is (I16 x3), is (U64 x4)]), (8, pb 226 (ar U8 16 x15 ++ []))]⟩
                    have hr : some r = F106_11 N x1 x2 x3 x4 x6 x14 x15 := hr
                    refine AW_region ?_
                    refine AL_cons (LR_move (at_tmp 6 _) rfl) (sS (sT1 rfl) sB0 sF0) ?_
                    refine AL_cons (LR_move (at_tmp 9 _) rfl) (sS (sT1 rfl) sB0 sF0) ?_
                    obtain ⟨hg90, hr⟩ := guard_some hr
                    refine AL_cons (slcE (o' := 0) (l' := ((x14 : Int).toNat)) (c' := 16) (LR_sliceA (i := (0 : Int)) (j := (x14 : Int)) Hfaa.underlying226 sz5 (at_tmp 8 _) lo_none (hi_some (at_tmp 57 _)) (dand3 hg90) (by decide) rfl) (by first | rfl | (simp; done) | (simp <;> omega))) (sS (sA (sT1 rfl) (sA sT0 (sT1 rfl))) sB0 sF0) ?_
                    obtain ⟨hg91, hr⟩ := guard_some hr
                    refine AL_cons (LR_convT (f := x15) Hfaa.underlying227 Hfaa.underlying5 Hfaa.underlying9 (at_tmp 58 _) (fun i hi => (zadd _).symm ▸ gA (Nat.lt_of_lt_of_le hi (of_decide_eq_true hg91))) rfl) (sS (sT1 rfl) (sB1 rfl) sF0) ?_
                    obtain ⟨hg92, hr⟩ := guard_some hr
                    refine AL_cons (LR_bin (at_c (v' := Sv ([46] : List UInt8)) rfl) (at_tmp 59 _) (add_S ([46] : List UInt8) (bys (((x14 : Int).toNat)) x15) (of_decide_eq_true hg92)) rfl) (sS (sA sT0 (sT1 rfl)) sB0 sF0) ?_
                    obtain ⟨hg93, hr⟩ := guard_some hr
                    refine AL_cons (LR_bin (at_tmp 56 _) (at_tmp 60 _) (add_S x6 (([46] : List UInt8) ++ (bys (((x14 : Int).toNat)) x15)) (of_decide_eq_true hg93)) rfl) (sS (sA (sT1 rfl) (sT1 rfl)) sB0 sF0) ?_
                    refine AL_cons (LR_assign (at_tmp 61 _) rfl) (sS (sT1 rfl) sB0 sF0) ?_
                    refine AL_nil ?_
                    exact thenN (cutLeaf (v := x6 ++ (([46] : List UInt8) ++ (bys (((x14 : Int).toNat)) x15))) hr (weak0 ((sT rfl (sT rfl sT0))) (sub_keep (sub_drop sub_nil))))
              · have hr := hr.trans (cond_f h)
                clear h
                refine AW_skip ?_
                exact thenN (cutLeaf (v := x6) hr (weak0 ((sT rfl (sT rfl sT0))) (sub_keep sub_nil)))
        · rintro x7 hr
          show AW Hfaa.prog _ _ _ ⟨[(5, .inr (.inl (5, 0))), (6, .inl (is (Sv x7)))], [(5, pb 112 [is (Bl x1), is (I8 x2), is (I16 x3), is (U64 x4)])]⟩
          have hr : some r = F106_4 N x1 x2 x3 x4 x7 := hr
          refine AW_seq1 ?_
          refine AW_region ?_
          refine AL_cons (LR_assign (at_c (v' := I64 0) rfl) rfl) (sS sT0 sB0 sF0) ?_
          refine AL_nil ?_
          refine thenN ?_
          refine AW_cut (σ := Int) (fun v => ⟨[(6, .inl (is (Sv x7))), (10, .inl (is (I64 v)))], []⟩) (fun v => some r = F106_5 N x7 v) ?_ ?_
          · skip
            refine AW_cut (σ := Bool) (fun v => ⟨[(5, .inr (.inl (5, 0))), (6, .inl (is (Sv x7))), (10, .inl (is (I64 0))), (64, .inl (is (Bl v)))], [(5, pb 112 [is (Bl x1), is (I8 x2), is (I16 x3), is (U64 x4)])]⟩) (fun v => some r = F106_7 N x1 x2 x3 x4 x7 v) ?_ ?_
            · skip
              refine AW_region ?_
              refine AL_cons (LR_fieldAddr (off := 0) (o := 1) (at_tmp 5 _) (fun b w => fa112_1 b 0 w) rfl) (sS (sT1 rfl) sB0 sF0) ?_
              refine AL_cons (LR_load (at_tmp 62 _) na110 rfl rfl) (sS (sT1 rfl) (sB1 rfl) sF0) ?_
              refine AL_cons (LR_bin (at_tmp 63 _) (at_c (v' := I8 0) rfl) (neq_I8 x2 0) rfl) (sS (sA (sT1 rfl) sT0) sB0 sF0) ?_
              refine AL_nil ?_
              exact thenN (cutLeaf (v := x2 != 0) hr (weak0 ((sT rfl (sT rfl (sT rfl (sT rfl sT0))))) (sub_keep sub_nil)))
            · rintro x10 hr
              show AW Hfaa.prog _ _ _ ⟨[(5, .inr (.inl (5, 0))), (6, .inl (is (Sv x7))), (10, .inl (is (I64 0))), (64, .inl (is (Bl x10)))], [(5, pb 112 [is (Bl x1), is (I8 x2), is (I16 x3), is (U64 x4)])]⟩
              have hr : some r = F106_7 N x1 x2 x3 x4 x7 x10 := hr
              refine AW_condT (b := x10) rfl (fun h => ?_) (fun h => ?_)
              · have hr := hr.trans (cond_t h)
                clear h
                obtain ⟨y11, hy11, hr⟩ := bind_some hr
                refine AW_draw mixed
                  (lrC (LR_fieldAddr (off := 0) (o := 2) (at_tmp 5 _) (fun b w => fa112_2 b 0 w) rfl)
                  (lrC (LR_load (at_tmp 65 _) na44 rfl rfl)
                  (lrC (LR_conv (vx := I16 x3) (at_tmp 66 _) (conv_I64 Hfaa.underlying44 Hfaa.underlying2 x3) rfl)
                  (lrC (LR_bin (at_tmp 67 _) (at_c (v' := I64 63) rfl) (add_I64 (w64 x3) 63) rfl)
                  (lrC (LR_fieldAddr (off := 0) (o := 3) (at_tmp 5 _) (fun b w => fa112_3 b 0 w) rfl)
                  (lrC (LR_load (at_tmp 69 _) na30 rfl rfl)
                  (lrC (LR_call Hfaa.func164 rfl rfl (C164 N x4 y11 hy11) (all_cons (at_tmp 70 _) all_nil) rfl)
                  (lrC (LR_conv (vx := U8 y11) (at_tmp 71 _) (conv_I64 Hfaa.underlying5 Hfaa.underlying2 (y11.toNat : Int)) rfl)
                  (lrC (LR_bin (at_tmp 68 _) (at_tmp 72 _) (sub_I64 (w64 ((w64 x3) + 63)) (w64 (y11.toNat : Int))) rfl)
                  (lrC (LR_assign (at_tmp 73 _) rfl)
                  lrN))))))))))
                  (by kernel_rfl)
                  (saC (sS (sT1 rfl) sB0 sF0) (saC (sS (sT1 rfl) (sB1 rfl) sF0) (saC (sS (sT1 rfl) sB0 sF0) (saC (sS (sA (sT1 rfl) sT0) sB0 sF0) (saC (sS (sT1 rfl) sB0 sF0) (saC (sS (sT1 rfl) (sB1 rfl) sF0) (saC (sS (sA (sT1 rfl) sT0) sB0 sF0) (saC (sS (sT1 rfl) sB0 sF0) (saC (sS (sA (sT1 rfl) (sT1 rfl)) sB0 sF0) (saC (sS (sT1 rfl) sB0 sF0) saN)))))))))) ?_
                exact thenN (cutLeaf (v := w64 ((w64 ((w64 x3) + 63)) - (w64 (y11.toNat : Int)))) hr (weak0 ((sT rfl (sT rfl sT0))) (sub_drop sub_nil)))
              · have hr := hr.trans (cond_f h)
                clear h
                refine AW_skip ?_
                exact thenN (cutLeaf (v := 0) hr (weak0 ((sT rfl (sT rfl sT0))) (sub_drop sub_nil)))
          · rintro x8 hr
            show AW Hfaa.prog _ _ _ ⟨[(6, .inl (is (Sv x7))), (10, .inl (is (I64 x8)))], []⟩
            have hr : some r = F106_5 N x7 x8 := hr
            refine AW_seq1 ?_
            refine AW_cut (σ := Bool) (fun v => ⟨[(6, .inl (is (Sv x7))), (10, .inl (is (I64 x8))), (75, .inl (is (Bl v)))], []⟩) (fun v => some r = F106_6 N x7 x8 v) ?_ ?_
            · skip
              refine AW_region ?_
              refine AL_cons (LR_move (at_tmp 10 _) rfl) (sS (sT1 rfl) sB0 sF0) ?_
              refine AL_cons (LR_bin (at_tmp 74 _) (at_c (v' := I64 0) rfl) (lss_I64 x8 0) rfl) (sS (sA (sT1 rfl) sT0) sB0 sF0) ?_
              refine AL_nil ?_
              exact thenN (cutLeaf (v := decide (x8 < 0)) hr (weak0 ((sT rfl (sT rfl (sT rfl sT0)))) sub_nil))
            · rintro x9 hr
              show AW Hfaa.prog _ _ _ ⟨[(6, .inl (is (Sv x7))), (10, .inl (is (I64 x8))), (75, .inl (is (Bl x9)))], []⟩
              have hr : some r = F106_6 N x7 x8 x9 := hr
              refine AW_condT (b := x9) rfl (fun h => ?_) (fun h => ?_)
              · have hr := hr.trans (cond_t h)
                clear h
                refine AW_seq1 ?_
                refine AW_region ?_
                refine AL_cons (LR_move (at_tmp 6 _) rfl) (sS (sT1 rfl) sB0 sF0) ?_
                obtain ⟨hg60, hr⟩ := guard_some hr
                refine AL_cons (LR_bin (at_tmp 76 _) (at_c (v' := Sv ([112, 45] : List UInt8)) rfl) (add_S x7 ([112, 45] : List UInt8) (of_decide_eq_true hg60)) rfl) (sS (sA (sT1 rfl) sT0) sB0 sF0) ?_
                refine AL_cons (LR_move (at_tmp 10 _) rfl) (sS (sT1 rfl) sB0 sF0) ?_
                refine AL_cons (LR_un (at_tmp 78 _) (neg_I64 x8) rfl) (sS (sT1 rfl) sB0 sF0) ?_
                obtain ⟨y8, hy8, hr⟩ := bind_some hr
                refine AL_cons (LR_call Hfaa.func170 rfl rfl (C170 N (w64 (0 - x8)) y8 hy8) (all_cons (at_tmp 79 _) all_nil) rfl) (sS (sA (sT1 rfl) sT0) sB0 sF0) ?_
                obtain ⟨hg61, hr⟩ := guard_some hr
                refine AL_cons (LR_bin (at_tmp 77 _) (at_tmp 80 _) (add_S (x7 ++ ([112, 45] : List UInt8)) y8 (of_decide_eq_true hg61)) rfl) (sS (sA (sT1 rfl) (sT1 rfl)) sB0 sF0) ?_
                refine AL_cons (LR_assign (at_tmp 81 _) rfl) (sS (sT1 rfl) sB0 sF0) ?_
                refine AL_nil ?_
                refine thenN ?_
                refine AW_ret ?_
                refine thenR ?_
                obtain rfl := Option.some.inj hr
                exact res1 rfl (rvT rfl)
              · have hr := hr.trans (cond_f h)
                clear h
                refine AW_skip ?_
                refine thenN ?_
                refine AW_seq1 ?_
                refine AW_region ?_
                refine AL_cons (LR_move (at_tmp 6 _) rfl) (sS (sT1 rfl) sB0 sF0) ?_
                obtain ⟨hg64, hr⟩ := guard_some hr
                refine AL_cons (LR_bin (at_tmp 82 _) (at_c (v' := Sv ([112, 43] : List UInt8)) rfl) (add_S x7 ([112, 43] : List UInt8) (of_decide_eq_true hg64)) rfl) (sS (sA (sT1 rfl) sT0) sB0 sF0) ?_
                refine AL_cons (LR_move (at_tmp 10 _) rfl) (sS (sT1 rfl) sB0 sF0) ?_
                obtain ⟨y10, hy10, hr⟩ := bind_some hr
                refine AL_cons (LR_call Hfaa.func170 rfl rfl (C170 N x8 y10 hy10) (all_cons (at_tmp 84 _) all_nil) rfl) (sS (sA (sT1 rfl) sT0) sB0 sF0) ?_
                obtain ⟨hg65, hr⟩ := guard_some hr
                refine AL_cons (LR_bin (at_tmp 83 _) (at_tmp 85 _) (add_S (x7 ++ ([112, 43] : List UInt8)) y10 (of_decide_eq_true hg65)) rfl) (sS (sA (sT1 rfl) (sT1 rfl)) sB0 sF0) ?_
                refine AL_cons (LR_assign (at_tmp 86 _) rfl) (sS (sT1 rfl) sB0 sF0) ?_
                refine AL_nil ?_
                refine thenN ?_
                refine AW_ret ?_
                obtain rfl := Option.some.inj hr
                exact res1 rfl (rvT rfl)
end Go.Proofs.YfwaawGreat
