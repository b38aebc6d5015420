import Derived.Test.YfwaawGreatG0
import Derived.Test.YfwaawGreatG2
import Derived.Test.YfwaawGreatG26
import Derived.Test.YfwaawGreatG28
import Derived.Test.YfwaawGreatG33
import Derived.Test.YfwaawGreatG38
import Derived.Test.YfwaawGreatG40
namespace Go.Proofs.YfwaawGreat
open Go.Aw
set_option linter.unusedVariables false
set_option maxRecDepth 100000
set_option maxHeartbeats 1000000
/-- calc/so.settle -/
def F312_5 (N : Nat) (b1_0 : Nat → BitVec 64) (b1_1 : NS (List UInt8)) (x5 : Bool) : Option ((Nat → BitVec 64) × NS (List UInt8)) := bif x5 then bif decide (b1_1.2.1 < 4294967296) then some ((b1_0, app b1_1 ([116, 111, 111, 32, 98, 105, 103] : List UInt8))) else none else some (b1_0, b1_1)
def F312_4 (N : Nat) (b1_0 : Nat → BitVec 64) (b1_1 : NS (List UInt8)) (a3_0 : BitVec 8) (x4 : Bool) : Option ((Nat → BitVec 64) × NS (List UInt8)) := bif x4 then bif decide (b1_1.2.1 < 4294967296) then some ((b1_0, app b1_1 ([119, 114, 111, 110, 103] : List UInt8))) else none else F312_5 N b1_0 b1_1 (a3_0 == (4#8))
def F312_3 (N : Nat) (a0_0 : BitVec 8) (a0_1 : BitVec 8) (b1_0 : Nat → BitVec 64) (b1_1 : NS (List UInt8)) (a2_1 : BitVec 8) (a3_0 : BitVec 8) (x3 : Bool) : Option ((Nat → BitVec 64) × NS (List UInt8)) := bif x3 then lt (F66 a0_0 a0_1) fun y2 => some ((upd b1_0 ((a2_1 &&& (7#8)).toNat) y2, b1_1)) else F312_4 N b1_0 b1_1 a3_0 (a3_0 == (3#8))
def F312_2 (N : Nat) (a0_0 : BitVec 8) (a0_1 : BitVec 8) (b1_0 : Nat → BitVec 64) (b1_1 : NS (List UInt8)) (a2_1 : BitVec 8) (a3_0 : BitVec 8) (a3_1 : Bool) (a3_2 : List UInt8) (a3_3 : Int) (a3_4 : Int) (a3_5 : Int) (x2 : Bool) : Option ((Nat → BitVec 64) × NS (List UInt8)) := bif x2 then lt (F67 a0_0 a0_1 a3_1) fun y1 => some ((upd b1_0 ((a2_1 &&& (7#8)).toNat) y1, b1_1)) else F312_3 N a0_0 a0_1 b1_0 b1_1 a2_1 a3_0 (a3_0 == (2#8))
def F312_1 (N : Nat) (a0_0 : BitVec 8) (a0_1 : BitVec 8) (b1_0 : Nat → BitVec 64) (b1_1 : NS (List UInt8)) (a2_1 : BitVec 8) (a3_0 : BitVec 8) (a3_1 : Bool) (a3_2 : List UInt8) (a3_3 : Int) (a3_4 : Int) (a3_5 : Int) (a4 : BitVec 64) (x1 : Bool) : Option ((Nat → BitVec 64) × NS (List UInt8)) := bif x1 then some ((upd b1_0 ((a2_1 &&& (7#8)).toNat) a4, b1_1)) else F312_2 N a0_0 a0_1 b1_0 b1_1 a2_1 a3_0 a3_1 a3_2 a3_3 a3_4 a3_5 (a3_0 == (1#8))
def F312 (N : Nat) (a0_0 : BitVec 8) (a0_1 : BitVec 8) (b1_0 : Nat → BitVec 64) (b1_1 : NS (List UInt8)) (a2_0 : BitVec 8) (a2_1 : BitVec 8) (a2_2 : BitVec 8) (a2_3 : BitVec 8) (a2_4 : BitVec 64) (a2_5 : List UInt8) (a3_0 : BitVec 8) (a3_1 : Bool) (a3_2 : List UInt8) (a3_3 : Int) (a3_4 : Int) (a3_5 : Int) (a4 : BitVec 64) : Option ((Nat → BitVec 64) × NS (List UInt8)) := F312_1 N a0_0 a0_1 b1_0 b1_1 a2_1 a3_0 a3_1 a3_2 a3_3 a3_4 a3_5 a4 (a3_0 == (0#8))
theorem C312 (N : Nat) (a0_0 : BitVec 8) (a0_1 : BitVec 8) (b1_0 : Nat → BitVec 64) (b1_1 : NS (List UInt8)) (a2_0 : BitVec 8) (a2_1 : BitVec 8) (a2_2 : BitVec 8) (a2_3 : BitVec 8) (a2_4 : BitVec 64) (a2_5 : List UInt8) (a3_0 : BitVec 8) (a3_1 : Bool) (a3_2 : List UInt8) (a3_3 : Int) (a3_4 : Int) (a3_5 : Int) (a4 : BitVec 64) (r : (Nat → BitVec 64) × NS (List UInt8)) (hr : some r = F312 N a0_0 a0_1 b1_0 b1_1 a2_0 a2_1 a2_2 a2_3 a2_4 a2_5 a3_0 a3_1 a3_2 a3_3 a3_4 a3_5 a4) : FnB Hfaa.prog 312 [.inl (agg [is (U8 a0_0), is (U8 a0_1)]), .inr (.inl (1, 0)), .inl (agg [is (U8 a2_0), is (U8 a2_1), is (U8 a2_2), is (U8 a2_3), is (U64 a2_4), is (Sv a2_5)]), .inl (agg [is (U8 a3_0), is (Bl a3_1), is (Sv a3_2), is (I16 a3_3), is (I64 a3_4), is (I32 a3_5)]), .inl (is (U64 a4))] [(1, gc 90 (ar U64 8 b1_0 ++ []) ([]) (k1 Sv) 1 b1_1)] (tup []) [(1, gc 90 (ar U64 8 r.1 ++ []) ([]) (k1 Sv) 1 r.2)] := by
  refine fnB_intro Hfaa.func312 rfl rfl rfl rfl rfl ⟨hf_gc _ _ _ _ _ _, trivial⟩ ?_
  intro bn0 w0 H0
  refine AW_seq1 ?_
  refine AW_region ?_
  refine AL_cons (LR_box (at_tmp 0 _) (cells_agg _) rfl) (sS (sT1 rfl) sB0 (sF1 rfl)) ?_
  refine AL_cons (LR_box (at_tmp 2 _) (cells_agg _) rfl) (sS (sT1 rfl) sB0 (sF1 rfl)) ?_
  refine AL_cons (LR_box (at_tmp 3 _) (cells_agg _) rfl) (sS (sT1 rfl) sB0 (sF1 rfl)) ?_
  refine AL_nil ?_
  refine thenN ?_
  refine AW_seq1 ?_
  refine AW_draw mixed
    (lrC (LR_move (at_tmp 1 _) rfl)
    (lrC (LR_fieldAddr (off := 0) (o := 1) (at_tmp 7 _) (fun b w => fa96_1 b 0 w) rfl)
    (lrC (LR_load (at_tmp 12 _) na5 rfl rfl)
    (lrC (LR_bin (at_tmp 13 _) (at_c (v' := U8 (7#8)) rfl) (and_U8 a2_1 (7#8)) rfl)
    (lrC (LR_nilCheck (at_tmp 11 _) rfl)
    (lrC (LR_fieldAddr (off := 0) (o := 0) (at_tmp 15 _) (fun b w => fa90_0 b 0 w) rfl)
    (lrC (LR_indexAddr (o := (a2_1 &&& (7#8)).toNat) Hfaa.underlying35 sz30 (at_tmp 16 _) (at_tmp 14 _) (natIx (and7 a2_1)) (by first | rfl | omega) rfl)
    (lrC (LR_assign (at_tmp 17 _) rfl)
    lrN))))))))
    (by kernel_rfl)
    (saC (sS (sT1 rfl) sB0 sF0) (saC (sS (sT1 rfl) sB0 sF0) (saC (sS (sT1 rfl) (sB1 rfl) sF0) (saC (sS (sA (sT1 rfl) sT0) sB0 sF0) (saC (sS (sT1 rfl) sB0 sF0) (saC (sS (sT1 rfl) sB0 sF0) (saC (sS (sA (sT1 rfl) (sT1 rfl)) sB0 sF0) (saC (sS (sT1 rfl) sB0 sF0) saN)))))))) ?_
  refine thenN ?_
  refine AW_seq1 ?_
  refine AW_region ?_
  refine AL_cons (LR_fieldAddr (off := 0) (o := 0) (at_tmp 8 _) (fun b w => fa297_0 b 0 w) rfl) (sS (sT1 rfl) sB0 sF0) ?_
  refine AL_cons (LR_load (at_tmp 18 _) na295 rfl rfl) (sS (sT1 rfl) (sB1 rfl) sF0) ?_
  refine AL_nil ?_
  refine thenN ?_
  refine AW_block ?_
  refine AW_cut (σ := Bool) (fun v => ⟨[(1, .inr (.inl (1, 0))), (4, .inl (is (U64 a4))), (5, .inr (.inl (5, 0))), (8, .inr (.inl (8, 0))), (10, .inr (.inl (1, (a2_1 &&& (7#8)).toNat))), (19, .inl (is (U8 a3_0))), (20, .inl (is (Bl v)))], [(1, gc 90 (ar U64 8 b1_0 ++ []) ([]) (k1 Sv) 1 b1_1), (5, pb 23 [is (U8 a0_0), is (U8 a0_1)]), (8, pb 297 [is (U8 a3_0), is (Bl a3_1), is (Sv a3_2), is (I16 a3_3), is (I64 a3_4), is (I32 a3_5)])]⟩) (fun v => some r = F312_1 N a0_0 a0_1 b1_0 b1_1 a2_1 a3_0 a3_1 a3_2 a3_3 a3_4 a3_5 a4 v) ?_ ?_
  · skip
    refine AW_region ?_
    refine AL_cons (LR_bin (at_tmp 19 _) (at_c (v' := U8 (0#8)) rfl) (eql_U8 a3_0 (0#8)) rfl) (sS (sA (sT1 rfl) sT0) sB0 sF0) ?_
    refine AL_cons (LR_assign (at_tmp 21 _) rfl) (sS (sT1 rfl) sB0 sF0) ?_
    refine AL_nil ?_
    exact thenN (cutLeaf (v := a3_0 == (0#8)) hr (weakB ((sT rfl (sT rfl (sT rfl (sT rfl (sT rfl (sT rfl (sT rfl sT0)))))))) (sub_keep (sub_keep (sub_drop (sub_keep sub_nil)))) rfl))
  · rintro x1 hr
    show AW Hfaa.prog _ _ _ ⟨[(1, .inr (.inl (1, 0))), (4, .inl (is (U64 a4))), (5, .inr (.inl (5, 0))), (8, .inr (.inl (8, 0))), (10, .inr (.inl (1, (a2_1 &&& (7#8)).toNat))), (19, .inl (is (U8 a3_0))), (20, .inl (is (Bl x1)))], [(1, gc 90 (ar U64 8 b1_0 ++ []) ([]) (k1 Sv) 1 b1_1), (5, pb 23 [is (U8 a0_0), is (U8 a0_1)]), (8, pb 297 [is (U8 a3_0), is (Bl a3_1), is (Sv a3_2), is (I16 a3_3), is (I64 a3_4), is (I32 a3_5)])]⟩
    have hr : some r = F312_1 N a0_0 a0_1 b1_0 b1_1 a2_1 a3_0 a3_1 a3_2 a3_3 a3_4 a3_5 a4 x1 := hr
    refine AW_condT (b := x1) rfl (fun h => ?_) (fun h => ?_)
    · have hr := hr.trans (cond_t h)
      clear h
      refine AW_region ?_
      refine AL_cons (LR_move (at_tmp 10 _) rfl) (sS (sT1 rfl) sB0 sF0) ?_
      refine AL_cons (LR_move (at_tmp 4 _) rfl) (sS (sT1 rfl) sB0 sF0) ?_
      refine AL_cons (LR_nilCheck (at_tmp 22 _) rfl) (sS (sT1 rfl) sB0 sF0) ?_
      refine AL_opn 1 1001 (fun sv => (ar U64 8 b1_0 ++ (is ( sv) :: []))) rfl rfl (fun _ => by first | rfl | simp) ?_
      intro sv1 hsv1
      refine AL_cons (LR_storeA (at_tmp 24 _) (at_tmp 23 _) (cells_one (one_is rfl)) (onC (one_is rfl) onN) sz30 rfl (ble_dyn (lnA (lnC ln0)) (by have := (and7 a2_1); omega)) (stA (and7 a2_1))) (sS (sA (sT1 rfl) (sT1 rfl)) (sB1 rfl) sF0) ?_
      refine AL_imp (imp_close (k := 1) (r := 1001) ((ar U64 8 (upd b1_0 ((a2_1 &&& (7#8)).toNat) a4) ++ [])) ([]) rfl (by first | rfl | simp) rfl rfl rfl rfl) ?_
      refine AL_nil ?_
      refine blN ?_
      obtain rfl := Option.some.inj hr
      exact ⟨res0 rfl , (sub_keep (sub_drop (sub_drop (sub_drop sub_nil))))⟩
    · have hr := hr.trans (cond_f h)
      clear h
      refine AW_cut (σ := Bool) (fun v => ⟨[(1, .inr (.inl (1, 0))), (5, .inr (.inl (5, 0))), (8, .inr (.inl (8, 0))), (10, .inr (.inl (1, (a2_1 &&& (7#8)).toNat))), (19, .inl (is (U8 a3_0))), (25, .inl (is (Bl v)))], [(1, gc 90 (ar U64 8 b1_0 ++ []) ([]) (k1 Sv) 1 b1_1), (5, pb 23 [is (U8 a0_0), is (U8 a0_1)]), (8, pb 297 [is (U8 a3_0), is (Bl a3_1), is (Sv a3_2), is (I16 a3_3), is (I64 a3_4), is (I32 a3_5)])]⟩) (fun v => some r = F312_2 N a0_0 a0_1 b1_0 b1_1 a2_1 a3_0 a3_1 a3_2 a3_3 a3_4 a3_5 v) ?_ ?_
      · skip
        refine AW_region ?_
        refine AL_cons (LR_bin (at_tmp 19 _) (at_c (v' := U8 (1#8)) rfl) (eql_U8 a3_0 (1#8)) rfl) (sS (sA (sT1 rfl) sT0) sB0 sF0) ?_
        refine AL_cons (LR_assign (at_tmp 26 _) rfl) (sS (sT1 rfl) sB0 sF0) ?_
        refine AL_nil ?_
        exact thenN (cutLeaf (v := a3_0 == (1#8)) hr (weakB ((sT rfl (sT rfl (sT rfl (sT rfl (sT rfl (sT rfl sT0))))))) (sub_keep (sub_keep (sub_keep sub_nil))) rfl))
      · rintro x2 hr
        show AW Hfaa.prog _ _ _ ⟨[(1, .inr (.inl (1, 0))), (5, .inr (.inl (5, 0))), (8, .inr (.inl (8, 0))), (10, .inr (.inl (1, (a2_1 &&& (7#8)).toNat))), (19, .inl (is (U8 a3_0))), (25, .inl (is (Bl x2)))], [(1, gc 90 (ar U64 8 b1_0 ++ []) ([]) (k1 Sv) 1 b1_1), (5, pb 23 [is (U8 a0_0), is (U8 a0_1)]), (8, pb 297 [is (U8 a3_0), is (Bl a3_1), is (Sv a3_2), is (I16 a3_3), is (I64 a3_4), is (I32 a3_5)])]⟩
        have hr : some r = F312_2 N a0_0 a0_1 b1_0 b1_1 a2_1 a3_0 a3_1 a3_2 a3_3 a3_4 a3_5 x2 := hr
        refine AW_condT (b := x2) rfl (fun h => ?_) (fun h => ?_)
        · have hr := hr.trans (cond_t h)
          clear h
          refine AW_region ?_
          refine AL_cons (LR_move (at_tmp 10 _) rfl) (sS (sT1 rfl) sB0 sF0) ?_
          refine AL_cons (LR_loads (at_tmp 5 _) ag23 sz23 rfl rfl rfl) (sS (sT1 rfl) (sB1 rfl) sF0) ?_
          refine AL_cons (LR_fieldAddr (off := 0) (o := 1) (at_tmp 8 _) (fun b w => fa297_1 b 0 w) rfl) (sS (sT1 rfl) sB0 sF0) ?_
          refine AL_cons (LR_fieldAddr (off := 1) (o := 1) (at_tmp 29 _) (fun b w => fa76_0 b 1 w) rfl) (sS (sT1 rfl) sB0 sF0) ?_
          refine AL_cons (LR_load (at_tmp 30 _) na4 rfl rfl) (sS (sT1 rfl) (sB1 rfl) sF0) ?_
          obtain ⟨y1, hy1, hr⟩ := lt_some hr
          refine AL_cons (LR_call Hfaa.func67 rfl rfl (C67 a0_0 a0_1 a3_1 y1 hy1) (all_cons (at_tmp 28 _) (all_cons (at_tmp 31 _) all_nil)) rfl) (sS (sA (sT1 rfl) (sA (sT1 rfl) sT0)) sB0 sF0) ?_
          refine AL_cons (LR_nilCheck (at_tmp 27 _) rfl) (sS (sT1 rfl) sB0 sF0) ?_
          refine AL_opn 1 1002 (fun sv => (ar U64 8 b1_0 ++ (is ( sv) :: []))) rfl rfl (fun _ => by first | rfl | simp) ?_
          intro sv2 hsv2
          refine AL_cons (LR_storeA (at_tmp 33 _) (at_tmp 32 _) (cells_one (one_is rfl)) (onC (one_is rfl) onN) sz30 rfl (ble_dyn (lnA (lnC ln0)) (by have := (and7 a2_1); omega)) (stA (and7 a2_1))) (sS (sA (sT1 rfl) (sT1 rfl)) (sB1 rfl) sF0) ?_
          refine AL_imp (imp_close (k := 1) (r := 1002) ((ar U64 8 (upd b1_0 ((a2_1 &&& (7#8)).toNat) y1) ++ [])) ([]) rfl (by first | rfl | simp) rfl rfl rfl rfl) ?_
          refine AL_nil ?_
          refine blN ?_
          obtain rfl := Option.some.inj hr
          exact ⟨res0 rfl , (sub_keep (sub_drop (sub_drop (sub_drop sub_nil))))⟩
        · have hr := hr.trans (cond_f h)
          clear h
          refine AW_cut (σ := Bool) (fun v => ⟨[(1, .inr (.inl (1, 0))), (5, .inr (.inl (5, 0))), (10, .inr (.inl (1, (a2_1 &&& (7#8)).toNat))), (19, .inl (is (U8 a3_0))), (34, .inl (is (Bl v)))], [(1, gc 90 (ar U64 8 b1_0 ++ []) ([]) (k1 Sv) 1 b1_1), (5, pb 23 [is (U8 a0_0), is (U8 a0_1)])]⟩) (fun v => some r = F312_3 N a0_0 a0_1 b1_0 b1_1 a2_1 a3_0 v) ?_ ?_
          · skip
            refine AW_region ?_
            refine AL_cons (LR_bin (at_tmp 19 _) (at_c (v' := U8 (2#8)) rfl) (eql_U8 a3_0 (2#8)) rfl) (sS (sA (sT1 rfl) sT0) sB0 sF0) ?_
            refine AL_cons (LR_assign (at_tmp 35 _) rfl) (sS (sT1 rfl) sB0 sF0) ?_
            refine AL_nil ?_
            exact thenN (cutLeaf (v := a3_0 == (2#8)) hr (weakB ((sT rfl (sT rfl (sT rfl (sT rfl (sT rfl sT0)))))) (sub_keep (sub_keep (sub_drop sub_nil))) rfl))
          · rintro x3 hr
            show AW Hfaa.prog _ _ _ ⟨[(1, .inr (.inl (1, 0))), (5, .inr (.inl (5, 0))), (10, .inr (.inl (1, (a2_1 &&& (7#8)).toNat))), (19, .inl (is (U8 a3_0))), (34, .inl (is (Bl x3)))], [(1, gc 90 (ar U64 8 b1_0 ++ []) ([]) (k1 Sv) 1 b1_1), (5, pb 23 [is (U8 a0_0), is (U8 a0_1)])]⟩
            have hr : some r = F312_3 N a0_0 a0_1 b1_0 b1_1 a2_1 a3_0 x3 := hr
            refine AW_condT (b := x3) rfl (fun h => ?_) (fun h => ?_)
            · have hr := hr.trans (cond_t h)
              clear h
              refine AW_region ?_
              refine AL_cons (LR_move (at_tmp 10 _) rfl) (sS (sT1 rfl) sB0 sF0) ?_
              refine AL_cons (LR_loads (at_tmp 5 _) ag23 sz23 rfl rfl rfl) (sS (sT1 rfl) (sB1 rfl) sF0) ?_
              obtain ⟨y2, hy2, hr⟩ := lt_some hr
              refine AL_cons (LR_call Hfaa.func66 rfl rfl (C66 a0_0 a0_1 y2 hy2) (all_cons (at_tmp 37 _) all_nil) rfl) (sS (sA (sT1 rfl) sT0) sB0 sF0) ?_
              refine AL_cons (LR_nilCheck (at_tmp 36 _) rfl) (sS (sT1 rfl) sB0 sF0) ?_
              refine AL_opn 1 1003 (fun sv => (ar U64 8 b1_0 ++ (is ( sv) :: []))) rfl rfl (fun _ => by first | rfl | simp) ?_
              intro sv3 hsv3
              refine AL_cons (LR_storeA (at_tmp 39 _) (at_tmp 38 _) (cells_one (one_is rfl)) (onC (one_is rfl) onN) sz30 rfl (ble_dyn (lnA (lnC ln0)) (by have := (and7 a2_1); omega)) (stA (and7 a2_1))) (sS (sA (sT1 rfl) (sT1 rfl)) (sB1 rfl) sF0) ?_
              refine AL_imp (imp_close (k := 1) (r := 1003) ((ar U64 8 (upd b1_0 ((a2_1 &&& (7#8)).toNat) y2) ++ [])) ([]) rfl (by first | rfl | simp) rfl rfl rfl rfl) ?_
              refine AL_nil ?_
              refine blN ?_
              obtain rfl := Option.some.inj hr
              exact ⟨res0 rfl , (sub_keep (sub_drop (sub_drop sub_nil)))⟩
            · have hr := hr.trans (cond_f h)
              clear h
              refine AW_cut (σ := Bool) (fun v => ⟨[(1, .inr (.inl (1, 0))), (19, .inl (is (U8 a3_0))), (40, .inl (is (Bl v)))], [(1, gc 90 (ar U64 8 b1_0 ++ []) ([]) (k1 Sv) 1 b1_1)]⟩) (fun v => some r = F312_4 N b1_0 b1_1 a3_0 v) ?_ ?_
              · skip
                refine AW_region ?_
                refine AL_cons (LR_bin (at_tmp 19 _) (at_c (v' := U8 (3#8)) rfl) (eql_U8 a3_0 (3#8)) rfl) (sS (sA (sT1 rfl) sT0) sB0 sF0) ?_
                refine AL_cons (LR_assign (at_tmp 41 _) rfl) (sS (sT1 rfl) sB0 sF0) ?_
                refine AL_nil ?_
                exact thenN (cutLeaf (v := a3_0 == (3#8)) hr (weakB ((sT rfl (sT rfl (sT rfl sT0)))) (sub_keep (sub_drop sub_nil)) rfl))
              · rintro x4 hr
                show AW Hfaa.prog _ _ _ ⟨[(1, .inr (.inl (1, 0))), (19, .inl (is (U8 a3_0))), (40, .inl (is (Bl x4)))], [(1, gc 90 (ar U64 8 b1_0 ++ []) ([]) (k1 Sv) 1 b1_1)]⟩
                have hr : some r = F312_4 N b1_0 b1_1 a3_0 x4 := hr
                refine AW_condT (b := x4) rfl (fun h => ?_) (fun h => ?_)
                · have hr := hr.trans (cond_t h)
                  clear h
                  refine AW_region ?_
                  refine AL_cons (LR_move (at_tmp 1 _) rfl) (sS (sT1 rfl) sB0 sF0) ?_
                  refine AL_cons (LR_move (at_tmp 1 _) rfl) (sS (sT1 rfl) sB0 sF0) ?_
                  refine AL_cons (LR_nilCheck (at_tmp 43 _) rfl) (sS (sT1 rfl) sB0 sF0) ?_
                  refine AL_cons (LR_fieldAddr (off := 0) (o := 8) (at_tmp 44 _) (fun b w => fa90_1 b 0 w) rfl) (sS (sT1 rfl) sB0 sF0) ?_
                  refine AL_opn 1 1004 (fun sv => (ar U64 8 b1_0 ++ (is ( sv) :: []))) rfl rfl (fun _ => by first | rfl | simp) ?_
                  intro sv4 hsv4
                  refine AL_cons (LR_load (at_tmp 45 _) na57 (gP g0) rfl) (sS (sT1 rfl) (sB1 rfl) sF0) ?_
                  refine AL_cons (LR_bs1 Hfaa.underlying57 el9 (fun _ => rfl) (at_c (v' := Sv ([119, 114, 111, 110, 103] : List UInt8)) rfl) rfl) (sS sT0 sB0 sF0) ?_
                  obtain ⟨hg1, hr⟩ := guard_some hr
                  refine AL_consV (app_opk (K := (k1 Sv)) (r := 1004) (z := b1_1) (u := ([119, 114, 111, 110, 103] : List UInt8)) Hfaa.underlying57 eN9 k1_len (k1_cell fun _ => rfl) (at_tmp 46 _) (at_tmp 47 _) (oneAt_k1 rfl) (of_decide_eq_true hg1) rfl rfl) (sS (sA (sT1 rfl) (sT1 rfl)) (sB1 rfl) sF0) rfl ?_
                  intro sv5 hsv5
                  refine AL_cons (LR_nilCheck (at_tmp 42 _) rfl) (sS (sT1 rfl) sB0 sF0) ?_
                  refine AL_cons (LR_fieldAddr (off := 0) (o := 8) (at_tmp 49 _) (fun b w => fa90_1 b 0 w) rfl) (sS (sT1 rfl) sB0 sF0) ?_
                  refine AL_cons (LR_storeA (at_tmp 50 _) (at_tmp 48 _) (cells_one (one_is hsv5)) (onC (one_is hsv5) onN) sz57 rfl (bleLen (lnA (lnC ln0)) rfl) (stP st0)) (sS (sA (sT1 rfl) (sT1 rfl)) (sB1 rfl) sF0) ?_
                  refine AL_imp (imp_close (k := 1) (r := 1004) (ar U64 8 b1_0 ++ []) ([]) rfl (by first | rfl | simp) rfl rfl rfl rfl) ?_
                  refine AL_nil ?_
                  refine blN ?_
                  obtain rfl := Option.some.inj hr
                  exact ⟨res0 rfl , (sub_keep (sub_drop sub_nil))⟩
                · have hr := hr.trans (cond_f h)
                  clear h
                  refine AW_cut (σ := Bool) (fun v => ⟨[(1, .inr (.inl (1, 0))), (51, .inl (is (Bl v)))], [(1, gc 90 (ar U64 8 b1_0 ++ []) ([]) (k1 Sv) 1 b1_1)]⟩) (fun v => some r = F312_5 N b1_0 b1_1 v) ?_ ?_
                  · skip
                    refine AW_region ?_
                    refine AL_cons (LR_bin (at_tmp 19 _) (at_c (v' := U8 (4#8)) rfl) (eql_U8 a3_0 (4#8)) rfl) (sS (sA (sT1 rfl) sT0) sB0 sF0) ?_
                    refine AL_cons (LR_assign (at_tmp 52 _) rfl) (sS (sT1 rfl) sB0 sF0) ?_
                    refine AL_nil ?_
                    exact thenN (cutLeaf (v := a3_0 == (4#8)) hr (weakB ((sT rfl (sT rfl sT0))) (sub_keep sub_nil) rfl))
                  · rintro x5 hr
                    show AW Hfaa.prog _ _ _ ⟨[(1, .inr (.inl (1, 0))), (51, .inl (is (Bl x5)))], [(1, gc 90 (ar U64 8 b1_0 ++ []) ([]) (k1 Sv) 1 b1_1)]⟩
                    have hr : some r = F312_5 N b1_0 b1_1 x5 := hr
                    refine AW_condT (b := x5) rfl (fun h => ?_) (fun h => ?_)
                    · have hr := hr.trans (cond_t h)
                      clear h
                      refine AW_region ?_
                      refine AL_cons (LR_move (at_tmp 1 _) rfl) (sS (sT1 rfl) sB0 sF0) ?_
                      refine AL_cons (LR_move (at_tmp 1 _) rfl) (sS (sT1 rfl) sB0 sF0) ?_
                      refine AL_cons (LR_nilCheck (at_tmp 54 _) rfl) (sS (sT1 rfl) sB0 sF0) ?_
                      refine AL_cons (LR_fieldAddr (off := 0) (o := 8) (at_tmp 55 _) (fun b w => fa90_1 b 0 w) rfl) (sS (sT1 rfl) sB0 sF0) ?_
                      refine AL_opn 1 1005 (fun sv => (ar U64 8 b1_0 ++ (is ( sv) :: []))) rfl rfl (fun _ => by first | rfl | simp) ?_
                      intro sv6 hsv6
                      refine AL_cons (LR_load (at_tmp 56 _) na57 (gP g0) rfl) (sS (sT1 rfl) (sB1 rfl) sF0) ?_
                      refine AL_cons (LR_bs1 Hfaa.underlying57 el9 (fun _ => rfl) (at_c (v' := Sv ([116, 111, 111, 32, 98, 105, 103] : List UInt8)) rfl) rfl) (sS sT0 sB0 sF0) ?_
                      obtain ⟨hg2, hr⟩ := guard_some hr
                      refine AL_consV (app_opk (K := (k1 Sv)) (r := 1005) (z := b1_1) (u := ([116, 111, 111, 32, 98, 105, 103] : List UInt8)) Hfaa.underlying57 eN9 k1_len (k1_cell fun _ => rfl) (at_tmp 57 _) (at_tmp 58 _) (oneAt_k1 rfl) (of_decide_eq_true hg2) rfl rfl) (sS (sA (sT1 rfl) (sT1 rfl)) (sB1 rfl) sF0) rfl ?_
                      intro sv7 hsv7
                      refine AL_cons (LR_nilCheck (at_tmp 53 _) rfl) (sS (sT1 rfl) sB0 sF0) ?_
                      refine AL_cons (LR_fieldAddr (off := 0) (o := 8) (at_tmp 60 _) (fun b w => fa90_1 b 0 w) rfl) (sS (sT1 rfl) sB0 sF0) ?_
                      refine AL_cons (LR_storeA (at_tmp 61 _) (at_tmp 59 _) (cells_one (one_is hsv7)) (onC (one_is hsv7) onN) sz57 rfl (bleLen (lnA (lnC ln0)) rfl) (stP st0)) (sS (sA (sT1 rfl) (sT1 rfl)) (sB1 rfl) sF0) ?_
                      refine AL_imp (imp_close (k := 1) (r := 1005) (ar U64 8 b1_0 ++ []) ([]) rfl (by first | rfl | simp) rfl rfl rfl rfl) ?_
                      refine AL_nil ?_
                      refine blN ?_
                      obtain rfl := Option.some.inj hr
                      exact ⟨res0 rfl , (sub_keep (sub_drop sub_nil))⟩
                    · have hr := hr.trans (cond_f h)
                      clear h
                      refine AW_skip ?_
                      refine blN ?_
                      obtain rfl := Option.some.inj hr
                      exact ⟨res0 rfl , (sub_keep sub_nil)⟩
/-- calc/so.read -/
def F231_2 (N : Nat) (a1_0 : BitVec 8) (a1_1 : BitVec 8) (b3_0 : Nat → BitVec 64) (b3_1 : NS (List UInt8)) (a4_0 : BitVec 8) (a4_1 : BitVec 8) (a4_2 : BitVec 8) (a4_3 : BitVec 8) (a4_4 : BitVec 64) (a4_5 : List UInt8) (x1 : BitVec 8) (x2 : Bool) (x3 : List UInt8) (x4 : Int) (x5 : Int) (x6 : Int) (x7 : BitVec 64) : Option ((Nat → BitVec 64) × NS (List UInt8)) := (F312 N a1_0 a1_1 b3_0 b3_1 a4_0 a4_1 a4_2 a4_3 a4_4 a4_5 x1 x2 x3 x4 x5 x6 x7).bind fun y3 => some (y3.1, y3.2)
def F231_1 (N : Nat) (a0 : Tab) (a1_0 : BitVec 8) (a1_1 : BitVec 8) (a2 : BitVec 8) (b3_0 : Nat → BitVec 64) (b3_1 : NS (List UInt8)) (a4_0 : BitVec 8) (a4_1 : BitVec 8) (a4_2 : BitVec 8) (a4_3 : BitVec 8) (a4_4 : BitVec 64) (a4_5 : List UInt8) (x1 : BitVec 8) (x2 : Bool) (x3 : List UInt8) (x4 : Int) (x5 : Int) (x6 : Int) : Option ((Nat → BitVec 64) × NS (List UInt8)) := (F89 N a0 a1_0 a1_1 a2 x2 x3 x4 false).bind fun y4 => F231_2 N a1_0 a1_1 b3_0 b3_1 a4_0 a4_1 a4_2 a4_3 a4_4 a4_5 x1 x2 x3 x4 x5 x6 y4.1
def F231 (N : Nat) (a0 : Tab) (a1_0 : BitVec 8) (a1_1 : BitVec 8) (a2 : BitVec 8) (b3_0 : Nat → BitVec 64) (b3_1 : NS (List UInt8)) (a4_0 : BitVec 8) (a4_1 : BitVec 8) (a4_2 : BitVec 8) (a4_3 : BitVec 8) (a4_4 : BitVec 64) (a4_5 : List UInt8) : Option ((Nat → BitVec 64) × NS (List UInt8)) := (F311 N a4_5).bind fun y5 => F231_1 N a0 a1_0 a1_1 a2 b3_0 b3_1 a4_0 a4_1 a4_2 a4_3 a4_4 a4_5 y5.1 y5.2.1 y5.2.2.1 y5.2.2.2.1 y5.2.2.2.2.1 y5.2.2.2.2.2
theorem C231 (N : Nat) (a0 : Tab) (a1_0 : BitVec 8) (a1_1 : BitVec 8) (a2 : BitVec 8) (b3_0 : Nat → BitVec 64) (b3_1 : NS (List UInt8)) (a4_0 : BitVec 8) (a4_1 : BitVec 8) (a4_2 : BitVec 8) (a4_3 : BitVec 8) (a4_4 : BitVec 64) (a4_5 : List UInt8) (r : (Nat → BitVec 64) × NS (List UInt8)) (hr : some r = F231 N a0 a1_0 a1_1 a2 b3_0 b3_1 a4_0 a4_1 a4_2 a4_3 a4_4 a4_5) : FnB Hfaa.prog 231 [.inl (tabp a0), .inl (agg [is (U8 a1_0), is (U8 a1_1)]), .inl (is (U8 a2)), .inr (.inl (3, 0)), .inl (agg [is (U8 a4_0), is (U8 a4_1), is (U8 a4_2), is (U8 a4_3), is (U64 a4_4), is (Sv a4_5)])] [(3, gc 90 (ar U64 8 b3_0 ++ []) ([]) (k1 Sv) 1 b3_1)] (tup []) [(3, gc 90 (ar U64 8 r.1 ++ []) ([]) (k1 Sv) 1 r.2)] := by
  refine fnB_intro Hfaa.func231 rfl rfl rfl rfl rfl ⟨hf_gc _ _ _ _ _ _, trivial⟩ ?_
  intro bn0 w0 H0
  refine AW_seq1 ?_
  refine AW_region ?_
  refine AL_cons (LR_box (at_tmp 1 _) (cells_agg _) rfl) (sS (sT1 rfl) sB0 (sF1 rfl)) ?_
  refine AL_cons (LR_box (at_tmp 4 _) (cells_agg _) rfl) (sS (sT1 rfl) sB0 (sF1 rfl)) ?_
  refine AL_nil ?_
  refine thenN ?_
  refine AW_cut (σ := BitVec 8 × Bool × List UInt8 × Int × Int × Int) (fun v => ⟨[(0, .inl (tabp a0)), (2, .inl (is (U8 a2))), (3, .inr (.inl (3, 0))), (6, .inr (.inl (6, 0))), (9, .inr (.inl (9, 0))), (10, .inr (.inl (10, 0)))], [(3, gc 90 (ar U64 8 b3_0 ++ []) ([]) (k1 Sv) 1 b3_1), (6, pb 23 [is (U8 a1_0), is (U8 a1_1)]), (9, pb 96 [is (U8 a4_0), is (U8 a4_1), is (U8 a4_2), is (U8 a4_3), is (U64 a4_4), is (Sv a4_5)]), (10, pb 297 [is (U8 v.1), is (Bl v.2.1), is (Sv v.2.2.1), is (I16 v.2.2.2.1), is (I64 v.2.2.2.2.1), is (I32 v.2.2.2.2.2)])]⟩) (fun v => some r = F231_1 N a0 a1_0 a1_1 a2 b3_0 b3_1 a4_0 a4_1 a4_2 a4_3 a4_4 a4_5 v.1 v.2.1 v.2.2.1 v.2.2.2.1 v.2.2.2.2.1 v.2.2.2.2.2) ?_ ?_
  · skip
    refine AW_region ?_
    refine AL_cons (LR_fieldAddr (off := 0) (o := 5) (at_tmp 9 _) (fun b w => fa96_5 b 0 w) rfl) (sS (sT1 rfl) sB0 sF0) ?_
    refine AL_cons (LR_load (at_tmp 13 _) na9 rfl rfl) (sS (sT1 rfl) (sB1 rfl) sF0) ?_
    obtain ⟨y5, hy5, hr⟩ := bind_some hr
    refine AL_cons (LR_call Hfaa.func311 rfl rfl (C311 N a4_5 y5 hy5) (all_cons (at_tmp 14 _) all_nil) rfl) (sS (sA (sT1 rfl) sT0) sB0 sF0) ?_
    refine AL_cons (zl297 rfl) (sS sT0 sB0 (sF1 rfl)) ?_
    refine AL_cons (LR_store (at_tmp 10 _) (at_tmp 15 _) (cells_agg _) (onC (one_is rfl) (onC (one_is rfl) (onC (one_is rfl) (onC (one_is rfl) (onC (one_is rfl) (onC (one_is rfl) onN)))))) sz297 rfl rfl) (sS (sA (sT1 rfl) (sT1 rfl)) (sB1 rfl) sF0) ?_
    refine AL_nil ?_
    exact thenN (cutLeaf (v := (y5.1, y5.2.1, y5.2.2.1, y5.2.2.2.1, y5.2.2.2.2.1, y5.2.2.2.2.2)) hr (weakB ((sT rfl (sT rfl (sT rfl (sT rfl (sT rfl (sT rfl sT0))))))) (sub_keep (sub_keep (sub_keep (sub_keep sub_nil)))) rfl))
  · rintro ⟨x1, x2, x3, x4, x5, x6⟩ hr
    show AW Hfaa.prog _ _ _ ⟨[(0, .inl (tabp a0)), (2, .inl (is (U8 a2))), (3, .inr (.inl (3, 0))), (6, .inr (.inl (6, 0))), (9, .inr (.inl (9, 0))), (10, .inr (.inl (10, 0)))], [(3, gc 90 (ar U64 8 b3_0 ++ []) ([]) (k1 Sv) 1 b3_1), (6, pb 23 [is (U8 a1_0), is (U8 a1_1)]), (9, pb 96 [is (U8 a4_0), is (U8 a4_1), is (U8 a4_2), is (U8 a4_3), is (U64 a4_4), is (Sv a4_5)]), (10, pb 297 [is (U8 x1), is (Bl x2), is (Sv x3), is (I16 x4), is (I64 x5), is (I32 x6)])]⟩
    have hr : some r = F231_1 N a0 a1_0 a1_1 a2 b3_0 b3_1 a4_0 a4_1 a4_2 a4_3 a4_4 a4_5 x1 x2 x3 x4 x5 x6 := hr
    refine AW_cut (σ := BitVec 64) (fun v => ⟨[(3, .inr (.inl (3, 0))), (6, .inr (.inl (6, 0))), (9, .inr (.inl (9, 0))), (10, .inr (.inl (10, 0))), (11, .inl (is (U64 v)))], [(3, gc 90 (ar U64 8 b3_0 ++ []) ([]) (k1 Sv) 1 b3_1), (6, pb 23 [is (U8 a1_0), is (U8 a1_1)]), (9, pb 96 [is (U8 a4_0), is (U8 a4_1), is (U8 a4_2), is (U8 a4_3), is (U64 a4_4), is (Sv a4_5)]), (10, pb 297 [is (U8 x1), is (Bl x2), is (Sv x3), is (I16 x4), is (I64 x5), is (I32 x6)])]⟩) (fun v => some r = F231_2 N a1_0 a1_1 b3_0 b3_1 a4_0 a4_1 a4_2 a4_3 a4_4 a4_5 x1 x2 x3 x4 x5 x6 v) ?_ ?_
    · skip
      refine AW_region ?_
      refine AL_cons (LR_move (at_tmp 0 _) rfl) (sS (sT1 rfl) sB0 sF0) ?_
      refine AL_cons (LR_loads (at_tmp 6 _) ag23 sz23 rfl rfl rfl) (sS (sT1 rfl) (sB1 rfl) sF0) ?_
      refine AL_cons (LR_move (at_tmp 2 _) rfl) (sS (sT1 rfl) sB0 sF0) ?_
      refine AL_cons (LR_fieldAddr (off := 0) (o := 1) (at_tmp 10 _) (fun b w => fa297_1 b 0 w) rfl) (sS (sT1 rfl) sB0 sF0) ?_
      refine AL_cons (LR_loads (at_tmp 20 _) ag76 sz76 rfl rfl rfl) (sS (sT1 rfl) (sB1 rfl) sF0) ?_
      obtain ⟨y4, hy4, hr⟩ := bind_some hr
      refine AL_cons (LR_call Hfaa.func89 rfl rfl (C89 N a0 a1_0 a1_1 a2 x2 x3 x4 false y4 hy4) (all_cons (at_tmp 17 _) (all_cons (at_tmp 18 _) (all_cons (at_tmp 19 _) (all_cons (at_tmp 21 _) (all_cons (at_c (v' := Bl false) rfl) all_nil))))) rfl) (sS (sA (sT1 rfl) (sA (sT1 rfl) (sA (sT1 rfl) (sA (sT1 rfl) (sA sT0 sT0))))) sB0 sF0) ?_
      refine AL_cons (LR_move (at_tmp 22 _) rfl) (sS (sT1 rfl) sB0 sF0) ?_
      refine AL_cons (LR_extract (at_tmp 16 _) rfl rfl) (sS (sT1 rfl) sB0 sF0) ?_
      refine AL_cons (LR_extract (at_tmp 16 _) rfl rfl) (sS (sT1 rfl) sB0 sF0) ?_
      refine AL_cons (LR_assign (at_tmp 23 _) rfl) (sS (sT1 rfl) sB0 sF0) ?_
      refine AL_cons (LR_assign (at_tmp 24 _) rfl) (sS (sT1 rfl) sB0 sF0) ?_
      refine AL_nil ?_
      exact thenN (cutLeaf (v := y4.1) hr (weakB ((sT rfl (sT rfl (sT rfl (sT rfl (sT rfl sT0)))))) (sub_keep (sub_keep (sub_keep (sub_keep sub_nil)))) rfl))
    · rintro x7 hr
      show AW Hfaa.prog _ _ _ ⟨[(3, .inr (.inl (3, 0))), (6, .inr (.inl (6, 0))), (9, .inr (.inl (9, 0))), (10, .inr (.inl (10, 0))), (11, .inl (is (U64 x7)))], [(3, gc 90 (ar U64 8 b3_0 ++ []) ([]) (k1 Sv) 1 b3_1), (6, pb 23 [is (U8 a1_0), is (U8 a1_1)]), (9, pb 96 [is (U8 a4_0), is (U8 a4_1), is (U8 a4_2), is (U8 a4_3), is (U64 a4_4), is (Sv a4_5)]), (10, pb 297 [is (U8 x1), is (Bl x2), is (Sv x3), is (I16 x4), is (I64 x5), is (I32 x6)])]⟩
      have hr : some r = F231_2 N a1_0 a1_1 b3_0 b3_1 a4_0 a4_1 a4_2 a4_3 a4_4 a4_5 x1 x2 x3 x4 x5 x6 x7 := hr
      refine AW_region ?_
      refine AL_cons (LR_loads (at_tmp 6 _) ag23 sz23 rfl rfl rfl) (sS (sT1 rfl) (sB1 rfl) sF0) ?_
      refine AL_cons (LR_move (at_tmp 3 _) rfl) (sS (sT1 rfl) sB0 sF0) ?_
      refine AL_cons (LR_loads (at_tmp 9 _) ag96 sz96 rfl rfl rfl) (sS (sT1 rfl) (sB1 rfl) sF0) ?_
      refine AL_cons (LR_loads (at_tmp 10 _) ag297 sz297 rfl rfl rfl) (sS (sT1 rfl) (sB1 rfl) sF0) ?_
      refine AL_cons (LR_move (at_tmp 11 _) rfl) (sS (sT1 rfl) sB0 sF0) ?_
      obtain ⟨y3, hy3, hr⟩ := bind_some hr
      refine AL_cons (LR_callB [(1, 3)] [(3, 1)] Hfaa.func312 rfl rfl (C312 N a1_0 a1_1 b3_0 b3_1 a4_0 a4_1 a4_2 a4_3 a4_4 a4_5 x1 x2 x3 x4 x5 x6 x7 y3 hy3) (aTC (at_tmp 25 _) (aTC (at_tmp 26 _) (aTC (at_tmp 27 _) (aTC (at_tmp 28 _) (aTC (at_tmp 29 _) aT0))))) rfl rfl rfl rfl rfl) (sS (sA (sT1 rfl) (sA (sT1 rfl) (sA (sT1 rfl) (sA (sT1 rfl) (sA (sT1 rfl) sT0))))) (sB1 rfl) sF0) ?_
      refine AL_nil ?_
      obtain rfl := Option.some.inj hr
      exact ⟨res0 rfl , (sub_keep (sub_drop (sub_drop (sub_drop sub_nil))))⟩
/-- ryu.Log10Pow2 -/
def F171_1 (a0 : Int) (x1 : Bool) : Int := bif x1 then 0 else w16 ((w32 ((w32 a0) * 315653)) / 2 ^ 20)
def F171 (a0 : Int) : Int := F171_1 a0 ((decide (a0 < (-1100))) || (decide (a0 > 1030)))
theorem C171 (a0 : Int) (r : Int) (hr : r = F171 a0) : Aw.Fn Hfaa.prog 171 [is (I16 a0)] (is (I16 r)) := by
  refine fn_intro Hfaa.func171 rfl rfl rfl ?_
  intro bn0 w0 H0
  refine AW_seq1 ?_
  refine AW_region ?_
  refine AL_cons (LR_assign (at_c (v' := I16 0) rfl) rfl) (sS sT0 sB0 sF0) ?_
  refine AL_nil ?_
  refine thenN ?_
  refine AW_seq1 ?_
  refine AW_cut (σ := Bool) (fun v => ⟨[(0, .inl (is (I16 a0))), (8, .inl (is (Bl v)))], []⟩) (fun v => r = F171_1 a0 v) ?_ ?_
  · skip
    refine AW_region ?_
    refine AL_cons (LR_move (at_tmp 0 _) rfl) (sS (sT1 rfl) sB0 sF0) ?_
    refine AL_cons (LR_bin (at_tmp 3 _) (at_c (v' := I16 (-1100)) rfl) (lss_I16 a0 (-1100)) rfl) (sS (sA (sT1 rfl) sT0) sB0 sF0) ?_
    refine AL_cons (LR_move (at_tmp 4 _) rfl) (sS (sT1 rfl) sB0 sF0) ?_
    refine AL_cutAt 3 ⟨[(0, .inl (is (I16 a0))), (2, .inl (is (I16 0))), (3, .inl (is (I16 a0))), (4, .inl (is (Bl (decide (a0 < (-1100)))))), (5, .inl (is (Bl (decide (a0 < (-1100)))))), (8, .inl (is (Bl ((decide (a0 < (-1100))) || (decide (a0 > 1030))))))], []⟩ ?_ ?_
    · cases hb : decide (a0 < (-1100))
      · skip
        refine AL_cons (LR_on rfl rfl rfl (LR_move (at_tmp 0 _) rfl)) (sS (sT rfl (sT1 rfl)) sB0 sF0) ?_
        refine AL_cons (LR_on rfl rfl rfl (LR_bin (at_tmp 6 _) (at_c (v' := I16 1030) rfl) (gtr_I16 a0 1030) rfl)) (sS (sT rfl (sA (sT1 rfl) sT0)) sB0 sF0) ?_
        refine AL_cons (LR_pick (b := false) (at_tmp 5 _) (at_c (v' := Bl true) rfl) (at_tmp 7 _) rfl) (sS (sA (sT1 rfl) (sA sT0 (sT1 rfl))) sB0 sF0) ?_
        exact AL_nil ⟨rfl, weak0 ((sT rfl (sT rfl (sT rfl (sT rfl (sT rfl (sT rfl sT0))))))) sub_nil⟩
      · skip
        refine AL_cons (LR_off (b := true) rfl rfl rfl rfl) (sS (sT1 rfl) sB0 sF0) ?_
        refine AL_cons (LR_off (b := true) rfl rfl rfl rfl) (sS (sT1 rfl) sB0 sF0) ?_
        refine AL_cons (LR_pick (b := true) (at_tmp 5 _) (at_c (v' := Bl true) rfl) (at_tmp 7 _) rfl) (sS (sA (sT1 rfl) (sA sT0 (sT1 rfl))) sB0 sF0) ?_
        exact AL_nil ⟨rfl, weak0 ((sT rfl (sT rfl (sT rfl (sT rfl (sT rfl (sT rfl sT0))))))) sub_nil⟩
    refine AL_nil ?_
    exact thenN (cutLeaf (v := (decide (a0 < (-1100))) || (decide (a0 > 1030))) hr (weak0 ((sT rfl (sT rfl sT0))) sub_nil))
  · rintro x1 hr
    show AW Hfaa.prog _ _ _ ⟨[(0, .inl (is (I16 a0))), (8, .inl (is (Bl x1)))], []⟩
    have hr : r = F171_1 a0 x1 := hr
    refine AW_condT (b := x1) rfl (fun h => ?_) (fun h => ?_)
    · have hr := hr.trans (cond_t h)
      clear h
      refine AW_seq1 ?_
      refine AW_region ?_
      refine AL_cons (LR_assign (at_c (v' := I16 0) rfl) rfl) (sS sT0 sB0 sF0) ?_
      refine AL_nil ?_
      refine thenN ?_
      refine AW_ret ?_
      refine thenR ?_
      subst hr
      exact res1 rfl (rvT rfl)
    · have hr := hr.trans (cond_f h)
      clear h
      refine AW_skip ?_
      refine thenN ?_
      refine AW_seq1 ?_
      refine AW_region ?_
      refine AL_cons (LR_move (at_tmp 0 _) rfl) (sS (sT1 rfl) sB0 sF0) ?_
      refine AL_cons (LR_conv (vx := I16 a0) (at_tmp 9 _) (conv_I32 Hfaa.underlying44 Hfaa.underlying21 a0) rfl) (sS (sT1 rfl) sB0 sF0) ?_
      refine AL_cons (LR_bin (at_tmp 10 _) (at_c (v' := I32 315653) rfl) (mul_I32 (w32 a0) 315653) rfl) (sS (sA (sT1 rfl) sT0) sB0 sF0) ?_
      refine AL_cons (LR_bin (at_tmp 11 _) (at_c (v' := U64 (20#64)) rfl) (shr_I32 (w32 ((w32 a0) * 315653)) ((20#64).toNat : Int) (Int.natCast_nonneg _) (by decide)) rfl) (sS (sA (sT1 rfl) sT0) sB0 sF0) ?_
      refine AL_cons (LR_conv (vx := I32 ((w32 ((w32 a0) * 315653)) / 2 ^ 20)) (at_tmp 12 _) (conv_I16 Hfaa.underlying21 Hfaa.underlying44 ((w32 ((w32 a0) * 315653)) / 2 ^ 20)) rfl) (sS (sT1 rfl) sB0 sF0) ?_
      refine AL_cons (LR_assign (at_tmp 13 _) rfl) (sS (sT1 rfl) sB0 sF0) ?_
      refine AL_nil ?_
      refine thenN ?_
      refine AW_ret ?_
      subst hr
      exact res1 rfl (rvT rfl)
/-- ryu.fivesIn -/
def F218_4 (N : Nat) (x3 : Int) (x5 : BitVec 64) : Option ((BitVec 64 × Int) ⊕ (Bool)) := some (.inl ((x5, w16 (x3 - 1))))
def F218_5 (N : Nat) (x2 : BitVec 64) (x3 : Int) (x6 : Bool) : Option ((BitVec 64 × Int) ⊕ (Bool)) := bif x6 then (some false).map Sum.inr else F218_4 N x3 (x2 / (5#64))
def F218_3 (N : Nat) (x2 : BitVec 64) (x3 : Int) (x4 : Bool) : Option ((BitVec 64 × Int) ⊕ (Bool)) := bif x4 then F218_5 N x2 x3 ((x2 % (5#64)) != (0#64)) else (some true).map Sum.inr
def F218_L2b (N : Nat) (x2 : BitVec 64) (x3 : Int) : Option ((BitVec 64 × Int) ⊕ (Bool)) := F218_3 N x2 x3 (decide (x3 > 0))
def F218_L2 (N : Nat) : (BitVec 64 × Int) → Option ((BitVec 64 × Int) ⊕ (Bool)) := fun v => F218_L2b N v.1 v.2
def F218_1 (N : Nat) (a0 : BitVec 64) (a1 : Int) (x1 : Bool) : Option (Bool) := bif x1 then some false else iterL (F218_L2 N) N (a0, a1)
def F218 (N : Nat) (a0 : BitVec 64) (a1 : Int) : Option (Bool) := F218_1 N a0 a1 (decide (a1 ≥ 24))
theorem C218 (N : Nat) (a0 : BitVec 64) (a1 : Int) (r : Bool) (hr : some r = F218 N a0 a1) : Aw.Fn Hfaa.prog 218 [is (U64 a0), is (I16 a1)] (is (Bl r)) := by
  refine fn_intro Hfaa.func218 rfl rfl rfl ?_
  intro bn0 w0 H0
  refine AW_seq1 ?_
  refine AW_region ?_
  refine AL_cons (LR_assign (at_c (v' := Bl false) rfl) rfl) (sS sT0 sB0 sF0) ?_
  refine AL_nil ?_
  refine thenN ?_
  refine AW_seq1 ?_
  refine AW_cut (σ := Bool) (fun v => ⟨[(0, .inl (is (U64 a0))), (1, .inl (is (I16 a1))), (6, .inl (is (Bl v)))], []⟩) (fun v => some r = F218_1 N a0 a1 v) ?_ ?_
  · skip
    refine AW_region ?_
    refine AL_cons (LR_move (at_tmp 1 _) rfl) (sS (sT1 rfl) sB0 sF0) ?_
    refine AL_cons (LR_bin (at_tmp 5 _) (at_c (v' := I16 24) rfl) (geq_I16 a1 24) rfl) (sS (sA (sT1 rfl) sT0) sB0 sF0) ?_
    refine AL_nil ?_
    exact thenN (cutLeaf (v := decide (a1 ≥ 24)) hr (weak0 ((sT rfl (sT rfl (sT rfl sT0)))) sub_nil))
  · rintro x1 hr
    show AW Hfaa.prog _ _ _ ⟨[(0, .inl (is (U64 a0))), (1, .inl (is (I16 a1))), (6, .inl (is (Bl x1)))], []⟩
    have hr : some r = F218_1 N a0 a1 x1 := hr
    refine AW_condT (b := x1) rfl (fun h => ?_) (fun h => ?_)
    · have hr := hr.trans (cond_t h)
      clear h
      refine AW_seq1 ?_
      refine AW_region ?_
      refine AL_cons (LR_assign (at_c (v' := Bl false) rfl) rfl) (sS sT0 sB0 sF0) ?_
      refine AL_nil ?_
      refine thenN ?_
      refine AW_ret ?_
      refine thenR ?_
      obtain rfl := Option.some.inj hr
      exact res1 rfl (rvT rfl)
    · have hr := hr.trans (cond_f h)
      clear h
      refine AW_skip ?_
      refine thenN ?_
      refine AW_seq1 ?_
      refine AW_block ?_
      refine AW_iterR (σ := BitVec 64 × Int) (r := r) (x0 := (a0, a1)) (emb := fun v => ⟨[(0, .inl (is (U64 v.1))), (1, .inl (is (I16 v.2)))], []⟩) ?_ hr ?_
      · exact weak0 ((sT rfl (sT rfl sT0))) sub_nil
      rintro ⟨x2, x3⟩ out2 hr
      show AW Hfaa.prog _ _ _ ⟨[(0, .inl (is (U64 x2))), (1, .inl (is (I16 x3)))], []⟩
      have hr : some out2 = F218_L2b N x2 x3 := hr
      refine AW_seq1 ?_
      refine AW_cut (σ := Bool) (fun v => ⟨[(0, .inl (is (U64 x2))), (1, .inl (is (I16 x3))), (8, .inl (is (Bl v)))], []⟩) (fun v => some out2 = F218_3 N x2 x3 v) ?_ ?_
      · skip
        refine AW_region ?_
        refine AL_cons (LR_move (at_tmp 1 _) rfl) (sS (sT1 rfl) sB0 sF0) ?_
        refine AL_cons (LR_bin (at_tmp 7 _) (at_c (v' := I16 0) rfl) (gtr_I16 x3 0) rfl) (sS (sA (sT1 rfl) sT0) sB0 sF0) ?_
        refine AL_nil ?_
        exact thenN (cutLeaf (v := decide (x3 > 0)) hr (weak0 ((sT rfl (sT rfl (sT rfl sT0)))) sub_nil))
      · rintro x4 hr
        show AW Hfaa.prog _ _ _ ⟨[(0, .inl (is (U64 x2))), (1, .inl (is (I16 x3))), (8, .inl (is (Bl x4)))], []⟩
        have hr : some out2 = F218_3 N x2 x3 x4 := hr
        refine AW_condT (b := x4) rfl (fun h => ?_) (fun h => ?_)
        · have hr := hr.trans (cond_t h)
          clear h
          refine AW_skip ?_
          refine thenN ?_
          refine AW_cut (σ := BitVec 64) (fun v => ⟨[(0, .inl (is (U64 v))), (1, .inl (is (I16 x3)))], []⟩) (fun v => some out2 = F218_4 N x3 v) ?_ ?_
          · skip
            refine AW_block ?_
            refine AW_seq1 ?_
            refine AW_cut (σ := Bool) (fun v => ⟨[(0, .inl (is (U64 x2))), (1, .inl (is (I16 x3))), (13, .inl (is (Bl v)))], []⟩) (fun v => some out2 = F218_5 N x2 x3 v) ?_ ?_
            · skip
              refine AW_region ?_
              refine AL_cons (LR_move (at_tmp 0 _) rfl) (sS (sT1 rfl) sB0 sF0) ?_
              refine AL_cons (LR_bin (at_tmp 11 _) (at_c (v' := U64 (5#64)) rfl) (rem_U64 x2 (5#64) (by decide)) rfl) (sS (sA (sT1 rfl) sT0) sB0 sF0) ?_
              refine AL_cons (LR_bin (at_tmp 12 _) (at_c (v' := U64 (0#64)) rfl) (neq_U64 (x2 % (5#64)) (0#64)) rfl) (sS (sA (sT1 rfl) sT0) sB0 sF0) ?_
              refine AL_nil ?_
              exact thenN (cutLeaf (v := (x2 % (5#64)) != (0#64)) hr (weak0 ((sT rfl (sT rfl (sT rfl sT0)))) sub_nil))
            · rintro x6 hr
              show AW Hfaa.prog _ _ _ ⟨[(0, .inl (is (U64 x2))), (1, .inl (is (I16 x3))), (13, .inl (is (Bl x6)))], []⟩
              have hr : some out2 = F218_5 N x2 x3 x6 := hr
              refine AW_condT (b := x6) rfl (fun h => ?_) (fun h => ?_)
              · have hr := hr.trans (cond_t h)
                clear h
                refine AW_seq1 ?_
                refine AW_region ?_
                refine AL_cons (LR_assign (at_c (v' := Bl false) rfl) rfl) (sS sT0 sB0 sF0) ?_
                refine AL_nil ?_
                refine thenN ?_
                refine AW_ret ?_
                refine thenR ?_
                refine blR ?_
                refine thenR ?_
                obtain ⟨r', hro, hr⟩ := map_inr hr
                refine thenR (loopOut hro (fun he => ?_))
                rw [he] at hr
                refine blR ?_
                refine thenR ?_
                obtain rfl := Option.some.inj hr
                exact res1 rfl (rvT rfl)
              · have hr := hr.trans (cond_f h)
                clear h
                refine AW_skip ?_
                refine thenN ?_
                refine AW_region ?_
                refine AL_cons (LR_move (at_tmp 0 _) rfl) (sS (sT1 rfl) sB0 sF0) ?_
                refine AL_cons (LR_bin (at_tmp 14 _) (at_c (v' := U64 (5#64)) rfl) (quo_U64 x2 (5#64) (by decide)) rfl) (sS (sA (sT1 rfl) sT0) sB0 sF0) ?_
                refine AL_cons (LR_assign (at_tmp 15 _) rfl) (sS (sT1 rfl) sB0 sF0) ?_
                refine AL_nil ?_
                refine blN ?_
                exact thenN (cutLeaf (v := x2 / (5#64)) hr (weak0 ((sT rfl (sT rfl sT0))) sub_nil))
          · rintro x5 hr
            show AW Hfaa.prog _ _ _ ⟨[(0, .inl (is (U64 x5))), (1, .inl (is (I16 x3)))], []⟩
            have hr : some out2 = F218_4 N x3 x5 := hr
            refine AW_region ?_
            refine AL_cons (LR_move (at_tmp 1 _) rfl) (sS (sT1 rfl) sB0 sF0) ?_
            refine AL_cons (LR_bin (at_tmp 9 _) (at_c (v' := I16 1) rfl) (sub_I16 x3 1) rfl) (sS (sA (sT1 rfl) sT0) sB0 sF0) ?_
            refine AL_cons (LR_assign (at_tmp 10 _) rfl) (sS (sT1 rfl) sB0 sF0) ?_
            refine AL_nil ?_
            exact thenN (loopNext (x' := (x5, w16 (x3 - 1))) hr (weak0 ((sT rfl (sT rfl sT0))) sub_nil))
        · have hr := hr.trans (cond_f h)
          clear h
          refine AW_exit ?_
          refine thenX ?_
          obtain ⟨r', hro, hr⟩ := map_inr hr
          refine thenX (loopOut hro (fun he => ?_))
          rw [he] at hr
          refine blH ?_
          refine thenN ?_
          refine AW_seq1 ?_
          refine AW_region ?_
          refine AL_cons (LR_assign (at_c (v' := Bl true) rfl) rfl) (sS sT0 sB0 sF0) ?_
          refine AL_nil ?_
          refine thenN ?_
          refine AW_ret ?_
          obtain rfl := Option.some.inj hr
          exact res1 rfl (rvT rfl)
/-- ryu.Scale -/
def F117_10 (N : Nat) (x16 : BitVec 64) (x17 : Bool) : Option (BitVec 64 × Bool) := some (x16, x17)
def F117_12 (N : Nat) (a1 : BitVec 64) (a2 : Int) (x2 : Int) (x16 : BitVec 64) (x19 : Bool) : Option (BitVec 64 × Bool) := bif x19 then F117_10 N x16 true else bif decide ((w16 (x2 - a2)) < 55) then bif decide (0 ≤ (w16 (x2 - a2))) then F117_10 N x16 ((a1 &&& (((1#64) <<< (w16 (x2 - a2)).toNat) - (1#64))) == (0#64)) else none else F117_10 N x16 false
def F117_11 (N : Nat) (a1 : BitVec 64) (a2 : Int) (x2 : Int) (x16 : BitVec 64) (x18 : Bool) : Option (BitVec 64 × Bool) := bif x18 then (F218 N a1 x2).bind fun y12 => F117_10 N x16 y12 else F117_12 N a1 a2 x2 x16 (decide ((w16 (x2 - a2)) ≤ 0))
def F117_9 (N : Nat) (a1 : BitVec 64) (a2 : Int) (x2 : Int) (x16 : BitVec 64) : Option (BitVec 64 × Bool) := F117_11 N a1 a2 x2 x16 (decide (x2 ≥ 1))
def F117_13 (N : Nat) (a1 : BitVec 64) (a2 : Int) (x2 : Int) (x6 : Int) (x10 : BitVec 64) (x11 : BitVec 64) (x14 : BitVec 64) (x15 : BitVec 64) (x20 : Bool) : Option (BitVec 64 × Bool) := bif x20 then lt (F217 x14 x15 (BitVec.ofInt 8 (w16 (x6 - 64)))) fun y13 => F117_9 N a1 a2 x2 y13.2 else bif decide (0 ≤ (w16 (64 - x6))) then bif decide (0 ≤ x6) then F117_9 N a1 a2 x2 ((x15 <<< (w16 (64 - x6)).toNat) ||| (x11 >>> x6.toNat)) else none else none
def F117_8 (N : Nat) (a1 : BitVec 64) (a2 : Int) (x2 : Int) (x6 : Int) (x10 : BitVec 64) (x11 : BitVec 64) (x14 : BitVec 64) (x15 : BitVec 64) : Option (BitVec 64 × Bool) := F117_13 N a1 a2 x2 x6 x10 x11 x14 x15 (decide (x6 ≥ 64))
def F117_7 (N : Nat) (a1 : BitVec 64) (a2 : Int) (x2 : Int) (x6 : Int) (x10 : BitVec 64) (x11 : BitVec 64) (x12 : BitVec 64) (x13 : BitVec 64) : Option (BitVec 64 × Bool) := lt (F166 x12 x13 (0#64) x10) fun y14 => F117_8 N a1 a2 x2 x6 x10 x11 y14.1 y14.2.1
def F117_6 (N : Nat) (a1 : BitVec 64) (a2 : Int) (x2 : Int) (x6 : Int) (x8 : BitVec 64) (x9 : BitVec 64) : Option (BitVec 64 × Bool) := lt (F165 a1 x9) fun y15 => lt (F165 a1 x8) fun y16 => F117_7 N a1 a2 x2 x6 y15.1 y15.2 y16.1 y16.2
def F117_14 (N : Nat) (a1 : BitVec 64) (a2 : Int) (x2 : Int) (x4 : BitVec 64) (x5 : BitVec 64) (x6 : Int) (x21 : Bool) : Option (BitVec 64 × Bool) := bif x21 then lt (F166 x4 x5 (0#64) (1#64)) fun y17 => F117_6 N a1 a2 x2 x6 y17.1 y17.2.1 else F117_6 N a1 a2 x2 x6 x4 x5
def F117_5 (N : Nat) (a1 : BitVec 64) (a2 : Int) (x2 : Int) (x4 : BitVec 64) (x5 : BitVec 64) (x6 : Int) (x7 : Bool) : Option (BitVec 64 × Bool) := bif x7 then some (0#64, false) else F117_14 N a1 a2 x2 x4 x5 x6 (decide (x2 > 0))
def F117_4 (N : Nat) (a1 : BitVec 64) (a2 : Int) (x2 : Int) (x3 : Int) (x4 : BitVec 64) (x5 : BitVec 64) (x6 : Int) : Option (BitVec 64 × Bool) := lt (F27 x4 x5 x3) fun y18 => F117_5 N a1 a2 x2 x4 x5 x6 (((!y18) || (decide (x6 < 1))) || (decide (x6 > 191)))
def F117_3 (N : Nat) (a1 : BitVec 64) (a2 : Int) (x2 : Int) (x3 : Int) (x4 : BitVec 64) (x5 : BitVec 64) : Option (BitVec 64 × Bool) := F117_4 N a1 a2 x2 x3 x4 x5 (w16 (0 - (w16 (a2 + x3))))
def F117_2 (N : Nat) (a0 : Tab) (a1 : BitVec 64) (a2 : Int) (x2 : Int) : Option (BitVec 64 × Bool) := (F116 N a0 (w16 (0 - x2))).bind fun y19 => F117_3 N a1 a2 x2 y19.2.2.1 y19.1 y19.2.1
def F117_1 (N : Nat) (a0 : Tab) (a1 : BitVec 64) (a2 : Int) (x1 : Bool) : Option (BitVec 64 × Bool) := bif x1 then some (0#64, false) else lt (F171 a2) fun y20 => F117_2 N a0 a1 a2 (w16 (y20 - 1))
def F117 (N : Nat) (a0 : Tab) (a1 : BitVec 64) (a2 : Int) : Option (BitVec 64 × Bool) := F117_1 N a0 a1 a2 ((((a1 == (0#64)) || (decide ((36028797018963968#64).toNat ≤ a1.toNat))) || (decide (a2 < (-1100)))) || (decide (a2 > 1030)))
theorem C117 (N : Nat) (a0 : Tab) (a1 : BitVec 64) (a2 : Int) (r : BitVec 64 × Bool) (hr : some r = F117 N a0 a1 a2) : Aw.Fn Hfaa.prog 117 [tabp a0, is (U64 a1), is (I16 a2)] (tup [is (U64 r.1), is (Bl r.2)]) := by
  refine fn_intro Hfaa.func117 rfl rfl rfl ?_
  intro bn0 w0 H0
  refine AW_seq1 ?_
  refine AW_region ?_
  refine AL_cons (LR_assign (at_c (v' := U64 (0#64)) rfl) rfl) (sS sT0 sB0 sF0) ?_
  refine AL_cons (LR_assign (at_c (v' := Bl false) rfl) rfl) (sS sT0 sB0 sF0) ?_
  refine AL_nil ?_
  refine thenN ?_
  refine AW_seq1 ?_
  refine AW_cut (σ := Bool) (fun v => ⟨[(0, .inl (tabp a0)), (1, .inl (is (U64 a1))), (2, .inl (is (I16 a2))), (32, .inl (is (Bl v)))], []⟩) (fun v => some r = F117_1 N a0 a1 a2 v) ?_ ?_
  · skip
    refine AW_region ?_
    refine AL_cons (LR_move (at_tmp 0 _) rfl) (sS (sT1 rfl) sB0 sF0) ?_
    refine AL_cons (LR_binA (at_tmp 15 _) (at_c (v' := .pointer none) rfl) (eqTabNil Hfaa.underlying27 a0) rfl) (sS (sA (sT1 rfl) sT0) sB0 sF0) ?_
    refine AL_cons (LR_move (at_tmp 16 _) rfl) (sS (sT1 rfl) sB0 sF0) ?_
    refine AL_cons (LR_on rfl rfl rfl (LR_move (at_tmp 1 _) rfl)) (sS (sT rfl (sT1 rfl)) sB0 sF0) ?_
    refine AL_cons (LR_on rfl rfl rfl (LR_bin (at_tmp 18 _) (at_c (v' := U64 (0#64)) rfl) (eql_U64 a1 (0#64)) rfl)) (sS (sT rfl (sA (sT1 rfl) sT0)) sB0 sF0) ?_
    refine AL_cons (LR_pick (b := false) (at_tmp 17 _) (at_c (v' := Bl true) rfl) (at_tmp 19 _) rfl) (sS (sA (sT1 rfl) (sA sT0 (sT1 rfl))) sB0 sF0) ?_
    refine AL_cons (LR_move (at_tmp 20 _) rfl) (sS (sT1 rfl) sB0 sF0) ?_
    refine AL_cutAt 3 ⟨[(0, .inl (tabp a0)), (1, .inl (is (U64 a1))), (2, .inl (is (I16 a2))), (6, .inl (is (U64 (0#64)))), (7, .inl (is (Bl false))), (15, .inl (tabp a0)), (16, .inl (is (Bl false))), (17, .inl (is (Bl false))), (18, .inl (is (U64 a1))), (19, .inl (is (Bl (a1 == (0#64))))), (20, .inl (is (Bl (a1 == (0#64))))), (21, .inl (is (Bl (a1 == (0#64))))), (24, .inl (is (Bl ((a1 == (0#64)) || (decide ((36028797018963968#64).toNat ≤ a1.toNat))))))], []⟩ ?_ ?_
    · cases hb : a1 == (0#64)
      · skip
        refine AL_cons (LR_on rfl rfl rfl (LR_move (at_tmp 1 _) rfl)) (sS (sT rfl (sT1 rfl)) sB0 sF0) ?_
        refine AL_cons (LR_on rfl rfl rfl (LR_bin (at_tmp 22 _) (at_c (v' := U64 (36028797018963968#64)) rfl) (geq_U64 a1 (36028797018963968#64)) rfl)) (sS (sT rfl (sA (sT1 rfl) sT0)) sB0 sF0) ?_
        refine AL_cons (LR_pick (b := false) (at_tmp 21 _) (at_c (v' := Bl true) rfl) (at_tmp 23 _) rfl) (sS (sA (sT1 rfl) (sA sT0 (sT1 rfl))) sB0 sF0) ?_
        exact AL_nil ⟨rfl, weak0 ((sT rfl (sT rfl (sT rfl (sT rfl (sT rfl (sT rfl (sT rfl (sT rfl (sT rfl (sT rfl (sT rfl (sT rfl (sT rfl sT0)))))))))))))) sub_nil⟩
      · skip
        refine AL_cons (LR_off (b := true) rfl rfl rfl rfl) (sS (sT1 rfl) sB0 sF0) ?_
        refine AL_cons (LR_off (b := true) rfl rfl rfl rfl) (sS (sT1 rfl) sB0 sF0) ?_
        refine AL_cons (LR_pick (b := true) (at_tmp 21 _) (at_c (v' := Bl true) rfl) (at_tmp 23 _) rfl) (sS (sA (sT1 rfl) (sA sT0 (sT1 rfl))) sB0 sF0) ?_
        exact AL_nil ⟨rfl, weak0 ((sT rfl (sT rfl (sT rfl (sT rfl (sT rfl (sT rfl (sT rfl (sT rfl (sT rfl (sT rfl (sT rfl (sT rfl (sT rfl sT0)))))))))))))) sub_nil⟩
    refine AL_cons (LR_move (at_tmp 24 _) rfl) (sS (sT1 rfl) sB0 sF0) ?_
    refine AL_cutAt 3 ⟨[(0, .inl (tabp a0)), (1, .inl (is (U64 a1))), (2, .inl (is (I16 a2))), (6, .inl (is (U64 (0#64)))), (7, .inl (is (Bl false))), (15, .inl (tabp a0)), (16, .inl (is (Bl false))), (17, .inl (is (Bl false))), (18, .inl (is (U64 a1))), (19, .inl (is (Bl (a1 == (0#64))))), (20, .inl (is (Bl (a1 == (0#64))))), (21, .inl (is (Bl (a1 == (0#64))))), (24, .inl (is (Bl ((a1 == (0#64)) || (decide ((36028797018963968#64).toNat ≤ a1.toNat)))))), (25, .inl (is (Bl ((a1 == (0#64)) || (decide ((36028797018963968#64).toNat ≤ a1.toNat)))))), (28, .inl (is (Bl (((a1 == (0#64)) || (decide ((36028797018963968#64).toNat ≤ a1.toNat))) || (decide (a2 < (-1100)))))))], []⟩ ?_ ?_
    · cases hb : (a1 == (0#64)) || (decide ((36028797018963968#64).toNat ≤ a1.toNat))
      · skip
        refine AL_cons (LR_on rfl rfl rfl (LR_move (at_tmp 2 _) rfl)) (sS (sT rfl (sT1 rfl)) sB0 sF0) ?_
        refine AL_cons (LR_on rfl rfl rfl (LR_bin (at_tmp 26 _) (at_c (v' := I16 (-1100)) rfl) (lss_I16 a2 (-1100)) rfl)) (sS (sT rfl (sA (sT1 rfl) sT0)) sB0 sF0) ?_
        refine AL_cons (LR_pick (b := false) (at_tmp 25 _) (at_c (v' := Bl true) rfl) (at_tmp 27 _) rfl) (sS (sA (sT1 rfl) (sA sT0 (sT1 rfl))) sB0 sF0) ?_
        exact AL_nil ⟨rfl, weak0 ((sT rfl (sT rfl (sT rfl (sT rfl (sT rfl (sT rfl (sT rfl (sT rfl (sT rfl (sT rfl (sT rfl (sT rfl (sT rfl (sT rfl (sT rfl sT0)))))))))))))))) sub_nil⟩
      · skip
        refine AL_cons (LR_off (b := true) rfl rfl rfl rfl) (sS (sT1 rfl) sB0 sF0) ?_
        refine AL_cons (LR_off (b := true) rfl rfl rfl rfl) (sS (sT1 rfl) sB0 sF0) ?_
        refine AL_cons (LR_pick (b := true) (at_tmp 25 _) (at_c (v' := Bl true) rfl) (at_tmp 27 _) rfl) (sS (sA (sT1 rfl) (sA sT0 (sT1 rfl))) sB0 sF0) ?_
        exact AL_nil ⟨rfl, weak0 ((sT rfl (sT rfl (sT rfl (sT rfl (sT rfl (sT rfl (sT rfl (sT rfl (sT rfl (sT rfl (sT rfl (sT rfl (sT rfl (sT rfl (sT rfl sT0)))))))))))))))) sub_nil⟩
    refine AL_cons (LR_move (at_tmp 28 _) rfl) (sS (sT1 rfl) sB0 sF0) ?_
    refine AL_cutAt 3 ⟨[(0, .inl (tabp a0)), (1, .inl (is (U64 a1))), (2, .inl (is (I16 a2))), (6, .inl (is (U64 (0#64)))), (7, .inl (is (Bl false))), (15, .inl (tabp a0)), (16, .inl (is (Bl false))), (17, .inl (is (Bl false))), (18, .inl (is (U64 a1))), (19, .inl (is (Bl (a1 == (0#64))))), (20, .inl (is (Bl (a1 == (0#64))))), (21, .inl (is (Bl (a1 == (0#64))))), (24, .inl (is (Bl ((a1 == (0#64)) || (decide ((36028797018963968#64).toNat ≤ a1.toNat)))))), (25, .inl (is (Bl ((a1 == (0#64)) || (decide ((36028797018963968#64).toNat ≤ a1.toNat)))))), (28, .inl (is (Bl (((a1 == (0#64)) || (decide ((36028797018963968#64).toNat ≤ a1.toNat))) || (decide (a2 < (-1100))))))), (29, .inl (is (Bl (((a1 == (0#64)) || (decide ((36028797018963968#64).toNat ≤ a1.toNat))) || (decide (a2 < (-1100))))))), (32, .inl (is (Bl ((((a1 == (0#64)) || (decide ((36028797018963968#64).toNat ≤ a1.toNat))) || (decide (a2 < (-1100)))) || (decide (a2 > 1030))))))], []⟩ ?_ ?_
    · cases hb : ((a1 == (0#64)) || (decide ((36028797018963968#64).toNat ≤ a1.toNat))) || (decide (a2 < (-1100)))
      · skip
        refine AL_cons (LR_on rfl rfl rfl (LR_move (at_tmp 2 _) rfl)) (sS (sT rfl (sT1 rfl)) sB0 sF0) ?_
        refine AL_cons (LR_on rfl rfl rfl (LR_bin (at_tmp 30 _) (at_c (v' := I16 1030) rfl) (gtr_I16 a2 1030) rfl)) (sS (sT rfl (sA (sT1 rfl) sT0)) sB0 sF0) ?_
        refine AL_cons (LR_pick (b := false) (at_tmp 29 _) (at_c (v' := Bl true) rfl) (at_tmp 31 _) rfl) (sS (sA (sT1 rfl) (sA sT0 (sT1 rfl))) sB0 sF0) ?_
        exact AL_nil ⟨rfl, weak0 ((sT rfl (sT rfl (sT rfl (sT rfl (sT rfl (sT rfl (sT rfl (sT rfl (sT rfl (sT rfl (sT rfl (sT rfl (sT rfl (sT rfl (sT rfl (sT rfl (sT rfl sT0)))))))))))))))))) sub_nil⟩
      · skip
        refine AL_cons (LR_off (b := true) rfl rfl rfl rfl) (sS (sT1 rfl) sB0 sF0) ?_
        refine AL_cons (LR_off (b := true) rfl rfl rfl rfl) (sS (sT1 rfl) sB0 sF0) ?_
        refine AL_cons (LR_pick (b := true) (at_tmp 29 _) (at_c (v' := Bl true) rfl) (at_tmp 31 _) rfl) (sS (sA (sT1 rfl) (sA sT0 (sT1 rfl))) sB0 sF0) ?_
        exact AL_nil ⟨rfl, weak0 ((sT rfl (sT rfl (sT rfl (sT rfl (sT rfl (sT rfl (sT rfl (sT rfl (sT rfl (sT rfl (sT rfl (sT rfl (sT rfl (sT rfl (sT rfl (sT rfl (sT rfl sT0)))))))))))))))))) sub_nil⟩
    refine AL_nil ?_
    exact thenN (cutLeaf (v := (((a1 == (0#64)) || (decide ((36028797018963968#64).toNat ≤ a1.toNat))) || (decide (a2 < (-1100)))) || (decide (a2 > 1030))) hr (weak0 ((sT rfl (sT rfl (sT rfl (sT rfl sT0))))) sub_nil))
  · rintro x1 hr
    show AW Hfaa.prog _ _ _ ⟨[(0, .inl (tabp a0)), (1, .inl (is (U64 a1))), (2, .inl (is (I16 a2))), (32, .inl (is (Bl x1)))], []⟩
    have hr : some r = F117_1 N a0 a1 a2 x1 := hr
    refine AW_condT (b := x1) rfl (fun h => ?_) (fun h => ?_)
    · have hr := hr.trans (cond_t h)
      clear h
      refine AW_seq1 ?_
      refine AW_region ?_
      refine AL_cons (LR_assign (at_c (v' := U64 (0#64)) rfl) rfl) (sS sT0 sB0 sF0) ?_
      refine AL_cons (LR_assign (at_c (v' := Bl false) rfl) rfl) (sS sT0 sB0 sF0) ?_
      refine AL_nil ?_
      refine thenN ?_
      refine AW_ret ?_
      refine thenR ?_
      obtain rfl := Option.some.inj hr
      exact res2 rfl (rvT rfl) (rvT rfl)
    · have hr := hr.trans (cond_f h)
      clear h
      refine AW_skip ?_
      refine thenN ?_
      refine AW_cut (σ := Int) (fun v => ⟨[(0, .inl (tabp a0)), (1, .inl (is (U64 a1))), (2, .inl (is (I16 a2))), (8, .inl (is (I16 v)))], []⟩) (fun v => some r = F117_2 N a0 a1 a2 v) ?_ ?_
      · skip
        refine AW_region ?_
        refine AL_cons (LR_move (at_tmp 2 _) rfl) (sS (sT1 rfl) sB0 sF0) ?_
        obtain ⟨y20, hy20, hr⟩ := lt_some hr
        refine AL_cons (LR_call Hfaa.func171 rfl rfl (C171 a2 y20 hy20) (all_cons (at_tmp 33 _) all_nil) rfl) (sS (sA (sT1 rfl) sT0) sB0 sF0) ?_
        refine AL_cons (LR_bin (at_tmp 34 _) (at_c (v' := I16 1) rfl) (sub_I16 y20 1) rfl) (sS (sA (sT1 rfl) sT0) sB0 sF0) ?_
        refine AL_cons (LR_assign (at_tmp 35 _) rfl) (sS (sT1 rfl) sB0 sF0) ?_
        refine AL_nil ?_
        exact thenN (cutLeaf (v := w16 (y20 - 1)) hr (weak0 ((sT rfl (sT rfl (sT rfl (sT rfl sT0))))) sub_nil))
      · rintro x2 hr
        show AW Hfaa.prog _ _ _ ⟨[(0, .inl (tabp a0)), (1, .inl (is (U64 a1))), (2, .inl (is (I16 a2))), (8, .inl (is (I16 x2)))], []⟩
        have hr : some r = F117_2 N a0 a1 a2 x2 := hr
        refine AW_cut (σ := Int × BitVec 64 × BitVec 64) (fun v => ⟨[(1, .inl (is (U64 a1))), (2, .inl (is (I16 a2))), (8, .inl (is (I16 x2))), (9, .inr (.inl (9, 0))), (10, .inl (is (I16 v.1)))], [(9, pb 42 [is (U64 v.2.1), is (U64 v.2.2)])]⟩) (fun v => some r = F117_3 N a1 a2 x2 v.1 v.2.1 v.2.2) ?_ ?_
        · skip
          refine AW_region ?_
          refine AL_cons (LR_move (at_tmp 0 _) rfl) (sS (sT1 rfl) sB0 sF0) ?_
          refine AL_cons (LR_move (at_tmp 8 _) rfl) (sS (sT1 rfl) sB0 sF0) ?_
          refine AL_cons (LR_un (at_tmp 38 _) (neg_I16 x2) rfl) (sS (sT1 rfl) sB0 sF0) ?_
          obtain ⟨y19, hy19, hr⟩ := bind_some hr
          refine AL_cons (LR_call Hfaa.func116 rfl rfl (C116 N a0 (w16 (0 - x2)) y19 hy19) (all_cons (at_tmp 37 _) (all_cons (at_tmp 39 _) all_nil)) rfl) (sS (sA (sT1 rfl) (sA (sT1 rfl) sT0)) sB0 sF0) ?_
          refine AL_cons (LR_move (at_tmp 40 _) rfl) (sS (sT1 rfl) sB0 sF0) ?_
          refine AL_cons (LR_extract (at_tmp 36 _) rfl rfl) (sS (sT1 rfl) sB0 sF0) ?_
          refine AL_cons (LR_extract (at_tmp 36 _) rfl rfl) (sS (sT1 rfl) sB0 sF0) ?_
          refine AL_cons (LR_extract (at_tmp 36 _) rfl rfl) (sS (sT1 rfl) sB0 sF0) ?_
          refine AL_cons (zl42 rfl) (sS sT0 sB0 (sF1 rfl)) ?_
          refine AL_cons (LR_store (at_tmp 9 _) (at_tmp 41 _) (cells_agg _) (onC (one_is rfl) (onC (one_is rfl) onN)) sz42 rfl rfl) (sS (sA (sT1 rfl) (sT1 rfl)) (sB1 rfl) sF0) ?_
          refine AL_cons (LR_assign (at_tmp 42 _) rfl) (sS (sT1 rfl) sB0 sF0) ?_
          refine AL_cons (LR_assign (at_tmp 43 _) rfl) (sS (sT1 rfl) sB0 sF0) ?_
          refine AL_nil ?_
          exact thenN (cutLeaf (v := (y19.2.2.1, y19.1, y19.2.1)) hr (weak0 ((sT rfl (sT rfl (sT rfl (sT rfl (sT rfl sT0)))))) (sub_keep sub_nil)))
        · rintro ⟨x3, x4, x5⟩ hr
          show AW Hfaa.prog _ _ _ ⟨[(1, .inl (is (U64 a1))), (2, .inl (is (I16 a2))), (8, .inl (is (I16 x2))), (9, .inr (.inl (9, 0))), (10, .inl (is (I16 x3)))], [(9, pb 42 [is (U64 x4), is (U64 x5)])]⟩
          have hr : some r = F117_3 N a1 a2 x2 x3 x4 x5 := hr
          refine AW_cut (σ := Int) (fun v => ⟨[(1, .inl (is (U64 a1))), (2, .inl (is (I16 a2))), (8, .inl (is (I16 x2))), (9, .inr (.inl (9, 0))), (10, .inl (is (I16 x3))), (12, .inl (is (I16 v)))], [(9, pb 42 [is (U64 x4), is (U64 x5)])]⟩) (fun v => some r = F117_4 N a1 a2 x2 x3 x4 x5 v) ?_ ?_
          · skip
            refine AW_region ?_
            refine AL_cons (LR_move (at_tmp 2 _) rfl) (sS (sT1 rfl) sB0 sF0) ?_
            refine AL_cons (LR_move (at_tmp 10 _) rfl) (sS (sT1 rfl) sB0 sF0) ?_
            refine AL_cons (LR_bin (at_tmp 44 _) (at_tmp 45 _) (add_I16 a2 x3) rfl) (sS (sA (sT1 rfl) (sT1 rfl)) sB0 sF0) ?_
            refine AL_cons (LR_un (at_tmp 46 _) (neg_I16 (w16 (a2 + x3))) rfl) (sS (sT1 rfl) sB0 sF0) ?_
            refine AL_cons (LR_assign (at_tmp 47 _) rfl) (sS (sT1 rfl) sB0 sF0) ?_
            refine AL_nil ?_
            exact thenN (cutLeaf (v := w16 (0 - (w16 (a2 + x3)))) hr (weak0 ((sT rfl (sT rfl (sT rfl (sT rfl (sT rfl (sT rfl sT0))))))) (sub_keep sub_nil)))
          · rintro x6 hr
            show AW Hfaa.prog _ _ _ ⟨[(1, .inl (is (U64 a1))), (2, .inl (is (I16 a2))), (8, .inl (is (I16 x2))), (9, .inr (.inl (9, 0))), (10, .inl (is (I16 x3))), (12, .inl (is (I16 x6)))], [(9, pb 42 [is (U64 x4), is (U64 x5)])]⟩
            have hr : some r = F117_4 N a1 a2 x2 x3 x4 x5 x6 := hr
            refine AW_seq1 ?_
            refine AW_cut (σ := Bool) (fun v => ⟨[(1, .inl (is (U64 a1))), (2, .inl (is (I16 a2))), (8, .inl (is (I16 x2))), (9, .inr (.inl (9, 0))), (12, .inl (is (I16 x6))), (59, .inl (is (Bl v)))], [(9, pb 42 [is (U64 x4), is (U64 x5)])]⟩) (fun v => some r = F117_5 N a1 a2 x2 x4 x5 x6 v) ?_ ?_
            · skip
              refine AW_region ?_
              refine AL_cons (LR_loads (at_tmp 9 _) ag42 sz42 rfl rfl rfl) (sS (sT1 rfl) (sB1 rfl) sF0) ?_
              refine AL_cons (LR_move (at_tmp 10 _) rfl) (sS (sT1 rfl) sB0 sF0) ?_
              obtain ⟨y18, hy18, hr⟩ := lt_some hr
              refine AL_cons (LR_call Hfaa.func27 rfl rfl (C27 x4 x5 x3 y18 hy18) (all_cons (at_tmp 48 _) (all_cons (at_tmp 49 _) all_nil)) rfl) (sS (sA (sT1 rfl) (sA (sT1 rfl) sT0)) sB0 sF0) ?_
              refine AL_cons (LR_un (at_tmp 50 _) (not_Bl y18) rfl) (sS (sT1 rfl) sB0 sF0) ?_
              refine AL_cons (LR_move (at_tmp 51 _) rfl) (sS (sT1 rfl) sB0 sF0) ?_
              refine AL_cutAt 3 ⟨[(1, .inl (is (U64 a1))), (2, .inl (is (I16 a2))), (8, .inl (is (I16 x2))), (9, .inr (.inl (9, 0))), (10, .inl (is (I16 x3))), (12, .inl (is (I16 x6))), (48, .inl (agg [is (U64 x4), is (U64 x5)])), (49, .inl (is (I16 x3))), (50, .inl (is (Bl y18))), (51, .inl (is (Bl (!y18)))), (52, .inl (is (Bl (!y18)))), (55, .inl (is (Bl ((!y18) || (decide (x6 < 1))))))], [(9, pb 42 [is (U64 x4), is (U64 x5)])]⟩ ?_ ?_
              · cases hb : !y18
                · skip
                  refine AL_cons (LR_on rfl rfl rfl (LR_move (at_tmp 12 _) rfl)) (sS (sT rfl (sT1 rfl)) sB0 sF0) ?_
                  refine AL_cons (LR_on rfl rfl rfl (LR_bin (at_tmp 53 _) (at_c (v' := I16 1) rfl) (lss_I16 x6 1) rfl)) (sS (sT rfl (sA (sT1 rfl) sT0)) sB0 sF0) ?_
                  refine AL_cons (LR_pick (b := false) (at_tmp 52 _) (at_c (v' := Bl true) rfl) (at_tmp 54 _) rfl) (sS (sA (sT1 rfl) (sA sT0 (sT1 rfl))) sB0 sF0) ?_
                  exact AL_nil ⟨rfl, weak0 ((sT rfl (sT rfl (sT rfl (sT rfl (sT rfl (sT rfl (sT rfl (sT rfl (sT rfl (sT rfl (sT rfl (sT rfl sT0))))))))))))) (sub_keep sub_nil)⟩
                · skip
                  refine AL_cons (LR_off (b := true) rfl rfl rfl rfl) (sS (sT1 rfl) sB0 sF0) ?_
                  refine AL_cons (LR_off (b := true) rfl rfl rfl rfl) (sS (sT1 rfl) sB0 sF0) ?_
                  refine AL_cons (LR_pick (b := true) (at_tmp 52 _) (at_c (v' := Bl true) rfl) (at_tmp 54 _) rfl) (sS (sA (sT1 rfl) (sA sT0 (sT1 rfl))) sB0 sF0) ?_
                  exact AL_nil ⟨rfl, weak0 ((sT rfl (sT rfl (sT rfl (sT rfl (sT rfl (sT rfl (sT rfl (sT rfl (sT rfl (sT rfl (sT rfl (sT rfl sT0))))))))))))) (sub_keep sub_nil)⟩
              refine AL_cons (LR_move (at_tmp 55 _) rfl) (sS (sT1 rfl) sB0 sF0) ?_
              refine AL_cutAt 3 ⟨[(1, .inl (is (U64 a1))), (2, .inl (is (I16 a2))), (8, .inl (is (I16 x2))), (9, .inr (.inl (9, 0))), (10, .inl (is (I16 x3))), (12, .inl (is (I16 x6))), (48, .inl (agg [is (U64 x4), is (U64 x5)])), (49, .inl (is (I16 x3))), (50, .inl (is (Bl y18))), (51, .inl (is (Bl (!y18)))), (52, .inl (is (Bl (!y18)))), (55, .inl (is (Bl ((!y18) || (decide (x6 < 1)))))), (56, .inl (is (Bl ((!y18) || (decide (x6 < 1)))))), (59, .inl (is (Bl (((!y18) || (decide (x6 < 1))) || (decide (x6 > 191))))))], [(9, pb 42 [is (U64 x4), is (U64 x5)])]⟩ ?_ ?_
              · cases hb : (!y18) || (decide (x6 < 1))
                · skip
                  refine AL_cons (LR_on rfl rfl rfl (LR_move (at_tmp 12 _) rfl)) (sS (sT rfl (sT1 rfl)) sB0 sF0) ?_
                  refine AL_cons (LR_on rfl rfl rfl (LR_bin (at_tmp 57 _) (at_c (v' := I16 191) rfl) (gtr_I16 x6 191) rfl)) (sS (sT rfl (sA (sT1 rfl) sT0)) sB0 sF0) ?_
                  refine AL_cons (LR_pick (b := false) (at_tmp 56 _) (at_c (v' := Bl true) rfl) (at_tmp 58 _) rfl) (sS (sA (sT1 rfl) (sA sT0 (sT1 rfl))) sB0 sF0) ?_
                  exact AL_nil ⟨rfl, weak0 ((sT rfl (sT rfl (sT rfl (sT rfl (sT rfl (sT rfl (sT rfl (sT rfl (sT rfl (sT rfl (sT rfl (sT rfl (sT rfl (sT rfl sT0))))))))))))))) (sub_keep sub_nil)⟩
                · skip
                  refine AL_cons (LR_off (b := true) rfl rfl rfl rfl) (sS (sT1 rfl) sB0 sF0) ?_
                  refine AL_cons (LR_off (b := true) rfl rfl rfl rfl) (sS (sT1 rfl) sB0 sF0) ?_
                  refine AL_cons (LR_pick (b := true) (at_tmp 56 _) (at_c (v' := Bl true) rfl) (at_tmp 58 _) rfl) (sS (sA (sT1 rfl) (sA sT0 (sT1 rfl))) sB0 sF0) ?_
                  exact AL_nil ⟨rfl, weak0 ((sT rfl (sT rfl (sT rfl (sT rfl (sT rfl (sT rfl (sT rfl (sT rfl (sT rfl (sT rfl (sT rfl (sT rfl (sT rfl (sT rfl sT0))))))))))))))) (sub_keep sub_nil)⟩
              refine AL_nil ?_
              exact thenN (cutLeaf (v := ((!y18) || (decide (x6 < 1))) || (decide (x6 > 191))) hr (weak0 ((sT rfl (sT rfl (sT rfl (sT rfl (sT rfl (sT rfl sT0))))))) (sub_keep sub_nil)))
            · rintro x7 hr
              show AW Hfaa.prog _ _ _ ⟨[(1, .inl (is (U64 a1))), (2, .inl (is (I16 a2))), (8, .inl (is (I16 x2))), (9, .inr (.inl (9, 0))), (12, .inl (is (I16 x6))), (59, .inl (is (Bl x7)))], [(9, pb 42 [is (U64 x4), is (U64 x5)])]⟩
              have hr : some r = F117_5 N a1 a2 x2 x4 x5 x6 x7 := hr
              refine AW_condT (b := x7) rfl (fun h => ?_) (fun h => ?_)
              · have hr := hr.trans (cond_t h)
                clear h
                refine AW_seq1 ?_
                refine AW_region ?_
                refine AL_cons (LR_assign (at_c (v' := U64 (0#64)) rfl) rfl) (sS sT0 sB0 sF0) ?_
                refine AL_cons (LR_assign (at_c (v' := Bl false) rfl) rfl) (sS sT0 sB0 sF0) ?_
                refine AL_nil ?_
                refine thenN ?_
                refine AW_ret ?_
                refine thenR ?_
                obtain rfl := Option.some.inj hr
                exact res2 rfl (rvT rfl) (rvT rfl)
              · have hr := hr.trans (cond_f h)
                clear h
                refine AW_skip ?_
                refine thenN ?_
                refine AW_cut (σ := BitVec 64 × BitVec 64) (fun v => ⟨[(1, .inl (is (U64 a1))), (2, .inl (is (I16 a2))), (8, .inl (is (I16 x2))), (9, .inr (.inl (9, 0))), (12, .inl (is (I16 x6)))], [(9, pb 42 [is (U64 v.1), is (U64 v.2)])]⟩) (fun v => some r = F117_6 N a1 a2 x2 x6 v.1 v.2) ?_ ?_
                · skip
                  refine AW_cut (σ := Bool) (fun v => ⟨[(1, .inl (is (U64 a1))), (2, .inl (is (I16 a2))), (8, .inl (is (I16 x2))), (9, .inr (.inl (9, 0))), (12, .inl (is (I16 x6))), (61, .inl (is (Bl v)))], [(9, pb 42 [is (U64 x4), is (U64 x5)])]⟩) (fun v => some r = F117_14 N a1 a2 x2 x4 x5 x6 v) ?_ ?_
                  · skip
                    refine AW_region ?_
                    refine AL_cons (LR_move (at_tmp 8 _) rfl) (sS (sT1 rfl) sB0 sF0) ?_
                    refine AL_cons (LR_bin (at_tmp 60 _) (at_c (v' := I16 0) rfl) (gtr_I16 x2 0) rfl) (sS (sA (sT1 rfl) sT0) sB0 sF0) ?_
                    refine AL_nil ?_
                    exact thenN (cutLeaf (v := decide (x2 > 0)) hr (weak0 ((sT rfl (sT rfl (sT rfl (sT rfl (sT rfl (sT rfl sT0))))))) (sub_keep sub_nil)))
                  · rintro x21 hr
                    show AW Hfaa.prog _ _ _ ⟨[(1, .inl (is (U64 a1))), (2, .inl (is (I16 a2))), (8, .inl (is (I16 x2))), (9, .inr (.inl (9, 0))), (12, .inl (is (I16 x6))), (61, .inl (is (Bl x21)))], [(9, pb 42 [is (U64 x4), is (U64 x5)])]⟩
                    have hr : some r = F117_14 N a1 a2 x2 x4 x5 x6 x21 := hr
                    refine AW_condT (b := x21) rfl (fun h => ?_) (fun h => ?_)
                    · have hr := hr.trans (cond_t h)
                      clear h
                      refine AW_region ?_
                      refine AL_cons (LR_loads (at_tmp 9 _) ag42 sz42 rfl rfl rfl) (sS (sT1 rfl) (sB1 rfl) sF0) ?_
                      refine AL_cons (bl42 (parts_cons (i := 1) (off := 1) (at_c (v' := U64 (1#64)) rfl) (cells_one (one_is rfl)) rfl rfl parts_nil) rfl rfl) (sS (sA sT0 sT0) sB0 sF0) ?_
                      obtain ⟨y17, hy17, hr⟩ := lt_some hr
                      refine AL_cons (LR_call Hfaa.func166 rfl rfl (C166 x4 x5 (0#64) (1#64) y17 hy17) (all_cons (at_tmp 63 _) (all_cons (at_tmp 64 _) all_nil)) rfl) (sS (sA (sT1 rfl) (sA (sT1 rfl) sT0)) sB0 sF0) ?_
                      refine AL_cons (LR_move (at_tmp 65 _) rfl) (sS (sT1 rfl) sB0 sF0) ?_
                      refine AL_cons (LR_extract (at_tmp 62 _) rfl rfl) (sS (sT1 rfl) sB0 sF0) ?_
                      refine AL_cons (LR_extract (at_tmp 62 _) rfl rfl) (sS (sT1 rfl) sB0 sF0) ?_
                      refine AL_cons (LR_store (at_tmp 9 _) (at_tmp 66 _) (cells_agg _) (onC (one_is rfl) (onC (one_is rfl) onN)) sz42 rfl rfl) (sS (sA (sT1 rfl) (sT1 rfl)) (sB1 rfl) sF0) ?_
                      refine AL_nil ?_
                      exact thenN (cutLeaf (v := (y17.1, y17.2.1)) hr (weak0 ((sT rfl (sT rfl (sT rfl (sT rfl (sT rfl sT0)))))) (sub_keep sub_nil)))
                    · have hr := hr.trans (cond_f h)
                      clear h
                      refine AW_skip ?_
                      exact thenN (cutLeaf (v := (x4, x5)) hr (weak0 ((sT rfl (sT rfl (sT rfl (sT rfl (sT rfl sT0)))))) (sub_keep sub_nil)))
                · rintro ⟨x8, x9⟩ hr
                  show AW Hfaa.prog _ _ _ ⟨[(1, .inl (is (U64 a1))), (2, .inl (is (I16 a2))), (8, .inl (is (I16 x2))), (9, .inr (.inl (9, 0))), (12, .inl (is (I16 x6)))], [(9, pb 42 [is (U64 x8), is (U64 x9)])]⟩
                  have hr : some r = F117_6 N a1 a2 x2 x6 x8 x9 := hr
                  refine AW_cut (σ := BitVec 64 × BitVec 64 × BitVec 64 × BitVec 64) (fun v => ⟨[(1, .inl (is (U64 a1))), (2, .inl (is (I16 a2))), (8, .inl (is (I16 x2))), (12, .inl (is (I16 x6))), (13, .inr (.inl (13, 0))), (14, .inr (.inl (14, 0)))], [(13, pb 42 [is (U64 v.1), is (U64 v.2.1)]), (14, pb 42 [is (U64 v.2.2.1), is (U64 v.2.2.2)])]⟩) (fun v => some r = F117_7 N a1 a2 x2 x6 v.1 v.2.1 v.2.2.1 v.2.2.2) ?_ ?_
                  · skip
                    obtain ⟨y15, hy15, hr⟩ := lt_some hr
                    obtain ⟨y16, hy16, hr⟩ := lt_some hr
                    refine AW_draw mixed
                      (lrC (LR_move (at_tmp 1 _) rfl)
                      (lrC (LR_fieldAddr (off := 0) (o := 1) (at_tmp 9 _) (fun b w => fa42_1 b 0 w) rfl)
                      (lrC (LR_load (at_tmp 69 _) na30 rfl rfl)
                      (lrC (LR_call Hfaa.func165 rfl rfl (C165 a1 x9 y15 hy15) (all_cons (at_tmp 68 _) (all_cons (at_tmp 70 _) all_nil)) rfl)
                      (lrC (LR_move (at_tmp 1 _) rfl)
                      (lrC (LR_fieldAddr (off := 0) (o := 0) (at_tmp 9 _) (fun b w => fa42_0 b 0 w) rfl)
                      (lrC (LR_load (at_tmp 73 _) na30 rfl rfl)
                      (lrC (LR_call Hfaa.func165 rfl rfl (C165 a1 x8 y16 hy16) (all_cons (at_tmp 72 _) (all_cons (at_tmp 74 _) all_nil)) rfl)
                      (lrC (zl42 rfl)
                      (lrC (zl42 rfl)
                      (lrC (LR_store (at_tmp 13 _) (at_tmp 71 _) (cells_agg _) (onC (one_is rfl) (onC (one_is rfl) onN)) sz42 rfl rfl)
                      (lrC (LR_store (at_tmp 14 _) (at_tmp 75 _) (cells_agg _) (onC (one_is rfl) (onC (one_is rfl) onN)) sz42 rfl rfl)
                      lrN))))))))))))
                      (by kernel_rfl)
                      (saC (sS (sT1 rfl) sB0 sF0) (saC (sS (sT1 rfl) sB0 sF0) (saC (sS (sT1 rfl) (sB1 rfl) sF0) (saC (sS (sA (sT1 rfl) (sA (sT1 rfl) sT0)) sB0 sF0) (saC (sS (sT1 rfl) sB0 sF0) (saC (sS (sT1 rfl) sB0 sF0) (saC (sS (sT1 rfl) (sB1 rfl) sF0) (saC (sS (sA (sT1 rfl) (sA (sT1 rfl) sT0)) sB0 sF0) (saC (sS sT0 sB0 (sF1 rfl)) (saC (sS sT0 sB0 (sF1 rfl)) (saC (sS (sA (sT1 rfl) (sT1 rfl)) (sB1 rfl) sF0) (saC (sS (sA (sT1 rfl) (sT1 rfl)) (sB1 rfl) sF0) saN)))))))))))) ?_
                    exact thenN (cutLeaf (v := (y15.1, y15.2, y16.1, y16.2)) hr (weak0 ((sT rfl (sT rfl (sT rfl (sT rfl (sT rfl (sT rfl sT0))))))) (sub_drop (sub_keep (sub_keep sub_nil)))))
                  · rintro ⟨x10, x11, x12, x13⟩ hr
                    show AW Hfaa.prog _ _ _ ⟨[(1, .inl (is (U64 a1))), (2, .inl (is (I16 a2))), (8, .inl (is (I16 x2))), (12, .inl (is (I16 x6))), (13, .inr (.inl (13, 0))), (14, .inr (.inl (14, 0)))], [(13, pb 42 [is (U64 x10), is (U64 x11)]), (14, pb 42 [is (U64 x12), is (U64 x13)])]⟩
                    have hr : some r = F117_7 N a1 a2 x2 x6 x10 x11 x12 x13 := hr
                    refine AW_cut (σ := BitVec 64 × BitVec 64) (fun v => ⟨[(1, .inl (is (U64 a1))), (2, .inl (is (I16 a2))), (8, .inl (is (I16 x2))), (12, .inl (is (I16 x6))), (13, .inr (.inl (13, 0))), (14, .inr (.inl (14, 0)))], [(13, pb 42 [is (U64 x10), is (U64 x11)]), (14, pb 42 [is (U64 v.1), is (U64 v.2)])]⟩) (fun v => some r = F117_8 N a1 a2 x2 x6 x10 x11 v.1 v.2) ?_ ?_
                    · skip
                      refine AW_region ?_
                      refine AL_cons (LR_loads (at_tmp 14 _) ag42 sz42 rfl rfl rfl) (sS (sT1 rfl) (sB1 rfl) sF0) ?_
                      refine AL_cons (LR_fieldAddr (off := 0) (o := 0) (at_tmp 13 _) (fun b w => fa42_0 b 0 w) rfl) (sS (sT1 rfl) sB0 sF0) ?_
                      refine AL_cons (LR_load (at_tmp 78 _) na30 rfl rfl) (sS (sT1 rfl) (sB1 rfl) sF0) ?_
                      refine AL_cons (bl42 (parts_cons (i := 1) (off := 1) (at_tmp 79 _) (cells_one (one_is rfl)) rfl rfl parts_nil) rfl rfl) (sS (sA (sT1 rfl) sT0) sB0 sF0) ?_
                      obtain ⟨y14, hy14, hr⟩ := lt_some hr
                      refine AL_cons (LR_call Hfaa.func166 rfl rfl (C166 x12 x13 (0#64) x10 y14 hy14) (all_cons (at_tmp 77 _) (all_cons (at_tmp 80 _) all_nil)) rfl) (sS (sA (sT1 rfl) (sA (sT1 rfl) sT0)) sB0 sF0) ?_
                      refine AL_cons (LR_move (at_tmp 81 _) rfl) (sS (sT1 rfl) sB0 sF0) ?_
                      refine AL_cons (LR_extract (at_tmp 76 _) rfl rfl) (sS (sT1 rfl) sB0 sF0) ?_
                      refine AL_cons (LR_extract (at_tmp 76 _) rfl rfl) (sS (sT1 rfl) sB0 sF0) ?_
                      refine AL_cons (LR_store (at_tmp 14 _) (at_tmp 82 _) (cells_agg _) (onC (one_is rfl) (onC (one_is rfl) onN)) sz42 rfl rfl) (sS (sA (sT1 rfl) (sT1 rfl)) (sB1 rfl) sF0) ?_
                      refine AL_nil ?_
                      exact thenN (cutLeaf (v := (y14.1, y14.2.1)) hr (weak0 ((sT rfl (sT rfl (sT rfl (sT rfl (sT rfl (sT rfl sT0))))))) (sub_keep (sub_keep sub_nil))))
                    · rintro ⟨x14, x15⟩ hr
                      show AW Hfaa.prog _ _ _ ⟨[(1, .inl (is (U64 a1))), (2, .inl (is (I16 a2))), (8, .inl (is (I16 x2))), (12, .inl (is (I16 x6))), (13, .inr (.inl (13, 0))), (14, .inr (.inl (14, 0)))], [(13, pb 42 [is (U64 x10), is (U64 x11)]), (14, pb 42 [is (U64 x14), is (U64 x15)])]⟩
                      have hr : some r = F117_8 N a1 a2 x2 x6 x10 x11 x14 x15 := hr
                      refine AW_cut (σ := BitVec 64) (fun v => ⟨[(1, .inl (is (U64 a1))), (2, .inl (is (I16 a2))), (8, .inl (is (I16 x2))), (6, .inl (is (U64 v)))], []⟩) (fun v => some r = F117_9 N a1 a2 x2 v) ?_ ?_
                      · skip
                        refine AW_cut (σ := Bool) (fun v => ⟨[(1, .inl (is (U64 a1))), (2, .inl (is (I16 a2))), (8, .inl (is (I16 x2))), (12, .inl (is (I16 x6))), (13, .inr (.inl (13, 0))), (14, .inr (.inl (14, 0))), (85, .inl (is (Bl v)))], [(13, pb 42 [is (U64 x10), is (U64 x11)]), (14, pb 42 [is (U64 x14), is (U64 x15)])]⟩) (fun v => some r = F117_13 N a1 a2 x2 x6 x10 x11 x14 x15 v) ?_ ?_
                        · skip
                          refine AW_region ?_
                          refine AL_cons (LR_move (at_tmp 12 _) rfl) (sS (sT1 rfl) sB0 sF0) ?_
                          refine AL_cons (LR_bin (at_tmp 84 _) (at_c (v' := I16 64) rfl) (geq_I16 x6 64) rfl) (sS (sA (sT1 rfl) sT0) sB0 sF0) ?_
                          refine AL_nil ?_
                          exact thenN (cutLeaf (v := decide (x6 ≥ 64)) hr (weak0 ((sT rfl (sT rfl (sT rfl (sT rfl (sT rfl (sT rfl (sT rfl sT0)))))))) (sub_keep (sub_keep sub_nil))))
                        · rintro x20 hr
                          show AW Hfaa.prog _ _ _ ⟨[(1, .inl (is (U64 a1))), (2, .inl (is (I16 a2))), (8, .inl (is (I16 x2))), (12, .inl (is (I16 x6))), (13, .inr (.inl (13, 0))), (14, .inr (.inl (14, 0))), (85, .inl (is (Bl x20)))], [(13, pb 42 [is (U64 x10), is (U64 x11)]), (14, pb 42 [is (U64 x14), is (U64 x15)])]⟩
                          have hr : some r = F117_13 N a1 a2 x2 x6 x10 x11 x14 x15 x20 := hr
                          refine AW_condT (b := x20) rfl (fun h => ?_) (fun h => ?_)
                          · have hr := hr.trans (cond_t h)
                            clear h
                            refine AW_region ?_
                            refine AL_cons (LR_loads (at_tmp 14 _) ag42 sz42 rfl rfl rfl) (sS (sT1 rfl) (sB1 rfl) sF0) ?_
                            refine AL_cons (LR_move (at_tmp 12 _) rfl) (sS (sT1 rfl) sB0 sF0) ?_
                            refine AL_cons (LR_bin (at_tmp 87 _) (at_c (v' := I16 64) rfl) (sub_I16 x6 64) rfl) (sS (sA (sT1 rfl) sT0) sB0 sF0) ?_
                            refine AL_cons (LR_conv (vx := I16 (w16 (x6 - 64))) (at_tmp 88 _) (conv_U8 Hfaa.underlying44 Hfaa.underlying5 (w16 (x6 - 64))) rfl) (sS (sT1 rfl) sB0 sF0) ?_
                            obtain ⟨y13, hy13, hr⟩ := lt_some hr
                            refine AL_cons (LR_call Hfaa.func217 rfl rfl (C217 x14 x15 (BitVec.ofInt 8 (w16 (x6 - 64))) y13 hy13) (all_cons (at_tmp 86 _) (all_cons (at_tmp 89 _) all_nil)) rfl) (sS (sA (sT1 rfl) (sA (sT1 rfl) sT0)) sB0 sF0) ?_
                            refine AL_cons (LR_field (off := 1) (at_tmp 90 _) Hfaa.underlying42 rfl rfl na30 rfl rfl) (sS (sT1 rfl) sB0 sF0) ?_
                            refine AL_cons (LR_assign (at_tmp 91 _) rfl) (sS (sT1 rfl) sB0 sF0) ?_
                            refine AL_nil ?_
                            exact thenN (cutLeaf (v := y13.2) hr (weak0 ((sT rfl (sT rfl (sT rfl (sT rfl sT0))))) (sub_drop (sub_drop sub_nil))))
                          · have hr := hr.trans (cond_f h)
                            clear h
                            obtain ⟨hg7, hr⟩ := guard_some hr
                            obtain ⟨hg8, hr⟩ := guard_some hr
                            refine AW_draw mixed
                              (lrC (LR_fieldAddr (off := 0) (o := 1) (at_tmp 14 _) (fun b w => fa42_1 b 0 w) rfl)
                              (lrC (LR_load (at_tmp 92 _) na30 rfl rfl)
                              (lrC (LR_move (at_tmp 12 _) rfl)
                              (lrC (LR_bin (at_c (v' := I16 64) rfl) (at_tmp 94 _) (sub_I16 64 x6) rfl)
                              (lrC (LR_bin (at_tmp 93 _) (at_tmp 95 _) (shl_U64 x15 (w16 (64 - x6)) (of_decide_eq_true hg7)) rfl)
                              (lrC (LR_fieldAddr (off := 0) (o := 1) (at_tmp 13 _) (fun b w => fa42_1 b 0 w) rfl)
                              (lrC (LR_load (at_tmp 97 _) na30 rfl rfl)
                              (lrC (LR_move (at_tmp 12 _) rfl)
                              (lrC (LR_bin (at_tmp 98 _) (at_tmp 99 _) (shr_U64 x11 x6 (of_decide_eq_true hg8)) rfl)
                              (lrC (LR_bin (at_tmp 96 _) (at_tmp 100 _) (or_U64 (x15 <<< (w16 (64 - x6)).toNat) (x11 >>> x6.toNat)) rfl)
                              (lrC (LR_assign (at_tmp 101 _) rfl)
                              lrN)))))))))))
                              (by kernel_rfl)
                              (saC (sS (sT1 rfl) sB0 sF0) (saC (sS (sT1 rfl) (sB1 rfl) sF0) (saC (sS (sT1 rfl) sB0 sF0) (saC (sS (sA sT0 (sT1 rfl)) sB0 sF0) (saC (sS (sA (sT1 rfl) (sT1 rfl)) sB0 sF0) (saC (sS (sT1 rfl) sB0 sF0) (saC (sS (sT1 rfl) (sB1 rfl) sF0) (saC (sS (sT1 rfl) sB0 sF0) (saC (sS (sA (sT1 rfl) (sT1 rfl)) sB0 sF0) (saC (sS (sA (sT1 rfl) (sT1 rfl)) sB0 sF0) (saC (sS (sT1 rfl) sB0 sF0) saN))))))))))) ?_
                            exact thenN (cutLeaf (v := (x15 <<< (w16 (64 - x6)).toNat) ||| (x11 >>> x6.toNat)) hr (weak0 ((sT rfl (sT rfl (sT rfl (sT rfl sT0))))) (sub_drop (sub_drop sub_nil))))
                      · rintro x16 hr
                        show AW Hfaa.prog _ _ _ ⟨[(1, .inl (is (U64 a1))), (2, .inl (is (I16 a2))), (8, .inl (is (I16 x2))), (6, .inl (is (U64 x16)))], []⟩
                        have hr : some r = F117_9 N a1 a2 x2 x16 := hr
                        refine AW_cut (σ := Bool) (fun v => ⟨[(6, .inl (is (U64 x16))), (7, .inl (is (Bl v)))], []⟩) (fun v => some r = F117_10 N x16 v) ?_ ?_
                        · skip
                          refine AW_block ?_
                          refine AW_cut (σ := Bool) (fun v => ⟨[(1, .inl (is (U64 a1))), (2, .inl (is (I16 a2))), (8, .inl (is (I16 x2))), (6, .inl (is (U64 x16))), (116, .inl (is (Bl v)))], []⟩) (fun v => some r = F117_11 N a1 a2 x2 x16 v) ?_ ?_
                          · skip
                            refine AW_region ?_
                            refine AL_cons (LR_move (at_tmp 8 _) rfl) (sS (sT1 rfl) sB0 sF0) ?_
                            refine AL_cons (LR_bin (at_tmp 117 _) (at_c (v' := I16 1) rfl) (geq_I16 x2 1) rfl) (sS (sA (sT1 rfl) sT0) sB0 sF0) ?_
                            refine AL_cons (LR_assign (at_tmp 118 _) rfl) (sS (sT1 rfl) sB0 sF0) ?_
                            refine AL_nil ?_
                            exact thenN (cutLeaf (v := decide (x2 ≥ 1)) hr (weak0 ((sT rfl (sT rfl (sT rfl (sT rfl (sT rfl sT0)))))) sub_nil))
                          · rintro x18 hr
                            show AW Hfaa.prog _ _ _ ⟨[(1, .inl (is (U64 a1))), (2, .inl (is (I16 a2))), (8, .inl (is (I16 x2))), (6, .inl (is (U64 x16))), (116, .inl (is (Bl x18)))], []⟩
                            have hr : some r = F117_11 N a1 a2 x2 x16 x18 := hr
                            refine AW_condT (b := x18) rfl (fun h => ?_) (fun h => ?_)
                            · have hr := hr.trans (cond_t h)
                              clear h
                              refine AW_region ?_
                              refine AL_cons (LR_move (at_tmp 1 _) rfl) (sS (sT1 rfl) sB0 sF0) ?_
                              refine AL_cons (LR_move (at_tmp 8 _) rfl) (sS (sT1 rfl) sB0 sF0) ?_
                              obtain ⟨y12, hy12, hr⟩ := bind_some hr
                              refine AL_cons (LR_call Hfaa.func218 rfl rfl (C218 N a1 x2 y12 hy12) (all_cons (at_tmp 119 _) (all_cons (at_tmp 120 _) all_nil)) rfl) (sS (sA (sT1 rfl) (sA (sT1 rfl) sT0)) sB0 sF0) ?_
                              refine AL_cons (LR_assign (at_tmp 121 _) rfl) (sS (sT1 rfl) sB0 sF0) ?_
                              refine AL_nil ?_
                              refine blN ?_
                              exact thenN (cutLeaf (v := y12) hr (weak0 ((sT rfl (sT rfl sT0))) sub_nil))
                            · have hr := hr.trans (cond_f h)
                              clear h
                              refine AW_cut (σ := Bool) (fun v => ⟨[(1, .inl (is (U64 a1))), (2, .inl (is (I16 a2))), (8, .inl (is (I16 x2))), (6, .inl (is (U64 x16))), (122, .inl (is (Bl v)))], []⟩) (fun v => some r = F117_12 N a1 a2 x2 x16 v) ?_ ?_
                              · skip
                                refine AW_region ?_
                                refine AL_cons (LR_move (at_tmp 8 _) rfl) (sS (sT1 rfl) sB0 sF0) ?_
                                refine AL_cons (LR_move (at_tmp 2 _) rfl) (sS (sT1 rfl) sB0 sF0) ?_
                                refine AL_cons (LR_bin (at_tmp 123 _) (at_tmp 124 _) (sub_I16 x2 a2) rfl) (sS (sA (sT1 rfl) (sT1 rfl)) sB0 sF0) ?_
                                refine AL_cons (LR_bin (at_tmp 125 _) (at_c (v' := I16 0) rfl) (leq_I16 (w16 (x2 - a2)) 0) rfl) (sS (sA (sT1 rfl) sT0) sB0 sF0) ?_
                                refine AL_cons (LR_assign (at_tmp 126 _) rfl) (sS (sT1 rfl) sB0 sF0) ?_
                                refine AL_nil ?_
                                exact thenN (cutLeaf (v := decide ((w16 (x2 - a2)) ≤ 0)) hr (weak0 ((sT rfl (sT rfl (sT rfl (sT rfl (sT rfl sT0)))))) sub_nil))
                              · rintro x19 hr
                                show AW Hfaa.prog _ _ _ ⟨[(1, .inl (is (U64 a1))), (2, .inl (is (I16 a2))), (8, .inl (is (I16 x2))), (6, .inl (is (U64 x16))), (122, .inl (is (Bl x19)))], []⟩
                                have hr : some r = F117_12 N a1 a2 x2 x16 x19 := hr
                                refine AW_condT (b := x19) rfl (fun h => ?_) (fun h => ?_)
                                · have hr := hr.trans (cond_t h)
                                  clear h
                                  refine AW_region ?_
                                  refine AL_cons (LR_assign (at_c (v' := Bl true) rfl) rfl) (sS sT0 sB0 sF0) ?_
                                  refine AL_nil ?_
                                  refine blN ?_
                                  exact thenN (cutLeaf (v := true) hr (weak0 ((sT rfl (sT rfl sT0))) sub_nil))
                                · have hr := hr.trans (cond_f h)
                                  clear h
                                  refine AW_region ?_
                                  refine AL_cons (LR_move (at_tmp 8 _) rfl) (sS (sT1 rfl) sB0 sF0) ?_
                                  refine AL_cons (LR_move (at_tmp 2 _) rfl) (sS (sT1 rfl) sB0 sF0) ?_
                                  refine AL_cons (LR_bin (at_tmp 102 _) (at_tmp 103 _) (sub_I16 x2 a2) rfl) (sS (sA (sT1 rfl) (sT1 rfl)) sB0 sF0) ?_
                                  refine AL_cons (LR_bin (at_tmp 104 _) (at_c (v' := I16 55) rfl) (lss_I16 (w16 (x2 - a2)) 55) rfl) (sS (sA (sT1 rfl) sT0) sB0 sF0) ?_
                                  refine AL_cons (LR_move (at_tmp 105 _) rfl) (sS (sT1 rfl) sB0 sF0) ?_
                                  cases hb : decide ((w16 (x2 - a2)) < 55)
                                  · have hr := hr.trans (cond_f hb)
                                    refine AL_cons (LR_off (b := false) rfl rfl rfl rfl) (sS (sT1 rfl) sB0 sF0) ?_
                                    refine AL_cons (LR_off (b := false) rfl rfl rfl rfl) (sS (sT1 rfl) sB0 sF0) ?_
                                    refine AL_cons (LR_off (b := false) rfl rfl rfl rfl) (sS (sT1 rfl) sB0 sF0) ?_
                                    refine AL_cons (LR_off (b := false) rfl rfl rfl rfl) (sS (sT1 rfl) sB0 sF0) ?_
                                    refine AL_cons (LR_off (b := false) rfl rfl rfl rfl) (sS (sT1 rfl) sB0 sF0) ?_
                                    refine AL_cons (LR_off (b := false) rfl rfl rfl rfl) (sS (sT1 rfl) sB0 sF0) ?_
                                    refine AL_cons (LR_off (b := false) rfl rfl rfl rfl) (sS (sT1 rfl) sB0 sF0) ?_
                                    refine AL_cons (LR_off (b := false) rfl rfl rfl rfl) (sS (sT1 rfl) sB0 sF0) ?_
                                    refine AL_cons (LR_pick (b := false) (at_tmp 106 _) (at_tmp 114 _) (at_c (v' := Bl false) rfl) rfl) (sS (sA (sT1 rfl) (sA (sT1 rfl) sT0)) sB0 sF0) ?_
                                    refine AL_cons (LR_assign (at_tmp 115 _) rfl) (sS (sT1 rfl) sB0 sF0) ?_
                                    refine AL_nil ?_
                                    refine blN ?_
                                    exact thenN (cutLeaf (v := false) hr (weak0 ((sT rfl (sT rfl sT0))) sub_nil))
                                  · have hr := hr.trans (cond_t hb)
                                    refine AL_cons (LR_on rfl rfl rfl (LR_move (at_tmp 1 _) rfl)) (sS (sT rfl (sT1 rfl)) sB0 sF0) ?_
                                    refine AL_cons (LR_on rfl rfl rfl (LR_move (at_tmp 8 _) rfl)) (sS (sT rfl (sT1 rfl)) sB0 sF0) ?_
                                    refine AL_cons (LR_on rfl rfl rfl (LR_move (at_tmp 2 _) rfl)) (sS (sT rfl (sT1 rfl)) sB0 sF0) ?_
                                    refine AL_cons (LR_on rfl rfl rfl (LR_bin (at_tmp 108 _) (at_tmp 109 _) (sub_I16 x2 a2) rfl)) (sS (sT rfl (sA (sT1 rfl) (sT1 rfl))) sB0 sF0) ?_
                                    obtain ⟨hg6, hr⟩ := guard_some hr
                                    refine AL_cons (LR_on rfl rfl rfl (LR_bin (at_c (v' := U64 (1#64)) rfl) (at_tmp 110 _) (shl_U64 (1#64) (w16 (x2 - a2)) (of_decide_eq_true hg6)) rfl)) (sS (sT rfl (sA sT0 (sT1 rfl))) sB0 sF0) ?_
                                    refine AL_cons (LR_on rfl rfl rfl (LR_bin (at_tmp 111 _) (at_c (v' := U64 (1#64)) rfl) (sub_U64 ((1#64) <<< (w16 (x2 - a2)).toNat) (1#64)) rfl)) (sS (sT rfl (sA (sT1 rfl) sT0)) sB0 sF0) ?_
                                    refine AL_cons (LR_on rfl rfl rfl (LR_bin (at_tmp 107 _) (at_tmp 112 _) (and_U64 a1 (((1#64) <<< (w16 (x2 - a2)).toNat) - (1#64))) rfl)) (sS (sT rfl (sA (sT1 rfl) (sT1 rfl))) sB0 sF0) ?_
                                    refine AL_cons (LR_on rfl rfl rfl (LR_bin (at_tmp 113 _) (at_c (v' := U64 (0#64)) rfl) (eql_U64 (a1 &&& (((1#64) <<< (w16 (x2 - a2)).toNat) - (1#64))) (0#64)) rfl)) (sS (sT rfl (sA (sT1 rfl) sT0)) sB0 sF0) ?_
                                    refine AL_cons (LR_pick (b := true) (at_tmp 106 _) (at_tmp 114 _) (at_c (v' := Bl false) rfl) rfl) (sS (sA (sT1 rfl) (sA (sT1 rfl) sT0)) sB0 sF0) ?_
                                    refine AL_cons (LR_assign (at_tmp 115 _) rfl) (sS (sT1 rfl) sB0 sF0) ?_
                                    refine AL_nil ?_
                                    refine blN ?_
                                    exact thenN (cutLeaf (v := (a1 &&& (((1#64) <<< (w16 (x2 - a2)).toNat) - (1#64))) == (0#64)) hr (weak0 ((sT rfl (sT rfl sT0))) sub_nil))
                        · rintro x17 hr
                          show AW Hfaa.prog _ _ _ ⟨[(6, .inl (is (U64 x16))), (7, .inl (is (Bl x17)))], []⟩
                          have hr : some r = F117_10 N x16 x17 := hr
                          refine AW_seq1 ?_
                          refine AW_region ?_
                          refine AL_cons (LR_move (at_tmp 6 _) rfl) (sS (sT1 rfl) sB0 sF0) ?_
                          refine AL_cons (LR_move (at_tmp 7 _) rfl) (sS (sT1 rfl) sB0 sF0) ?_
                          refine AL_cons (LR_assign (at_tmp 127 _) rfl) (sS (sT1 rfl) sB0 sF0) ?_
                          refine AL_cons (LR_assign (at_tmp 128 _) rfl) (sS (sT1 rfl) sB0 sF0) ?_
                          refine AL_nil ?_
                          refine thenN ?_
                          refine AW_ret ?_
                          obtain rfl := Option.some.inj hr
                          exact res2 rfl (rvT rfl) (rvT rfl)
end Go.Proofs.YfwaawGreat
