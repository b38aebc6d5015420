import Derived.Test.YfwaawGreatG25
import Derived.Test.YfwaawGreatG26
namespace Go.Proofs.YfwaawGreat
open Go.Aw
set_option linter.unusedVariables false
set_option maxRecDepth 100000
set_option maxHeartbeats 1000000
/-- soft.sum -/
def F273_6 (N : Nat) (a0_0 : BitVec 8) (a0_1 : BitVec 8) (a1 : BitVec 8) (x2 : Int) (x12 : Bool) (x13 : BitVec 64) (x14 : BitVec 64) (x16 : BitVec 64) (x17 : Int) : Option (BitVec 64 × BitVec 8) := (F215 N a0_0 a0_1 a1 x12 x17 x16).bind fun y14 => some (y14.1, y14.2)
def F273_5 (N : Nat) (a0_0 : BitVec 8) (a0_1 : BitVec 8) (a1 : BitVec 8) (x2 : Int) (x12 : Bool) (x13 : BitVec 64) (x14 : BitVec 64) (x15 : Bool) : Option (BitVec 64 × BitVec 8) := bif x15 then lt (F259 a0_0 a0_1 (a1 == (4#8))) fun y11 => some (y11, 0#8) else (F272 N x13 x14 x2).bind fun y15 => F273_6 N a0_0 a0_1 a1 x2 x12 x13 x14 y15.1 y15.2
def F273_4 (N : Nat) (a0_0 : BitVec 8) (a0_1 : BitVec 8) (a1 : BitVec 8) (x2 : Int) (x12 : Bool) (x13 : BitVec 64) (x14 : BitVec 64) : Option (BitVec 64 × BitVec 8) := F273_5 N a0_0 a0_1 a1 x2 x12 x13 x14 ((x13 ||| x14) == (0#64))
def F273_9 (N : Nat) (a0_0 : BitVec 8) (a0_1 : BitVec 8) (a1 : BitVec 8) (x1 : Bool) (x2 : Int) (x5 : Bool) (x6 : Int) (x10 : BitVec 64) (x11 : BitVec 64) (x20 : BitVec 64) (x21 : BitVec 64) : Option (BitVec 64 × BitVec 8) := F273_4 N a0_0 a0_1 a1 x2 x5 x20 x21
def F273_8 (N : Nat) (a0_0 : BitVec 8) (a0_1 : BitVec 8) (a1 : BitVec 8) (x1 : Bool) (x2 : Int) (x3 : BitVec 64) (x4 : BitVec 64) (x5 : Bool) (x6 : Int) (x10 : BitVec 64) (x11 : BitVec 64) (x19 : Bool) : Option (BitVec 64 × BitVec 8) := bif x19 then lt (F371 x10 x11 x3 x4) fun y19 => F273_9 N a0_0 a0_1 a1 x1 x2 x5 x6 x10 x11 y19.1 y19.2.1 else lt (F371 x3 x4 x10 x11) fun y20 => F273_4 N a0_0 a0_1 a1 x2 x1 y20.1 y20.2.1
def F273_7 (N : Nat) (a0_0 : BitVec 8) (a0_1 : BitVec 8) (a1 : BitVec 8) (x1 : Bool) (x2 : Int) (x3 : BitVec 64) (x4 : BitVec 64) (x5 : Bool) (x6 : Int) (x10 : BitVec 64) (x11 : BitVec 64) (x18 : Bool) : Option (BitVec 64 × BitVec 8) := bif x18 then lt (F166 x3 x4 x10 x11) fun y16 => F273_4 N a0_0 a0_1 a1 x2 x1 y16.1 y16.2.1 else lt (F362 x3 x4 x10 x11) fun y21 => F273_8 N a0_0 a0_1 a1 x1 x2 x3 x4 x5 x6 x10 x11 (decide (y21 < 0))
def F273_3 (N : Nat) (a0_0 : BitVec 8) (a0_1 : BitVec 8) (a1 : BitVec 8) (x1 : Bool) (x2 : Int) (x3 : BitVec 64) (x4 : BitVec 64) (x5 : Bool) (x6 : Int) (x10 : BitVec 64) (x11 : BitVec 64) : Option (BitVec 64 × BitVec 8) := F273_7 N a0_0 a0_1 a1 x1 x2 x3 x4 x5 x6 x10 x11 (x1 == x5)
def F273_2 (N : Nat) (a0_0 : BitVec 8) (a0_1 : BitVec 8) (a1 : BitVec 8) (x1 : Bool) (x2 : Int) (x3 : BitVec 64) (x4 : BitVec 64) (x5 : Bool) (x6 : Int) (x7 : BitVec 64) (x8 : BitVec 64) (x9 : Int) : Option (BitVec 64 × BitVec 8) := lt (F370 x7 x8 (BitVec.ofInt 8 x9)) fun y22 => F273_3 N a0_0 a0_1 a1 x1 x2 x3 x4 x5 x6 y22.1 y22.2
def F273_1 (N : Nat) (a0_0 : BitVec 8) (a0_1 : BitVec 8) (a1 : BitVec 8) (x1 : Bool) (x2 : Int) (x3 : BitVec 64) (x4 : BitVec 64) (x5 : Bool) (x6 : Int) (x7 : BitVec 64) (x8 : BitVec 64) : Option (BitVec 64 × BitVec 8) := F273_2 N a0_0 a0_1 a1 x1 x2 x3 x4 x5 x6 x7 x8 (min (w16 (x2 - x6)) 255)
def F273_10 (N : Nat) (a0_0 : BitVec 8) (a0_1 : BitVec 8) (a1 : BitVec 8) (a2_0 : Bool) (a2_1 : Int) (a2_2 : BitVec 64) (a2_3 : BitVec 64) (a3_0 : Bool) (a3_1 : Int) (a3_2 : BitVec 64) (a3_3 : BitVec 64) (x22 : Bool) : Option (BitVec 64 × BitVec 8) := bif x22 then F273_1 N a0_0 a0_1 a1 a3_0 a3_1 a3_2 a3_3 a2_0 a2_1 a2_2 a2_3 else F273_1 N a0_0 a0_1 a1 a2_0 a2_1 a2_2 a2_3 a3_0 a3_1 a3_2 a3_3
def F273 (N : Nat) (a0_0 : BitVec 8) (a0_1 : BitVec 8) (a1 : BitVec 8) (a2_0 : Bool) (a2_1 : Int) (a2_2 : BitVec 64) (a2_3 : BitVec 64) (a3_0 : Bool) (a3_1 : Int) (a3_2 : BitVec 64) (a3_3 : BitVec 64) : Option (BitVec 64 × BitVec 8) := F273_10 N a0_0 a0_1 a1 a2_0 a2_1 a2_2 a2_3 a3_0 a3_1 a3_2 a3_3 ((decide (a2_1 < a3_1)) || ((a2_1 == a3_1) && (decide ((F362 a2_2 a2_3 a3_2 a3_3) < 0))))
theorem C273 (N : Nat) (a0_0 : BitVec 8) (a0_1 : BitVec 8) (a1 : BitVec 8) (a2_0 : Bool) (a2_1 : Int) (a2_2 : BitVec 64) (a2_3 : BitVec 64) (a3_0 : Bool) (a3_1 : Int) (a3_2 : BitVec 64) (a3_3 : BitVec 64) (r : BitVec 64 × BitVec 8) (hr : some r = F273 N a0_0 a0_1 a1 a2_0 a2_1 a2_2 a2_3 a3_0 a3_1 a3_2 a3_3) : Aw.Fn Hfaa.prog 273 [agg [is (U8 a0_0), is (U8 a0_1)], is (U8 a1), agg [is (Bl a2_0), is (I16 a2_1), is (U64 a2_2), is (U64 a2_3)], agg [is (Bl a3_0), is (I16 a3_1), is (U64 a3_2), is (U64 a3_3)]] (tup [is (U64 r.1), is (U8 r.2)]) := by
  refine fn_intro Hfaa.func273 rfl rfl rfl ?_
  intro bn0 w0 H0
  refine AW_seq1 ?_
  refine AW_region ?_
  refine AL_cons (LR_box (at_tmp 0 _) (cells_agg _) rfl) (sS (sT1 rfl) sB0 (sF1 rfl)) ?_
  refine AL_cons (LR_box (at_tmp 2 _) (cells_agg _) rfl) (sS (sT1 rfl) sB0 (sF1 rfl)) ?_
  refine AL_cons (LR_box (at_tmp 3 _) (cells_agg _) rfl) (sS (sT1 rfl) sB0 (sF1 rfl)) ?_
  refine AL_cons (LR_assign (at_c (v' := U64 (0#64)) rfl) rfl) (sS sT0 sB0 sF0) ?_
  refine AL_cons (LR_assign (at_c (v' := U8 (0#8)) rfl) rfl) (sS sT0 sB0 sF0) ?_
  refine AL_nil ?_
  refine thenN ?_
  refine AW_cut (σ := Bool × Int × BitVec 64 × BitVec 64 × Bool × Int × BitVec 64 × BitVec 64) (fun v => ⟨[(1, .inl (is (U8 a1))), (4, .inr (.inl (4, 0))), (6, .inr (.inl (6, 0))), (7, .inr (.inl (7, 0)))], [(4, pb 23 [is (U8 a0_0), is (U8 a0_1)]), (6, pb 272 [is (Bl v.1), is (I16 v.2.1), is (U64 v.2.2.1), is (U64 v.2.2.2.1)]), (7, pb 272 [is (Bl v.2.2.2.2.1), is (I16 v.2.2.2.2.2.1), is (U64 v.2.2.2.2.2.2.1), is (U64 v.2.2.2.2.2.2.2)])]⟩) (fun v => some r = F273_1 N a0_0 a0_1 a1 v.1 v.2.1 v.2.2.1 v.2.2.2.1 v.2.2.2.2.1 v.2.2.2.2.2.1 v.2.2.2.2.2.2.1 v.2.2.2.2.2.2.2) ?_ ?_
  · skip
    refine AW_cut (σ := Bool) (fun v => ⟨[(1, .inl (is (U8 a1))), (4, .inr (.inl (4, 0))), (6, .inr (.inl (6, 0))), (7, .inr (.inl (7, 0))), (33, .inl (is (Bl v)))], [(4, pb 23 [is (U8 a0_0), is (U8 a0_1)]), (6, pb 272 [is (Bl a2_0), is (I16 a2_1), is (U64 a2_2), is (U64 a2_3)]), (7, pb 272 [is (Bl a3_0), is (I16 a3_1), is (U64 a3_2), is (U64 a3_3)])]⟩) (fun v => some r = F273_10 N a0_0 a0_1 a1 a2_0 a2_1 a2_2 a2_3 a3_0 a3_1 a3_2 a3_3 v) ?_ ?_
    · skip
      refine AW_region ?_
      refine AL_cons (LR_fieldAddr (off := 0) (o := 1) (at_tmp 6 _) (fun b w => fa272_1 b 0 w) rfl) (sS (sT1 rfl) sB0 sF0) ?_
      refine AL_cons (LR_load (at_tmp 14 _) na44 rfl rfl) (sS (sT1 rfl) (sB1 rfl) sF0) ?_
      refine AL_cons (LR_fieldAddr (off := 0) (o := 1) (at_tmp 7 _) (fun b w => fa272_1 b 0 w) rfl) (sS (sT1 rfl) sB0 sF0) ?_
      refine AL_cons (LR_load (at_tmp 16 _) na44 rfl rfl) (sS (sT1 rfl) (sB1 rfl) sF0) ?_
      refine AL_cons (LR_bin (at_tmp 15 _) (at_tmp 17 _) (lss_I16 a2_1 a3_1) rfl) (sS (sA (sT1 rfl) (sT1 rfl)) sB0 sF0) ?_
      refine AL_cons (LR_move (at_tmp 18 _) rfl) (sS (sT1 rfl) sB0 sF0) ?_
      refine AL_cutAt 14 ⟨[(0, .inl (agg [is (U8 a0_0), is (U8 a0_1)])), (1, .inl (is (U8 a1))), (2, .inl (agg [is (Bl a2_0), is (I16 a2_1), is (U64 a2_2), is (U64 a2_3)])), (3, .inl (agg [is (Bl a3_0), is (I16 a3_1), is (U64 a3_2), is (U64 a3_3)])), (4, .inr (.inl (4, 0))), (6, .inr (.inl (6, 0))), (7, .inr (.inl (7, 0))), (8, .inl (is (U64 (0#64)))), (9, .inl (is (U8 (0#8)))), (14, .inr (.inl (6, 1))), (15, .inl (is (I16 a2_1))), (16, .inr (.inl (7, 1))), (17, .inl (is (I16 a3_1))), (18, .inl (is (Bl (decide (a2_1 < a3_1))))), (19, .inl (is (Bl (decide (a2_1 < a3_1))))), (33, .inl (is (Bl ((decide (a2_1 < a3_1)) || ((a2_1 == a3_1) && (decide ((F362 a2_2 a2_3 a3_2 a3_3) < 0)))))))], [(4, pb 23 [is (U8 a0_0), is (U8 a0_1)]), (6, pb 272 [is (Bl a2_0), is (I16 a2_1), is (U64 a2_2), is (U64 a2_3)]), (7, pb 272 [is (Bl a3_0), is (I16 a3_1), is (U64 a3_2), is (U64 a3_3)])]⟩ ?_ ?_
      · cases hb : decide (a2_1 < a3_1)
        · skip
          refine AL_cons (LR_on rfl rfl rfl (LR_fieldAddr (off := 0) (o := 1) (at_tmp 6 _) (fun b w => fa272_1 b 0 w) rfl)) (sS (sT rfl (sT1 rfl)) sB0 sF0) ?_
          refine AL_cons (LR_on rfl rfl rfl (LR_load (at_tmp 20 _) na44 rfl rfl)) (sS (sT rfl (sT1 rfl)) (sB1 rfl) sF0) ?_
          refine AL_cons (LR_on rfl rfl rfl (LR_fieldAddr (off := 0) (o := 1) (at_tmp 7 _) (fun b w => fa272_1 b 0 w) rfl)) (sS (sT rfl (sT1 rfl)) sB0 sF0) ?_
          refine AL_cons (LR_on rfl rfl rfl (LR_load (at_tmp 22 _) na44 rfl rfl)) (sS (sT rfl (sT1 rfl)) (sB1 rfl) sF0) ?_
          refine AL_cons (LR_on rfl rfl rfl (LR_bin (at_tmp 21 _) (at_tmp 23 _) (eql_I16 a2_1 a3_1) rfl)) (sS (sT rfl (sA (sT1 rfl) (sT1 rfl))) sB0 sF0) ?_
          refine AL_cons (LR_on rfl rfl rfl (LR_move (at_tmp 24 _) rfl)) (sS (sT rfl (sT1 rfl)) sB0 sF0) ?_
          refine AL_cutAt 7 ⟨[(0, .inl (agg [is (U8 a0_0), is (U8 a0_1)])), (1, .inl (is (U8 a1))), (2, .inl (agg [is (Bl a2_0), is (I16 a2_1), is (U64 a2_2), is (U64 a2_3)])), (3, .inl (agg [is (Bl a3_0), is (I16 a3_1), is (U64 a3_2), is (U64 a3_3)])), (4, .inr (.inl (4, 0))), (6, .inr (.inl (6, 0))), (7, .inr (.inl (7, 0))), (8, .inl (is (U64 (0#64)))), (9, .inl (is (U8 (0#8)))), (14, .inr (.inl (6, 1))), (15, .inl (is (I16 a2_1))), (16, .inr (.inl (7, 1))), (17, .inl (is (I16 a3_1))), (18, .inl (is (Bl false))), (19, .inl (is (Bl false))), (20, .inr (.inl (6, 1))), (21, .inl (is (I16 a2_1))), (22, .inr (.inl (7, 1))), (23, .inl (is (I16 a3_1))), (24, .inl (is (Bl (a2_1 == a3_1)))), (25, .inl (is (Bl (a2_1 == a3_1)))), (32, .inl (is (Bl ((a2_1 == a3_1) && (decide ((F362 a2_2 a2_3 a3_2 a3_3) < 0))))))], [(4, pb 23 [is (U8 a0_0), is (U8 a0_1)]), (6, pb 272 [is (Bl a2_0), is (I16 a2_1), is (U64 a2_2), is (U64 a2_3)]), (7, pb 272 [is (Bl a3_0), is (I16 a3_1), is (U64 a3_2), is (U64 a3_3)])]⟩ ?_ ?_
          · cases hb : a2_1 == a3_1
            · skip
              refine AL_cons (LR_off (b := false) rfl rfl rfl rfl) (sS (sT1 rfl) sB0 sF0) ?_
              refine AL_cons (LR_off (b := false) rfl rfl rfl rfl) (sS (sT1 rfl) sB0 sF0) ?_
              refine AL_cons (LR_off (b := false) rfl rfl rfl rfl) (sS (sT1 rfl) sB0 sF0) ?_
              refine AL_cons (LR_off (b := false) rfl rfl rfl rfl) (sS (sT1 rfl) sB0 sF0) ?_
              refine AL_cons (LR_off (b := false) rfl rfl rfl rfl) (sS (sT1 rfl) sB0 sF0) ?_
              refine AL_cons (LR_off (b := false) rfl rfl rfl rfl) (sS (sT1 rfl) sB0 sF0) ?_
              refine AL_cons (LR_on rfl rfl rfl (LR_pick (b := false) (at_tmp 25 _) (at_tmp 31 _) (at_c (v' := Bl false) rfl) rfl)) (sS (sT rfl (sA (sT1 rfl) (sA (sT1 rfl) sT0))) sB0 sF0) ?_
              exact AL_nil ⟨rfl, weak0 ((sT rfl (sT rfl (sT rfl (sT rfl (sT rfl (sT rfl (sT rfl (sT rfl (sT rfl (sT rfl (sT rfl (sT rfl (sT rfl (sT rfl (sT rfl (sT rfl (sT rfl (sT rfl (sT rfl (sT rfl (sT rfl (sT rfl sT0))))))))))))))))))))))) (sub_keep (sub_keep (sub_keep sub_nil)))⟩
            · skip
              refine AL_cons (LR_on rfl rfl rfl (LR_fieldAddr (off := 0) (o := 2) (at_tmp 6 _) (fun b w => fa272_2 b 0 w) rfl)) (sS (sT rfl (sT1 rfl)) sB0 sF0) ?_
              refine AL_cons (LR_on rfl rfl rfl (LR_loads (at_tmp 26 _) ag42 sz42 rfl rfl rfl)) (sS (sT rfl (sT1 rfl)) (sB1 rfl) sF0) ?_
              refine AL_cons (LR_on rfl rfl rfl (LR_fieldAddr (off := 0) (o := 2) (at_tmp 7 _) (fun b w => fa272_2 b 0 w) rfl)) (sS (sT rfl (sT1 rfl)) sB0 sF0) ?_
              refine AL_cons (LR_on rfl rfl rfl (LR_loads (at_tmp 28 _) ag42 sz42 rfl rfl rfl)) (sS (sT rfl (sT1 rfl)) (sB1 rfl) sF0) ?_
              refine AL_cons (LR_on rfl rfl rfl (LR_call Hfaa.func362 rfl rfl (C362 a2_2 a2_3 a3_2 a3_3 _ rfl) (all_cons (at_tmp 27 _) (all_cons (at_tmp 29 _) all_nil)) rfl)) (sS (sT rfl (sA (sT1 rfl) (sA (sT1 rfl) sT0))) sB0 sF0) ?_
              refine AL_cons (LR_on rfl rfl rfl (LR_bin (at_tmp 30 _) (at_c (v' := I8 0) rfl) (lss_I8 (F362 a2_2 a2_3 a3_2 a3_3) 0) rfl)) (sS (sT rfl (sA (sT1 rfl) sT0)) sB0 sF0) ?_
              refine AL_cons (LR_on rfl rfl rfl (LR_pick (b := true) (at_tmp 25 _) (at_tmp 31 _) (at_c (v' := Bl false) rfl) rfl)) (sS (sT rfl (sA (sT1 rfl) (sA (sT1 rfl) sT0))) sB0 sF0) ?_
              exact AL_nil ⟨rfl, weak0 ((sT rfl (sT rfl (sT rfl (sT rfl (sT rfl (sT rfl (sT rfl (sT rfl (sT rfl (sT rfl (sT rfl (sT rfl (sT rfl (sT rfl (sT rfl (sT rfl (sT rfl (sT rfl (sT rfl (sT rfl (sT rfl (sT rfl sT0))))))))))))))))))))))) (sub_keep (sub_keep (sub_keep sub_nil)))⟩
          refine AL_cons (LR_pick (b := false) (at_tmp 19 _) (at_c (v' := Bl true) rfl) (at_tmp 32 _) rfl) (sS (sA (sT1 rfl) (sA sT0 (sT1 rfl))) sB0 sF0) ?_
          exact AL_nil ⟨rfl, weak0 ((sT rfl (sT rfl (sT rfl (sT rfl (sT rfl (sT rfl (sT rfl (sT rfl (sT rfl (sT rfl (sT rfl (sT rfl (sT rfl (sT rfl (sT rfl (sT rfl sT0))))))))))))))))) (sub_keep (sub_keep (sub_keep sub_nil)))⟩
        · skip
          refine AL_cons (LR_off (b := true) rfl rfl rfl rfl) (sS (sT1 rfl) sB0 sF0) ?_
          refine AL_cons (LR_off (b := true) rfl rfl rfl rfl) (sS (sT1 rfl) sB0 sF0) ?_
          refine AL_cons (LR_off (b := true) rfl rfl rfl rfl) (sS (sT1 rfl) sB0 sF0) ?_
          refine AL_cons (LR_off (b := true) rfl rfl rfl rfl) (sS (sT1 rfl) sB0 sF0) ?_
          refine AL_cons (LR_off (b := true) rfl rfl rfl rfl) (sS (sT1 rfl) sB0 sF0) ?_
          refine AL_cons (LR_off (b := true) rfl rfl rfl rfl) (sS (sT1 rfl) sB0 sF0) ?_
          refine AL_cons (LR_offU rfl rfl rfl rfl) (sS (sT1 rfl) sB0 sF0) ?_
          refine AL_cons (LR_offU rfl rfl rfl rfl) (sS (sT1 rfl) sB0 sF0) ?_
          refine AL_cons (LR_offU rfl rfl rfl rfl) (sS (sT1 rfl) sB0 sF0) ?_
          refine AL_cons (LR_offU rfl rfl rfl rfl) (sS (sT1 rfl) sB0 sF0) ?_
          refine AL_cons (LR_offU rfl rfl rfl rfl) (sS (sT1 rfl) sB0 sF0) ?_
          refine AL_cons (LR_offU rfl rfl rfl rfl) (sS (sT1 rfl) sB0 sF0) ?_
          refine AL_cons (LR_off (b := true) rfl rfl rfl rfl) (sS (sT1 rfl) sB0 sF0) ?_
          refine AL_cons (LR_pick (b := true) (at_tmp 19 _) (at_c (v' := Bl true) rfl) (at_tmp 32 _) rfl) (sS (sA (sT1 rfl) (sA sT0 (sT1 rfl))) sB0 sF0) ?_
          exact AL_nil ⟨rfl, weak0 ((sT rfl (sT rfl (sT rfl (sT rfl (sT rfl (sT rfl (sT rfl (sT rfl (sT rfl (sT rfl (sT rfl (sT rfl (sT rfl (sT rfl (sT rfl (sT rfl sT0))))))))))))))))) (sub_keep (sub_keep (sub_keep sub_nil)))⟩
      refine AL_nil ?_
      exact thenN (cutLeaf (v := (decide (a2_1 < a3_1)) || ((a2_1 == a3_1) && (decide ((F362 a2_2 a2_3 a3_2 a3_3) < 0)))) hr (weak0 ((sT rfl (sT rfl (sT rfl (sT rfl (sT rfl sT0)))))) (sub_keep (sub_keep (sub_keep sub_nil)))))
    · rintro x22 hr
      show AW Hfaa.prog _ _ _ ⟨[(1, .inl (is (U8 a1))), (4, .inr (.inl (4, 0))), (6, .inr (.inl (6, 0))), (7, .inr (.inl (7, 0))), (33, .inl (is (Bl x22)))], [(4, pb 23 [is (U8 a0_0), is (U8 a0_1)]), (6, pb 272 [is (Bl a2_0), is (I16 a2_1), is (U64 a2_2), is (U64 a2_3)]), (7, pb 272 [is (Bl a3_0), is (I16 a3_1), is (U64 a3_2), is (U64 a3_3)])]⟩
      have hr : some r = F273_10 N a0_0 a0_1 a1 a2_0 a2_1 a2_2 a2_3 a3_0 a3_1 a3_2 a3_3 x22 := hr
      refine AW_condT (b := x22) rfl (fun h => ?_) (fun h => ?_)
      · have hr := hr.trans (cond_t h)
        clear h
        refine AW_region ?_
        refine AL_cons (LR_loads (at_tmp 7 _) ag272 sz272 rfl rfl rfl) (sS (sT1 rfl) (sB1 rfl) sF0) ?_
        refine AL_cons (LR_loads (at_tmp 6 _) ag272 sz272 rfl rfl rfl) (sS (sT1 rfl) (sB1 rfl) sF0) ?_
        refine AL_cons (LR_store (at_tmp 6 _) (at_tmp 34 _) (cells_agg _) (onC (one_is rfl) (onC (one_is rfl) (onC (one_is rfl) (onC (one_is rfl) onN)))) sz272 rfl rfl) (sS (sA (sT1 rfl) (sT1 rfl)) (sB1 rfl) sF0) ?_
        refine AL_cons (LR_store (at_tmp 7 _) (at_tmp 35 _) (cells_agg _) (onC (one_is rfl) (onC (one_is rfl) (onC (one_is rfl) (onC (one_is rfl) onN)))) sz272 rfl rfl) (sS (sA (sT1 rfl) (sT1 rfl)) (sB1 rfl) sF0) ?_
        refine AL_nil ?_
        exact thenN (cutLeaf (v := (a3_0, a3_1, a3_2, a3_3, a2_0, a2_1, a2_2, a2_3)) hr (weak0 ((sT rfl (sT rfl (sT rfl (sT rfl sT0))))) (sub_keep (sub_keep (sub_keep sub_nil)))))
      · have hr := hr.trans (cond_f h)
        clear h
        refine AW_skip ?_
        exact thenN (cutLeaf (v := (a2_0, a2_1, a2_2, a2_3, a3_0, a3_1, a3_2, a3_3)) hr (weak0 ((sT rfl (sT rfl (sT rfl (sT rfl sT0))))) (sub_keep (sub_keep (sub_keep sub_nil)))))
  · rintro ⟨x1, x2, x3, x4, x5, x6, x7, x8⟩ hr
    show AW Hfaa.prog _ _ _ ⟨[(1, .inl (is (U8 a1))), (4, .inr (.inl (4, 0))), (6, .inr (.inl (6, 0))), (7, .inr (.inl (7, 0)))], [(4, pb 23 [is (U8 a0_0), is (U8 a0_1)]), (6, pb 272 [is (Bl x1), is (I16 x2), is (U64 x3), is (U64 x4)]), (7, pb 272 [is (Bl x5), is (I16 x6), is (U64 x7), is (U64 x8)])]⟩
    have hr : some r = F273_1 N a0_0 a0_1 a1 x1 x2 x3 x4 x5 x6 x7 x8 := hr
    refine AW_cut (σ := Int) (fun v => ⟨[(1, .inl (is (U8 a1))), (4, .inr (.inl (4, 0))), (6, .inr (.inl (6, 0))), (7, .inr (.inl (7, 0))), (10, .inl (is (I16 v)))], [(4, pb 23 [is (U8 a0_0), is (U8 a0_1)]), (6, pb 272 [is (Bl x1), is (I16 x2), is (U64 x3), is (U64 x4)]), (7, pb 272 [is (Bl x5), is (I16 x6), is (U64 x7), is (U64 x8)])]⟩) (fun v => some r = F273_2 N a0_0 a0_1 a1 x1 x2 x3 x4 x5 x6 x7 x8 v) ?_ ?_
    · skip
      refine AW_region ?_
      refine AL_cons (LR_fieldAddr (off := 0) (o := 1) (at_tmp 6 _) (fun b w => fa272_1 b 0 w) rfl) (sS (sT1 rfl) sB0 sF0) ?_
      refine AL_cons (LR_load (at_tmp 36 _) na44 rfl rfl) (sS (sT1 rfl) (sB1 rfl) sF0) ?_
      refine AL_cons (LR_fieldAddr (off := 0) (o := 1) (at_tmp 7 _) (fun b w => fa272_1 b 0 w) rfl) (sS (sT1 rfl) sB0 sF0) ?_
      refine AL_cons (LR_load (at_tmp 38 _) na44 rfl rfl) (sS (sT1 rfl) (sB1 rfl) sF0) ?_
      refine AL_cons (LR_bin (at_tmp 37 _) (at_tmp 39 _) (sub_I16 x2 x6) rfl) (sS (sA (sT1 rfl) (sT1 rfl)) sB0 sF0) ?_
      refine AL_cons (LR_bi2 (vx := I16 (w16 (x2 - x6))) (vy := I16 255) (v := I16 (min (w16 (x2 - x6)) 255)) (at_tmp 40 _) (at_c (v' := I16 255) rfl) (fun cs w => min_I .i16 (w16 (x2 - x6)) 255 cs w) rfl) (sS (sA (sT1 rfl) sT0) sB0 sF0) ?_
      refine AL_cons (LR_assign (at_tmp 41 _) rfl) (sS (sT1 rfl) sB0 sF0) ?_
      refine AL_nil ?_
      exact thenN (cutLeaf (v := min (w16 (x2 - x6)) 255) hr (weak0 ((sT rfl (sT rfl (sT rfl (sT rfl (sT rfl sT0)))))) (sub_keep (sub_keep (sub_keep sub_nil)))))
    · rintro x9 hr
      show AW Hfaa.prog _ _ _ ⟨[(1, .inl (is (U8 a1))), (4, .inr (.inl (4, 0))), (6, .inr (.inl (6, 0))), (7, .inr (.inl (7, 0))), (10, .inl (is (I16 x9)))], [(4, pb 23 [is (U8 a0_0), is (U8 a0_1)]), (6, pb 272 [is (Bl x1), is (I16 x2), is (U64 x3), is (U64 x4)]), (7, pb 272 [is (Bl x5), is (I16 x6), is (U64 x7), is (U64 x8)])]⟩
      have hr : some r = F273_2 N a0_0 a0_1 a1 x1 x2 x3 x4 x5 x6 x7 x8 x9 := hr
      refine AW_cut (σ := BitVec 64 × BitVec 64) (fun v => ⟨[(1, .inl (is (U8 a1))), (4, .inr (.inl (4, 0))), (6, .inr (.inl (6, 0))), (7, .inr (.inl (7, 0)))], [(4, pb 23 [is (U8 a0_0), is (U8 a0_1)]), (6, pb 272 [is (Bl x1), is (I16 x2), is (U64 x3), is (U64 x4)]), (7, pb 272 [is (Bl x5), is (I16 x6), is (U64 v.1), is (U64 v.2)])]⟩) (fun v => some r = F273_3 N a0_0 a0_1 a1 x1 x2 x3 x4 x5 x6 v.1 v.2) ?_ ?_
      · skip
        refine AW_region ?_
        refine AL_cons (LR_fieldAddr (off := 0) (o := 2) (at_tmp 7 _) (fun b w => fa272_2 b 0 w) rfl) (sS (sT1 rfl) sB0 sF0) ?_
        refine AL_cons (LR_loads (at_tmp 42 _) ag42 sz42 rfl rfl rfl) (sS (sT1 rfl) (sB1 rfl) sF0) ?_
        refine AL_cons (LR_move (at_tmp 10 _) rfl) (sS (sT1 rfl) sB0 sF0) ?_
        refine AL_cons (LR_conv (vx := I16 x9) (at_tmp 44 _) (conv_U8 Hfaa.underlying44 Hfaa.underlying5 x9) rfl) (sS (sT1 rfl) sB0 sF0) ?_
        obtain ⟨y22, hy22, hr⟩ := lt_some hr
        refine AL_cons (LR_call Hfaa.func370 rfl rfl (C370 x7 x8 (BitVec.ofInt 8 x9) y22 hy22) (all_cons (at_tmp 43 _) (all_cons (at_tmp 45 _) all_nil)) rfl) (sS (sA (sT1 rfl) (sA (sT1 rfl) sT0)) sB0 sF0) ?_
        refine AL_cons (LR_fieldAddr (off := 0) (o := 2) (at_tmp 7 _) (fun b w => fa272_2 b 0 w) rfl) (sS (sT1 rfl) sB0 sF0) ?_
        refine AL_cons (LR_store (at_tmp 47 _) (at_tmp 46 _) (cells_agg _) (onC (one_is rfl) (onC (one_is rfl) onN)) sz42 rfl rfl) (sS (sA (sT1 rfl) (sT1 rfl)) (sB1 rfl) sF0) ?_
        refine AL_nil ?_
        exact thenN (cutLeaf (v := (y22.1, y22.2)) hr (weak0 ((sT rfl (sT rfl (sT rfl (sT rfl sT0))))) (sub_keep (sub_keep (sub_keep sub_nil)))))
      · rintro ⟨x10, x11⟩ hr
        show AW Hfaa.prog _ _ _ ⟨[(1, .inl (is (U8 a1))), (4, .inr (.inl (4, 0))), (6, .inr (.inl (6, 0))), (7, .inr (.inl (7, 0)))], [(4, pb 23 [is (U8 a0_0), is (U8 a0_1)]), (6, pb 272 [is (Bl x1), is (I16 x2), is (U64 x3), is (U64 x4)]), (7, pb 272 [is (Bl x5), is (I16 x6), is (U64 x10), is (U64 x11)])]⟩
        have hr : some r = F273_3 N a0_0 a0_1 a1 x1 x2 x3 x4 x5 x6 x10 x11 := hr
        refine AW_cut (σ := Bool × BitVec 64 × BitVec 64) (fun v => ⟨[(1, .inl (is (U8 a1))), (4, .inr (.inl (4, 0))), (6, .inr (.inl (6, 0)))], [(4, pb 23 [is (U8 a0_0), is (U8 a0_1)]), (6, pb 272 [is (Bl v.1), is (I16 x2), is (U64 v.2.1), is (U64 v.2.2)])]⟩) (fun v => some r = F273_4 N a0_0 a0_1 a1 x2 v.1 v.2.1 v.2.2) ?_ ?_
        · skip
          refine AW_cut (σ := Bool) (fun v => ⟨[(1, .inl (is (U8 a1))), (4, .inr (.inl (4, 0))), (6, .inr (.inl (6, 0))), (7, .inr (.inl (7, 0))), (52, .inl (is (Bl v)))], [(4, pb 23 [is (U8 a0_0), is (U8 a0_1)]), (6, pb 272 [is (Bl x1), is (I16 x2), is (U64 x3), is (U64 x4)]), (7, pb 272 [is (Bl x5), is (I16 x6), is (U64 x10), is (U64 x11)])]⟩) (fun v => some r = F273_7 N a0_0 a0_1 a1 x1 x2 x3 x4 x5 x6 x10 x11 v) ?_ ?_
          · skip
            refine AW_region ?_
            refine AL_cons (LR_fieldAddr (off := 0) (o := 0) (at_tmp 6 _) (fun b w => fa272_0 b 0 w) rfl) (sS (sT1 rfl) sB0 sF0) ?_
            refine AL_cons (LR_load (at_tmp 48 _) na4 rfl rfl) (sS (sT1 rfl) (sB1 rfl) sF0) ?_
            refine AL_cons (LR_fieldAddr (off := 0) (o := 0) (at_tmp 7 _) (fun b w => fa272_0 b 0 w) rfl) (sS (sT1 rfl) sB0 sF0) ?_
            refine AL_cons (LR_load (at_tmp 50 _) na4 rfl rfl) (sS (sT1 rfl) (sB1 rfl) sF0) ?_
            refine AL_cons (LR_bin (at_tmp 49 _) (at_tmp 51 _) (eql_Bl Hfaa.underlying4 x1 x5) rfl) (sS (sA (sT1 rfl) (sT1 rfl)) sB0 sF0) ?_
            refine AL_nil ?_
            exact thenN (cutLeaf (v := x1 == x5) hr (weak0 ((sT rfl (sT rfl (sT rfl (sT rfl (sT rfl sT0)))))) (sub_keep (sub_keep (sub_keep sub_nil)))))
          · rintro x18 hr
            show AW Hfaa.prog _ _ _ ⟨[(1, .inl (is (U8 a1))), (4, .inr (.inl (4, 0))), (6, .inr (.inl (6, 0))), (7, .inr (.inl (7, 0))), (52, .inl (is (Bl x18)))], [(4, pb 23 [is (U8 a0_0), is (U8 a0_1)]), (6, pb 272 [is (Bl x1), is (I16 x2), is (U64 x3), is (U64 x4)]), (7, pb 272 [is (Bl x5), is (I16 x6), is (U64 x10), is (U64 x11)])]⟩
            have hr : some r = F273_7 N a0_0 a0_1 a1 x1 x2 x3 x4 x5 x6 x10 x11 x18 := hr
            refine AW_condT (b := x18) rfl (fun h => ?_) (fun h => ?_)
            · have hr := hr.trans (cond_t h)
              clear h
              refine AW_region ?_
              refine AL_cons (LR_fieldAddr (off := 0) (o := 2) (at_tmp 6 _) (fun b w => fa272_2 b 0 w) rfl) (sS (sT1 rfl) sB0 sF0) ?_
              refine AL_cons (LR_loads (at_tmp 54 _) ag42 sz42 rfl rfl rfl) (sS (sT1 rfl) (sB1 rfl) sF0) ?_
              refine AL_cons (LR_fieldAddr (off := 0) (o := 2) (at_tmp 7 _) (fun b w => fa272_2 b 0 w) rfl) (sS (sT1 rfl) sB0 sF0) ?_
              refine AL_cons (LR_loads (at_tmp 56 _) ag42 sz42 rfl rfl rfl) (sS (sT1 rfl) (sB1 rfl) sF0) ?_
              obtain ⟨y16, hy16, hr⟩ := lt_some hr
              refine AL_cons (LR_call Hfaa.func166 rfl rfl (C166 x3 x4 x10 x11 y16 hy16) (all_cons (at_tmp 55 _) (all_cons (at_tmp 57 _) all_nil)) rfl) (sS (sA (sT1 rfl) (sA (sT1 rfl) sT0)) sB0 sF0) ?_
              refine AL_cons (LR_move (at_tmp 58 _) rfl) (sS (sT1 rfl) sB0 sF0) ?_
              refine AL_cons (LR_extract (at_tmp 53 _) rfl rfl) (sS (sT1 rfl) sB0 sF0) ?_
              refine AL_cons (LR_extract (at_tmp 53 _) rfl rfl) (sS (sT1 rfl) sB0 sF0) ?_
              refine AL_cons (LR_fieldAddr (off := 0) (o := 2) (at_tmp 6 _) (fun b w => fa272_2 b 0 w) rfl) (sS (sT1 rfl) sB0 sF0) ?_
              refine AL_cons (LR_store (at_tmp 61 _) (at_tmp 59 _) (cells_agg _) (onC (one_is rfl) (onC (one_is rfl) onN)) sz42 rfl rfl) (sS (sA (sT1 rfl) (sT1 rfl)) (sB1 rfl) sF0) ?_
              refine AL_nil ?_
              exact thenN (cutLeaf (v := (x1, y16.1, y16.2.1)) hr (weak0 ((sT rfl (sT rfl (sT rfl sT0)))) (sub_keep (sub_keep (sub_drop sub_nil)))))
            · have hr := hr.trans (cond_f h)
              clear h
              refine AW_cut (σ := Bool) (fun v => ⟨[(1, .inl (is (U8 a1))), (4, .inr (.inl (4, 0))), (6, .inr (.inl (6, 0))), (7, .inr (.inl (7, 0))), (11, .inl (is (Bl v)))], [(4, pb 23 [is (U8 a0_0), is (U8 a0_1)]), (6, pb 272 [is (Bl x1), is (I16 x2), is (U64 x3), is (U64 x4)]), (7, pb 272 [is (Bl x5), is (I16 x6), is (U64 x10), is (U64 x11)])]⟩) (fun v => some r = F273_8 N a0_0 a0_1 a1 x1 x2 x3 x4 x5 x6 x10 x11 v) ?_ ?_
              · skip
                refine AW_region ?_
                refine AL_cons (LR_fieldAddr (off := 0) (o := 2) (at_tmp 6 _) (fun b w => fa272_2 b 0 w) rfl) (sS (sT1 rfl) sB0 sF0) ?_
                refine AL_cons (LR_loads (at_tmp 62 _) ag42 sz42 rfl rfl rfl) (sS (sT1 rfl) (sB1 rfl) sF0) ?_
                refine AL_cons (LR_fieldAddr (off := 0) (o := 2) (at_tmp 7 _) (fun b w => fa272_2 b 0 w) rfl) (sS (sT1 rfl) sB0 sF0) ?_
                refine AL_cons (LR_loads (at_tmp 64 _) ag42 sz42 rfl rfl rfl) (sS (sT1 rfl) (sB1 rfl) sF0) ?_
                obtain ⟨y21, hy21, hr⟩ := lt_some hr
                refine AL_cons (LR_call Hfaa.func362 rfl rfl (C362 x3 x4 x10 x11 y21 hy21) (all_cons (at_tmp 63 _) (all_cons (at_tmp 65 _) all_nil)) rfl) (sS (sA (sT1 rfl) (sA (sT1 rfl) sT0)) sB0 sF0) ?_
                refine AL_cons (LR_bin (at_tmp 66 _) (at_c (v' := I8 0) rfl) (lss_I8 y21 0) rfl) (sS (sA (sT1 rfl) sT0) sB0 sF0) ?_
                refine AL_cons (LR_assign (at_tmp 67 _) rfl) (sS (sT1 rfl) sB0 sF0) ?_
                refine AL_nil ?_
                exact thenN (cutLeaf (v := decide (y21 < 0)) hr (weak0 ((sT rfl (sT rfl (sT rfl (sT rfl (sT rfl sT0)))))) (sub_keep (sub_keep (sub_keep sub_nil)))))
              · rintro x19 hr
                show AW Hfaa.prog _ _ _ ⟨[(1, .inl (is (U8 a1))), (4, .inr (.inl (4, 0))), (6, .inr (.inl (6, 0))), (7, .inr (.inl (7, 0))), (11, .inl (is (Bl x19)))], [(4, pb 23 [is (U8 a0_0), is (U8 a0_1)]), (6, pb 272 [is (Bl x1), is (I16 x2), is (U64 x3), is (U64 x4)]), (7, pb 272 [is (Bl x5), is (I16 x6), is (U64 x10), is (U64 x11)])]⟩
                have hr : some r = F273_8 N a0_0 a0_1 a1 x1 x2 x3 x4 x5 x6 x10 x11 x19 := hr
                refine AW_seq1 ?_
                refine AW_region ?_
                refine AL_cons (LR_move (at_tmp 11 _) rfl) (sS (sT1 rfl) sB0 sF0) ?_
                refine AL_nil ?_
                refine thenN ?_
                refine AW_condT (b := x19) rfl (fun h => ?_) (fun h => ?_)
                · have hr := hr.trans (cond_t h)
                  clear h
                  refine AW_cut (σ := BitVec 64 × BitVec 64) (fun v => ⟨[(1, .inl (is (U8 a1))), (4, .inr (.inl (4, 0))), (6, .inr (.inl (6, 0))), (7, .inr (.inl (7, 0)))], [(4, pb 23 [is (U8 a0_0), is (U8 a0_1)]), (6, pb 272 [is (Bl x1), is (I16 x2), is (U64 v.1), is (U64 v.2)]), (7, pb 272 [is (Bl x5), is (I16 x6), is (U64 x10), is (U64 x11)])]⟩) (fun v => some r = F273_9 N a0_0 a0_1 a1 x1 x2 x5 x6 x10 x11 v.1 v.2) ?_ ?_
                  · skip
                    refine AW_region ?_
                    refine AL_cons (LR_fieldAddr (off := 0) (o := 2) (at_tmp 7 _) (fun b w => fa272_2 b 0 w) rfl) (sS (sT1 rfl) sB0 sF0) ?_
                    refine AL_cons (LR_loads (at_tmp 70 _) ag42 sz42 rfl rfl rfl) (sS (sT1 rfl) (sB1 rfl) sF0) ?_
                    refine AL_cons (LR_fieldAddr (off := 0) (o := 2) (at_tmp 6 _) (fun b w => fa272_2 b 0 w) rfl) (sS (sT1 rfl) sB0 sF0) ?_
                    refine AL_cons (LR_loads (at_tmp 72 _) ag42 sz42 rfl rfl rfl) (sS (sT1 rfl) (sB1 rfl) sF0) ?_
                    obtain ⟨y19, hy19, hr⟩ := lt_some hr
                    refine AL_cons (LR_call Hfaa.func371 rfl rfl (C371 x10 x11 x3 x4 y19 hy19) (all_cons (at_tmp 71 _) (all_cons (at_tmp 73 _) all_nil)) rfl) (sS (sA (sT1 rfl) (sA (sT1 rfl) sT0)) sB0 sF0) ?_
                    refine AL_cons (LR_move (at_tmp 74 _) rfl) (sS (sT1 rfl) sB0 sF0) ?_
                    refine AL_cons (LR_extract (at_tmp 69 _) rfl rfl) (sS (sT1 rfl) sB0 sF0) ?_
                    refine AL_cons (LR_extract (at_tmp 69 _) rfl rfl) (sS (sT1 rfl) sB0 sF0) ?_
                    refine AL_cons (LR_fieldAddr (off := 0) (o := 2) (at_tmp 6 _) (fun b w => fa272_2 b 0 w) rfl) (sS (sT1 rfl) sB0 sF0) ?_
                    refine AL_cons (LR_store (at_tmp 77 _) (at_tmp 75 _) (cells_agg _) (onC (one_is rfl) (onC (one_is rfl) onN)) sz42 rfl rfl) (sS (sA (sT1 rfl) (sT1 rfl)) (sB1 rfl) sF0) ?_
                    refine AL_nil ?_
                    exact thenN (cutLeaf (v := (y19.1, y19.2.1)) hr (weak0 ((sT rfl (sT rfl (sT rfl (sT rfl sT0))))) (sub_keep (sub_keep (sub_keep sub_nil)))))
                  · rintro ⟨x20, x21⟩ hr
                    show AW Hfaa.prog _ _ _ ⟨[(1, .inl (is (U8 a1))), (4, .inr (.inl (4, 0))), (6, .inr (.inl (6, 0))), (7, .inr (.inl (7, 0)))], [(4, pb 23 [is (U8 a0_0), is (U8 a0_1)]), (6, pb 272 [is (Bl x1), is (I16 x2), is (U64 x20), is (U64 x21)]), (7, pb 272 [is (Bl x5), is (I16 x6), is (U64 x10), is (U64 x11)])]⟩
                    have hr : some r = F273_9 N a0_0 a0_1 a1 x1 x2 x5 x6 x10 x11 x20 x21 := hr
                    refine AW_region ?_
                    refine AL_cons (LR_fieldAddr (off := 0) (o := 0) (at_tmp 7 _) (fun b w => fa272_0 b 0 w) rfl) (sS (sT1 rfl) sB0 sF0) ?_
                    refine AL_cons (LR_load (at_tmp 78 _) na4 rfl rfl) (sS (sT1 rfl) (sB1 rfl) sF0) ?_
                    refine AL_cons (LR_fieldAddr (off := 0) (o := 0) (at_tmp 6 _) (fun b w => fa272_0 b 0 w) rfl) (sS (sT1 rfl) sB0 sF0) ?_
                    refine AL_cons (LR_store (at_tmp 80 _) (at_tmp 79 _) (cells_one (one_is rfl)) (onC (one_is rfl) onN) sz4 rfl rfl) (sS (sA (sT1 rfl) (sT1 rfl)) (sB1 rfl) sF0) ?_
                    refine AL_nil ?_
                    exact thenN (cutLeaf (v := (x5, x20, x21)) hr (weak0 ((sT rfl (sT rfl (sT rfl sT0)))) (sub_keep (sub_keep (sub_drop sub_nil)))))
                · have hr := hr.trans (cond_f h)
                  clear h
                  refine AW_region ?_
                  refine AL_cons (LR_fieldAddr (off := 0) (o := 2) (at_tmp 6 _) (fun b w => fa272_2 b 0 w) rfl) (sS (sT1 rfl) sB0 sF0) ?_
                  refine AL_cons (LR_loads (at_tmp 82 _) ag42 sz42 rfl rfl rfl) (sS (sT1 rfl) (sB1 rfl) sF0) ?_
                  refine AL_cons (LR_fieldAddr (off := 0) (o := 2) (at_tmp 7 _) (fun b w => fa272_2 b 0 w) rfl) (sS (sT1 rfl) sB0 sF0) ?_
                  refine AL_cons (LR_loads (at_tmp 84 _) ag42 sz42 rfl rfl rfl) (sS (sT1 rfl) (sB1 rfl) sF0) ?_
                  obtain ⟨y20, hy20, hr⟩ := lt_some hr
                  refine AL_cons (LR_call Hfaa.func371 rfl rfl (C371 x3 x4 x10 x11 y20 hy20) (all_cons (at_tmp 83 _) (all_cons (at_tmp 85 _) all_nil)) rfl) (sS (sA (sT1 rfl) (sA (sT1 rfl) sT0)) sB0 sF0) ?_
                  refine AL_cons (LR_move (at_tmp 86 _) rfl) (sS (sT1 rfl) sB0 sF0) ?_
                  refine AL_cons (LR_extract (at_tmp 81 _) rfl rfl) (sS (sT1 rfl) sB0 sF0) ?_
                  refine AL_cons (LR_extract (at_tmp 81 _) rfl rfl) (sS (sT1 rfl) sB0 sF0) ?_
                  refine AL_cons (LR_fieldAddr (off := 0) (o := 2) (at_tmp 6 _) (fun b w => fa272_2 b 0 w) rfl) (sS (sT1 rfl) sB0 sF0) ?_
                  refine AL_cons (LR_store (at_tmp 89 _) (at_tmp 87 _) (cells_agg _) (onC (one_is rfl) (onC (one_is rfl) onN)) sz42 rfl rfl) (sS (sA (sT1 rfl) (sT1 rfl)) (sB1 rfl) sF0) ?_
                  refine AL_nil ?_
                  exact thenN (cutLeaf (v := (x1, y20.1, y20.2.1)) hr (weak0 ((sT rfl (sT rfl (sT rfl sT0)))) (sub_keep (sub_keep (sub_drop sub_nil)))))
        · rintro ⟨x12, x13, x14⟩ hr
          show AW Hfaa.prog _ _ _ ⟨[(1, .inl (is (U8 a1))), (4, .inr (.inl (4, 0))), (6, .inr (.inl (6, 0)))], [(4, pb 23 [is (U8 a0_0), is (U8 a0_1)]), (6, pb 272 [is (Bl x12), is (I16 x2), is (U64 x13), is (U64 x14)])]⟩
          have hr : some r = F273_4 N a0_0 a0_1 a1 x2 x12 x13 x14 := hr
          refine AW_seq1 ?_
          refine AW_cut (σ := Bool) (fun v => ⟨[(1, .inl (is (U8 a1))), (4, .inr (.inl (4, 0))), (6, .inr (.inl (6, 0))), (97, .inl (is (Bl v)))], [(4, pb 23 [is (U8 a0_0), is (U8 a0_1)]), (6, pb 272 [is (Bl x12), is (I16 x2), is (U64 x13), is (U64 x14)])]⟩) (fun v => some r = F273_5 N a0_0 a0_1 a1 x2 x12 x13 x14 v) ?_ ?_
          · skip
            refine AW_region ?_
            refine AL_cons (LR_fieldAddr (off := 0) (o := 2) (at_tmp 6 _) (fun b w => fa272_2 b 0 w) rfl) (sS (sT1 rfl) sB0 sF0) ?_
            refine AL_cons (LR_fieldAddr (off := 2) (o := 2) (at_tmp 90 _) (fun b w => fa42_0 b 2 w) rfl) (sS (sT1 rfl) sB0 sF0) ?_
            refine AL_cons (LR_load (at_tmp 91 _) na30 rfl rfl) (sS (sT1 rfl) (sB1 rfl) sF0) ?_
            refine AL_cons (LR_fieldAddr (off := 0) (o := 2) (at_tmp 6 _) (fun b w => fa272_2 b 0 w) rfl) (sS (sT1 rfl) sB0 sF0) ?_
            refine AL_cons (LR_fieldAddr (off := 2) (o := 3) (at_tmp 93 _) (fun b w => fa42_1 b 2 w) rfl) (sS (sT1 rfl) sB0 sF0) ?_
            refine AL_cons (LR_load (at_tmp 94 _) na30 rfl rfl) (sS (sT1 rfl) (sB1 rfl) sF0) ?_
            refine AL_cons (LR_bin (at_tmp 92 _) (at_tmp 95 _) (or_U64 x13 x14) rfl) (sS (sA (sT1 rfl) (sT1 rfl)) sB0 sF0) ?_
            refine AL_cons (LR_bin (at_tmp 96 _) (at_c (v' := U64 (0#64)) rfl) (eql_U64 (x13 ||| x14) (0#64)) rfl) (sS (sA (sT1 rfl) sT0) sB0 sF0) ?_
            refine AL_nil ?_
            exact thenN (cutLeaf (v := (x13 ||| x14) == (0#64)) hr (weak0 ((sT rfl (sT rfl (sT rfl (sT rfl sT0))))) (sub_keep (sub_keep sub_nil))))
          · rintro x15 hr
            show AW Hfaa.prog _ _ _ ⟨[(1, .inl (is (U8 a1))), (4, .inr (.inl (4, 0))), (6, .inr (.inl (6, 0))), (97, .inl (is (Bl x15)))], [(4, pb 23 [is (U8 a0_0), is (U8 a0_1)]), (6, pb 272 [is (Bl x12), is (I16 x2), is (U64 x13), is (U64 x14)])]⟩
            have hr : some r = F273_5 N a0_0 a0_1 a1 x2 x12 x13 x14 x15 := hr
            refine AW_condT (b := x15) rfl (fun h => ?_) (fun h => ?_)
            · have hr := hr.trans (cond_t h)
              clear h
              refine AW_seq1 ?_
              refine AW_region ?_
              refine AL_cons (LR_loads (at_tmp 4 _) ag23 sz23 rfl rfl rfl) (sS (sT1 rfl) (sB1 rfl) sF0) ?_
              refine AL_cons (LR_move (at_tmp 1 _) rfl) (sS (sT1 rfl) sB0 sF0) ?_
              refine AL_cons (LR_bin (at_tmp 99 _) (at_c (v' := U8 (4#8)) rfl) (eql_U8 a1 (4#8)) rfl) (sS (sA (sT1 rfl) sT0) sB0 sF0) ?_
              obtain ⟨y11, hy11, hr⟩ := lt_some hr
              refine AL_cons (LR_call Hfaa.func259 rfl rfl (C259 a0_0 a0_1 (a1 == (4#8)) y11 hy11) (all_cons (at_tmp 98 _) (all_cons (at_tmp 100 _) all_nil)) rfl) (sS (sA (sT1 rfl) (sA (sT1 rfl) sT0)) sB0 sF0) ?_
              refine AL_cons (LR_assign (at_tmp 101 _) rfl) (sS (sT1 rfl) sB0 sF0) ?_
              refine AL_cons (LR_assign (at_c (v' := U8 (0#8)) rfl) rfl) (sS sT0 sB0 sF0) ?_
              refine AL_nil ?_
              refine thenN ?_
              refine AW_ret ?_
              refine thenR ?_
              obtain rfl := Option.some.inj hr
              exact res2 rfl (rvT rfl) (rvT rfl)
            · have hr := hr.trans (cond_f h)
              clear h
              refine AW_skip ?_
              refine thenN ?_
              refine AW_cut (σ := BitVec 64 × Int) (fun v => ⟨[(1, .inl (is (U8 a1))), (4, .inr (.inl (4, 0))), (6, .inr (.inl (6, 0))), (12, .inl (is (U64 v.1))), (13, .inl (is (I16 v.2)))], [(4, pb 23 [is (U8 a0_0), is (U8 a0_1)]), (6, pb 272 [is (Bl x12), is (I16 x2), is (U64 x13), is (U64 x14)])]⟩) (fun v => some r = F273_6 N a0_0 a0_1 a1 x2 x12 x13 x14 v.1 v.2) ?_ ?_
              · skip
                refine AW_region ?_
                refine AL_cons (LR_fieldAddr (off := 0) (o := 2) (at_tmp 6 _) (fun b w => fa272_2 b 0 w) rfl) (sS (sT1 rfl) sB0 sF0) ?_
                refine AL_cons (LR_loads (at_tmp 103 _) ag42 sz42 rfl rfl rfl) (sS (sT1 rfl) (sB1 rfl) sF0) ?_
                refine AL_cons (LR_fieldAddr (off := 0) (o := 1) (at_tmp 6 _) (fun b w => fa272_1 b 0 w) rfl) (sS (sT1 rfl) sB0 sF0) ?_
                refine AL_cons (LR_load (at_tmp 105 _) na44 rfl rfl) (sS (sT1 rfl) (sB1 rfl) sF0) ?_
                obtain ⟨y15, hy15, hr⟩ := bind_some hr
                refine AL_cons (LR_call Hfaa.func272 rfl rfl (C272 N x13 x14 x2 y15 hy15) (all_cons (at_tmp 104 _) (all_cons (at_tmp 106 _) all_nil)) rfl) (sS (sA (sT1 rfl) (sA (sT1 rfl) sT0)) sB0 sF0) ?_
                refine AL_cons (LR_move (at_tmp 107 _) rfl) (sS (sT1 rfl) sB0 sF0) ?_
                refine AL_cons (LR_extract (at_tmp 102 _) rfl rfl) (sS (sT1 rfl) sB0 sF0) ?_
                refine AL_cons (LR_extract (at_tmp 102 _) rfl rfl) (sS (sT1 rfl) sB0 sF0) ?_
                refine AL_cons (LR_assign (at_tmp 108 _) rfl) (sS (sT1 rfl) sB0 sF0) ?_
                refine AL_cons (LR_assign (at_tmp 109 _) rfl) (sS (sT1 rfl) sB0 sF0) ?_
                refine AL_nil ?_
                exact thenN (cutLeaf (v := (y15.1, y15.2)) hr (weak0 ((sT rfl (sT rfl (sT rfl (sT rfl (sT rfl sT0)))))) (sub_keep (sub_keep sub_nil))))
              · rintro ⟨x16, x17⟩ hr
                show AW Hfaa.prog _ _ _ ⟨[(1, .inl (is (U8 a1))), (4, .inr (.inl (4, 0))), (6, .inr (.inl (6, 0))), (12, .inl (is (U64 x16))), (13, .inl (is (I16 x17)))], [(4, pb 23 [is (U8 a0_0), is (U8 a0_1)]), (6, pb 272 [is (Bl x12), is (I16 x2), is (U64 x13), is (U64 x14)])]⟩
                have hr : some r = F273_6 N a0_0 a0_1 a1 x2 x12 x13 x14 x16 x17 := hr
                refine AW_seq1 ?_
                refine AW_region ?_
                refine AL_cons (LR_loads (at_tmp 4 _) ag23 sz23 rfl rfl rfl) (sS (sT1 rfl) (sB1 rfl) sF0) ?_
                refine AL_cons (LR_move (at_tmp 1 _) rfl) (sS (sT1 rfl) sB0 sF0) ?_
                refine AL_cons (LR_fieldAddr (off := 0) (o := 0) (at_tmp 6 _) (fun b w => fa272_0 b 0 w) rfl) (sS (sT1 rfl) sB0 sF0) ?_
                refine AL_cons (LR_load (at_tmp 112 _) na4 rfl rfl) (sS (sT1 rfl) (sB1 rfl) sF0) ?_
                refine AL_cons (LR_move (at_tmp 13 _) rfl) (sS (sT1 rfl) sB0 sF0) ?_
                refine AL_cons (LR_move (at_tmp 12 _) rfl) (sS (sT1 rfl) sB0 sF0) ?_
                obtain ⟨y14, hy14, hr⟩ := bind_some hr
                refine AL_cons (LR_call Hfaa.func215 rfl rfl (C215 N a0_0 a0_1 a1 x12 x17 x16 y14 hy14) (all_cons (at_tmp 110 _) (all_cons (at_tmp 111 _) (all_cons (at_tmp 113 _) (all_cons (at_tmp 114 _) (all_cons (at_tmp 115 _) all_nil))))) rfl) (sS (sA (sT1 rfl) (sA (sT1 rfl) (sA (sT1 rfl) (sA (sT1 rfl) (sA (sT1 rfl) sT0))))) sB0 sF0) ?_
                refine AL_cons (LR_extract (at_tmp 116 _) rfl rfl) (sS (sT1 rfl) sB0 sF0) ?_
                refine AL_cons (LR_extract (at_tmp 116 _) rfl rfl) (sS (sT1 rfl) sB0 sF0) ?_
                refine AL_cons (LR_assign (at_tmp 117 _) rfl) (sS (sT1 rfl) sB0 sF0) ?_
                refine AL_cons (LR_assign (at_tmp 118 _) rfl) (sS (sT1 rfl) sB0 sF0) ?_
                refine AL_nil ?_
                refine thenN ?_
                refine AW_ret ?_
                obtain rfl := Option.some.inj hr
                exact res2 rfl (rvT rfl) (rvT rfl)
/-- soft.addFinite -/
def F271_3 (N : Nat) (a0_0 : BitVec 8) (a0_1 : BitVec 8) (a1 : BitVec 8) (a2_0 : Bool) (a2_1 : Int) (a2_2 : Int) (a2_3 : BitVec 64) (a3_0 : Bool) (a3_1 : Int) (a3_2 : Int) (a3_3 : BitVec 64) (x3 : Bool) : Option (BitVec 64 × BitVec 8) := bif x3 then (F215 N a0_0 a0_1 a1 a2_0 a2_2 a2_3).bind fun y12 => some (y12.1, y12.2) else lt (F274 a0_0 a0_1 a2_0 a2_1 a2_2 a2_3) fun y16 => lt (F274 a0_0 a0_1 a3_0 a3_1 a3_2 a3_3) fun y17 => (F273 N a0_0 a0_1 a1 y16.1 y16.2.1 y16.2.2.1 y16.2.2.2 y17.1 y17.2.1 y17.2.2.1 y17.2.2.2).bind fun y18 => some (y18.1, y18.2)
def F271_2 (N : Nat) (a0_0 : BitVec 8) (a0_1 : BitVec 8) (a1 : BitVec 8) (a2_0 : Bool) (a2_1 : Int) (a2_2 : Int) (a2_3 : BitVec 64) (a3_0 : Bool) (a3_1 : Int) (a3_2 : Int) (a3_3 : BitVec 64) (x2 : Bool) : Option (BitVec 64 × BitVec 8) := bif x2 then (F215 N a0_0 a0_1 a1 a3_0 a3_2 a3_3).bind fun y10 => some (y10.1, y10.2) else F271_3 N a0_0 a0_1 a1 a2_0 a2_1 a2_2 a2_3 a3_0 a3_1 a3_2 a3_3 (a3_1 == 0)
def F271_1 (N : Nat) (a0_0 : BitVec 8) (a0_1 : BitVec 8) (a1 : BitVec 8) (a2_0 : Bool) (a2_1 : Int) (a2_2 : Int) (a2_3 : BitVec 64) (a3_0 : Bool) (a3_1 : Int) (a3_2 : Int) (a3_3 : BitVec 64) (x1 : Bool) : Option (BitVec 64 × BitVec 8) := bif x1 then lt (F259 a0_0 a0_1 ((a2_0 && a3_0) || ((a2_0 != a3_0) && (a1 == (4#8))))) fun y8 => some (y8, 0#8) else F271_2 N a0_0 a0_1 a1 a2_0 a2_1 a2_2 a2_3 a3_0 a3_1 a3_2 a3_3 (a2_1 == 0)
def F271 (N : Nat) (a0_0 : BitVec 8) (a0_1 : BitVec 8) (a1 : BitVec 8) (a2_0 : Bool) (a2_1 : Int) (a2_2 : Int) (a2_3 : BitVec 64) (a3_0 : Bool) (a3_1 : Int) (a3_2 : Int) (a3_3 : BitVec 64) : Option (BitVec 64 × BitVec 8) := F271_1 N a0_0 a0_1 a1 a2_0 a2_1 a2_2 a2_3 a3_0 a3_1 a3_2 a3_3 ((a2_1 == 0) && (a3_1 == 0))
theorem C271 (N : Nat) (a0_0 : BitVec 8) (a0_1 : BitVec 8) (a1 : BitVec 8) (a2_0 : Bool) (a2_1 : Int) (a2_2 : Int) (a2_3 : BitVec 64) (a3_0 : Bool) (a3_1 : Int) (a3_2 : Int) (a3_3 : BitVec 64) (r : BitVec 64 × BitVec 8) (hr : some r = F271 N a0_0 a0_1 a1 a2_0 a2_1 a2_2 a2_3 a3_0 a3_1 a3_2 a3_3) : Aw.Fn Hfaa.prog 271 [agg [is (U8 a0_0), is (U8 a0_1)], is (U8 a1), agg [is (Bl a2_0), is (I8 a2_1), is (I16 a2_2), is (U64 a2_3)], agg [is (Bl a3_0), is (I8 a3_1), is (I16 a3_2), is (U64 a3_3)]] (tup [is (U64 r.1), is (U8 r.2)]) := by
  refine fn_intro Hfaa.func271 rfl rfl rfl ?_
  intro bn0 w0 H0
  refine AW_seq1 ?_
  refine AW_region ?_
  refine AL_cons (LR_box (at_tmp 0 _) (cells_agg _) rfl) (sS (sT1 rfl) sB0 (sF1 rfl)) ?_
  refine AL_cons (LR_box (at_tmp 2 _) (cells_agg _) rfl) (sS (sT1 rfl) sB0 (sF1 rfl)) ?_
  refine AL_cons (LR_box (at_tmp 3 _) (cells_agg _) rfl) (sS (sT1 rfl) sB0 (sF1 rfl)) ?_
  refine AL_cons (LR_assign (at_c (v' := U64 (0#64)) rfl) rfl) (sS sT0 sB0 sF0) ?_
  refine AL_cons (LR_assign (at_c (v' := U8 (0#8)) rfl) rfl) (sS sT0 sB0 sF0) ?_
  refine AL_nil ?_
  refine thenN ?_
  refine AW_seq1 ?_
  refine AW_block ?_
  refine AW_cut (σ := Bool) (fun v => ⟨[(1, .inl (is (U8 a1))), (4, .inr (.inl (4, 0))), (6, .inr (.inl (6, 0))), (7, .inr (.inl (7, 0))), (10, .inl (is (Bl v)))], [(4, pb 23 [is (U8 a0_0), is (U8 a0_1)]), (6, pb 112 [is (Bl a2_0), is (I8 a2_1), is (I16 a2_2), is (U64 a2_3)]), (7, pb 112 [is (Bl a3_0), is (I8 a3_1), is (I16 a3_2), is (U64 a3_3)])]⟩) (fun v => some r = F271_1 N a0_0 a0_1 a1 a2_0 a2_1 a2_2 a2_3 a3_0 a3_1 a3_2 a3_3 v) ?_ ?_
  · skip
    refine AW_region ?_
    refine AL_cons (LR_fieldAddr (off := 0) (o := 1) (at_tmp 6 _) (fun b w => fa112_1 b 0 w) rfl) (sS (sT1 rfl) sB0 sF0) ?_
    refine AL_cons (LR_load (at_tmp 11 _) na110 rfl rfl) (sS (sT1 rfl) (sB1 rfl) sF0) ?_
    refine AL_cons (LR_bin (at_tmp 12 _) (at_c (v' := I8 0) rfl) (eql_I8 a2_1 0) rfl) (sS (sA (sT1 rfl) sT0) sB0 sF0) ?_
    refine AL_cons (LR_move (at_tmp 13 _) rfl) (sS (sT1 rfl) sB0 sF0) ?_
    refine AL_cutAt 4 ⟨[(0, .inl (agg [is (U8 a0_0), is (U8 a0_1)])), (1, .inl (is (U8 a1))), (2, .inl (agg [is (Bl a2_0), is (I8 a2_1), is (I16 a2_2), is (U64 a2_3)])), (3, .inl (agg [is (Bl a3_0), is (I8 a3_1), is (I16 a3_2), is (U64 a3_3)])), (4, .inr (.inl (4, 0))), (6, .inr (.inl (6, 0))), (7, .inr (.inl (7, 0))), (8, .inl (is (U64 (0#64)))), (9, .inl (is (U8 (0#8)))), (11, .inr (.inl (6, 1))), (12, .inl (is (I8 a2_1))), (13, .inl (is (Bl (a2_1 == 0)))), (14, .inl (is (Bl (a2_1 == 0)))), (18, .inl (is (Bl ((a2_1 == 0) && (a3_1 == 0)))))], [(4, pb 23 [is (U8 a0_0), is (U8 a0_1)]), (6, pb 112 [is (Bl a2_0), is (I8 a2_1), is (I16 a2_2), is (U64 a2_3)]), (7, pb 112 [is (Bl a3_0), is (I8 a3_1), is (I16 a3_2), is (U64 a3_3)])]⟩ ?_ ?_
    · cases hb : a2_1 == 0
      · skip
        refine AL_cons (LR_off (b := false) rfl rfl rfl rfl) (sS (sT1 rfl) sB0 sF0) ?_
        refine AL_cons (LR_off (b := false) rfl rfl rfl rfl) (sS (sT1 rfl) sB0 sF0) ?_
        refine AL_cons (LR_off (b := false) rfl rfl rfl rfl) (sS (sT1 rfl) sB0 sF0) ?_
        refine AL_cons (LR_pick (b := false) (at_tmp 14 _) (at_tmp 17 _) (at_c (v' := Bl false) rfl) rfl) (sS (sA (sT1 rfl) (sA (sT1 rfl) sT0)) sB0 sF0) ?_
        exact AL_nil ⟨rfl, weak0 ((sT rfl (sT rfl (sT rfl (sT rfl (sT rfl (sT rfl (sT rfl (sT rfl (sT rfl (sT rfl (sT rfl (sT rfl (sT rfl (sT rfl sT0))))))))))))))) (sub_keep (sub_keep (sub_keep sub_nil)))⟩
      · skip
        refine AL_cons (LR_on rfl rfl rfl (LR_fieldAddr (off := 0) (o := 1) (at_tmp 7 _) (fun b w => fa112_1 b 0 w) rfl)) (sS (sT rfl (sT1 rfl)) sB0 sF0) ?_
        refine AL_cons (LR_on rfl rfl rfl (LR_load (at_tmp 15 _) na110 rfl rfl)) (sS (sT rfl (sT1 rfl)) (sB1 rfl) sF0) ?_
        refine AL_cons (LR_on rfl rfl rfl (LR_bin (at_tmp 16 _) (at_c (v' := I8 0) rfl) (eql_I8 a3_1 0) rfl)) (sS (sT rfl (sA (sT1 rfl) sT0)) sB0 sF0) ?_
        refine AL_cons (LR_pick (b := true) (at_tmp 14 _) (at_tmp 17 _) (at_c (v' := Bl false) rfl) rfl) (sS (sA (sT1 rfl) (sA (sT1 rfl) sT0)) sB0 sF0) ?_
        exact AL_nil ⟨rfl, weak0 ((sT rfl (sT rfl (sT rfl (sT rfl (sT rfl (sT rfl (sT rfl (sT rfl (sT rfl (sT rfl (sT rfl (sT rfl (sT rfl (sT rfl sT0))))))))))))))) (sub_keep (sub_keep (sub_keep sub_nil)))⟩
    refine AL_cons (LR_assign (at_tmp 18 _) rfl) (sS (sT1 rfl) sB0 sF0) ?_
    refine AL_nil ?_
    exact thenN (cutLeaf (v := (a2_1 == 0) && (a3_1 == 0)) hr (weak0 ((sT rfl (sT rfl (sT rfl (sT rfl (sT rfl sT0)))))) (sub_keep (sub_keep (sub_keep sub_nil)))))
  · rintro x1 hr
    show AW Hfaa.prog _ _ _ ⟨[(1, .inl (is (U8 a1))), (4, .inr (.inl (4, 0))), (6, .inr (.inl (6, 0))), (7, .inr (.inl (7, 0))), (10, .inl (is (Bl x1)))], [(4, pb 23 [is (U8 a0_0), is (U8 a0_1)]), (6, pb 112 [is (Bl a2_0), is (I8 a2_1), is (I16 a2_2), is (U64 a2_3)]), (7, pb 112 [is (Bl a3_0), is (I8 a3_1), is (I16 a3_2), is (U64 a3_3)])]⟩
    have hr : some r = F271_1 N a0_0 a0_1 a1 a2_0 a2_1 a2_2 a2_3 a3_0 a3_1 a3_2 a3_3 x1 := hr
    refine AW_condT (b := x1) rfl (fun h => ?_) (fun h => ?_)
    · have hr := hr.trans (cond_t h)
      clear h
      refine AW_seq1 ?_
      refine AW_region ?_
      refine AL_cons (LR_loads (at_tmp 4 _) ag23 sz23 rfl rfl rfl) (sS (sT1 rfl) (sB1 rfl) sF0) ?_
      refine AL_cons (LR_fieldAddr (off := 0) (o := 0) (at_tmp 6 _) (fun b w => fa112_0 b 0 w) rfl) (sS (sT1 rfl) sB0 sF0) ?_
      refine AL_cons (LR_load (at_tmp 20 _) na4 rfl rfl) (sS (sT1 rfl) (sB1 rfl) sF0) ?_
      refine AL_cons (LR_move (at_tmp 21 _) rfl) (sS (sT1 rfl) sB0 sF0) ?_
      refine AL_cutAt 3 ⟨[(1, .inl (is (U8 a1))), (4, .inr (.inl (4, 0))), (6, .inr (.inl (6, 0))), (7, .inr (.inl (7, 0))), (10, .inl (is (Bl x1))), (19, .inl (agg [is (U8 a0_0), is (U8 a0_1)])), (20, .inr (.inl (6, 0))), (21, .inl (is (Bl a2_0))), (22, .inl (is (Bl a2_0))), (25, .inl (is (Bl (a2_0 && a3_0))))], [(4, pb 23 [is (U8 a0_0), is (U8 a0_1)]), (6, pb 112 [is (Bl a2_0), is (I8 a2_1), is (I16 a2_2), is (U64 a2_3)]), (7, pb 112 [is (Bl a3_0), is (I8 a3_1), is (I16 a3_2), is (U64 a3_3)])]⟩ ?_ ?_
      · cases hb : a2_0
        · skip
          refine AL_cons (LR_off (b := false) rfl rfl rfl rfl) (sS (sT1 rfl) sB0 sF0) ?_
          refine AL_cons (LR_off (b := false) rfl rfl rfl rfl) (sS (sT1 rfl) sB0 sF0) ?_
          refine AL_cons (LR_pick (b := false) (at_tmp 22 _) (at_tmp 24 _) (at_c (v' := Bl false) rfl) rfl) (sS (sA (sT1 rfl) (sA (sT1 rfl) sT0)) sB0 sF0) ?_
          exact AL_nil ⟨rfl, weak0 ((sT rfl (sT rfl (sT rfl (sT rfl (sT rfl (sT rfl (sT rfl (sT rfl (sT rfl (sT rfl sT0))))))))))) (sub_keep (sub_keep (sub_keep sub_nil)))⟩
        · skip
          refine AL_cons (LR_on rfl rfl rfl (LR_fieldAddr (off := 0) (o := 0) (at_tmp 7 _) (fun b w => fa112_0 b 0 w) rfl)) (sS (sT rfl (sT1 rfl)) sB0 sF0) ?_
          refine AL_cons (LR_on rfl rfl rfl (LR_load (at_tmp 23 _) na4 rfl rfl)) (sS (sT rfl (sT1 rfl)) (sB1 rfl) sF0) ?_
          refine AL_cons (LR_pick (b := true) (at_tmp 22 _) (at_tmp 24 _) (at_c (v' := Bl false) rfl) rfl) (sS (sA (sT1 rfl) (sA (sT1 rfl) sT0)) sB0 sF0) ?_
          exact AL_nil ⟨rfl, weak0 ((sT rfl (sT rfl (sT rfl (sT rfl (sT rfl (sT rfl (sT rfl (sT rfl (sT rfl (sT rfl sT0))))))))))) (sub_keep (sub_keep (sub_keep sub_nil)))⟩
      refine AL_cons (LR_move (at_tmp 25 _) rfl) (sS (sT1 rfl) sB0 sF0) ?_
      refine AL_cutAt 10 ⟨[(1, .inl (is (U8 a1))), (4, .inr (.inl (4, 0))), (6, .inr (.inl (6, 0))), (7, .inr (.inl (7, 0))), (10, .inl (is (Bl x1))), (19, .inl (agg [is (U8 a0_0), is (U8 a0_1)])), (20, .inr (.inl (6, 0))), (21, .inl (is (Bl a2_0))), (22, .inl (is (Bl a2_0))), (25, .inl (is (Bl (a2_0 && a3_0)))), (26, .inl (is (Bl (a2_0 && a3_0)))), (36, .inl (is (Bl ((a2_0 && a3_0) || ((a2_0 != a3_0) && (a1 == (4#8)))))))], [(4, pb 23 [is (U8 a0_0), is (U8 a0_1)]), (6, pb 112 [is (Bl a2_0), is (I8 a2_1), is (I16 a2_2), is (U64 a2_3)]), (7, pb 112 [is (Bl a3_0), is (I8 a3_1), is (I16 a3_2), is (U64 a3_3)])]⟩ ?_ ?_
      · cases hb : a2_0 && a3_0
        · skip
          refine AL_cons (LR_on rfl rfl rfl (LR_fieldAddr (off := 0) (o := 0) (at_tmp 6 _) (fun b w => fa112_0 b 0 w) rfl)) (sS (sT rfl (sT1 rfl)) sB0 sF0) ?_
          refine AL_cons (LR_on rfl rfl rfl (LR_load (at_tmp 27 _) na4 rfl rfl)) (sS (sT rfl (sT1 rfl)) (sB1 rfl) sF0) ?_
          refine AL_cons (LR_on rfl rfl rfl (LR_fieldAddr (off := 0) (o := 0) (at_tmp 7 _) (fun b w => fa112_0 b 0 w) rfl)) (sS (sT rfl (sT1 rfl)) sB0 sF0) ?_
          refine AL_cons (LR_on rfl rfl rfl (LR_load (at_tmp 29 _) na4 rfl rfl)) (sS (sT rfl (sT1 rfl)) (sB1 rfl) sF0) ?_
          refine AL_cons (LR_on rfl rfl rfl (LR_bin (at_tmp 28 _) (at_tmp 30 _) (neq_Bl Hfaa.underlying4 a2_0 a3_0) rfl)) (sS (sT rfl (sA (sT1 rfl) (sT1 rfl))) sB0 sF0) ?_
          refine AL_cons (LR_on rfl rfl rfl (LR_move (at_tmp 31 _) rfl)) (sS (sT rfl (sT1 rfl)) sB0 sF0) ?_
          refine AL_cutAt 3 ⟨[(1, .inl (is (U8 a1))), (4, .inr (.inl (4, 0))), (6, .inr (.inl (6, 0))), (7, .inr (.inl (7, 0))), (10, .inl (is (Bl x1))), (19, .inl (agg [is (U8 a0_0), is (U8 a0_1)])), (20, .inr (.inl (6, 0))), (21, .inl (is (Bl a2_0))), (22, .inl (is (Bl a2_0))), (25, .inl (is (Bl false))), (26, .inl (is (Bl false))), (27, .inr (.inl (6, 0))), (28, .inl (is (Bl a2_0))), (29, .inr (.inl (7, 0))), (30, .inl (is (Bl a3_0))), (31, .inl (is (Bl (a2_0 != a3_0)))), (32, .inl (is (Bl (a2_0 != a3_0)))), (35, .inl (is (Bl ((a2_0 != a3_0) && (a1 == (4#8))))))], [(4, pb 23 [is (U8 a0_0), is (U8 a0_1)]), (6, pb 112 [is (Bl a2_0), is (I8 a2_1), is (I16 a2_2), is (U64 a2_3)]), (7, pb 112 [is (Bl a3_0), is (I8 a3_1), is (I16 a3_2), is (U64 a3_3)])]⟩ ?_ ?_
          · cases hb : a2_0 != a3_0
            · skip
              refine AL_cons (LR_off (b := false) rfl rfl rfl rfl) (sS (sT1 rfl) sB0 sF0) ?_
              refine AL_cons (LR_off (b := false) rfl rfl rfl rfl) (sS (sT1 rfl) sB0 sF0) ?_
              refine AL_cons (LR_on rfl rfl rfl (LR_pick (b := false) (at_tmp 32 _) (at_tmp 34 _) (at_c (v' := Bl false) rfl) rfl)) (sS (sT rfl (sA (sT1 rfl) (sA (sT1 rfl) sT0))) sB0 sF0) ?_
              exact AL_nil ⟨rfl, weak0 ((sT rfl (sT rfl (sT rfl (sT rfl (sT rfl (sT rfl (sT rfl (sT rfl (sT rfl (sT rfl (sT rfl (sT rfl (sT rfl (sT rfl (sT rfl (sT rfl (sT rfl (sT rfl sT0))))))))))))))))))) (sub_keep (sub_keep (sub_keep sub_nil)))⟩
            · skip
              refine AL_cons (LR_on rfl rfl rfl (LR_move (at_tmp 1 _) rfl)) (sS (sT rfl (sT1 rfl)) sB0 sF0) ?_
              refine AL_cons (LR_on rfl rfl rfl (LR_bin (at_tmp 33 _) (at_c (v' := U8 (4#8)) rfl) (eql_U8 a1 (4#8)) rfl)) (sS (sT rfl (sA (sT1 rfl) sT0)) sB0 sF0) ?_
              refine AL_cons (LR_on rfl rfl rfl (LR_pick (b := true) (at_tmp 32 _) (at_tmp 34 _) (at_c (v' := Bl false) rfl) rfl)) (sS (sT rfl (sA (sT1 rfl) (sA (sT1 rfl) sT0))) sB0 sF0) ?_
              exact AL_nil ⟨rfl, weak0 ((sT rfl (sT rfl (sT rfl (sT rfl (sT rfl (sT rfl (sT rfl (sT rfl (sT rfl (sT rfl (sT rfl (sT rfl (sT rfl (sT rfl (sT rfl (sT rfl (sT rfl (sT rfl sT0))))))))))))))))))) (sub_keep (sub_keep (sub_keep sub_nil)))⟩
          refine AL_cons (LR_pick (b := false) (at_tmp 26 _) (at_c (v' := Bl true) rfl) (at_tmp 35 _) rfl) (sS (sA (sT1 rfl) (sA sT0 (sT1 rfl))) sB0 sF0) ?_
          exact AL_nil ⟨rfl, weak0 ((sT rfl (sT rfl (sT rfl (sT rfl (sT rfl (sT rfl (sT rfl (sT rfl (sT rfl (sT rfl (sT rfl (sT rfl sT0))))))))))))) (sub_keep (sub_keep (sub_keep sub_nil)))⟩
        · skip
          refine AL_cons (LR_off (b := true) rfl rfl rfl rfl) (sS (sT1 rfl) sB0 sF0) ?_
          refine AL_cons (LR_off (b := true) rfl rfl rfl rfl) (sS (sT1 rfl) sB0 sF0) ?_
          refine AL_cons (LR_off (b := true) rfl rfl rfl rfl) (sS (sT1 rfl) sB0 sF0) ?_
          refine AL_cons (LR_off (b := true) rfl rfl rfl rfl) (sS (sT1 rfl) sB0 sF0) ?_
          refine AL_cons (LR_off (b := true) rfl rfl rfl rfl) (sS (sT1 rfl) sB0 sF0) ?_
          refine AL_cons (LR_off (b := true) rfl rfl rfl rfl) (sS (sT1 rfl) sB0 sF0) ?_
          refine AL_cons (LR_offU rfl rfl rfl rfl) (sS (sT1 rfl) sB0 sF0) ?_
          refine AL_cons (LR_offU rfl rfl rfl rfl) (sS (sT1 rfl) sB0 sF0) ?_
          refine AL_cons (LR_off (b := true) rfl rfl rfl rfl) (sS (sT1 rfl) sB0 sF0) ?_
          refine AL_cons (LR_pick (b := true) (at_tmp 26 _) (at_c (v' := Bl true) rfl) (at_tmp 35 _) rfl) (sS (sA (sT1 rfl) (sA sT0 (sT1 rfl))) sB0 sF0) ?_
          exact AL_nil ⟨rfl, weak0 ((sT rfl (sT rfl (sT rfl (sT rfl (sT rfl (sT rfl (sT rfl (sT rfl (sT rfl (sT rfl (sT rfl (sT rfl sT0))))))))))))) (sub_keep (sub_keep (sub_keep sub_nil)))⟩
      obtain ⟨y8, hy8, hr⟩ := lt_some hr
      refine AL_cons (LR_call Hfaa.func259 rfl rfl (C259 a0_0 a0_1 ((a2_0 && a3_0) || ((a2_0 != a3_0) && (a1 == (4#8)))) y8 hy8) (all_cons (at_tmp 19 _) (all_cons (at_tmp 36 _) all_nil)) rfl) (sS (sA (sT1 rfl) (sA (sT1 rfl) sT0)) sB0 sF0) ?_
      refine AL_cons (LR_assign (at_tmp 37 _) rfl) (sS (sT1 rfl) sB0 sF0) ?_
      refine AL_cons (LR_assign (at_c (v' := U8 (0#8)) rfl) rfl) (sS sT0 sB0 sF0) ?_
      refine AL_nil ?_
      refine thenN ?_
      refine AW_ret ?_
      refine blR ?_
      refine thenR ?_
      obtain rfl := Option.some.inj hr
      exact res2 rfl (rvT rfl) (rvT rfl)
    · have hr := hr.trans (cond_f h)
      clear h
      refine AW_cut (σ := Bool) (fun v => ⟨[(1, .inl (is (U8 a1))), (4, .inr (.inl (4, 0))), (6, .inr (.inl (6, 0))), (7, .inr (.inl (7, 0))), (38, .inl (is (Bl v)))], [(4, pb 23 [is (U8 a0_0), is (U8 a0_1)]), (6, pb 112 [is (Bl a2_0), is (I8 a2_1), is (I16 a2_2), is (U64 a2_3)]), (7, pb 112 [is (Bl a3_0), is (I8 a3_1), is (I16 a3_2), is (U64 a3_3)])]⟩) (fun v => some r = F271_2 N a0_0 a0_1 a1 a2_0 a2_1 a2_2 a2_3 a3_0 a3_1 a3_2 a3_3 v) ?_ ?_
      · skip
        refine AW_region ?_
        refine AL_cons (LR_fieldAddr (off := 0) (o := 1) (at_tmp 6 _) (fun b w => fa112_1 b 0 w) rfl) (sS (sT1 rfl) sB0 sF0) ?_
        refine AL_cons (LR_load (at_tmp 39 _) na110 rfl rfl) (sS (sT1 rfl) (sB1 rfl) sF0) ?_
        refine AL_cons (LR_bin (at_tmp 40 _) (at_c (v' := I8 0) rfl) (eql_I8 a2_1 0) rfl) (sS (sA (sT1 rfl) sT0) sB0 sF0) ?_
        refine AL_cons (LR_assign (at_tmp 41 _) rfl) (sS (sT1 rfl) sB0 sF0) ?_
        refine AL_nil ?_
        exact thenN (cutLeaf (v := a2_1 == 0) hr (weak0 ((sT rfl (sT rfl (sT rfl (sT rfl (sT rfl sT0)))))) (sub_keep (sub_keep (sub_keep sub_nil)))))
      · rintro x2 hr
        show AW Hfaa.prog _ _ _ ⟨[(1, .inl (is (U8 a1))), (4, .inr (.inl (4, 0))), (6, .inr (.inl (6, 0))), (7, .inr (.inl (7, 0))), (38, .inl (is (Bl x2)))], [(4, pb 23 [is (U8 a0_0), is (U8 a0_1)]), (6, pb 112 [is (Bl a2_0), is (I8 a2_1), is (I16 a2_2), is (U64 a2_3)]), (7, pb 112 [is (Bl a3_0), is (I8 a3_1), is (I16 a3_2), is (U64 a3_3)])]⟩
        have hr : some r = F271_2 N a0_0 a0_1 a1 a2_0 a2_1 a2_2 a2_3 a3_0 a3_1 a3_2 a3_3 x2 := hr
        refine AW_condT (b := x2) rfl (fun h => ?_) (fun h => ?_)
        · have hr := hr.trans (cond_t h)
          clear h
          refine AW_seq1 ?_
          refine AW_region ?_
          refine AL_cons (LR_loads (at_tmp 4 _) ag23 sz23 rfl rfl rfl) (sS (sT1 rfl) (sB1 rfl) sF0) ?_
          refine AL_cons (LR_move (at_tmp 1 _) rfl) (sS (sT1 rfl) sB0 sF0) ?_
          refine AL_cons (LR_fieldAddr (off := 0) (o := 0) (at_tmp 7 _) (fun b w => fa112_0 b 0 w) rfl) (sS (sT1 rfl) sB0 sF0) ?_
          refine AL_cons (LR_load (at_tmp 44 _) na4 rfl rfl) (sS (sT1 rfl) (sB1 rfl) sF0) ?_
          refine AL_cons (LR_fieldAddr (off := 0) (o := 2) (at_tmp 7 _) (fun b w => fa112_2 b 0 w) rfl) (sS (sT1 rfl) sB0 sF0) ?_
          refine AL_cons (LR_load (at_tmp 46 _) na44 rfl rfl) (sS (sT1 rfl) (sB1 rfl) sF0) ?_
          refine AL_cons (LR_fieldAddr (off := 0) (o := 3) (at_tmp 7 _) (fun b w => fa112_3 b 0 w) rfl) (sS (sT1 rfl) sB0 sF0) ?_
          refine AL_cons (LR_load (at_tmp 48 _) na30 rfl rfl) (sS (sT1 rfl) (sB1 rfl) sF0) ?_
          obtain ⟨y10, hy10, hr⟩ := bind_some hr
          refine AL_cons (LR_call Hfaa.func215 rfl rfl (C215 N a0_0 a0_1 a1 a3_0 a3_2 a3_3 y10 hy10) (all_cons (at_tmp 42 _) (all_cons (at_tmp 43 _) (all_cons (at_tmp 45 _) (all_cons (at_tmp 47 _) (all_cons (at_tmp 49 _) all_nil))))) rfl) (sS (sA (sT1 rfl) (sA (sT1 rfl) (sA (sT1 rfl) (sA (sT1 rfl) (sA (sT1 rfl) sT0))))) sB0 sF0) ?_
          refine AL_cons (LR_extract (at_tmp 50 _) rfl rfl) (sS (sT1 rfl) sB0 sF0) ?_
          refine AL_cons (LR_extract (at_tmp 50 _) rfl rfl) (sS (sT1 rfl) sB0 sF0) ?_
          refine AL_cons (LR_assign (at_tmp 51 _) rfl) (sS (sT1 rfl) sB0 sF0) ?_
          refine AL_cons (LR_assign (at_tmp 52 _) rfl) (sS (sT1 rfl) sB0 sF0) ?_
          refine AL_nil ?_
          refine thenN ?_
          refine AW_ret ?_
          refine blR ?_
          refine thenR ?_
          obtain rfl := Option.some.inj hr
          exact res2 rfl (rvT rfl) (rvT rfl)
        · have hr := hr.trans (cond_f h)
          clear h
          refine AW_cut (σ := Bool) (fun v => ⟨[(1, .inl (is (U8 a1))), (4, .inr (.inl (4, 0))), (6, .inr (.inl (6, 0))), (7, .inr (.inl (7, 0))), (53, .inl (is (Bl v)))], [(4, pb 23 [is (U8 a0_0), is (U8 a0_1)]), (6, pb 112 [is (Bl a2_0), is (I8 a2_1), is (I16 a2_2), is (U64 a2_3)]), (7, pb 112 [is (Bl a3_0), is (I8 a3_1), is (I16 a3_2), is (U64 a3_3)])]⟩) (fun v => some r = F271_3 N a0_0 a0_1 a1 a2_0 a2_1 a2_2 a2_3 a3_0 a3_1 a3_2 a3_3 v) ?_ ?_
          · skip
            refine AW_region ?_
            refine AL_cons (LR_fieldAddr (off := 0) (o := 1) (at_tmp 7 _) (fun b w => fa112_1 b 0 w) rfl) (sS (sT1 rfl) sB0 sF0) ?_
            refine AL_cons (LR_load (at_tmp 54 _) na110 rfl rfl) (sS (sT1 rfl) (sB1 rfl) sF0) ?_
            refine AL_cons (LR_bin (at_tmp 55 _) (at_c (v' := I8 0) rfl) (eql_I8 a3_1 0) rfl) (sS (sA (sT1 rfl) sT0) sB0 sF0) ?_
            refine AL_cons (LR_assign (at_tmp 56 _) rfl) (sS (sT1 rfl) sB0 sF0) ?_
            refine AL_nil ?_
            exact thenN (cutLeaf (v := a3_1 == 0) hr (weak0 ((sT rfl (sT rfl (sT rfl (sT rfl (sT rfl sT0)))))) (sub_keep (sub_keep (sub_keep sub_nil)))))
          · rintro x3 hr
            show AW Hfaa.prog _ _ _ ⟨[(1, .inl (is (U8 a1))), (4, .inr (.inl (4, 0))), (6, .inr (.inl (6, 0))), (7, .inr (.inl (7, 0))), (53, .inl (is (Bl x3)))], [(4, pb 23 [is (U8 a0_0), is (U8 a0_1)]), (6, pb 112 [is (Bl a2_0), is (I8 a2_1), is (I16 a2_2), is (U64 a2_3)]), (7, pb 112 [is (Bl a3_0), is (I8 a3_1), is (I16 a3_2), is (U64 a3_3)])]⟩
            have hr : some r = F271_3 N a0_0 a0_1 a1 a2_0 a2_1 a2_2 a2_3 a3_0 a3_1 a3_2 a3_3 x3 := hr
            refine AW_condT (b := x3) rfl (fun h => ?_) (fun h => ?_)
            · have hr := hr.trans (cond_t h)
              clear h
              refine AW_seq1 ?_
              refine AW_region ?_
              refine AL_cons (LR_loads (at_tmp 4 _) ag23 sz23 rfl rfl rfl) (sS (sT1 rfl) (sB1 rfl) sF0) ?_
              refine AL_cons (LR_move (at_tmp 1 _) rfl) (sS (sT1 rfl) sB0 sF0) ?_
              refine AL_cons (LR_fieldAddr (off := 0) (o := 0) (at_tmp 6 _) (fun b w => fa112_0 b 0 w) rfl) (sS (sT1 rfl) sB0 sF0) ?_
              refine AL_cons (LR_load (at_tmp 59 _) na4 rfl rfl) (sS (sT1 rfl) (sB1 rfl) sF0) ?_
              refine AL_cons (LR_fieldAddr (off := 0) (o := 2) (at_tmp 6 _) (fun b w => fa112_2 b 0 w) rfl) (sS (sT1 rfl) sB0 sF0) ?_
              refine AL_cons (LR_load (at_tmp 61 _) na44 rfl rfl) (sS (sT1 rfl) (sB1 rfl) sF0) ?_
              refine AL_cons (LR_fieldAddr (off := 0) (o := 3) (at_tmp 6 _) (fun b w => fa112_3 b 0 w) rfl) (sS (sT1 rfl) sB0 sF0) ?_
              refine AL_cons (LR_load (at_tmp 63 _) na30 rfl rfl) (sS (sT1 rfl) (sB1 rfl) sF0) ?_
              obtain ⟨y12, hy12, hr⟩ := bind_some hr
              refine AL_cons (LR_call Hfaa.func215 rfl rfl (C215 N a0_0 a0_1 a1 a2_0 a2_2 a2_3 y12 hy12) (all_cons (at_tmp 57 _) (all_cons (at_tmp 58 _) (all_cons (at_tmp 60 _) (all_cons (at_tmp 62 _) (all_cons (at_tmp 64 _) all_nil))))) rfl) (sS (sA (sT1 rfl) (sA (sT1 rfl) (sA (sT1 rfl) (sA (sT1 rfl) (sA (sT1 rfl) sT0))))) sB0 sF0) ?_
              refine AL_cons (LR_extract (at_tmp 65 _) rfl rfl) (sS (sT1 rfl) sB0 sF0) ?_
              refine AL_cons (LR_extract (at_tmp 65 _) rfl rfl) (sS (sT1 rfl) sB0 sF0) ?_
              refine AL_cons (LR_assign (at_tmp 66 _) rfl) (sS (sT1 rfl) sB0 sF0) ?_
              refine AL_cons (LR_assign (at_tmp 67 _) rfl) (sS (sT1 rfl) sB0 sF0) ?_
              refine AL_nil ?_
              refine thenN ?_
              refine AW_ret ?_
              refine blR ?_
              refine thenR ?_
              obtain rfl := Option.some.inj hr
              exact res2 rfl (rvT rfl) (rvT rfl)
            · have hr := hr.trans (cond_f h)
              clear h
              refine AW_skip ?_
              refine blN ?_
              refine thenN ?_
              refine AW_seq1 ?_
              obtain ⟨y16, hy16, hr⟩ := lt_some hr
              obtain ⟨y17, hy17, hr⟩ := lt_some hr
              obtain ⟨y18, hy18, hr⟩ := bind_some hr
              refine AW_draw mixed
                (lrC (LR_loads (at_tmp 4 _) ag23 sz23 rfl rfl rfl)
                (lrC (LR_move (at_tmp 1 _) rfl)
                (lrC (LR_loads (at_tmp 4 _) ag23 sz23 rfl rfl rfl)
                (lrC (LR_loads (at_tmp 6 _) ag112 sz112 rfl rfl rfl)
                (lrC (LR_call Hfaa.func274 rfl rfl (C274 a0_0 a0_1 a2_0 a2_1 a2_2 a2_3 y16 hy16) (all_cons (at_tmp 70 _) (all_cons (at_tmp 71 _) all_nil)) rfl)
                (lrC (LR_loads (at_tmp 4 _) ag23 sz23 rfl rfl rfl)
                (lrC (LR_loads (at_tmp 7 _) ag112 sz112 rfl rfl rfl)
                (lrC (LR_call Hfaa.func274 rfl rfl (C274 a0_0 a0_1 a3_0 a3_1 a3_2 a3_3 y17 hy17) (all_cons (at_tmp 73 _) (all_cons (at_tmp 74 _) all_nil)) rfl)
                (lrC (LR_call Hfaa.func273 rfl rfl (C273 N a0_0 a0_1 a1 y16.1 y16.2.1 y16.2.2.1 y16.2.2.2 y17.1 y17.2.1 y17.2.2.1 y17.2.2.2 y18 hy18) (all_cons (at_tmp 68 _) (all_cons (at_tmp 69 _) (all_cons (at_tmp 72 _) (all_cons (at_tmp 75 _) all_nil)))) rfl)
                (lrC (LR_extract (at_tmp 76 _) rfl rfl)
                (lrC (LR_extract (at_tmp 76 _) rfl rfl)
                (lrC (LR_assign (at_tmp 77 _) rfl)
                (lrC (LR_assign (at_tmp 78 _) rfl)
                lrN)))))))))))))
                (by kernel_rfl)
                (saC (sS (sT1 rfl) (sB1 rfl) sF0) (saC (sS (sT1 rfl) sB0 sF0) (saC (sS (sT1 rfl) (sB1 rfl) sF0) (saC (sS (sT1 rfl) (sB1 rfl) sF0) (saC (sS (sA (sT1 rfl) (sA (sT1 rfl) sT0)) sB0 sF0) (saC (sS (sT1 rfl) (sB1 rfl) sF0) (saC (sS (sT1 rfl) (sB1 rfl) sF0) (saC (sS (sA (sT1 rfl) (sA (sT1 rfl) sT0)) sB0 sF0) (saC (sS (sA (sT1 rfl) (sA (sT1 rfl) (sA (sT1 rfl) (sA (sT1 rfl) sT0)))) sB0 sF0) (saC (sS (sT1 rfl) sB0 sF0) (saC (sS (sT1 rfl) sB0 sF0) (saC (sS (sT1 rfl) sB0 sF0) (saC (sS (sT1 rfl) sB0 sF0) saN))))))))))))) ?_
              refine thenN ?_
              refine AW_ret ?_
              obtain rfl := Option.some.inj hr
              exact res2 rfl (rvT rfl) (rvT rfl)
end Go.Proofs.YfwaawGreat
