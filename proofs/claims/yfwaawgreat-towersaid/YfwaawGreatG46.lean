import Derived.Test.YfwaawGreatG1
import Derived.Test.YfwaawGreatG2
import Derived.Test.YfwaawGreatG25
import Derived.Test.YfwaawGreatG31
import Derived.Test.YfwaawGreatG45
namespace Go.Proofs.YfwaawGreat
open Go.Aw
set_option linter.unusedVariables false
set_option maxRecDepth 100000
set_option maxHeartbeats 1000000
/-- soft.Rem -/
def F315_1 (N : Nat) (x1 : BitVec 64) : Option (BitVec 64) := some x1
def F315 (N : Nat) (a0_0 : BitVec 8) (a0_1 : BitVec 8) (a1 : BitVec 64) (a2 : BitVec 64) : Option (BitVec 64) := (F173 N a0_0 a0_1 a1 a2).bind fun y2 => F315_1 N y2.1
theorem C315 (N : Nat) (a0_0 : BitVec 8) (a0_1 : BitVec 8) (a1 : BitVec 64) (a2 : BitVec 64) (r : BitVec 64) (hr : some r = F315 N a0_0 a0_1 a1 a2) : Aw.Fn Hfaa.prog 315 [agg [is (U8 a0_0), is (U8 a0_1)], is (U64 a1), is (U64 a2)] (is (U64 r)) := by
  refine fn_intro Hfaa.func315 rfl rfl rfl ?_
  intro bn0 w0 H0
  refine AW_seq1 ?_
  refine AW_region ?_
  refine AL_cons (LR_box (at_tmp 0 _) (cells_agg _) rfl) (sS (sT1 rfl) sB0 (sF1 rfl)) ?_
  refine AL_cons (LR_assign (at_c (v' := U64 (0#64)) rfl) rfl) (sS sT0 sB0 sF0) ?_
  refine AL_nil ?_
  refine thenN ?_
  refine AW_cut (σ := BitVec 64) (fun v => ⟨[(7, .inl (is (U64 v)))], []⟩) (fun v => some r = F315_1 N v) ?_ ?_
  · skip
    refine AW_region ?_
    refine AL_cons (LR_loads (at_tmp 3 _) ag23 sz23 rfl rfl rfl) (sS (sT1 rfl) (sB1 rfl) sF0) ?_
    refine AL_cons (LR_move (at_tmp 1 _) rfl) (sS (sT1 rfl) sB0 sF0) ?_
    refine AL_cons (LR_move (at_tmp 2 _) rfl) (sS (sT1 rfl) sB0 sF0) ?_
    obtain ⟨y2, hy2, hr⟩ := bind_some hr
    refine AL_cons (LR_call Hfaa.func173 rfl rfl (C173 N a0_0 a0_1 a1 a2 y2 hy2) (all_cons (at_tmp 10 _) (all_cons (at_tmp 11 _) (all_cons (at_tmp 12 _) all_nil))) rfl) (sS (sA (sT1 rfl) (sA (sT1 rfl) (sA (sT1 rfl) sT0))) sB0 sF0) ?_
    refine AL_cons (LR_move (at_tmp 13 _) rfl) (sS (sT1 rfl) sB0 sF0) ?_
    refine AL_cons (LR_extract (at_tmp 9 _) rfl rfl) (sS (sT1 rfl) sB0 sF0) ?_
    refine AL_cons (LR_extract (at_tmp 9 _) rfl rfl) (sS (sT1 rfl) sB0 sF0) ?_
    refine AL_cons (LR_assign (at_tmp 14 _) rfl) (sS (sT1 rfl) sB0 sF0) ?_
    refine AL_cons (LR_assign (at_tmp 15 _) rfl) (sS (sT1 rfl) sB0 sF0) ?_
    refine AL_nil ?_
    exact thenN (cutLeaf (v := y2.1) hr (weak0 ((sT rfl sT0)) (sub_drop sub_nil)))
  · rintro x1 hr
    show AW Hfaa.prog _ _ _ ⟨[(7, .inl (is (U64 x1)))], []⟩
    have hr : some r = F315_1 N x1 := hr
    refine AW_seq1 ?_
    refine AW_region ?_
    refine AL_cons (LR_move (at_tmp 7 _) rfl) (sS (sT1 rfl) sB0 sF0) ?_
    refine AL_cons (LR_assign (at_tmp 16 _) rfl) (sS (sT1 rfl) sB0 sF0) ?_
    refine AL_nil ?_
    refine thenN ?_
    refine AW_ret ?_
    obtain rfl := Option.some.inj hr
    exact res1 rfl (rvT rfl)
/-- soft.RoundIntFlags -/
def F174_9 (N : Nat) (x12 : BitVec 64) (x14 : BitVec 8) : Option (BitVec 64 × BitVec 8) := some (x12, x14)
def F174_10 (N : Nat) (x12 : BitVec 64) (x13 : BitVec 8) (x15 : Bool) : Option (BitVec 64 × BitVec 8) := bif x15 then F174_9 N x12 (x13 ||| (16#8)) else F174_9 N x12 x13
def F174_8 (N : Nat) (x10 : BitVec 64) (x12 : BitVec 64) (x13 : BitVec 8) : Option (BitVec 64 × BitVec 8) := F174_10 N x12 x13 (x10 != (0#64))
def F174_7 (N : Nat) (a0_0 : BitVec 8) (a0_1 : BitVec 8) (a1 : BitVec 8) (x2 : Bool) (x3 : Int) (x4 : Int) (x5 : BitVec 64) (x10 : BitVec 64) (x11 : BitVec 64) : Option (BitVec 64 × BitVec 8) := (F215 N a0_0 a0_1 a1 x2 0 x11).bind fun y25 => F174_8 N x10 y25.1 y25.2
def F174_11 (N : Nat) (a0_0 : BitVec 8) (a0_1 : BitVec 8) (a1 : BitVec 8) (x2 : Bool) (x3 : Int) (x4 : Int) (x5 : BitVec 64) (x9 : BitVec 64) (x10 : BitVec 64) (x16 : Bool) : Option (BitVec 64 × BitVec 8) := bif x16 then F174_7 N a0_0 a0_1 a1 x2 x3 x4 x5 x10 (x9 + (1#64)) else F174_7 N a0_0 a0_1 a1 x2 x3 x4 x5 x10 x9
def F174_6 (N : Nat) (a0_0 : BitVec 8) (a0_1 : BitVec 8) (a1 : BitVec 8) (x2 : Bool) (x3 : Int) (x4 : Int) (x5 : BitVec 64) (x9 : BitVec 64) (x10 : BitVec 64) : Option (BitVec 64 × BitVec 8) := lt (F258 a1 x2 x9 x10) fun y27 => F174_11 N a0_0 a0_1 a1 x2 x3 x4 x5 x9 x10 y27
def F174_5 (N : Nat) (a0_0 : BitVec 8) (a0_1 : BitVec 8) (a1 : BitVec 8) (x2 : Bool) (x3 : Int) (x4 : Int) (x5 : BitVec 64) (x8 : Bool) : Option (BitVec 64 × BitVec 8) := bif x8 then (F215 N a0_0 a0_1 a1 x2 x4 x5).bind fun y20 => some (y20.1, y20.2) else (F257 N x5 (w16 (0 - x4))).bind fun y28 => F174_6 N a0_0 a0_1 a1 x2 x3 x4 x5 y28.1 y28.2
def F174_4 (N : Nat) (a0_0 : BitVec 8) (a0_1 : BitVec 8) (a1 : BitVec 8) (x2 : Bool) (x3 : Int) (x4 : Int) (x5 : BitVec 64) (x7 : Bool) : Option (BitVec 64 × BitVec 8) := bif x7 then lt (F67 a0_0 a0_1 x2) fun y18 => some (y18, 0#8) else F174_5 N a0_0 a0_1 a1 x2 x3 x4 x5 ((x3 == 0) || (decide (x4 ≥ 0)))
def F174_3 (N : Nat) (a0_0 : BitVec 8) (a0_1 : BitVec 8) (a1 : BitVec 8) (a2 : BitVec 64) (x2 : Bool) (x3 : Int) (x4 : Int) (x5 : BitVec 64) (x6 : Bool) : Option (BitVec 64 × BitVec 8) := bif x6 then lt (F66 a0_0 a0_1) fun y15 => lt (F214 a0_0 a0_1 a2 a2) fun y16 => some (y15, y16) else F174_4 N a0_0 a0_1 a1 x2 x3 x4 x5 (x3 == 3)
def F174_2 (N : Nat) (a0_0 : BitVec 8) (a0_1 : BitVec 8) (a1 : BitVec 8) (a2 : BitVec 64) (x2 : Bool) (x3 : Int) (x4 : Int) (x5 : BitVec 64) : Option (BitVec 64 × BitVec 8) := F174_3 N a0_0 a0_1 a1 a2 x2 x3 x4 x5 (x3 == 4)
def F174_1 (N : Nat) (a0_0 : BitVec 8) (a0_1 : BitVec 8) (a1 : BitVec 8) (a2 : BitVec 64) (x1 : Bool) : Option (BitVec 64 × BitVec 8) := bif x1 then some (0#64, 0#8) else lt (F65 a0_0 a0_1 a2) fun y29 => F174_2 N a0_0 a0_1 a1 a2 y29.1 y29.2.1 y29.2.2.1 y29.2.2.2
def F174 (N : Nat) (a0_0 : BitVec 8) (a0_1 : BitVec 8) (a1 : BitVec 8) (a2 : BitVec 64) : Option (BitVec 64 × BitVec 8) := lt (F40 a0_0 a0_1) fun y30 => F174_1 N a0_0 a0_1 a1 a2 (!y30)
theorem C174 (N : Nat) (a0_0 : BitVec 8) (a0_1 : BitVec 8) (a1 : BitVec 8) (a2 : BitVec 64) (r : BitVec 64 × BitVec 8) (hr : some r = F174 N a0_0 a0_1 a1 a2) : Aw.Fn Hfaa.prog 174 [agg [is (U8 a0_0), is (U8 a0_1)], is (U8 a1), is (U64 a2)] (tup [is (U64 r.1), is (U8 r.2)]) := by
  refine fn_intro Hfaa.func174 rfl rfl rfl ?_
  intro bn0 w0 H0
  refine AW_seq1 ?_
  refine AW_region ?_
  refine AL_cons (LR_box (at_tmp 0 _) (cells_agg _) rfl) (sS (sT1 rfl) sB0 (sF1 rfl)) ?_
  refine AL_cons (LR_assign (at_c (v' := U64 (0#64)) rfl) rfl) (sS sT0 sB0 sF0) ?_
  refine AL_cons (LR_assign (at_c (v' := U8 (0#8)) rfl) rfl) (sS sT0 sB0 sF0) ?_
  refine AL_nil ?_
  refine thenN ?_
  refine AW_seq1 ?_
  refine AW_cut (σ := Bool) (fun v => ⟨[(1, .inl (is (U8 a1))), (2, .inl (is (U64 a2))), (3, .inr (.inl (3, 0))), (15, .inl (is (Bl v)))], [(3, pb 23 [is (U8 a0_0), is (U8 a0_1)])]⟩) (fun v => some r = F174_1 N a0_0 a0_1 a1 a2 v) ?_ ?_
  · skip
    refine AW_region ?_
    refine AL_cons (LR_loads (at_tmp 3 _) ag23 sz23 rfl rfl rfl) (sS (sT1 rfl) (sB1 rfl) sF0) ?_
    obtain ⟨y30, hy30, hr⟩ := lt_some hr
    refine AL_cons (LR_call Hfaa.func40 rfl rfl (C40 a0_0 a0_1 y30 hy30) (all_cons (at_tmp 13 _) all_nil) rfl) (sS (sA (sT1 rfl) sT0) sB0 sF0) ?_
    refine AL_cons (LR_un (at_tmp 14 _) (not_Bl y30) rfl) (sS (sT1 rfl) sB0 sF0) ?_
    refine AL_nil ?_
    exact thenN (cutLeaf (v := !y30) hr (weak0 ((sT rfl (sT rfl (sT rfl (sT rfl sT0))))) (sub_keep sub_nil)))
  · rintro x1 hr
    show AW Hfaa.prog _ _ _ ⟨[(1, .inl (is (U8 a1))), (2, .inl (is (U64 a2))), (3, .inr (.inl (3, 0))), (15, .inl (is (Bl x1)))], [(3, pb 23 [is (U8 a0_0), is (U8 a0_1)])]⟩
    have hr : some r = F174_1 N a0_0 a0_1 a1 a2 x1 := hr
    refine AW_condT (b := x1) rfl (fun h => ?_) (fun h => ?_)
    · have hr := hr.trans (cond_t h)
      clear h
      refine AW_seq1 ?_
      refine AW_region ?_
      refine AL_cons (LR_assign (at_c (v' := U64 (0#64)) rfl) rfl) (sS sT0 sB0 sF0) ?_
      refine AL_cons (LR_assign (at_c (v' := U8 (0#8)) rfl) rfl) (sS sT0 sB0 sF0) ?_
      refine AL_nil ?_
      refine thenN ?_
      refine AW_ret ?_
      refine thenR ?_
      obtain rfl := Option.some.inj hr
      exact res2 rfl (rvT rfl) (rvT rfl)
    · have hr := hr.trans (cond_f h)
      clear h
      refine AW_skip ?_
      refine thenN ?_
      refine AW_cut (σ := Bool × Int × Int × BitVec 64) (fun v => ⟨[(1, .inl (is (U8 a1))), (2, .inl (is (U64 a2))), (3, .inr (.inl (3, 0))), (8, .inr (.inl (8, 0)))], [(3, pb 23 [is (U8 a0_0), is (U8 a0_1)]), (8, pb 112 [is (Bl v.1), is (I8 v.2.1), is (I16 v.2.2.1), is (U64 v.2.2.2)])]⟩) (fun v => some r = F174_2 N a0_0 a0_1 a1 a2 v.1 v.2.1 v.2.2.1 v.2.2.2) ?_ ?_
      · skip
        refine AW_region ?_
        refine AL_cons (LR_loads (at_tmp 3 _) ag23 sz23 rfl rfl rfl) (sS (sT1 rfl) (sB1 rfl) sF0) ?_
        refine AL_cons (LR_move (at_tmp 2 _) rfl) (sS (sT1 rfl) sB0 sF0) ?_
        obtain ⟨y29, hy29, hr⟩ := lt_some hr
        refine AL_cons (LR_call Hfaa.func65 rfl rfl (C65 a0_0 a0_1 a2 y29 hy29) (all_cons (at_tmp 16 _) (all_cons (at_tmp 17 _) all_nil)) rfl) (sS (sA (sT1 rfl) (sA (sT1 rfl) sT0)) sB0 sF0) ?_
        refine AL_cons (zl112 rfl) (sS sT0 sB0 (sF1 rfl)) ?_
        refine AL_cons (LR_store (at_tmp 8 _) (at_tmp 18 _) (cells_agg _) (onC (one_is rfl) (onC (one_is rfl) (onC (one_is rfl) (onC (one_is rfl) onN)))) sz112 rfl rfl) (sS (sA (sT1 rfl) (sT1 rfl)) (sB1 rfl) sF0) ?_
        refine AL_nil ?_
        exact thenN (cutLeaf (v := (y29.1, y29.2.1, y29.2.2.1, y29.2.2.2)) hr (weak0 ((sT rfl (sT rfl (sT rfl (sT rfl sT0))))) (sub_keep (sub_keep sub_nil))))
      · rintro ⟨x2, x3, x4, x5⟩ hr
        show AW Hfaa.prog _ _ _ ⟨[(1, .inl (is (U8 a1))), (2, .inl (is (U64 a2))), (3, .inr (.inl (3, 0))), (8, .inr (.inl (8, 0)))], [(3, pb 23 [is (U8 a0_0), is (U8 a0_1)]), (8, pb 112 [is (Bl x2), is (I8 x3), is (I16 x4), is (U64 x5)])]⟩
        have hr : some r = F174_2 N a0_0 a0_1 a1 a2 x2 x3 x4 x5 := hr
        refine AW_seq1 ?_
        refine AW_block ?_
        refine AW_cut (σ := Bool) (fun v => ⟨[(1, .inl (is (U8 a1))), (2, .inl (is (U64 a2))), (3, .inr (.inl (3, 0))), (8, .inr (.inl (8, 0))), (19, .inl (is (Bl v)))], [(3, pb 23 [is (U8 a0_0), is (U8 a0_1)]), (8, pb 112 [is (Bl x2), is (I8 x3), is (I16 x4), is (U64 x5)])]⟩) (fun v => some r = F174_3 N a0_0 a0_1 a1 a2 x2 x3 x4 x5 v) ?_ ?_
        · skip
          refine AW_region ?_
          refine AL_cons (LR_fieldAddr (off := 0) (o := 1) (at_tmp 8 _) (fun b w => fa112_1 b 0 w) rfl) (sS (sT1 rfl) sB0 sF0) ?_
          refine AL_cons (LR_load (at_tmp 20 _) na110 rfl rfl) (sS (sT1 rfl) (sB1 rfl) sF0) ?_
          refine AL_cons (LR_bin (at_tmp 21 _) (at_c (v' := I8 4) rfl) (eql_I8 x3 4) rfl) (sS (sA (sT1 rfl) sT0) sB0 sF0) ?_
          refine AL_cons (LR_assign (at_tmp 22 _) rfl) (sS (sT1 rfl) sB0 sF0) ?_
          refine AL_nil ?_
          exact thenN (cutLeaf (v := x3 == 4) hr (weak0 ((sT rfl (sT rfl (sT rfl (sT rfl (sT rfl sT0)))))) (sub_keep (sub_keep sub_nil))))
        · rintro x6 hr
          show AW Hfaa.prog _ _ _ ⟨[(1, .inl (is (U8 a1))), (2, .inl (is (U64 a2))), (3, .inr (.inl (3, 0))), (8, .inr (.inl (8, 0))), (19, .inl (is (Bl x6)))], [(3, pb 23 [is (U8 a0_0), is (U8 a0_1)]), (8, pb 112 [is (Bl x2), is (I8 x3), is (I16 x4), is (U64 x5)])]⟩
          have hr : some r = F174_3 N a0_0 a0_1 a1 a2 x2 x3 x4 x5 x6 := hr
          refine AW_condT (b := x6) rfl (fun h => ?_) (fun h => ?_)
          · have hr := hr.trans (cond_t h)
            clear h
            refine AW_seq1 ?_
            obtain ⟨y15, hy15, hr⟩ := lt_some hr
            obtain ⟨y16, hy16, hr⟩ := lt_some hr
            refine AW_draw mixed
              (lrC (LR_loads (at_tmp 3 _) ag23 sz23 rfl rfl rfl)
              (lrC (LR_call Hfaa.func66 rfl rfl (C66 a0_0 a0_1 y15 hy15) (all_cons (at_tmp 23 _) all_nil) rfl)
              (lrC (LR_loads (at_tmp 3 _) ag23 sz23 rfl rfl rfl)
              (lrC (LR_move (at_tmp 2 _) rfl)
              (lrC (LR_move (at_tmp 2 _) rfl)
              (lrC (LR_call Hfaa.func214 rfl rfl (C214 a0_0 a0_1 a2 a2 y16 hy16) (all_cons (at_tmp 25 _) (all_cons (at_tmp 26 _) (all_cons (at_tmp 27 _) all_nil))) rfl)
              (lrC (LR_assign (at_tmp 24 _) rfl)
              (lrC (LR_assign (at_tmp 28 _) rfl)
              lrN))))))))
              (by kernel_rfl)
              (saC (sS (sT1 rfl) (sB1 rfl) sF0) (saC (sS (sA (sT1 rfl) sT0) sB0 sF0) (saC (sS (sT1 rfl) (sB1 rfl) sF0) (saC (sS (sT1 rfl) sB0 sF0) (saC (sS (sT1 rfl) sB0 sF0) (saC (sS (sA (sT1 rfl) (sA (sT1 rfl) (sA (sT1 rfl) sT0))) sB0 sF0) (saC (sS (sT1 rfl) sB0 sF0) (saC (sS (sT1 rfl) sB0 sF0) saN)))))))) ?_
            refine thenN ?_
            refine AW_ret ?_
            refine blR ?_
            refine thenR ?_
            obtain rfl := Option.some.inj hr
            exact res2 rfl (rvT rfl) (rvT rfl)
          · have hr := hr.trans (cond_f h)
            clear h
            refine AW_cut (σ := Bool) (fun v => ⟨[(1, .inl (is (U8 a1))), (3, .inr (.inl (3, 0))), (8, .inr (.inl (8, 0))), (29, .inl (is (Bl v)))], [(3, pb 23 [is (U8 a0_0), is (U8 a0_1)]), (8, pb 112 [is (Bl x2), is (I8 x3), is (I16 x4), is (U64 x5)])]⟩) (fun v => some r = F174_4 N a0_0 a0_1 a1 x2 x3 x4 x5 v) ?_ ?_
            · skip
              refine AW_region ?_
              refine AL_cons (LR_fieldAddr (off := 0) (o := 1) (at_tmp 8 _) (fun b w => fa112_1 b 0 w) rfl) (sS (sT1 rfl) sB0 sF0) ?_
              refine AL_cons (LR_load (at_tmp 30 _) na110 rfl rfl) (sS (sT1 rfl) (sB1 rfl) sF0) ?_
              refine AL_cons (LR_bin (at_tmp 31 _) (at_c (v' := I8 3) rfl) (eql_I8 x3 3) rfl) (sS (sA (sT1 rfl) sT0) sB0 sF0) ?_
              refine AL_cons (LR_assign (at_tmp 32 _) rfl) (sS (sT1 rfl) sB0 sF0) ?_
              refine AL_nil ?_
              exact thenN (cutLeaf (v := x3 == 3) hr (weak0 ((sT rfl (sT rfl (sT rfl (sT rfl sT0))))) (sub_keep (sub_keep sub_nil))))
            · rintro x7 hr
              show AW Hfaa.prog _ _ _ ⟨[(1, .inl (is (U8 a1))), (3, .inr (.inl (3, 0))), (8, .inr (.inl (8, 0))), (29, .inl (is (Bl x7)))], [(3, pb 23 [is (U8 a0_0), is (U8 a0_1)]), (8, pb 112 [is (Bl x2), is (I8 x3), is (I16 x4), is (U64 x5)])]⟩
              have hr : some r = F174_4 N a0_0 a0_1 a1 x2 x3 x4 x5 x7 := hr
              refine AW_condT (b := x7) rfl (fun h => ?_) (fun h => ?_)
              · have hr := hr.trans (cond_t h)
                clear h
                refine AW_seq1 ?_
                refine AW_region ?_
                refine AL_cons (LR_loads (at_tmp 3 _) ag23 sz23 rfl rfl rfl) (sS (sT1 rfl) (sB1 rfl) sF0) ?_
                refine AL_cons (LR_fieldAddr (off := 0) (o := 0) (at_tmp 8 _) (fun b w => fa112_0 b 0 w) rfl) (sS (sT1 rfl) sB0 sF0) ?_
                refine AL_cons (LR_load (at_tmp 34 _) na4 rfl rfl) (sS (sT1 rfl) (sB1 rfl) sF0) ?_
                obtain ⟨y18, hy18, hr⟩ := lt_some hr
                refine AL_cons (LR_call Hfaa.func67 rfl rfl (C67 a0_0 a0_1 x2 y18 hy18) (all_cons (at_tmp 33 _) (all_cons (at_tmp 35 _) all_nil)) rfl) (sS (sA (sT1 rfl) (sA (sT1 rfl) sT0)) sB0 sF0) ?_
                refine AL_cons (LR_assign (at_tmp 36 _) rfl) (sS (sT1 rfl) sB0 sF0) ?_
                refine AL_cons (LR_assign (at_c (v' := U8 (0#8)) rfl) rfl) (sS sT0 sB0 sF0) ?_
                refine AL_nil ?_
                refine thenN ?_
                refine AW_ret ?_
                refine blR ?_
                refine thenR ?_
                obtain rfl := Option.some.inj hr
                exact res2 rfl (rvT rfl) (rvT rfl)
              · have hr := hr.trans (cond_f h)
                clear h
                refine AW_cut (σ := Bool) (fun v => ⟨[(1, .inl (is (U8 a1))), (3, .inr (.inl (3, 0))), (8, .inr (.inl (8, 0))), (37, .inl (is (Bl v)))], [(3, pb 23 [is (U8 a0_0), is (U8 a0_1)]), (8, pb 112 [is (Bl x2), is (I8 x3), is (I16 x4), is (U64 x5)])]⟩) (fun v => some r = F174_5 N a0_0 a0_1 a1 x2 x3 x4 x5 v) ?_ ?_
                · skip
                  refine AW_region ?_
                  refine AL_cons (LR_fieldAddr (off := 0) (o := 1) (at_tmp 8 _) (fun b w => fa112_1 b 0 w) rfl) (sS (sT1 rfl) sB0 sF0) ?_
                  refine AL_cons (LR_load (at_tmp 38 _) na110 rfl rfl) (sS (sT1 rfl) (sB1 rfl) sF0) ?_
                  refine AL_cons (LR_bin (at_tmp 39 _) (at_c (v' := I8 0) rfl) (eql_I8 x3 0) rfl) (sS (sA (sT1 rfl) sT0) sB0 sF0) ?_
                  refine AL_cons (LR_move (at_tmp 40 _) rfl) (sS (sT1 rfl) sB0 sF0) ?_
                  refine AL_cutAt 4 ⟨[(1, .inl (is (U8 a1))), (3, .inr (.inl (3, 0))), (8, .inr (.inl (8, 0))), (29, .inl (is (Bl x7))), (38, .inr (.inl (8, 1))), (39, .inl (is (I8 x3))), (40, .inl (is (Bl (x3 == 0)))), (41, .inl (is (Bl (x3 == 0)))), (45, .inl (is (Bl ((x3 == 0) || (decide (x4 ≥ 0))))))], [(3, pb 23 [is (U8 a0_0), is (U8 a0_1)]), (8, pb 112 [is (Bl x2), is (I8 x3), is (I16 x4), is (U64 x5)])]⟩ ?_ ?_
                  · cases hb : x3 == 0
                    · skip
                      refine AL_cons (LR_on rfl rfl rfl (LR_fieldAddr (off := 0) (o := 2) (at_tmp 8 _) (fun b w => fa112_2 b 0 w) rfl)) (sS (sT rfl (sT1 rfl)) sB0 sF0) ?_
                      refine AL_cons (LR_on rfl rfl rfl (LR_load (at_tmp 42 _) na44 rfl rfl)) (sS (sT rfl (sT1 rfl)) (sB1 rfl) sF0) ?_
                      refine AL_cons (LR_on rfl rfl rfl (LR_bin (at_tmp 43 _) (at_c (v' := I16 0) rfl) (geq_I16 x4 0) rfl)) (sS (sT rfl (sA (sT1 rfl) sT0)) sB0 sF0) ?_
                      refine AL_cons (LR_pick (b := false) (at_tmp 41 _) (at_c (v' := Bl true) rfl) (at_tmp 44 _) rfl) (sS (sA (sT1 rfl) (sA sT0 (sT1 rfl))) sB0 sF0) ?_
                      exact AL_nil ⟨rfl, weak0 ((sT rfl (sT rfl (sT rfl (sT rfl (sT rfl (sT rfl (sT rfl (sT rfl (sT rfl sT0)))))))))) (sub_keep (sub_keep sub_nil))⟩
                    · skip
                      refine AL_cons (LR_off (b := true) rfl rfl rfl rfl) (sS (sT1 rfl) sB0 sF0) ?_
                      refine AL_cons (LR_off (b := true) rfl rfl rfl rfl) (sS (sT1 rfl) sB0 sF0) ?_
                      refine AL_cons (LR_off (b := true) rfl rfl rfl rfl) (sS (sT1 rfl) sB0 sF0) ?_
                      refine AL_cons (LR_pick (b := true) (at_tmp 41 _) (at_c (v' := Bl true) rfl) (at_tmp 44 _) rfl) (sS (sA (sT1 rfl) (sA sT0 (sT1 rfl))) sB0 sF0) ?_
                      exact AL_nil ⟨rfl, weak0 ((sT rfl (sT rfl (sT rfl (sT rfl (sT rfl (sT rfl (sT rfl (sT rfl (sT rfl sT0)))))))))) (sub_keep (sub_keep sub_nil))⟩
                  refine AL_cons (LR_assign (at_tmp 45 _) rfl) (sS (sT1 rfl) sB0 sF0) ?_
                  refine AL_nil ?_
                  exact thenN (cutLeaf (v := (x3 == 0) || (decide (x4 ≥ 0))) hr (weak0 ((sT rfl (sT rfl (sT rfl (sT rfl sT0))))) (sub_keep (sub_keep sub_nil))))
                · rintro x8 hr
                  show AW Hfaa.prog _ _ _ ⟨[(1, .inl (is (U8 a1))), (3, .inr (.inl (3, 0))), (8, .inr (.inl (8, 0))), (37, .inl (is (Bl x8)))], [(3, pb 23 [is (U8 a0_0), is (U8 a0_1)]), (8, pb 112 [is (Bl x2), is (I8 x3), is (I16 x4), is (U64 x5)])]⟩
                  have hr : some r = F174_5 N a0_0 a0_1 a1 x2 x3 x4 x5 x8 := hr
                  refine AW_condT (b := x8) rfl (fun h => ?_) (fun h => ?_)
                  · have hr := hr.trans (cond_t h)
                    clear h
                    refine AW_seq1 ?_
                    refine AW_region ?_
                    refine AL_cons (LR_loads (at_tmp 3 _) ag23 sz23 rfl rfl rfl) (sS (sT1 rfl) (sB1 rfl) sF0) ?_
                    refine AL_cons (LR_move (at_tmp 1 _) rfl) (sS (sT1 rfl) sB0 sF0) ?_
                    refine AL_cons (LR_fieldAddr (off := 0) (o := 0) (at_tmp 8 _) (fun b w => fa112_0 b 0 w) rfl) (sS (sT1 rfl) sB0 sF0) ?_
                    refine AL_cons (LR_load (at_tmp 48 _) na4 rfl rfl) (sS (sT1 rfl) (sB1 rfl) sF0) ?_
                    refine AL_cons (LR_fieldAddr (off := 0) (o := 2) (at_tmp 8 _) (fun b w => fa112_2 b 0 w) rfl) (sS (sT1 rfl) sB0 sF0) ?_
                    refine AL_cons (LR_load (at_tmp 50 _) na44 rfl rfl) (sS (sT1 rfl) (sB1 rfl) sF0) ?_
                    refine AL_cons (LR_fieldAddr (off := 0) (o := 3) (at_tmp 8 _) (fun b w => fa112_3 b 0 w) rfl) (sS (sT1 rfl) sB0 sF0) ?_
                    refine AL_cons (LR_load (at_tmp 52 _) na30 rfl rfl) (sS (sT1 rfl) (sB1 rfl) sF0) ?_
                    obtain ⟨y20, hy20, hr⟩ := bind_some hr
                    refine AL_cons (LR_call Hfaa.func215 rfl rfl (C215 N a0_0 a0_1 a1 x2 x4 x5 y20 hy20) (all_cons (at_tmp 46 _) (all_cons (at_tmp 47 _) (all_cons (at_tmp 49 _) (all_cons (at_tmp 51 _) (all_cons (at_tmp 53 _) all_nil))))) rfl) (sS (sA (sT1 rfl) (sA (sT1 rfl) (sA (sT1 rfl) (sA (sT1 rfl) (sA (sT1 rfl) sT0))))) sB0 sF0) ?_
                    refine AL_cons (LR_extract (at_tmp 54 _) rfl rfl) (sS (sT1 rfl) sB0 sF0) ?_
                    refine AL_cons (LR_extract (at_tmp 54 _) rfl rfl) (sS (sT1 rfl) sB0 sF0) ?_
                    refine AL_cons (LR_assign (at_tmp 55 _) rfl) (sS (sT1 rfl) sB0 sF0) ?_
                    refine AL_cons (LR_assign (at_tmp 56 _) rfl) (sS (sT1 rfl) sB0 sF0) ?_
                    refine AL_nil ?_
                    refine thenN ?_
                    refine AW_ret ?_
                    refine blR ?_
                    refine thenR ?_
                    obtain rfl := Option.some.inj hr
                    exact res2 rfl (rvT rfl) (rvT rfl)
                  · have hr := hr.trans (cond_f h)
                    clear h
                    refine AW_skip ?_
                    refine blN ?_
                    refine thenN ?_
                    refine AW_cut (σ := BitVec 64 × BitVec 64) (fun v => ⟨[(1, .inl (is (U8 a1))), (3, .inr (.inl (3, 0))), (8, .inr (.inl (8, 0))), (9, .inl (is (U64 v.1))), (10, .inl (is (U64 v.2)))], [(3, pb 23 [is (U8 a0_0), is (U8 a0_1)]), (8, pb 112 [is (Bl x2), is (I8 x3), is (I16 x4), is (U64 x5)])]⟩) (fun v => some r = F174_6 N a0_0 a0_1 a1 x2 x3 x4 x5 v.1 v.2) ?_ ?_
                    · skip
                      refine AW_region ?_
                      refine AL_cons (LR_fieldAddr (off := 0) (o := 3) (at_tmp 8 _) (fun b w => fa112_3 b 0 w) rfl) (sS (sT1 rfl) sB0 sF0) ?_
                      refine AL_cons (LR_load (at_tmp 58 _) na30 rfl rfl) (sS (sT1 rfl) (sB1 rfl) sF0) ?_
                      refine AL_cons (LR_fieldAddr (off := 0) (o := 2) (at_tmp 8 _) (fun b w => fa112_2 b 0 w) rfl) (sS (sT1 rfl) sB0 sF0) ?_
                      refine AL_cons (LR_load (at_tmp 60 _) na44 rfl rfl) (sS (sT1 rfl) (sB1 rfl) sF0) ?_
                      refine AL_cons (LR_un (at_tmp 61 _) (neg_I16 x4) rfl) (sS (sT1 rfl) sB0 sF0) ?_
                      obtain ⟨y28, hy28, hr⟩ := bind_some hr
                      refine AL_cons (LR_call Hfaa.func257 rfl rfl (C257 N x5 (w16 (0 - x4)) y28 hy28) (all_cons (at_tmp 59 _) (all_cons (at_tmp 62 _) all_nil)) rfl) (sS (sA (sT1 rfl) (sA (sT1 rfl) sT0)) sB0 sF0) ?_
                      refine AL_cons (LR_move (at_tmp 63 _) rfl) (sS (sT1 rfl) sB0 sF0) ?_
                      refine AL_cons (LR_extract (at_tmp 57 _) rfl rfl) (sS (sT1 rfl) sB0 sF0) ?_
                      refine AL_cons (LR_extract (at_tmp 57 _) rfl rfl) (sS (sT1 rfl) sB0 sF0) ?_
                      refine AL_cons (LR_assign (at_tmp 64 _) rfl) (sS (sT1 rfl) sB0 sF0) ?_
                      refine AL_cons (LR_assign (at_tmp 65 _) rfl) (sS (sT1 rfl) sB0 sF0) ?_
                      refine AL_nil ?_
                      exact thenN (cutLeaf (v := (y28.1, y28.2)) hr (weak0 ((sT rfl (sT rfl (sT rfl (sT rfl (sT rfl sT0)))))) (sub_keep (sub_keep sub_nil))))
                    · rintro ⟨x9, x10⟩ hr
                      show AW Hfaa.prog _ _ _ ⟨[(1, .inl (is (U8 a1))), (3, .inr (.inl (3, 0))), (8, .inr (.inl (8, 0))), (9, .inl (is (U64 x9))), (10, .inl (is (U64 x10)))], [(3, pb 23 [is (U8 a0_0), is (U8 a0_1)]), (8, pb 112 [is (Bl x2), is (I8 x3), is (I16 x4), is (U64 x5)])]⟩
                      have hr : some r = F174_6 N a0_0 a0_1 a1 x2 x3 x4 x5 x9 x10 := hr
                      refine AW_cut (σ := BitVec 64) (fun v => ⟨[(1, .inl (is (U8 a1))), (3, .inr (.inl (3, 0))), (8, .inr (.inl (8, 0))), (9, .inl (is (U64 v))), (10, .inl (is (U64 x10)))], [(3, pb 23 [is (U8 a0_0), is (U8 a0_1)]), (8, pb 112 [is (Bl x2), is (I8 x3), is (I16 x4), is (U64 x5)])]⟩) (fun v => some r = F174_7 N a0_0 a0_1 a1 x2 x3 x4 x5 x10 v) ?_ ?_
                      · skip
                        refine AW_cut (σ := Bool) (fun v => ⟨[(1, .inl (is (U8 a1))), (3, .inr (.inl (3, 0))), (8, .inr (.inl (8, 0))), (9, .inl (is (U64 x9))), (10, .inl (is (U64 x10))), (71, .inl (is (Bl v)))], [(3, pb 23 [is (U8 a0_0), is (U8 a0_1)]), (8, pb 112 [is (Bl x2), is (I8 x3), is (I16 x4), is (U64 x5)])]⟩) (fun v => some r = F174_11 N a0_0 a0_1 a1 x2 x3 x4 x5 x9 x10 v) ?_ ?_
                        · skip
                          refine AW_region ?_
                          refine AL_cons (LR_move (at_tmp 1 _) rfl) (sS (sT1 rfl) sB0 sF0) ?_
                          refine AL_cons (LR_fieldAddr (off := 0) (o := 0) (at_tmp 8 _) (fun b w => fa112_0 b 0 w) rfl) (sS (sT1 rfl) sB0 sF0) ?_
                          refine AL_cons (LR_load (at_tmp 67 _) na4 rfl rfl) (sS (sT1 rfl) (sB1 rfl) sF0) ?_
                          refine AL_cons (LR_move (at_tmp 9 _) rfl) (sS (sT1 rfl) sB0 sF0) ?_
                          refine AL_cons (LR_move (at_tmp 10 _) rfl) (sS (sT1 rfl) sB0 sF0) ?_
                          obtain ⟨y27, hy27, hr⟩ := lt_some hr
                          refine AL_cons (LR_call Hfaa.func258 rfl rfl (C258 a1 x2 x9 x10 y27 hy27) (all_cons (at_tmp 66 _) (all_cons (at_tmp 68 _) (all_cons (at_tmp 69 _) (all_cons (at_tmp 70 _) all_nil)))) rfl) (sS (sA (sT1 rfl) (sA (sT1 rfl) (sA (sT1 rfl) (sA (sT1 rfl) sT0)))) sB0 sF0) ?_
                          refine AL_nil ?_
                          exact thenN (cutLeaf (v := y27) hr (weak0 ((sT rfl (sT rfl (sT rfl (sT rfl (sT rfl (sT rfl sT0))))))) (sub_keep (sub_keep sub_nil))))
                        · rintro x16 hr
                          show AW Hfaa.prog _ _ _ ⟨[(1, .inl (is (U8 a1))), (3, .inr (.inl (3, 0))), (8, .inr (.inl (8, 0))), (9, .inl (is (U64 x9))), (10, .inl (is (U64 x10))), (71, .inl (is (Bl x16)))], [(3, pb 23 [is (U8 a0_0), is (U8 a0_1)]), (8, pb 112 [is (Bl x2), is (I8 x3), is (I16 x4), is (U64 x5)])]⟩
                          have hr : some r = F174_11 N a0_0 a0_1 a1 x2 x3 x4 x5 x9 x10 x16 := hr
                          refine AW_condT (b := x16) rfl (fun h => ?_) (fun h => ?_)
                          · have hr := hr.trans (cond_t h)
                            clear h
                            refine AW_region ?_
                            refine AL_cons (LR_move (at_tmp 9 _) rfl) (sS (sT1 rfl) sB0 sF0) ?_
                            refine AL_cons (LR_bin (at_tmp 72 _) (at_c (v' := U64 (1#64)) rfl) (add_U64 x9 (1#64)) rfl) (sS (sA (sT1 rfl) sT0) sB0 sF0) ?_
                            refine AL_cons (LR_assign (at_tmp 73 _) rfl) (sS (sT1 rfl) sB0 sF0) ?_
                            refine AL_nil ?_
                            exact thenN (cutLeaf (v := x9 + (1#64)) hr (weak0 ((sT rfl (sT rfl (sT rfl (sT rfl (sT rfl sT0)))))) (sub_keep (sub_keep sub_nil))))
                          · have hr := hr.trans (cond_f h)
                            clear h
                            refine AW_skip ?_
                            exact thenN (cutLeaf (v := x9) hr (weak0 ((sT rfl (sT rfl (sT rfl (sT rfl (sT rfl sT0)))))) (sub_keep (sub_keep sub_nil))))
                      · rintro x11 hr
                        show AW Hfaa.prog _ _ _ ⟨[(1, .inl (is (U8 a1))), (3, .inr (.inl (3, 0))), (8, .inr (.inl (8, 0))), (9, .inl (is (U64 x11))), (10, .inl (is (U64 x10)))], [(3, pb 23 [is (U8 a0_0), is (U8 a0_1)]), (8, pb 112 [is (Bl x2), is (I8 x3), is (I16 x4), is (U64 x5)])]⟩
                        have hr : some r = F174_7 N a0_0 a0_1 a1 x2 x3 x4 x5 x10 x11 := hr
                        refine AW_cut (σ := BitVec 64 × BitVec 8) (fun v => ⟨[(10, .inl (is (U64 x10))), (11, .inl (is (U64 v.1))), (12, .inl (is (U8 v.2)))], []⟩) (fun v => some r = F174_8 N x10 v.1 v.2) ?_ ?_
                        · skip
                          refine AW_region ?_
                          refine AL_cons (LR_loads (at_tmp 3 _) ag23 sz23 rfl rfl rfl) (sS (sT1 rfl) (sB1 rfl) sF0) ?_
                          refine AL_cons (LR_move (at_tmp 1 _) rfl) (sS (sT1 rfl) sB0 sF0) ?_
                          refine AL_cons (LR_fieldAddr (off := 0) (o := 0) (at_tmp 8 _) (fun b w => fa112_0 b 0 w) rfl) (sS (sT1 rfl) sB0 sF0) ?_
                          refine AL_cons (LR_load (at_tmp 77 _) na4 rfl rfl) (sS (sT1 rfl) (sB1 rfl) sF0) ?_
                          refine AL_cons (LR_move (at_tmp 9 _) rfl) (sS (sT1 rfl) sB0 sF0) ?_
                          obtain ⟨y25, hy25, hr⟩ := bind_some hr
                          refine AL_cons (LR_call Hfaa.func215 rfl rfl (C215 N a0_0 a0_1 a1 x2 0 x11 y25 hy25) (all_cons (at_tmp 75 _) (all_cons (at_tmp 76 _) (all_cons (at_tmp 78 _) (all_cons (at_c (v' := I16 0) rfl) (all_cons (at_tmp 79 _) all_nil))))) rfl) (sS (sA (sT1 rfl) (sA (sT1 rfl) (sA (sT1 rfl) (sA sT0 (sA (sT1 rfl) sT0))))) sB0 sF0) ?_
                          refine AL_cons (LR_move (at_tmp 80 _) rfl) (sS (sT1 rfl) sB0 sF0) ?_
                          refine AL_cons (LR_extract (at_tmp 74 _) rfl rfl) (sS (sT1 rfl) sB0 sF0) ?_
                          refine AL_cons (LR_extract (at_tmp 74 _) rfl rfl) (sS (sT1 rfl) sB0 sF0) ?_
                          refine AL_cons (LR_assign (at_tmp 81 _) rfl) (sS (sT1 rfl) sB0 sF0) ?_
                          refine AL_cons (LR_assign (at_tmp 82 _) rfl) (sS (sT1 rfl) sB0 sF0) ?_
                          refine AL_nil ?_
                          exact thenN (cutLeaf (v := (y25.1, y25.2)) hr (weak0 ((sT rfl (sT rfl (sT rfl sT0)))) (sub_drop (sub_drop sub_nil))))
                        · rintro ⟨x12, x13⟩ hr
                          show AW Hfaa.prog _ _ _ ⟨[(10, .inl (is (U64 x10))), (11, .inl (is (U64 x12))), (12, .inl (is (U8 x13)))], []⟩
                          have hr : some r = F174_8 N x10 x12 x13 := hr
                          refine AW_cut (σ := BitVec 8) (fun v => ⟨[(11, .inl (is (U64 x12))), (12, .inl (is (U8 v)))], []⟩) (fun v => some r = F174_9 N x12 v) ?_ ?_
                          · skip
                            refine AW_cut (σ := Bool) (fun v => ⟨[(11, .inl (is (U64 x12))), (12, .inl (is (U8 x13))), (84, .inl (is (Bl v)))], []⟩) (fun v => some r = F174_10 N x12 x13 v) ?_ ?_
                            · skip
                              refine AW_region ?_
                              refine AL_cons (LR_move (at_tmp 10 _) rfl) (sS (sT1 rfl) sB0 sF0) ?_
                              refine AL_cons (LR_bin (at_tmp 83 _) (at_c (v' := U64 (0#64)) rfl) (neq_U64 x10 (0#64)) rfl) (sS (sA (sT1 rfl) sT0) sB0 sF0) ?_
                              refine AL_nil ?_
                              exact thenN (cutLeaf (v := x10 != (0#64)) hr (weak0 ((sT rfl (sT rfl (sT rfl sT0)))) sub_nil))
                            · rintro x15 hr
                              show AW Hfaa.prog _ _ _ ⟨[(11, .inl (is (U64 x12))), (12, .inl (is (U8 x13))), (84, .inl (is (Bl x15)))], []⟩
                              have hr : some r = F174_10 N x12 x13 x15 := hr
                              refine AW_condT (b := x15) rfl (fun h => ?_) (fun h => ?_)
                              · have hr := hr.trans (cond_t h)
                                clear h
                                refine AW_region ?_
                                refine AL_cons (LR_move (at_tmp 12 _) rfl) (sS (sT1 rfl) sB0 sF0) ?_
                                refine AL_cons (LR_bin (at_tmp 85 _) (at_c (v' := U8 (16#8)) rfl) (or_U8 x13 (16#8)) rfl) (sS (sA (sT1 rfl) sT0) sB0 sF0) ?_
                                refine AL_cons (LR_assign (at_tmp 86 _) rfl) (sS (sT1 rfl) sB0 sF0) ?_
                                refine AL_nil ?_
                                exact thenN (cutLeaf (v := x13 ||| (16#8)) hr (weak0 ((sT rfl (sT rfl sT0))) sub_nil))
                              · have hr := hr.trans (cond_f h)
                                clear h
                                refine AW_skip ?_
                                exact thenN (cutLeaf (v := x13) hr (weak0 ((sT rfl (sT rfl sT0))) sub_nil))
                          · rintro x14 hr
                            show AW Hfaa.prog _ _ _ ⟨[(11, .inl (is (U64 x12))), (12, .inl (is (U8 x14)))], []⟩
                            have hr : some r = F174_9 N x12 x14 := hr
                            refine AW_seq1 ?_
                            refine AW_region ?_
                            refine AL_cons (LR_move (at_tmp 11 _) rfl) (sS (sT1 rfl) sB0 sF0) ?_
                            refine AL_cons (LR_move (at_tmp 12 _) rfl) (sS (sT1 rfl) sB0 sF0) ?_
                            refine AL_cons (LR_assign (at_tmp 87 _) rfl) (sS (sT1 rfl) sB0 sF0) ?_
                            refine AL_cons (LR_assign (at_tmp 88 _) rfl) (sS (sT1 rfl) sB0 sF0) ?_
                            refine AL_nil ?_
                            refine thenN ?_
                            refine AW_ret ?_
                            obtain rfl := Option.some.inj hr
                            exact res2 rfl (rvT rfl) (rvT rfl)
/-- soft.RoundInt -/
def F316_1 (N : Nat) (x1 : BitVec 64) : Option (BitVec 64) := some x1
def F316 (N : Nat) (a0_0 : BitVec 8) (a0_1 : BitVec 8) (a1 : BitVec 8) (a2 : BitVec 64) : Option (BitVec 64) := (F174 N a0_0 a0_1 a1 a2).bind fun y2 => F316_1 N y2.1
theorem C316 (N : Nat) (a0_0 : BitVec 8) (a0_1 : BitVec 8) (a1 : BitVec 8) (a2 : BitVec 64) (r : BitVec 64) (hr : some r = F316 N a0_0 a0_1 a1 a2) : Aw.Fn Hfaa.prog 316 [agg [is (U8 a0_0), is (U8 a0_1)], is (U8 a1), is (U64 a2)] (is (U64 r)) := by
  refine fn_intro Hfaa.func316 rfl rfl rfl ?_
  intro bn0 w0 H0
  refine AW_seq1 ?_
  refine AW_region ?_
  refine AL_cons (LR_box (at_tmp 0 _) (cells_agg _) rfl) (sS (sT1 rfl) sB0 (sF1 rfl)) ?_
  refine AL_cons (LR_assign (at_c (v' := U64 (0#64)) rfl) rfl) (sS sT0 sB0 sF0) ?_
  refine AL_nil ?_
  refine thenN ?_
  refine AW_cut (σ := BitVec 64) (fun v => ⟨[(7, .inl (is (U64 v)))], []⟩) (fun v => some r = F316_1 N v) ?_ ?_
  · skip
    refine AW_region ?_
    refine AL_cons (LR_loads (at_tmp 3 _) ag23 sz23 rfl rfl rfl) (sS (sT1 rfl) (sB1 rfl) sF0) ?_
    refine AL_cons (LR_move (at_tmp 1 _) rfl) (sS (sT1 rfl) sB0 sF0) ?_
    refine AL_cons (LR_move (at_tmp 2 _) rfl) (sS (sT1 rfl) sB0 sF0) ?_
    obtain ⟨y2, hy2, hr⟩ := bind_some hr
    refine AL_cons (LR_call Hfaa.func174 rfl rfl (C174 N a0_0 a0_1 a1 a2 y2 hy2) (all_cons (at_tmp 10 _) (all_cons (at_tmp 11 _) (all_cons (at_tmp 12 _) all_nil))) rfl) (sS (sA (sT1 rfl) (sA (sT1 rfl) (sA (sT1 rfl) sT0))) sB0 sF0) ?_
    refine AL_cons (LR_move (at_tmp 13 _) rfl) (sS (sT1 rfl) sB0 sF0) ?_
    refine AL_cons (LR_extract (at_tmp 9 _) rfl rfl) (sS (sT1 rfl) sB0 sF0) ?_
    refine AL_cons (LR_extract (at_tmp 9 _) rfl rfl) (sS (sT1 rfl) sB0 sF0) ?_
    refine AL_cons (LR_assign (at_tmp 14 _) rfl) (sS (sT1 rfl) sB0 sF0) ?_
    refine AL_cons (LR_assign (at_tmp 15 _) rfl) (sS (sT1 rfl) sB0 sF0) ?_
    refine AL_nil ?_
    exact thenN (cutLeaf (v := y2.1) hr (weak0 ((sT rfl sT0)) (sub_drop sub_nil)))
  · rintro x1 hr
    show AW Hfaa.prog _ _ _ ⟨[(7, .inl (is (U64 x1)))], []⟩
    have hr : some r = F316_1 N x1 := hr
    refine AW_seq1 ?_
    refine AW_region ?_
    refine AL_cons (LR_move (at_tmp 7 _) rfl) (sS (sT1 rfl) sB0 sF0) ?_
    refine AL_cons (LR_assign (at_tmp 16 _) rfl) (sS (sT1 rfl) sB0 sF0) ?_
    refine AL_nil ?_
    refine thenN ?_
    refine AW_ret ?_
    obtain rfl := Option.some.inj hr
    exact res1 rfl (rvT rfl)
/-- soft.below -/
def F276_2 (a1 : BitVec 64) (a2 : BitVec 64) (x1 : Bool) (x3 : Bool) : Bool := bif x3 then x1 else bif x1 then decide (a2.toNat < a1.toNat) else decide (a1.toNat < a2.toNat)
def F276_1 (a1 : BitVec 64) (a2 : BitVec 64) (x1 : Bool) (x2 : Bool) : Bool := F276_2 a1 a2 x1 (x1 != x2)
def F276 (a0_0 : BitVec 8) (a0_1 : BitVec 8) (a1 : BitVec 64) (a2 : BitVec 64) : Bool := lt (F70 a0_0 a0_1) fun y3 => lt (F70 a0_0 a0_1) fun y4 => F276_1 a1 a2 ((a1 &&& y3) != (0#64)) ((a2 &&& y4) != (0#64))
theorem C276 (a0_0 : BitVec 8) (a0_1 : BitVec 8) (a1 : BitVec 64) (a2 : BitVec 64) (r : Bool) (hr : r = F276 a0_0 a0_1 a1 a2) : Aw.Fn Hfaa.prog 276 [agg [is (U8 a0_0), is (U8 a0_1)], is (U64 a1), is (U64 a2)] (is (Bl r)) := by
  refine fn_intro Hfaa.func276 rfl rfl rfl ?_
  intro bn0 w0 H0
  refine AW_seq1 ?_
  refine AW_region ?_
  refine AL_cons (LR_box (at_tmp 0 _) (cells_agg _) rfl) (sS (sT1 rfl) sB0 (sF1 rfl)) ?_
  refine AL_cons (LR_assign (at_c (v' := Bl false) rfl) rfl) (sS sT0 sB0 sF0) ?_
  refine AL_nil ?_
  refine thenN ?_
  refine AW_cut (σ := Bool × Bool) (fun v => ⟨[(1, .inl (is (U64 a1))), (2, .inl (is (U64 a2))), (7, .inl (is (Bl v.1))), (8, .inl (is (Bl v.2)))], []⟩) (fun v => r = F276_1 a1 a2 v.1 v.2) ?_ ?_
  · skip
    obtain ⟨y3, hy3, hr⟩ := lt_some hr
    obtain ⟨y4, hy4, hr⟩ := lt_some hr
    refine AW_draw mixed
      (lrC (LR_move (at_tmp 1 _) rfl)
      (lrC (LR_loads (at_tmp 3 _) ag23 sz23 rfl rfl rfl)
      (lrC (LR_call Hfaa.func70 rfl rfl (C70 a0_0 a0_1 y3 hy3) (all_cons (at_tmp 10 _) all_nil) rfl)
      (lrC (LR_bin (at_tmp 9 _) (at_tmp 11 _) (and_U64 a1 y3) rfl)
      (lrC (LR_bin (at_tmp 12 _) (at_c (v' := U64 (0#64)) rfl) (neq_U64 (a1 &&& y3) (0#64)) rfl)
      (lrC (LR_move (at_tmp 2 _) rfl)
      (lrC (LR_loads (at_tmp 3 _) ag23 sz23 rfl rfl rfl)
      (lrC (LR_call Hfaa.func70 rfl rfl (C70 a0_0 a0_1 y4 hy4) (all_cons (at_tmp 15 _) all_nil) rfl)
      (lrC (LR_bin (at_tmp 14 _) (at_tmp 16 _) (and_U64 a2 y4) rfl)
      (lrC (LR_bin (at_tmp 17 _) (at_c (v' := U64 (0#64)) rfl) (neq_U64 (a2 &&& y4) (0#64)) rfl)
      (lrC (LR_assign (at_tmp 13 _) rfl)
      (lrC (LR_assign (at_tmp 18 _) rfl)
      lrN))))))))))))
      (by kernel_rfl)
      (saC (sS (sT1 rfl) sB0 sF0) (saC (sS (sT1 rfl) (sB1 rfl) sF0) (saC (sS (sA (sT1 rfl) sT0) sB0 sF0) (saC (sS (sA (sT1 rfl) (sT1 rfl)) sB0 sF0) (saC (sS (sA (sT1 rfl) sT0) sB0 sF0) (saC (sS (sT1 rfl) sB0 sF0) (saC (sS (sT1 rfl) (sB1 rfl) sF0) (saC (sS (sA (sT1 rfl) sT0) sB0 sF0) (saC (sS (sA (sT1 rfl) (sT1 rfl)) sB0 sF0) (saC (sS (sA (sT1 rfl) sT0) sB0 sF0) (saC (sS (sT1 rfl) sB0 sF0) (saC (sS (sT1 rfl) sB0 sF0) saN)))))))))))) ?_
    exact thenN (cutLeaf (v := ((a1 &&& y3) != (0#64), (a2 &&& y4) != (0#64))) hr (weak0 ((sT rfl (sT rfl (sT rfl (sT rfl sT0))))) (sub_drop sub_nil)))
  · rintro ⟨x1, x2⟩ hr
    show AW Hfaa.prog _ _ _ ⟨[(1, .inl (is (U64 a1))), (2, .inl (is (U64 a2))), (7, .inl (is (Bl x1))), (8, .inl (is (Bl x2)))], []⟩
    have hr : r = F276_1 a1 a2 x1 x2 := hr
    refine AW_seq1 ?_
    refine AW_block ?_
    refine AW_cut (σ := Bool) (fun v => ⟨[(1, .inl (is (U64 a1))), (2, .inl (is (U64 a2))), (7, .inl (is (Bl x1))), (19, .inl (is (Bl v)))], []⟩) (fun v => r = F276_2 a1 a2 x1 v) ?_ ?_
    · skip
      refine AW_region ?_
      refine AL_cons (LR_move (at_tmp 7 _) rfl) (sS (sT1 rfl) sB0 sF0) ?_
      refine AL_cons (LR_move (at_tmp 8 _) rfl) (sS (sT1 rfl) sB0 sF0) ?_
      refine AL_cons (LR_bin (at_tmp 20 _) (at_tmp 21 _) (neq_Bl Hfaa.underlying4 x1 x2) rfl) (sS (sA (sT1 rfl) (sT1 rfl)) sB0 sF0) ?_
      refine AL_cons (LR_assign (at_tmp 22 _) rfl) (sS (sT1 rfl) sB0 sF0) ?_
      refine AL_nil ?_
      exact thenN (cutLeaf (v := x1 != x2) hr (weak0 ((sT rfl (sT rfl (sT rfl (sT rfl sT0))))) sub_nil))
    · rintro x3 hr
      show AW Hfaa.prog _ _ _ ⟨[(1, .inl (is (U64 a1))), (2, .inl (is (U64 a2))), (7, .inl (is (Bl x1))), (19, .inl (is (Bl x3)))], []⟩
      have hr : r = F276_2 a1 a2 x1 x3 := hr
      refine AW_condT (b := x3) rfl (fun h => ?_) (fun h => ?_)
      · have hr := hr.trans (cond_t h)
        clear h
        refine AW_seq1 ?_
        refine AW_region ?_
        refine AL_cons (LR_move (at_tmp 7 _) rfl) (sS (sT1 rfl) sB0 sF0) ?_
        refine AL_cons (LR_assign (at_tmp 23 _) rfl) (sS (sT1 rfl) sB0 sF0) ?_
        refine AL_nil ?_
        refine thenN ?_
        refine AW_ret ?_
        refine blR ?_
        refine thenR ?_
        subst hr
        exact res1 rfl (rvT rfl)
      · have hr := hr.trans (cond_f h)
        clear h
        refine AW_seq1 ?_
        refine AW_region ?_
        refine AL_cons (LR_move (at_tmp 7 _) rfl) (sS (sT1 rfl) sB0 sF0) ?_
        refine AL_cons (LR_assign (at_tmp 25 _) rfl) (sS (sT1 rfl) sB0 sF0) ?_
        refine AL_nil ?_
        refine thenN ?_
        refine AW_condT (b := x1) rfl (fun h => ?_) (fun h => ?_)
        · have hr := hr.trans (cond_t h)
          clear h
          refine AW_seq1 ?_
          refine AW_region ?_
          refine AL_cons (LR_move (at_tmp 1 _) rfl) (sS (sT1 rfl) sB0 sF0) ?_
          refine AL_cons (LR_move (at_tmp 2 _) rfl) (sS (sT1 rfl) sB0 sF0) ?_
          refine AL_cons (LR_bin (at_tmp 26 _) (at_tmp 27 _) (gtr_U64 a1 a2) rfl) (sS (sA (sT1 rfl) (sT1 rfl)) sB0 sF0) ?_
          refine AL_cons (LR_assign (at_tmp 28 _) rfl) (sS (sT1 rfl) sB0 sF0) ?_
          refine AL_nil ?_
          refine thenN ?_
          refine AW_ret ?_
          refine blR ?_
          refine thenR ?_
          subst hr
          exact res1 rfl (rvT rfl)
        · have hr := hr.trans (cond_f h)
          clear h
          refine AW_skip ?_
          refine blN ?_
          refine thenN ?_
          refine AW_seq1 ?_
          refine AW_region ?_
          refine AL_cons (LR_move (at_tmp 1 _) rfl) (sS (sT1 rfl) sB0 sF0) ?_
          refine AL_cons (LR_move (at_tmp 2 _) rfl) (sS (sT1 rfl) sB0 sF0) ?_
          refine AL_cons (LR_bin (at_tmp 29 _) (at_tmp 30 _) (lss_U64 a1 a2) rfl) (sS (sA (sT1 rfl) (sT1 rfl)) sB0 sF0) ?_
          refine AL_cons (LR_assign (at_tmp 31 _) rfl) (sS (sT1 rfl) sB0 sF0) ?_
          refine AL_nil ?_
          refine thenN ?_
          refine AW_ret ?_
          subst hr
          exact res1 rfl (rvT rfl)
/-- soft.MinFlags -/
def F175_4 (x2 : BitVec 64) (x3 : BitVec 64) (x4 : Bool) : BitVec 64 × BitVec 8 := bif x4 then (x2, 0#8) else (x3, 0#8)
def F175_3 (a0_0 : BitVec 8) (a0_1 : BitVec 8) (x2 : BitVec 64) (x3 : BitVec 64) : BitVec 64 × BitVec 8 := lt (F276 a0_0 a0_1 x2 x3) fun y17 => F175_4 x2 x3 y17
def F175_2 (a0_0 : BitVec 8) (a0_1 : BitVec 8) (a2 : BitVec 64) (x2 : BitVec 64) : BitVec 64 × BitVec 8 := lt (F69 a0_0 a0_1) fun y18 => F175_3 a0_0 a0_1 x2 (a2 &&& y18)
def F175_1 (a0_0 : BitVec 8) (a0_1 : BitVec 8) (a1 : BitVec 64) (a2 : BitVec 64) (x1 : Bool) : BitVec 64 × BitVec 8 := bif x1 then lt (F66 a0_0 a0_1) fun y10 => lt (F214 a0_0 a0_1 a1 a2) fun y11 => (y10, y11) else lt (F69 a0_0 a0_1) fun y19 => F175_2 a0_0 a0_1 a2 (a1 &&& y19)
def F175 (a0_0 : BitVec 8) (a0_1 : BitVec 8) (a1 : BitVec 64) (a2 : BitVec 64) : BitVec 64 × BitVec 8 := lt (F88 a0_0 a0_1 a1 a2) fun y20 => F175_1 a0_0 a0_1 a1 a2 (y20 == 2)
theorem C175 (a0_0 : BitVec 8) (a0_1 : BitVec 8) (a1 : BitVec 64) (a2 : BitVec 64) (r : BitVec 64 × BitVec 8) (hr : r = F175 a0_0 a0_1 a1 a2) : Aw.Fn Hfaa.prog 175 [agg [is (U8 a0_0), is (U8 a0_1)], is (U64 a1), is (U64 a2)] (tup [is (U64 r.1), is (U8 r.2)]) := by
  refine fn_intro Hfaa.func175 rfl rfl rfl ?_
  intro bn0 w0 H0
  refine AW_seq1 ?_
  refine AW_region ?_
  refine AL_cons (LR_box (at_tmp 0 _) (cells_agg _) rfl) (sS (sT1 rfl) sB0 (sF1 rfl)) ?_
  refine AL_cons (LR_assign (at_c (v' := U64 (0#64)) rfl) rfl) (sS sT0 sB0 sF0) ?_
  refine AL_cons (LR_assign (at_c (v' := U8 (0#8)) rfl) rfl) (sS sT0 sB0 sF0) ?_
  refine AL_nil ?_
  refine thenN ?_
  refine AW_seq1 ?_
  refine AW_cut (σ := Bool) (fun v => ⟨[(1, .inl (is (U64 a1))), (2, .inl (is (U64 a2))), (3, .inr (.inl (3, 0))), (12, .inl (is (Bl v)))], [(3, pb 23 [is (U8 a0_0), is (U8 a0_1)])]⟩) (fun v => r = F175_1 a0_0 a0_1 a1 a2 v) ?_ ?_
  · skip
    refine AW_region ?_
    refine AL_cons (LR_loads (at_tmp 3 _) ag23 sz23 rfl rfl rfl) (sS (sT1 rfl) (sB1 rfl) sF0) ?_
    refine AL_cons (LR_move (at_tmp 1 _) rfl) (sS (sT1 rfl) sB0 sF0) ?_
    refine AL_cons (LR_move (at_tmp 2 _) rfl) (sS (sT1 rfl) sB0 sF0) ?_
    obtain ⟨y20, hy20, hr⟩ := lt_some hr
    refine AL_cons (LR_call Hfaa.func88 rfl rfl (C88 a0_0 a0_1 a1 a2 y20 hy20) (all_cons (at_tmp 8 _) (all_cons (at_tmp 9 _) (all_cons (at_tmp 10 _) all_nil))) rfl) (sS (sA (sT1 rfl) (sA (sT1 rfl) (sA (sT1 rfl) sT0))) sB0 sF0) ?_
    refine AL_cons (LR_bin (at_tmp 11 _) (at_c (v' := I8 2) rfl) (eql_I8 y20 2) rfl) (sS (sA (sT1 rfl) sT0) sB0 sF0) ?_
    refine AL_nil ?_
    exact thenN (cutLeaf (v := y20 == 2) hr (weak0 ((sT rfl (sT rfl (sT rfl (sT rfl sT0))))) (sub_keep sub_nil)))
  · rintro x1 hr
    show AW Hfaa.prog _ _ _ ⟨[(1, .inl (is (U64 a1))), (2, .inl (is (U64 a2))), (3, .inr (.inl (3, 0))), (12, .inl (is (Bl x1)))], [(3, pb 23 [is (U8 a0_0), is (U8 a0_1)])]⟩
    have hr : r = F175_1 a0_0 a0_1 a1 a2 x1 := hr
    refine AW_condT (b := x1) rfl (fun h => ?_) (fun h => ?_)
    · have hr := hr.trans (cond_t h)
      clear h
      refine AW_seq1 ?_
      obtain ⟨y10, hy10, hr⟩ := lt_some hr
      obtain ⟨y11, hy11, hr⟩ := lt_some hr
      refine AW_draw mixed
        (lrC (LR_loads (at_tmp 3 _) ag23 sz23 rfl rfl rfl)
        (lrC (LR_call Hfaa.func66 rfl rfl (C66 a0_0 a0_1 y10 hy10) (all_cons (at_tmp 13 _) all_nil) rfl)
        (lrC (LR_loads (at_tmp 3 _) ag23 sz23 rfl rfl rfl)
        (lrC (LR_move (at_tmp 1 _) rfl)
        (lrC (LR_move (at_tmp 2 _) rfl)
        (lrC (LR_call Hfaa.func214 rfl rfl (C214 a0_0 a0_1 a1 a2 y11 hy11) (all_cons (at_tmp 15 _) (all_cons (at_tmp 16 _) (all_cons (at_tmp 17 _) all_nil))) rfl)
        (lrC (LR_assign (at_tmp 14 _) rfl)
        (lrC (LR_assign (at_tmp 18 _) rfl)
        lrN))))))))
        (by kernel_rfl)
        (saC (sS (sT1 rfl) (sB1 rfl) sF0) (saC (sS (sA (sT1 rfl) sT0) sB0 sF0) (saC (sS (sT1 rfl) (sB1 rfl) sF0) (saC (sS (sT1 rfl) sB0 sF0) (saC (sS (sT1 rfl) sB0 sF0) (saC (sS (sA (sT1 rfl) (sA (sT1 rfl) (sA (sT1 rfl) sT0))) sB0 sF0) (saC (sS (sT1 rfl) sB0 sF0) (saC (sS (sT1 rfl) sB0 sF0) saN)))))))) ?_
      refine thenN ?_
      refine AW_ret ?_
      refine thenR ?_
      subst hr
      exact res2 rfl (rvT rfl) (rvT rfl)
    · have hr := hr.trans (cond_f h)
      clear h
      refine AW_skip ?_
      refine thenN ?_
      refine AW_cut (σ := BitVec 64) (fun v => ⟨[(1, .inl (is (U64 v))), (2, .inl (is (U64 a2))), (3, .inr (.inl (3, 0)))], [(3, pb 23 [is (U8 a0_0), is (U8 a0_1)])]⟩) (fun v => r = F175_2 a0_0 a0_1 a2 v) ?_ ?_
      · skip
        refine AW_region ?_
        refine AL_cons (LR_move (at_tmp 1 _) rfl) (sS (sT1 rfl) sB0 sF0) ?_
        refine AL_cons (LR_loads (at_tmp 3 _) ag23 sz23 rfl rfl rfl) (sS (sT1 rfl) (sB1 rfl) sF0) ?_
        obtain ⟨y19, hy19, hr⟩ := lt_some hr
        refine AL_cons (LR_call Hfaa.func69 rfl rfl (C69 a0_0 a0_1 y19 hy19) (all_cons (at_tmp 20 _) all_nil) rfl) (sS (sA (sT1 rfl) sT0) sB0 sF0) ?_
        refine AL_cons (LR_bin (at_tmp 19 _) (at_tmp 21 _) (and_U64 a1 y19) rfl) (sS (sA (sT1 rfl) (sT1 rfl)) sB0 sF0) ?_
        refine AL_cons (LR_assign (at_tmp 22 _) rfl) (sS (sT1 rfl) sB0 sF0) ?_
        refine AL_nil ?_
        exact thenN (cutLeaf (v := a1 &&& y19) hr (weak0 ((sT rfl (sT rfl (sT rfl sT0)))) (sub_keep sub_nil)))
      · rintro x2 hr
        show AW Hfaa.prog _ _ _ ⟨[(1, .inl (is (U64 x2))), (2, .inl (is (U64 a2))), (3, .inr (.inl (3, 0)))], [(3, pb 23 [is (U8 a0_0), is (U8 a0_1)])]⟩
        have hr : r = F175_2 a0_0 a0_1 a2 x2 := hr
        refine AW_cut (σ := BitVec 64) (fun v => ⟨[(1, .inl (is (U64 x2))), (2, .inl (is (U64 v))), (3, .inr (.inl (3, 0)))], [(3, pb 23 [is (U8 a0_0), is (U8 a0_1)])]⟩) (fun v => r = F175_3 a0_0 a0_1 x2 v) ?_ ?_
        · skip
          refine AW_region ?_
          refine AL_cons (LR_move (at_tmp 2 _) rfl) (sS (sT1 rfl) sB0 sF0) ?_
          refine AL_cons (LR_loads (at_tmp 3 _) ag23 sz23 rfl rfl rfl) (sS (sT1 rfl) (sB1 rfl) sF0) ?_
          obtain ⟨y18, hy18, hr⟩ := lt_some hr
          refine AL_cons (LR_call Hfaa.func69 rfl rfl (C69 a0_0 a0_1 y18 hy18) (all_cons (at_tmp 24 _) all_nil) rfl) (sS (sA (sT1 rfl) sT0) sB0 sF0) ?_
          refine AL_cons (LR_bin (at_tmp 23 _) (at_tmp 25 _) (and_U64 a2 y18) rfl) (sS (sA (sT1 rfl) (sT1 rfl)) sB0 sF0) ?_
          refine AL_cons (LR_assign (at_tmp 26 _) rfl) (sS (sT1 rfl) sB0 sF0) ?_
          refine AL_nil ?_
          exact thenN (cutLeaf (v := a2 &&& y18) hr (weak0 ((sT rfl (sT rfl (sT rfl sT0)))) (sub_keep sub_nil)))
        · rintro x3 hr
          show AW Hfaa.prog _ _ _ ⟨[(1, .inl (is (U64 x2))), (2, .inl (is (U64 x3))), (3, .inr (.inl (3, 0)))], [(3, pb 23 [is (U8 a0_0), is (U8 a0_1)])]⟩
          have hr : r = F175_3 a0_0 a0_1 x2 x3 := hr
          refine AW_seq1 ?_
          refine AW_cut (σ := Bool) (fun v => ⟨[(1, .inl (is (U64 x2))), (2, .inl (is (U64 x3))), (30, .inl (is (Bl v)))], []⟩) (fun v => r = F175_4 x2 x3 v) ?_ ?_
          · skip
            refine AW_region ?_
            refine AL_cons (LR_loads (at_tmp 3 _) ag23 sz23 rfl rfl rfl) (sS (sT1 rfl) (sB1 rfl) sF0) ?_
            refine AL_cons (LR_move (at_tmp 1 _) rfl) (sS (sT1 rfl) sB0 sF0) ?_
            refine AL_cons (LR_move (at_tmp 2 _) rfl) (sS (sT1 rfl) sB0 sF0) ?_
            obtain ⟨y17, hy17, hr⟩ := lt_some hr
            refine AL_cons (LR_call Hfaa.func276 rfl rfl (C276 a0_0 a0_1 x2 x3 y17 hy17) (all_cons (at_tmp 27 _) (all_cons (at_tmp 28 _) (all_cons (at_tmp 29 _) all_nil))) rfl) (sS (sA (sT1 rfl) (sA (sT1 rfl) (sA (sT1 rfl) sT0))) sB0 sF0) ?_
            refine AL_nil ?_
            exact thenN (cutLeaf (v := y17) hr (weak0 ((sT rfl (sT rfl (sT rfl sT0)))) (sub_drop sub_nil)))
          · rintro x4 hr
            show AW Hfaa.prog _ _ _ ⟨[(1, .inl (is (U64 x2))), (2, .inl (is (U64 x3))), (30, .inl (is (Bl x4)))], []⟩
            have hr : r = F175_4 x2 x3 x4 := hr
            refine AW_condT (b := x4) rfl (fun h => ?_) (fun h => ?_)
            · have hr := hr.trans (cond_t h)
              clear h
              refine AW_seq1 ?_
              refine AW_region ?_
              refine AL_cons (LR_move (at_tmp 1 _) rfl) (sS (sT1 rfl) sB0 sF0) ?_
              refine AL_cons (LR_assign (at_tmp 31 _) rfl) (sS (sT1 rfl) sB0 sF0) ?_
              refine AL_cons (LR_assign (at_c (v' := U8 (0#8)) rfl) rfl) (sS sT0 sB0 sF0) ?_
              refine AL_nil ?_
              refine thenN ?_
              refine AW_ret ?_
              refine thenR ?_
              subst hr
              exact res2 rfl (rvT rfl) (rvT rfl)
            · have hr := hr.trans (cond_f h)
              clear h
              refine AW_skip ?_
              refine thenN ?_
              refine AW_seq1 ?_
              refine AW_region ?_
              refine AL_cons (LR_move (at_tmp 2 _) rfl) (sS (sT1 rfl) sB0 sF0) ?_
              refine AL_cons (LR_assign (at_tmp 32 _) rfl) (sS (sT1 rfl) sB0 sF0) ?_
              refine AL_cons (LR_assign (at_c (v' := U8 (0#8)) rfl) rfl) (sS sT0 sB0 sF0) ?_
              refine AL_nil ?_
              refine thenN ?_
              refine AW_ret ?_
              subst hr
              exact res2 rfl (rvT rfl) (rvT rfl)
/-- soft.Min -/
def F317_1 (x1 : BitVec 64) : BitVec 64 := x1
def F317 (a0_0 : BitVec 8) (a0_1 : BitVec 8) (a1 : BitVec 64) (a2 : BitVec 64) : BitVec 64 := lt (F175 a0_0 a0_1 a1 a2) fun y2 => F317_1 y2.1
theorem C317 (a0_0 : BitVec 8) (a0_1 : BitVec 8) (a1 : BitVec 64) (a2 : BitVec 64) (r : BitVec 64) (hr : r = F317 a0_0 a0_1 a1 a2) : Aw.Fn Hfaa.prog 317 [agg [is (U8 a0_0), is (U8 a0_1)], is (U64 a1), is (U64 a2)] (is (U64 r)) := by
  refine fn_intro Hfaa.func317 rfl rfl rfl ?_
  intro bn0 w0 H0
  refine AW_seq1 ?_
  refine AW_region ?_
  refine AL_cons (LR_box (at_tmp 0 _) (cells_agg _) rfl) (sS (sT1 rfl) sB0 (sF1 rfl)) ?_
  refine AL_cons (LR_assign (at_c (v' := U64 (0#64)) rfl) rfl) (sS sT0 sB0 sF0) ?_
  refine AL_nil ?_
  refine thenN ?_
  refine AW_cut (σ := BitVec 64) (fun v => ⟨[(7, .inl (is (U64 v)))], []⟩) (fun v => r = F317_1 v) ?_ ?_
  · skip
    refine AW_region ?_
    refine AL_cons (LR_loads (at_tmp 3 _) ag23 sz23 rfl rfl rfl) (sS (sT1 rfl) (sB1 rfl) sF0) ?_
    refine AL_cons (LR_move (at_tmp 1 _) rfl) (sS (sT1 rfl) sB0 sF0) ?_
    refine AL_cons (LR_move (at_tmp 2 _) rfl) (sS (sT1 rfl) sB0 sF0) ?_
    obtain ⟨y2, hy2, hr⟩ := lt_some hr
    refine AL_cons (LR_call Hfaa.func175 rfl rfl (C175 a0_0 a0_1 a1 a2 y2 hy2) (all_cons (at_tmp 10 _) (all_cons (at_tmp 11 _) (all_cons (at_tmp 12 _) all_nil))) rfl) (sS (sA (sT1 rfl) (sA (sT1 rfl) (sA (sT1 rfl) sT0))) sB0 sF0) ?_
    refine AL_cons (LR_move (at_tmp 13 _) rfl) (sS (sT1 rfl) sB0 sF0) ?_
    refine AL_cons (LR_extract (at_tmp 9 _) rfl rfl) (sS (sT1 rfl) sB0 sF0) ?_
    refine AL_cons (LR_extract (at_tmp 9 _) rfl rfl) (sS (sT1 rfl) sB0 sF0) ?_
    refine AL_cons (LR_assign (at_tmp 14 _) rfl) (sS (sT1 rfl) sB0 sF0) ?_
    refine AL_cons (LR_assign (at_tmp 15 _) rfl) (sS (sT1 rfl) sB0 sF0) ?_
    refine AL_nil ?_
    exact thenN (cutLeaf (v := y2.1) hr (weak0 ((sT rfl sT0)) (sub_drop sub_nil)))
  · rintro x1 hr
    show AW Hfaa.prog _ _ _ ⟨[(7, .inl (is (U64 x1)))], []⟩
    have hr : r = F317_1 x1 := hr
    refine AW_seq1 ?_
    refine AW_region ?_
    refine AL_cons (LR_move (at_tmp 7 _) rfl) (sS (sT1 rfl) sB0 sF0) ?_
    refine AL_cons (LR_assign (at_tmp 16 _) rfl) (sS (sT1 rfl) sB0 sF0) ?_
    refine AL_nil ?_
    refine thenN ?_
    refine AW_ret ?_
    subst hr
    exact res1 rfl (rvT rfl)
/-- soft.MaxFlags -/
def F176_4 (x2 : BitVec 64) (x3 : BitVec 64) (x4 : Bool) : BitVec 64 × BitVec 8 := bif x4 then (x3, 0#8) else (x2, 0#8)
def F176_3 (a0_0 : BitVec 8) (a0_1 : BitVec 8) (x2 : BitVec 64) (x3 : BitVec 64) : BitVec 64 × BitVec 8 := lt (F276 a0_0 a0_1 x2 x3) fun y17 => F176_4 x2 x3 y17
def F176_2 (a0_0 : BitVec 8) (a0_1 : BitVec 8) (a2 : BitVec 64) (x2 : BitVec 64) : BitVec 64 × BitVec 8 := lt (F69 a0_0 a0_1) fun y18 => F176_3 a0_0 a0_1 x2 (a2 &&& y18)
def F176_1 (a0_0 : BitVec 8) (a0_1 : BitVec 8) (a1 : BitVec 64) (a2 : BitVec 64) (x1 : Bool) : BitVec 64 × BitVec 8 := bif x1 then lt (F66 a0_0 a0_1) fun y10 => lt (F214 a0_0 a0_1 a1 a2) fun y11 => (y10, y11) else lt (F69 a0_0 a0_1) fun y19 => F176_2 a0_0 a0_1 a2 (a1 &&& y19)
def F176 (a0_0 : BitVec 8) (a0_1 : BitVec 8) (a1 : BitVec 64) (a2 : BitVec 64) : BitVec 64 × BitVec 8 := lt (F88 a0_0 a0_1 a1 a2) fun y20 => F176_1 a0_0 a0_1 a1 a2 (y20 == 2)
theorem C176 (a0_0 : BitVec 8) (a0_1 : BitVec 8) (a1 : BitVec 64) (a2 : BitVec 64) (r : BitVec 64 × BitVec 8) (hr : r = F176 a0_0 a0_1 a1 a2) : Aw.Fn Hfaa.prog 176 [agg [is (U8 a0_0), is (U8 a0_1)], is (U64 a1), is (U64 a2)] (tup [is (U64 r.1), is (U8 r.2)]) := by
  refine fn_intro Hfaa.func176 rfl rfl rfl ?_
  intro bn0 w0 H0
  refine AW_seq1 ?_
  refine AW_region ?_
  refine AL_cons (LR_box (at_tmp 0 _) (cells_agg _) rfl) (sS (sT1 rfl) sB0 (sF1 rfl)) ?_
  refine AL_cons (LR_assign (at_c (v' := U64 (0#64)) rfl) rfl) (sS sT0 sB0 sF0) ?_
  refine AL_cons (LR_assign (at_c (v' := U8 (0#8)) rfl) rfl) (sS sT0 sB0 sF0) ?_
  refine AL_nil ?_
  refine thenN ?_
  refine AW_seq1 ?_
  refine AW_cut (σ := Bool) (fun v => ⟨[(1, .inl (is (U64 a1))), (2, .inl (is (U64 a2))), (3, .inr (.inl (3, 0))), (12, .inl (is (Bl v)))], [(3, pb 23 [is (U8 a0_0), is (U8 a0_1)])]⟩) (fun v => r = F176_1 a0_0 a0_1 a1 a2 v) ?_ ?_
  · skip
    refine AW_region ?_
    refine AL_cons (LR_loads (at_tmp 3 _) ag23 sz23 rfl rfl rfl) (sS (sT1 rfl) (sB1 rfl) sF0) ?_
    refine AL_cons (LR_move (at_tmp 1 _) rfl) (sS (sT1 rfl) sB0 sF0) ?_
    refine AL_cons (LR_move (at_tmp 2 _) rfl) (sS (sT1 rfl) sB0 sF0) ?_
    obtain ⟨y20, hy20, hr⟩ := lt_some hr
    refine AL_cons (LR_call Hfaa.func88 rfl rfl (C88 a0_0 a0_1 a1 a2 y20 hy20) (all_cons (at_tmp 8 _) (all_cons (at_tmp 9 _) (all_cons (at_tmp 10 _) all_nil))) rfl) (sS (sA (sT1 rfl) (sA (sT1 rfl) (sA (sT1 rfl) sT0))) sB0 sF0) ?_
    refine AL_cons (LR_bin (at_tmp 11 _) (at_c (v' := I8 2) rfl) (eql_I8 y20 2) rfl) (sS (sA (sT1 rfl) sT0) sB0 sF0) ?_
    refine AL_nil ?_
    exact thenN (cutLeaf (v := y20 == 2) hr (weak0 ((sT rfl (sT rfl (sT rfl (sT rfl sT0))))) (sub_keep sub_nil)))
  · rintro x1 hr
    show AW Hfaa.prog _ _ _ ⟨[(1, .inl (is (U64 a1))), (2, .inl (is (U64 a2))), (3, .inr (.inl (3, 0))), (12, .inl (is (Bl x1)))], [(3, pb 23 [is (U8 a0_0), is (U8 a0_1)])]⟩
    have hr : r = F176_1 a0_0 a0_1 a1 a2 x1 := hr
    refine AW_condT (b := x1) rfl (fun h => ?_) (fun h => ?_)
    · have hr := hr.trans (cond_t h)
      clear h
      refine AW_seq1 ?_
      obtain ⟨y10, hy10, hr⟩ := lt_some hr
      obtain ⟨y11, hy11, hr⟩ := lt_some hr
      refine AW_draw mixed
        (lrC (LR_loads (at_tmp 3 _) ag23 sz23 rfl rfl rfl)
        (lrC (LR_call Hfaa.func66 rfl rfl (C66 a0_0 a0_1 y10 hy10) (all_cons (at_tmp 13 _) all_nil) rfl)
        (lrC (LR_loads (at_tmp 3 _) ag23 sz23 rfl rfl rfl)
        (lrC (LR_move (at_tmp 1 _) rfl)
        (lrC (LR_move (at_tmp 2 _) rfl)
        (lrC (LR_call Hfaa.func214 rfl rfl (C214 a0_0 a0_1 a1 a2 y11 hy11) (all_cons (at_tmp 15 _) (all_cons (at_tmp 16 _) (all_cons (at_tmp 17 _) all_nil))) rfl)
        (lrC (LR_assign (at_tmp 14 _) rfl)
        (lrC (LR_assign (at_tmp 18 _) rfl)
        lrN))))))))
        (by kernel_rfl)
        (saC (sS (sT1 rfl) (sB1 rfl) sF0) (saC (sS (sA (sT1 rfl) sT0) sB0 sF0) (saC (sS (sT1 rfl) (sB1 rfl) sF0) (saC (sS (sT1 rfl) sB0 sF0) (saC (sS (sT1 rfl) sB0 sF0) (saC (sS (sA (sT1 rfl) (sA (sT1 rfl) (sA (sT1 rfl) sT0))) sB0 sF0) (saC (sS (sT1 rfl) sB0 sF0) (saC (sS (sT1 rfl) sB0 sF0) saN)))))))) ?_
      refine thenN ?_
      refine AW_ret ?_
      refine thenR ?_
      subst hr
      exact res2 rfl (rvT rfl) (rvT rfl)
    · have hr := hr.trans (cond_f h)
      clear h
      refine AW_skip ?_
      refine thenN ?_
      refine AW_cut (σ := BitVec 64) (fun v => ⟨[(1, .inl (is (U64 v))), (2, .inl (is (U64 a2))), (3, .inr (.inl (3, 0)))], [(3, pb 23 [is (U8 a0_0), is (U8 a0_1)])]⟩) (fun v => r = F176_2 a0_0 a0_1 a2 v) ?_ ?_
      · skip
        refine AW_region ?_
        refine AL_cons (LR_move (at_tmp 1 _) rfl) (sS (sT1 rfl) sB0 sF0) ?_
        refine AL_cons (LR_loads (at_tmp 3 _) ag23 sz23 rfl rfl rfl) (sS (sT1 rfl) (sB1 rfl) sF0) ?_
        obtain ⟨y19, hy19, hr⟩ := lt_some hr
        refine AL_cons (LR_call Hfaa.func69 rfl rfl (C69 a0_0 a0_1 y19 hy19) (all_cons (at_tmp 20 _) all_nil) rfl) (sS (sA (sT1 rfl) sT0) sB0 sF0) ?_
        refine AL_cons (LR_bin (at_tmp 19 _) (at_tmp 21 _) (and_U64 a1 y19) rfl) (sS (sA (sT1 rfl) (sT1 rfl)) sB0 sF0) ?_
        refine AL_cons (LR_assign (at_tmp 22 _) rfl) (sS (sT1 rfl) sB0 sF0) ?_
        refine AL_nil ?_
        exact thenN (cutLeaf (v := a1 &&& y19) hr (weak0 ((sT rfl (sT rfl (sT rfl sT0)))) (sub_keep sub_nil)))
      · rintro x2 hr
        show AW Hfaa.prog _ _ _ ⟨[(1, .inl (is (U64 x2))), (2, .inl (is (U64 a2))), (3, .inr (.inl (3, 0)))], [(3, pb 23 [is (U8 a0_0), is (U8 a0_1)])]⟩
        have hr : r = F176_2 a0_0 a0_1 a2 x2 := hr
        refine AW_cut (σ := BitVec 64) (fun v => ⟨[(1, .inl (is (U64 x2))), (2, .inl (is (U64 v))), (3, .inr (.inl (3, 0)))], [(3, pb 23 [is (U8 a0_0), is (U8 a0_1)])]⟩) (fun v => r = F176_3 a0_0 a0_1 x2 v) ?_ ?_
        · skip
          refine AW_region ?_
          refine AL_cons (LR_move (at_tmp 2 _) rfl) (sS (sT1 rfl) sB0 sF0) ?_
          refine AL_cons (LR_loads (at_tmp 3 _) ag23 sz23 rfl rfl rfl) (sS (sT1 rfl) (sB1 rfl) sF0) ?_
          obtain ⟨y18, hy18, hr⟩ := lt_some hr
          refine AL_cons (LR_call Hfaa.func69 rfl rfl (C69 a0_0 a0_1 y18 hy18) (all_cons (at_tmp 24 _) all_nil) rfl) (sS (sA (sT1 rfl) sT0) sB0 sF0) ?_
          refine AL_cons (LR_bin (at_tmp 23 _) (at_tmp 25 _) (and_U64 a2 y18) rfl) (sS (sA (sT1 rfl) (sT1 rfl)) sB0 sF0) ?_
          refine AL_cons (LR_assign (at_tmp 26 _) rfl) (sS (sT1 rfl) sB0 sF0) ?_
          refine AL_nil ?_
          exact thenN (cutLeaf (v := a2 &&& y18) hr (weak0 ((sT rfl (sT rfl (sT rfl sT0)))) (sub_keep sub_nil)))
        · rintro x3 hr
          show AW Hfaa.prog _ _ _ ⟨[(1, .inl (is (U64 x2))), (2, .inl (is (U64 x3))), (3, .inr (.inl (3, 0)))], [(3, pb 23 [is (U8 a0_0), is (U8 a0_1)])]⟩
          have hr : r = F176_3 a0_0 a0_1 x2 x3 := hr
          refine AW_seq1 ?_
          refine AW_cut (σ := Bool) (fun v => ⟨[(1, .inl (is (U64 x2))), (2, .inl (is (U64 x3))), (30, .inl (is (Bl v)))], []⟩) (fun v => r = F176_4 x2 x3 v) ?_ ?_
          · skip
            refine AW_region ?_
            refine AL_cons (LR_loads (at_tmp 3 _) ag23 sz23 rfl rfl rfl) (sS (sT1 rfl) (sB1 rfl) sF0) ?_
            refine AL_cons (LR_move (at_tmp 1 _) rfl) (sS (sT1 rfl) sB0 sF0) ?_
            refine AL_cons (LR_move (at_tmp 2 _) rfl) (sS (sT1 rfl) sB0 sF0) ?_
            obtain ⟨y17, hy17, hr⟩ := lt_some hr
            refine AL_cons (LR_call Hfaa.func276 rfl rfl (C276 a0_0 a0_1 x2 x3 y17 hy17) (all_cons (at_tmp 27 _) (all_cons (at_tmp 28 _) (all_cons (at_tmp 29 _) all_nil))) rfl) (sS (sA (sT1 rfl) (sA (sT1 rfl) (sA (sT1 rfl) sT0))) sB0 sF0) ?_
            refine AL_nil ?_
            exact thenN (cutLeaf (v := y17) hr (weak0 ((sT rfl (sT rfl (sT rfl sT0)))) (sub_drop sub_nil)))
          · rintro x4 hr
            show AW Hfaa.prog _ _ _ ⟨[(1, .inl (is (U64 x2))), (2, .inl (is (U64 x3))), (30, .inl (is (Bl x4)))], []⟩
            have hr : r = F176_4 x2 x3 x4 := hr
            refine AW_condT (b := x4) rfl (fun h => ?_) (fun h => ?_)
            · have hr := hr.trans (cond_t h)
              clear h
              refine AW_seq1 ?_
              refine AW_region ?_
              refine AL_cons (LR_move (at_tmp 2 _) rfl) (sS (sT1 rfl) sB0 sF0) ?_
              refine AL_cons (LR_assign (at_tmp 31 _) rfl) (sS (sT1 rfl) sB0 sF0) ?_
              refine AL_cons (LR_assign (at_c (v' := U8 (0#8)) rfl) rfl) (sS sT0 sB0 sF0) ?_
              refine AL_nil ?_
              refine thenN ?_
              refine AW_ret ?_
              refine thenR ?_
              subst hr
              exact res2 rfl (rvT rfl) (rvT rfl)
            · have hr := hr.trans (cond_f h)
              clear h
              refine AW_skip ?_
              refine thenN ?_
              refine AW_seq1 ?_
              refine AW_region ?_
              refine AL_cons (LR_move (at_tmp 1 _) rfl) (sS (sT1 rfl) sB0 sF0) ?_
              refine AL_cons (LR_assign (at_tmp 32 _) rfl) (sS (sT1 rfl) sB0 sF0) ?_
              refine AL_cons (LR_assign (at_c (v' := U8 (0#8)) rfl) rfl) (sS sT0 sB0 sF0) ?_
              refine AL_nil ?_
              refine thenN ?_
              refine AW_ret ?_
              subst hr
              exact res2 rfl (rvT rfl) (rvT rfl)
end Go.Proofs.YfwaawGreat
