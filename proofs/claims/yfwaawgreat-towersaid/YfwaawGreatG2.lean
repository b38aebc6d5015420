import Derived.Test.YfwaawGreatG1
namespace Go.Proofs.YfwaawGreat
open Go.Aw
set_option linter.unusedVariables false
set_option maxRecDepth 100000
set_option maxHeartbeats 1000000
/-- ieee.signed -/
def F128 (a0_0 : BitVec 8) (a0_1 : BitVec 8) (a1 : Bool) (a2 : BitVec 64) : BitVec 64 := bif a1 then lt (F70 a0_0 a0_1) fun y4 => a2 ||| y4 else a2
theorem C128 (a0_0 : BitVec 8) (a0_1 : BitVec 8) (a1 : Bool) (a2 : BitVec 64) (r : BitVec 64) (hr : r = F128 a0_0 a0_1 a1 a2) : Aw.Fn Hfaa.prog 128 [agg [is (U8 a0_0), is (U8 a0_1)], is (Bl a1), is (U64 a2)] (is (U64 r)) := by
  refine fn_intro Hfaa.func128 rfl rfl rfl ?_
  intro bn0 w0 H0
  refine AW_seq1 ?_
  refine AW_region ?_
  refine AL_cons (LR_box (at_tmp 0 _) (cells_agg _) rfl) (sS (sT1 rfl) sB0 (sF1 rfl)) ?_
  refine AL_cons (LR_assign (at_c (v' := U64 (0#64)) rfl) rfl) (sS sT0 sB0 sF0) ?_
  refine AL_nil ?_
  refine thenN ?_
  refine AW_seq1 ?_
  refine AW_seq1 ?_
  refine AW_region ?_
  refine AL_cons (LR_move (at_tmp 1 _) rfl) (sS (sT1 rfl) sB0 sF0) ?_
  refine AL_nil ?_
  refine thenN ?_
  refine AW_condT (b := a1) rfl (fun h => ?_) (fun h => ?_)
  · have hr := hr.trans (cond_t h)
    clear h
    refine AW_seq1 ?_
    refine AW_region ?_
    refine AL_cons (LR_move (at_tmp 2 _) rfl) (sS (sT1 rfl) sB0 sF0) ?_
    refine AL_cons (LR_loads (at_tmp 3 _) ag23 sz23 rfl rfl rfl) (sS (sT1 rfl) (sB1 rfl) sF0) ?_
    obtain ⟨y4, hy4, hr⟩ := lt_some hr
    refine AL_cons (LR_call Hfaa.func70 rfl rfl (C70 a0_0 a0_1 y4 hy4) (all_cons (at_tmp 9 _) all_nil) rfl) (sS (sA (sT1 rfl) sT0) sB0 sF0) ?_
    refine AL_cons (LR_bin (at_tmp 8 _) (at_tmp 10 _) (or_U64 a2 y4) rfl) (sS (sA (sT1 rfl) (sT1 rfl)) sB0 sF0) ?_
    refine AL_cons (LR_assign (at_tmp 11 _) rfl) (sS (sT1 rfl) sB0 sF0) ?_
    refine AL_nil ?_
    refine thenN ?_
    refine AW_ret ?_
    refine thenR ?_
    subst hr
    exact res1 rfl (rvT rfl)
  · have hr := hr.trans (cond_f h)
    clear h
    refine AW_skip ?_
    refine thenN ?_
    refine AW_seq1 ?_
    refine AW_region ?_
    refine AL_cons (LR_move (at_tmp 2 _) rfl) (sS (sT1 rfl) sB0 sF0) ?_
    refine AL_cons (LR_assign (at_tmp 12 _) rfl) (sS (sT1 rfl) sB0 sF0) ?_
    refine AL_nil ?_
    refine thenN ?_
    refine AW_ret ?_
    subst hr
    exact res1 rfl (rvT rfl)
/-- ieee.Inf -/
def F67_1 (a0_0 : BitVec 8) (a0_1 : BitVec 8) (a1 : Bool) (x1 : Bool) : BitVec 64 := bif x1 then 0#64 else lt (F128 a0_0 a0_1 a1 ((((1#64) <<< a0_0.toNat) - (1#64)) <<< a0_1.toNat)) fun y5 => y5
def F67 (a0_0 : BitVec 8) (a0_1 : BitVec 8) (a1 : Bool) : BitVec 64 := lt (F40 a0_0 a0_1) fun y6 => F67_1 a0_0 a0_1 a1 (!y6)
theorem C67 (a0_0 : BitVec 8) (a0_1 : BitVec 8) (a1 : Bool) (r : BitVec 64) (hr : r = F67 a0_0 a0_1 a1) : Aw.Fn Hfaa.prog 67 [agg [is (U8 a0_0), is (U8 a0_1)], is (Bl a1)] (is (U64 r)) := by
  refine fn_intro Hfaa.func67 rfl rfl rfl ?_
  intro bn0 w0 H0
  refine AW_seq1 ?_
  refine AW_region ?_
  refine AL_cons (LR_box (at_tmp 0 _) (cells_agg _) rfl) (sS (sT1 rfl) sB0 (sF1 rfl)) ?_
  refine AL_cons (LR_assign (at_c (v' := U64 (0#64)) rfl) rfl) (sS sT0 sB0 sF0) ?_
  refine AL_nil ?_
  refine thenN ?_
  refine AW_seq1 ?_
  refine AW_cut (σ := Bool) (fun v => ⟨[(1, .inl (is (Bl a1))), (2, .inr (.inl (2, 0))), (7, .inl (is (Bl v)))], [(2, pb 23 [is (U8 a0_0), is (U8 a0_1)])]⟩) (fun v => r = F67_1 a0_0 a0_1 a1 v) ?_ ?_
  · skip
    refine AW_region ?_
    refine AL_cons (LR_loads (at_tmp 2 _) ag23 sz23 rfl rfl rfl) (sS (sT1 rfl) (sB1 rfl) sF0) ?_
    obtain ⟨y6, hy6, hr⟩ := lt_some hr
    refine AL_cons (LR_call Hfaa.func40 rfl rfl (C40 a0_0 a0_1 y6 hy6) (all_cons (at_tmp 5 _) all_nil) rfl) (sS (sA (sT1 rfl) sT0) sB0 sF0) ?_
    refine AL_cons (LR_un (at_tmp 6 _) (not_Bl y6) rfl) (sS (sT1 rfl) sB0 sF0) ?_
    refine AL_nil ?_
    exact thenN (cutLeaf (v := !y6) hr (weak0 ((sT rfl (sT rfl (sT rfl sT0)))) (sub_keep sub_nil)))
  · rintro x1 hr
    show AW Hfaa.prog _ _ _ ⟨[(1, .inl (is (Bl a1))), (2, .inr (.inl (2, 0))), (7, .inl (is (Bl x1)))], [(2, pb 23 [is (U8 a0_0), is (U8 a0_1)])]⟩
    have hr : r = F67_1 a0_0 a0_1 a1 x1 := hr
    refine AW_condT (b := x1) rfl (fun h => ?_) (fun h => ?_)
    · have hr := hr.trans (cond_t h)
      clear h
      refine AW_seq1 ?_
      refine AW_region ?_
      refine AL_cons (LR_assign (at_c (v' := U64 (0#64)) rfl) rfl) (sS sT0 sB0 sF0) ?_
      refine AL_nil ?_
      refine thenN ?_
      refine AW_ret ?_
      refine thenR ?_
      subst hr
      exact res1 rfl (rvT rfl)
    · have hr := hr.trans (cond_f h)
      clear h
      refine AW_skip ?_
      refine thenN ?_
      refine AW_seq1 ?_
      refine AW_region ?_
      refine AL_cons (LR_loads (at_tmp 2 _) ag23 sz23 rfl rfl rfl) (sS (sT1 rfl) (sB1 rfl) sF0) ?_
      refine AL_cons (LR_move (at_tmp 1 _) rfl) (sS (sT1 rfl) sB0 sF0) ?_
      refine AL_cons (LR_fieldAddr (off := 0) (o := 0) (at_tmp 2 _) (fun b w => fa23_0 b 0 w) rfl) (sS (sT1 rfl) sB0 sF0) ?_
      refine AL_cons (LR_load (at_tmp 10 _) na5 rfl rfl) (sS (sT1 rfl) (sB1 rfl) sF0) ?_
      refine AL_cons (LR_bin (at_c (v' := U64 (1#64)) rfl) (at_tmp 11 _) (shl_U64 (1#64) (a0_0.toNat : Int) (Int.natCast_nonneg _)) rfl) (sS (sA sT0 (sT1 rfl)) sB0 sF0) ?_
      refine AL_cons (LR_bin (at_tmp 12 _) (at_c (v' := U64 (1#64)) rfl) (sub_U64 ((1#64) <<< a0_0.toNat) (1#64)) rfl) (sS (sA (sT1 rfl) sT0) sB0 sF0) ?_
      refine AL_cons (LR_fieldAddr (off := 0) (o := 1) (at_tmp 2 _) (fun b w => fa23_1 b 0 w) rfl) (sS (sT1 rfl) sB0 sF0) ?_
      refine AL_cons (LR_load (at_tmp 14 _) na5 rfl rfl) (sS (sT1 rfl) (sB1 rfl) sF0) ?_
      refine AL_cons (LR_bin (at_tmp 13 _) (at_tmp 15 _) (shl_U64 (((1#64) <<< a0_0.toNat) - (1#64)) (a0_1.toNat : Int) (Int.natCast_nonneg _)) rfl) (sS (sA (sT1 rfl) (sT1 rfl)) sB0 sF0) ?_
      obtain ⟨y5, hy5, hr⟩ := lt_some hr
      refine AL_cons (LR_call Hfaa.func128 rfl rfl (C128 a0_0 a0_1 a1 ((((1#64) <<< a0_0.toNat) - (1#64)) <<< a0_1.toNat) y5 hy5) (all_cons (at_tmp 8 _) (all_cons (at_tmp 9 _) (all_cons (at_tmp 16 _) all_nil))) rfl) (sS (sA (sT1 rfl) (sA (sT1 rfl) (sA (sT1 rfl) sT0))) sB0 sF0) ?_
      refine AL_cons (LR_assign (at_tmp 17 _) rfl) (sS (sT1 rfl) sB0 sF0) ?_
      refine AL_nil ?_
      refine thenN ?_
      refine AW_ret ?_
      subst hr
      exact res1 rfl (rvT rfl)
/-- ieee.TheNaN -/
def F66_1 (a0_0 : BitVec 8) (a0_1 : BitVec 8) (x1 : Bool) : BitVec 64 := bif x1 then 0#64 else lt (F67 a0_0 a0_1 false) fun y5 => y5 ||| ((1#64) <<< (a0_1 - (1#8)).toNat)
def F66 (a0_0 : BitVec 8) (a0_1 : BitVec 8) : BitVec 64 := lt (F40 a0_0 a0_1) fun y6 => F66_1 a0_0 a0_1 (!y6)
theorem C66 (a0_0 : BitVec 8) (a0_1 : BitVec 8) (r : BitVec 64) (hr : r = F66 a0_0 a0_1) : Aw.Fn Hfaa.prog 66 [agg [is (U8 a0_0), is (U8 a0_1)]] (is (U64 r)) := by
  refine fn_intro Hfaa.func66 rfl rfl rfl ?_
  intro bn0 w0 H0
  refine AW_seq1 ?_
  refine AW_region ?_
  refine AL_cons (LR_box (at_tmp 0 _) (cells_agg _) rfl) (sS (sT1 rfl) sB0 (sF1 rfl)) ?_
  refine AL_cons (LR_assign (at_c (v' := U64 (0#64)) rfl) rfl) (sS sT0 sB0 sF0) ?_
  refine AL_nil ?_
  refine thenN ?_
  refine AW_seq1 ?_
  refine AW_cut (σ := Bool) (fun v => ⟨[(1, .inr (.inl (1, 0))), (5, .inl (is (Bl v)))], [(1, pb 23 [is (U8 a0_0), is (U8 a0_1)])]⟩) (fun v => r = F66_1 a0_0 a0_1 v) ?_ ?_
  · skip
    refine AW_region ?_
    refine AL_cons (LR_loads (at_tmp 1 _) ag23 sz23 rfl rfl rfl) (sS (sT1 rfl) (sB1 rfl) sF0) ?_
    obtain ⟨y6, hy6, hr⟩ := lt_some hr
    refine AL_cons (LR_call Hfaa.func40 rfl rfl (C40 a0_0 a0_1 y6 hy6) (all_cons (at_tmp 3 _) all_nil) rfl) (sS (sA (sT1 rfl) sT0) sB0 sF0) ?_
    refine AL_cons (LR_un (at_tmp 4 _) (not_Bl y6) rfl) (sS (sT1 rfl) sB0 sF0) ?_
    refine AL_nil ?_
    exact thenN (cutLeaf (v := !y6) hr (weak0 ((sT rfl (sT rfl sT0))) (sub_keep sub_nil)))
  · rintro x1 hr
    show AW Hfaa.prog _ _ _ ⟨[(1, .inr (.inl (1, 0))), (5, .inl (is (Bl x1)))], [(1, pb 23 [is (U8 a0_0), is (U8 a0_1)])]⟩
    have hr : r = F66_1 a0_0 a0_1 x1 := hr
    refine AW_condT (b := x1) rfl (fun h => ?_) (fun h => ?_)
    · have hr := hr.trans (cond_t h)
      clear h
      refine AW_seq1 ?_
      refine AW_region ?_
      refine AL_cons (LR_assign (at_c (v' := U64 (0#64)) rfl) rfl) (sS sT0 sB0 sF0) ?_
      refine AL_nil ?_
      refine thenN ?_
      refine AW_ret ?_
      refine thenR ?_
      subst hr
      exact res1 rfl (rvT rfl)
    · have hr := hr.trans (cond_f h)
      clear h
      refine AW_skip ?_
      refine thenN ?_
      refine AW_seq1 ?_
      obtain ⟨y5, hy5, hr⟩ := lt_some hr
      refine AW_draw mixed
        (lrC (LR_loads (at_tmp 1 _) ag23 sz23 rfl rfl rfl)
        (lrC (LR_call Hfaa.func67 rfl rfl (C67 a0_0 a0_1 false y5 hy5) (all_cons (at_tmp 6 _) (all_cons (at_c (v' := Bl false) rfl) all_nil)) rfl)
        (lrC (LR_fieldAddr (off := 0) (o := 1) (at_tmp 1 _) (fun b w => fa23_1 b 0 w) rfl)
        (lrC (LR_load (at_tmp 8 _) na5 rfl rfl)
        (lrC (LR_bin (at_tmp 9 _) (at_c (v' := U8 (1#8)) rfl) (sub_U8 a0_1 (1#8)) rfl)
        (lrC (LR_bin (at_c (v' := U64 (1#64)) rfl) (at_tmp 10 _) (shl_U64 (1#64) ((a0_1 - (1#8)).toNat : Int) (Int.natCast_nonneg _)) rfl)
        (lrC (LR_bin (at_tmp 7 _) (at_tmp 11 _) (or_U64 y5 ((1#64) <<< (a0_1 - (1#8)).toNat)) rfl)
        (lrC (LR_assign (at_tmp 12 _) rfl)
        lrN))))))))
        (by kernel_rfl)
        (saC (sS (sT1 rfl) (sB1 rfl) sF0) (saC (sS (sA (sT1 rfl) (sA sT0 sT0)) sB0 sF0) (saC (sS (sT1 rfl) sB0 sF0) (saC (sS (sT1 rfl) (sB1 rfl) sF0) (saC (sS (sA (sT1 rfl) sT0) sB0 sF0) (saC (sS (sA sT0 (sT1 rfl)) sB0 sF0) (saC (sS (sA (sT1 rfl) (sT1 rfl)) sB0 sF0) (saC (sS (sT1 rfl) sB0 sF0) saN)))))))) ?_
      refine thenN ?_
      refine AW_ret ?_
      subst hr
      exact res1 rfl (rvT rfl)
/-- (ieee.Format).Mask -/
def F69_1 (a0_0 : BitVec 8) (a0_1 : BitVec 8) (x1 : Bool) : BitVec 64 := bif x1 then 0#64 else lt (F70 a0_0 a0_1) fun y5 => (y5 <<< 1) - (1#64)
def F69 (a0_0 : BitVec 8) (a0_1 : BitVec 8) : BitVec 64 := lt (F40 a0_0 a0_1) fun y6 => F69_1 a0_0 a0_1 (!y6)
theorem C69 (a0_0 : BitVec 8) (a0_1 : BitVec 8) (r : BitVec 64) (hr : r = F69 a0_0 a0_1) : Aw.Fn Hfaa.prog 69 [agg [is (U8 a0_0), is (U8 a0_1)]] (is (U64 r)) := by
  refine fn_intro Hfaa.func69 rfl rfl rfl ?_
  intro bn0 w0 H0
  refine AW_seq1 ?_
  refine AW_region ?_
  refine AL_cons (LR_box (at_tmp 0 _) (cells_agg _) rfl) (sS (sT1 rfl) sB0 (sF1 rfl)) ?_
  refine AL_cons (LR_assign (at_c (v' := U64 (0#64)) rfl) rfl) (sS sT0 sB0 sF0) ?_
  refine AL_nil ?_
  refine thenN ?_
  refine AW_seq1 ?_
  refine AW_cut (σ := Bool) (fun v => ⟨[(1, .inr (.inl (1, 0))), (5, .inl (is (Bl v)))], [(1, pb 23 [is (U8 a0_0), is (U8 a0_1)])]⟩) (fun v => r = F69_1 a0_0 a0_1 v) ?_ ?_
  · skip
    refine AW_region ?_
    refine AL_cons (LR_loads (at_tmp 1 _) ag23 sz23 rfl rfl rfl) (sS (sT1 rfl) (sB1 rfl) sF0) ?_
    obtain ⟨y6, hy6, hr⟩ := lt_some hr
    refine AL_cons (LR_call Hfaa.func40 rfl rfl (C40 a0_0 a0_1 y6 hy6) (all_cons (at_tmp 3 _) all_nil) rfl) (sS (sA (sT1 rfl) sT0) sB0 sF0) ?_
    refine AL_cons (LR_un (at_tmp 4 _) (not_Bl y6) rfl) (sS (sT1 rfl) sB0 sF0) ?_
    refine AL_nil ?_
    exact thenN (cutLeaf (v := !y6) hr (weak0 ((sT rfl (sT rfl sT0))) (sub_keep sub_nil)))
  · rintro x1 hr
    show AW Hfaa.prog _ _ _ ⟨[(1, .inr (.inl (1, 0))), (5, .inl (is (Bl x1)))], [(1, pb 23 [is (U8 a0_0), is (U8 a0_1)])]⟩
    have hr : r = F69_1 a0_0 a0_1 x1 := hr
    refine AW_condT (b := x1) rfl (fun h => ?_) (fun h => ?_)
    · have hr := hr.trans (cond_t h)
      clear h
      refine AW_seq1 ?_
      refine AW_region ?_
      refine AL_cons (LR_assign (at_c (v' := U64 (0#64)) rfl) rfl) (sS sT0 sB0 sF0) ?_
      refine AL_nil ?_
      refine thenN ?_
      refine AW_ret ?_
      refine thenR ?_
      subst hr
      exact res1 rfl (rvT rfl)
    · have hr := hr.trans (cond_f h)
      clear h
      refine AW_skip ?_
      refine thenN ?_
      refine AW_seq1 ?_
      refine AW_region ?_
      refine AL_cons (LR_loads (at_tmp 1 _) ag23 sz23 rfl rfl rfl) (sS (sT1 rfl) (sB1 rfl) sF0) ?_
      obtain ⟨y5, hy5, hr⟩ := lt_some hr
      refine AL_cons (LR_call Hfaa.func70 rfl rfl (C70 a0_0 a0_1 y5 hy5) (all_cons (at_tmp 6 _) all_nil) rfl) (sS (sA (sT1 rfl) sT0) sB0 sF0) ?_
      refine AL_cons (LR_bin (at_tmp 7 _) (at_c (v' := U64 (1#64)) rfl) (shl_U64 y5 ((1#64).toNat : Int) (Int.natCast_nonneg _)) rfl) (sS (sA (sT1 rfl) sT0) sB0 sF0) ?_
      refine AL_cons (LR_bin (at_tmp 8 _) (at_c (v' := U64 (1#64)) rfl) (sub_U64 (y5 <<< 1) (1#64)) rfl) (sS (sA (sT1 rfl) sT0) sB0 sF0) ?_
      refine AL_cons (LR_assign (at_tmp 9 _) rfl) (sS (sT1 rfl) sB0 sF0) ?_
      refine AL_nil ?_
      refine thenN ?_
      refine AW_ret ?_
      subst hr
      exact res1 rfl (rvT rfl)
/-- calc/ex.clean -/
def F222_1 (a0_0 : BitVec 8) (a0_1 : BitVec 8) (a1 : BitVec 64) (x1 : Bool) : BitVec 64 := bif x1 then lt (F66 a0_0 a0_1) fun y7 => y7 else lt (F69 a0_0 a0_1) fun y9 => a1 &&& y9
def F222 (a0_0 : BitVec 8) (a0_1 : BitVec 8) (a1 : BitVec 64) : BitVec 64 := lt (F65 a0_0 a0_1 a1) fun y10 => F222_1 a0_0 a0_1 a1 (y10.2.1 == 4)
theorem C222 (a0_0 : BitVec 8) (a0_1 : BitVec 8) (a1 : BitVec 64) (r : BitVec 64) (hr : r = F222 a0_0 a0_1 a1) : Aw.Fn Hfaa.prog 222 [agg [is (U8 a0_0), is (U8 a0_1)], is (U64 a1)] (is (U64 r)) := by
  refine fn_intro Hfaa.func222 rfl rfl rfl ?_
  intro bn0 w0 H0
  refine AW_seq1 ?_
  refine AW_region ?_
  refine AL_cons (LR_box (at_tmp 0 _) (cells_agg _) rfl) (sS (sT1 rfl) sB0 (sF1 rfl)) ?_
  refine AL_cons (LR_assign (at_c (v' := U64 (0#64)) rfl) rfl) (sS sT0 sB0 sF0) ?_
  refine AL_nil ?_
  refine thenN ?_
  refine AW_seq1 ?_
  refine AW_cut (σ := Bool) (fun v => ⟨[(1, .inl (is (U64 a1))), (2, .inr (.inl (2, 0))), (9, .inl (is (Bl v)))], [(2, pb 23 [is (U8 a0_0), is (U8 a0_1)])]⟩) (fun v => r = F222_1 a0_0 a0_1 a1 v) ?_ ?_
  · skip
    refine AW_region ?_
    refine AL_cons (LR_loads (at_tmp 2 _) ag23 sz23 rfl rfl rfl) (sS (sT1 rfl) (sB1 rfl) sF0) ?_
    refine AL_cons (LR_move (at_tmp 1 _) rfl) (sS (sT1 rfl) sB0 sF0) ?_
    obtain ⟨y10, hy10, hr⟩ := lt_some hr
    refine AL_cons (LR_call Hfaa.func65 rfl rfl (C65 a0_0 a0_1 a1 y10 hy10) (all_cons (at_tmp 5 _) (all_cons (at_tmp 6 _) all_nil)) rfl) (sS (sA (sT1 rfl) (sA (sT1 rfl) sT0)) sB0 sF0) ?_
    refine AL_cons (LR_field (off := 1) (at_tmp 7 _) Hfaa.underlying112 rfl rfl na110 rfl rfl) (sS (sT1 rfl) sB0 sF0) ?_
    refine AL_cons (LR_bin (at_tmp 8 _) (at_c (v' := I8 4) rfl) (eql_I8 y10.2.1 4) rfl) (sS (sA (sT1 rfl) sT0) sB0 sF0) ?_
    refine AL_nil ?_
    exact thenN (cutLeaf (v := y10.2.1 == 4) hr (weak0 ((sT rfl (sT rfl (sT rfl sT0)))) (sub_keep sub_nil)))
  · rintro x1 hr
    show AW Hfaa.prog _ _ _ ⟨[(1, .inl (is (U64 a1))), (2, .inr (.inl (2, 0))), (9, .inl (is (Bl x1)))], [(2, pb 23 [is (U8 a0_0), is (U8 a0_1)])]⟩
    have hr : r = F222_1 a0_0 a0_1 a1 x1 := hr
    refine AW_condT (b := x1) rfl (fun h => ?_) (fun h => ?_)
    · have hr := hr.trans (cond_t h)
      clear h
      refine AW_seq1 ?_
      refine AW_region ?_
      refine AL_cons (LR_loads (at_tmp 2 _) ag23 sz23 rfl rfl rfl) (sS (sT1 rfl) (sB1 rfl) sF0) ?_
      obtain ⟨y7, hy7, hr⟩ := lt_some hr
      refine AL_cons (LR_call Hfaa.func66 rfl rfl (C66 a0_0 a0_1 y7 hy7) (all_cons (at_tmp 10 _) all_nil) rfl) (sS (sA (sT1 rfl) sT0) sB0 sF0) ?_
      refine AL_cons (LR_assign (at_tmp 11 _) rfl) (sS (sT1 rfl) sB0 sF0) ?_
      refine AL_nil ?_
      refine thenN ?_
      refine AW_ret ?_
      refine thenR ?_
      subst hr
      exact res1 rfl (rvT rfl)
    · have hr := hr.trans (cond_f h)
      clear h
      refine AW_skip ?_
      refine thenN ?_
      refine AW_seq1 ?_
      refine AW_region ?_
      refine AL_cons (LR_move (at_tmp 1 _) rfl) (sS (sT1 rfl) sB0 sF0) ?_
      refine AL_cons (LR_loads (at_tmp 2 _) ag23 sz23 rfl rfl rfl) (sS (sT1 rfl) (sB1 rfl) sF0) ?_
      obtain ⟨y9, hy9, hr⟩ := lt_some hr
      refine AL_cons (LR_call Hfaa.func69 rfl rfl (C69 a0_0 a0_1 y9 hy9) (all_cons (at_tmp 13 _) all_nil) rfl) (sS (sA (sT1 rfl) sT0) sB0 sF0) ?_
      refine AL_cons (LR_bin (at_tmp 12 _) (at_tmp 14 _) (and_U64 a1 y9) rfl) (sS (sA (sT1 rfl) (sT1 rfl)) sB0 sF0) ?_
      refine AL_cons (LR_assign (at_tmp 15 _) rfl) (sS (sT1 rfl) sB0 sF0) ?_
      refine AL_nil ?_
      refine thenN ?_
      refine AW_ret ?_
      subst hr
      exact res1 rfl (rvT rfl)
/-- exact.whole -/
def F129 (a0 : Bool) (a1 : Nat) : Bool × Nat × Nat := (a0, a1, (1#64).toNat)
theorem C129 (a0 : Bool) (a1 : Nat) (r : Bool × Nat × Nat) (hr : r = F129 a0 a1) : Aw.Fn Hfaa.prog 129 [is (Bl a0), big a1] (agg [is (Bl r.1), big r.2.1, big r.2.2]) := by
  refine fn_intro Hfaa.func129 rfl rfl rfl ?_
  intro bn0 w0 H0
  refine AW_seq1 ?_
  refine AW_region ?_
  refine AL_cons (zl119 rfl) (sS sT0 sB0 (sF1 rfl)) ?_
  refine AL_nil ?_
  refine thenN ?_
  refine AW_seq1 ?_
  refine AW_region ?_
  refine AL_cons (LR_move (at_tmp 0 _) rfl) (sS (sT1 rfl) sB0 sF0) ?_
  refine AL_cons (LR_move (at_tmp 1 _) rfl) (sS (sT1 rfl) sB0 sF0) ?_
  refine AL_cons (LR_call Hfaa.func20 rfl rfl (B20 (1#64)) (all_cons (at_c (v' := U64 (1#64)) rfl) all_nil) rfl) (sS (sA sT0 sT0) sB0 sF0) ?_
  refine AL_cons (bl119 (parts_cons (i := 0) (off := 0) (at_tmp 5 _) (cells_one (one_is rfl)) rfl rfl (parts_cons (i := 1) (off := 1) (at_tmp 6 _) (cells_one (one_big _)) rfl rfl (parts_cons (i := 2) (off := 2) (at_tmp 7 _) (cells_one (one_big _)) rfl rfl parts_nil))) rfl rfl) (sS (sA (sT1 rfl) (sA (sT1 rfl) (sA (sT1 rfl) sT0))) sB0 sF0) ?_
  refine AL_cons (LR_store (at_tmp 4 _) (at_tmp 8 _) (cells_agg _) (onC (one_is rfl) (onC (one_big _) (onC (one_big _) onN))) sz119 rfl rfl) (sS (sA (sT1 rfl) (sT1 rfl)) (sB1 rfl) sF0) ?_
  refine AL_nil ?_
  refine thenN ?_
  refine AW_ret ?_
  subst hr
  exact res1 rfl (rvC rfl rfl ag119 sz119 rfl)
/-- exact.scaled -/
def F130_1 (N : Nat) (a0 : Bool) (a1 : Nat) (a2 : Int) (x1 : Bool) : Option (Bool × Nat × Nat) := bif x1 then bif lim ((1#64).toNat) then some ((a0, a1, ((1#64).toNat) * 2 ^ (BitVec.ofInt 16 (w64 (0 - a2))).toNat)) else none else bif lim a1 then lt (F129 a0 (a1 * 2 ^ (BitVec.ofInt 16 a2).toNat)) fun y2 => some (y2.1, y2.2.1, y2.2.2) else none
def F130 (N : Nat) (a0 : Bool) (a1 : Nat) (a2 : Int) : Option (Bool × Nat × Nat) := F130_1 N a0 a1 a2 (decide (a2 < 0))
theorem C130 (N : Nat) (a0 : Bool) (a1 : Nat) (a2 : Int) (r : Bool × Nat × Nat) (hr : some r = F130 N a0 a1 a2) : Aw.Fn Hfaa.prog 130 [is (Bl a0), big a1, is (I64 a2)] (agg [is (Bl r.1), big r.2.1, big r.2.2]) := by
  refine fn_intro Hfaa.func130 rfl rfl rfl ?_
  intro bn0 w0 H0
  refine AW_seq1 ?_
  refine AW_region ?_
  refine AL_cons (zl119 rfl) (sS sT0 sB0 (sF1 rfl)) ?_
  refine AL_nil ?_
  refine thenN ?_
  refine AW_seq1 ?_
  refine AW_cut (σ := Bool) (fun v => ⟨[(0, .inl (is (Bl a0))), (1, .inl (big a1)), (2, .inl (is (I64 a2))), (6, .inr (.inl (6, 0))), (8, .inl (is (Bl v)))], [(6, pb 119 [is (Bl false), big 0, big 0])]⟩) (fun v => some r = F130_1 N a0 a1 a2 v) ?_ ?_
  · skip
    refine AW_region ?_
    refine AL_cons (LR_move (at_tmp 2 _) rfl) (sS (sT1 rfl) sB0 sF0) ?_
    refine AL_cons (LR_bin (at_tmp 7 _) (at_c (v' := I64 0) rfl) (lss_I64 a2 0) rfl) (sS (sA (sT1 rfl) sT0) sB0 sF0) ?_
    refine AL_nil ?_
    exact thenN (cutLeaf (v := decide (a2 < 0)) hr (weak0 ((sT rfl (sT rfl (sT rfl (sT rfl (sT rfl sT0)))))) (sub_keep sub_nil)))
  · rintro x1 hr
    show AW Hfaa.prog _ _ _ ⟨[(0, .inl (is (Bl a0))), (1, .inl (big a1)), (2, .inl (is (I64 a2))), (6, .inr (.inl (6, 0))), (8, .inl (is (Bl x1)))], [(6, pb 119 [is (Bl false), big 0, big 0])]⟩
    have hr : some r = F130_1 N a0 a1 a2 x1 := hr
    refine AW_condT (b := x1) rfl (fun h => ?_) (fun h => ?_)
    · have hr := hr.trans (cond_t h)
      clear h
      refine AW_seq1 ?_
      refine AW_region ?_
      refine AL_cons (LR_move (at_tmp 0 _) rfl) (sS (sT1 rfl) sB0 sF0) ?_
      refine AL_cons (LR_move (at_tmp 1 _) rfl) (sS (sT1 rfl) sB0 sF0) ?_
      refine AL_cons (LR_call Hfaa.func20 rfl rfl (B20 (1#64)) (all_cons (at_c (v' := U64 (1#64)) rfl) all_nil) rfl) (sS (sA sT0 sT0) sB0 sF0) ?_
      refine AL_cons (LR_move (at_tmp 2 _) rfl) (sS (sT1 rfl) sB0 sF0) ?_
      refine AL_cons (LR_un (at_tmp 12 _) (neg_I64 a2) rfl) (sS (sT1 rfl) sB0 sF0) ?_
      refine AL_cons (LR_conv (vx := I64 (w64 (0 - a2))) (at_tmp 13 _) (conv_U16 Hfaa.underlying3 Hfaa.underlying71 (w64 (0 - a2))) rfl) (sS (sT1 rfl) sB0 sF0) ?_
      obtain ⟨hg4, hr⟩ := guard_some hr
      refine AL_cons (LR_call Hfaa.func36 rfl rfl (B36 ((1#64).toNat) (BitVec.ofInt 16 (w64 (0 - a2))) hg4) (all_cons (at_tmp 11 _) (all_cons (at_tmp 14 _) all_nil)) rfl) (sS (sA (sT1 rfl) (sA (sT1 rfl) sT0)) sB0 sF0) ?_
      refine AL_cons (bl119 (parts_cons (i := 0) (off := 0) (at_tmp 9 _) (cells_one (one_is rfl)) rfl rfl (parts_cons (i := 1) (off := 1) (at_tmp 10 _) (cells_one (one_big _)) rfl rfl (parts_cons (i := 2) (off := 2) (at_tmp 15 _) (cells_one (one_big _)) rfl rfl parts_nil))) rfl rfl) (sS (sA (sT1 rfl) (sA (sT1 rfl) (sA (sT1 rfl) sT0))) sB0 sF0) ?_
      refine AL_cons (LR_store (at_tmp 6 _) (at_tmp 16 _) (cells_agg _) (onC (one_is rfl) (onC (one_big _) (onC (one_big _) onN))) sz119 rfl rfl) (sS (sA (sT1 rfl) (sT1 rfl)) (sB1 rfl) sF0) ?_
      refine AL_nil ?_
      refine thenN ?_
      refine AW_ret ?_
      refine thenR ?_
      obtain rfl := Option.some.inj hr
      exact res1 rfl (rvC rfl rfl ag119 sz119 rfl)
    · have hr := hr.trans (cond_f h)
      clear h
      refine AW_skip ?_
      refine thenN ?_
      refine AW_seq1 ?_
      refine AW_region ?_
      refine AL_cons (LR_move (at_tmp 0 _) rfl) (sS (sT1 rfl) sB0 sF0) ?_
      refine AL_cons (LR_move (at_tmp 1 _) rfl) (sS (sT1 rfl) sB0 sF0) ?_
      refine AL_cons (LR_move (at_tmp 2 _) rfl) (sS (sT1 rfl) sB0 sF0) ?_
      refine AL_cons (LR_conv (vx := I64 a2) (at_tmp 19 _) (conv_U16 Hfaa.underlying3 Hfaa.underlying71 a2) rfl) (sS (sT1 rfl) sB0 sF0) ?_
      obtain ⟨hg6, hr⟩ := guard_some hr
      refine AL_cons (LR_call Hfaa.func36 rfl rfl (B36 a1 (BitVec.ofInt 16 a2) hg6) (all_cons (at_tmp 18 _) (all_cons (at_tmp 20 _) all_nil)) rfl) (sS (sA (sT1 rfl) (sA (sT1 rfl) sT0)) sB0 sF0) ?_
      obtain ⟨y2, hy2, hr⟩ := lt_some hr
      refine AL_cons (LR_call Hfaa.func129 rfl rfl (C129 a0 (a1 * 2 ^ (BitVec.ofInt 16 a2).toNat) y2 hy2) (all_cons (at_tmp 17 _) (all_cons (at_tmp 21 _) all_nil)) rfl) (sS (sA (sT1 rfl) (sA (sT1 rfl) sT0)) sB0 sF0) ?_
      refine AL_cons (LR_store (at_tmp 6 _) (at_tmp 22 _) (cells_agg _) (onC (one_is rfl) (onC (one_big _) (onC (one_big _) onN))) sz119 rfl rfl) (sS (sA (sT1 rfl) (sT1 rfl)) (sB1 rfl) sF0) ?_
      refine AL_nil ?_
      refine thenN ?_
      refine AW_ret ?_
      obtain rfl := Option.some.inj hr
      exact res1 rfl (rvC rfl rfl ag119 sz119 rfl)
/-- exact.Value -/
def F72_3 (N : Nat) (x2 : Bool) (x3 : Int) (x4 : Int) (x5 : BitVec 64) (x6 : Bool) : Option (Bool × Nat × Nat × Int) := bif x6 then lt (F129 false 0) fun y8 => some (y8.1, y8.2.1, y8.2.2, x3) else (F130 N x2 x5.toNat (w64 x4)).bind fun y10 => some (y10.1, y10.2.1, y10.2.2, x3)
def F72_2 (N : Nat) (x2 : Bool) (x3 : Int) (x4 : Int) (x5 : BitVec 64) : Option (Bool × Nat × Nat × Int) := F72_3 N x2 x3 x4 x5 ((x3 == 4) || (x3 == 3))
def F72_1 (N : Nat) (a0_0 : BitVec 8) (a0_1 : BitVec 8) (a1 : BitVec 64) (x1 : Bool) : Option (Bool × Nat × Nat × Int) := bif x1 then some (false, 0, 0, 0) else lt (F65 a0_0 a0_1 a1) fun y11 => F72_2 N y11.1 y11.2.1 y11.2.2.1 y11.2.2.2
def F72 (N : Nat) (a0_0 : BitVec 8) (a0_1 : BitVec 8) (a1 : BitVec 64) : Option (Bool × Nat × Nat × Int) := lt (F40 a0_0 a0_1) fun y12 => F72_1 N a0_0 a0_1 a1 (!y12)
theorem C72 (N : Nat) (a0_0 : BitVec 8) (a0_1 : BitVec 8) (a1 : BitVec 64) (r : Bool × Nat × Nat × Int) (hr : some r = F72 N a0_0 a0_1 a1) : Aw.Fn Hfaa.prog 72 [agg [is (U8 a0_0), is (U8 a0_1)], is (U64 a1)] (tup [agg [is (Bl r.1), big r.2.1, big r.2.2.1], is (I8 r.2.2.2)]) := by
  refine fn_intro Hfaa.func72 rfl rfl rfl ?_
  intro bn0 w0 H0
  refine AW_seq1 ?_
  refine AW_region ?_
  refine AL_cons (LR_box (at_tmp 0 _) (cells_agg _) rfl) (sS (sT1 rfl) sB0 (sF1 rfl)) ?_
  refine AL_cons (zl119 rfl) (sS sT0 sB0 (sF1 rfl)) ?_
  refine AL_cons (LR_assign (at_c (v' := I8 0) rfl) rfl) (sS sT0 sB0 sF0) ?_
  refine AL_nil ?_
  refine thenN ?_
  refine AW_seq1 ?_
  refine AW_cut (σ := Bool) (fun v => ⟨[(1, .inl (is (U64 a1))), (2, .inr (.inl (2, 0))), (4, .inr (.inl (4, 0))), (9, .inl (is (Bl v)))], [(2, pb 23 [is (U8 a0_0), is (U8 a0_1)]), (4, pb 119 [is (Bl false), big 0, big 0])]⟩) (fun v => some r = F72_1 N a0_0 a0_1 a1 v) ?_ ?_
  · skip
    refine AW_region ?_
    refine AL_cons (LR_loads (at_tmp 2 _) ag23 sz23 rfl rfl rfl) (sS (sT1 rfl) (sB1 rfl) sF0) ?_
    obtain ⟨y12, hy12, hr⟩ := lt_some hr
    refine AL_cons (LR_call Hfaa.func40 rfl rfl (C40 a0_0 a0_1 y12 hy12) (all_cons (at_tmp 7 _) all_nil) rfl) (sS (sA (sT1 rfl) sT0) sB0 sF0) ?_
    refine AL_cons (LR_un (at_tmp 8 _) (not_Bl y12) rfl) (sS (sT1 rfl) sB0 sF0) ?_
    refine AL_nil ?_
    exact thenN (cutLeaf (v := !y12) hr (weak0 ((sT rfl (sT rfl (sT rfl (sT rfl sT0))))) (sub_keep (sub_keep sub_nil))))
  · rintro x1 hr
    show AW Hfaa.prog _ _ _ ⟨[(1, .inl (is (U64 a1))), (2, .inr (.inl (2, 0))), (4, .inr (.inl (4, 0))), (9, .inl (is (Bl x1)))], [(2, pb 23 [is (U8 a0_0), is (U8 a0_1)]), (4, pb 119 [is (Bl false), big 0, big 0])]⟩
    have hr : some r = F72_1 N a0_0 a0_1 a1 x1 := hr
    refine AW_condT (b := x1) rfl (fun h => ?_) (fun h => ?_)
    · have hr := hr.trans (cond_t h)
      clear h
      refine AW_seq1 ?_
      refine AW_region ?_
      refine AL_cons (bl119 parts_nil rfl rfl) (sS sT0 sB0 sF0) ?_
      refine AL_cons (LR_store (at_tmp 4 _) (at_tmp 10 _) (cells_agg _) (onC (one_is rfl) (onC (one_big _) (onC (one_big _) onN))) sz119 rfl rfl) (sS (sA (sT1 rfl) (sT1 rfl)) (sB1 rfl) sF0) ?_
      refine AL_cons (LR_assign (at_c (v' := I8 0) rfl) rfl) (sS sT0 sB0 sF0) ?_
      refine AL_nil ?_
      refine thenN ?_
      refine AW_ret ?_
      refine thenR ?_
      obtain rfl := Option.some.inj hr
      exact res2 rfl (rvC rfl rfl ag119 sz119 rfl) (rvT rfl)
    · have hr := hr.trans (cond_f h)
      clear h
      refine AW_skip ?_
      refine thenN ?_
      refine AW_cut (σ := Bool × Int × Int × BitVec 64) (fun v => ⟨[(4, .inr (.inl (4, 0))), (6, .inr (.inl (6, 0)))], [(4, pb 119 [is (Bl false), big 0, big 0]), (6, pb 112 [is (Bl v.1), is (I8 v.2.1), is (I16 v.2.2.1), is (U64 v.2.2.2)])]⟩) (fun v => some r = F72_2 N v.1 v.2.1 v.2.2.1 v.2.2.2) ?_ ?_
      · skip
        refine AW_region ?_
        refine AL_cons (LR_loads (at_tmp 2 _) ag23 sz23 rfl rfl rfl) (sS (sT1 rfl) (sB1 rfl) sF0) ?_
        refine AL_cons (LR_move (at_tmp 1 _) rfl) (sS (sT1 rfl) sB0 sF0) ?_
        obtain ⟨y11, hy11, hr⟩ := lt_some hr
        refine AL_cons (LR_call Hfaa.func65 rfl rfl (C65 a0_0 a0_1 a1 y11 hy11) (all_cons (at_tmp 11 _) (all_cons (at_tmp 12 _) all_nil)) rfl) (sS (sA (sT1 rfl) (sA (sT1 rfl) sT0)) sB0 sF0) ?_
        refine AL_cons (zl112 rfl) (sS sT0 sB0 (sF1 rfl)) ?_
        refine AL_cons (LR_store (at_tmp 6 _) (at_tmp 13 _) (cells_agg _) (onC (one_is rfl) (onC (one_is rfl) (onC (one_is rfl) (onC (one_is rfl) onN)))) sz112 rfl rfl) (sS (sA (sT1 rfl) (sT1 rfl)) (sB1 rfl) sF0) ?_
        refine AL_nil ?_
        exact thenN (cutLeaf (v := (y11.1, y11.2.1, y11.2.2.1, y11.2.2.2)) hr (weak0 ((sT rfl (sT rfl sT0))) (sub_drop (sub_keep (sub_keep sub_nil)))))
      · rintro ⟨x2, x3, x4, x5⟩ hr
        show AW Hfaa.prog _ _ _ ⟨[(4, .inr (.inl (4, 0))), (6, .inr (.inl (6, 0)))], [(4, pb 119 [is (Bl false), big 0, big 0]), (6, pb 112 [is (Bl x2), is (I8 x3), is (I16 x4), is (U64 x5)])]⟩
        have hr : some r = F72_2 N x2 x3 x4 x5 := hr
        refine AW_seq1 ?_
        refine AW_cut (σ := Bool) (fun v => ⟨[(4, .inr (.inl (4, 0))), (6, .inr (.inl (6, 0))), (21, .inl (is (Bl v)))], [(4, pb 119 [is (Bl false), big 0, big 0]), (6, pb 112 [is (Bl x2), is (I8 x3), is (I16 x4), is (U64 x5)])]⟩) (fun v => some r = F72_3 N x2 x3 x4 x5 v) ?_ ?_
        · skip
          refine AW_region ?_
          refine AL_cons (LR_fieldAddr (off := 0) (o := 1) (at_tmp 6 _) (fun b w => fa112_1 b 0 w) rfl) (sS (sT1 rfl) sB0 sF0) ?_
          refine AL_cons (LR_load (at_tmp 14 _) na110 rfl rfl) (sS (sT1 rfl) (sB1 rfl) sF0) ?_
          refine AL_cons (LR_bin (at_tmp 15 _) (at_c (v' := I8 4) rfl) (eql_I8 x3 4) rfl) (sS (sA (sT1 rfl) sT0) sB0 sF0) ?_
          refine AL_cons (LR_move (at_tmp 16 _) rfl) (sS (sT1 rfl) sB0 sF0) ?_
          refine AL_cutAt 4 ⟨[(4, .inr (.inl (4, 0))), (6, .inr (.inl (6, 0))), (14, .inr (.inl (6, 1))), (15, .inl (is (I8 x3))), (16, .inl (is (Bl (x3 == 4)))), (17, .inl (is (Bl (x3 == 4)))), (21, .inl (is (Bl ((x3 == 4) || (x3 == 3)))))], [(4, pb 119 [is (Bl false), big 0, big 0]), (6, pb 112 [is (Bl x2), is (I8 x3), is (I16 x4), is (U64 x5)])]⟩ ?_ ?_
          · cases hb : x3 == 4
            · skip
              refine AL_cons (LR_on rfl rfl rfl (LR_fieldAddr (off := 0) (o := 1) (at_tmp 6 _) (fun b w => fa112_1 b 0 w) rfl)) (sS (sT rfl (sT1 rfl)) sB0 sF0) ?_
              refine AL_cons (LR_on rfl rfl rfl (LR_load (at_tmp 18 _) na110 rfl rfl)) (sS (sT rfl (sT1 rfl)) (sB1 rfl) sF0) ?_
              refine AL_cons (LR_on rfl rfl rfl (LR_bin (at_tmp 19 _) (at_c (v' := I8 3) rfl) (eql_I8 x3 3) rfl)) (sS (sT rfl (sA (sT1 rfl) sT0)) sB0 sF0) ?_
              refine AL_cons (LR_pick (b := false) (at_tmp 17 _) (at_c (v' := Bl true) rfl) (at_tmp 20 _) rfl) (sS (sA (sT1 rfl) (sA sT0 (sT1 rfl))) sB0 sF0) ?_
              exact AL_nil ⟨rfl, weak0 ((sT rfl (sT rfl (sT rfl (sT rfl (sT rfl (sT rfl (sT rfl sT0)))))))) (sub_keep (sub_keep sub_nil))⟩
            · skip
              refine AL_cons (LR_off (b := true) rfl rfl rfl rfl) (sS (sT1 rfl) sB0 sF0) ?_
              refine AL_cons (LR_off (b := true) rfl rfl rfl rfl) (sS (sT1 rfl) sB0 sF0) ?_
              refine AL_cons (LR_off (b := true) rfl rfl rfl rfl) (sS (sT1 rfl) sB0 sF0) ?_
              refine AL_cons (LR_pick (b := true) (at_tmp 17 _) (at_c (v' := Bl true) rfl) (at_tmp 20 _) rfl) (sS (sA (sT1 rfl) (sA sT0 (sT1 rfl))) sB0 sF0) ?_
              exact AL_nil ⟨rfl, weak0 ((sT rfl (sT rfl (sT rfl (sT rfl (sT rfl (sT rfl (sT rfl sT0)))))))) (sub_keep (sub_keep sub_nil))⟩
          refine AL_nil ?_
          exact thenN (cutLeaf (v := (x3 == 4) || (x3 == 3)) hr (weak0 ((sT rfl (sT rfl (sT rfl sT0)))) (sub_keep (sub_keep sub_nil))))
        · rintro x6 hr
          show AW Hfaa.prog _ _ _ ⟨[(4, .inr (.inl (4, 0))), (6, .inr (.inl (6, 0))), (21, .inl (is (Bl x6)))], [(4, pb 119 [is (Bl false), big 0, big 0]), (6, pb 112 [is (Bl x2), is (I8 x3), is (I16 x4), is (U64 x5)])]⟩
          have hr : some r = F72_3 N x2 x3 x4 x5 x6 := hr
          refine AW_condT (b := x6) rfl (fun h => ?_) (fun h => ?_)
          · have hr := hr.trans (cond_t h)
            clear h
            refine AW_seq1 ?_
            obtain ⟨y8, hy8, hr⟩ := lt_some hr
            refine AW_draw mixed
              (lrC (LR_call Hfaa.func129 rfl rfl (C129 false 0 y8 hy8) (all_cons (at_c (v' := Bl false) rfl) (all_cons at_nil all_nil)) rfl)
              (lrC (LR_fieldAddr (off := 0) (o := 1) (at_tmp 6 _) (fun b w => fa112_1 b 0 w) rfl)
              (lrC (LR_load (at_tmp 23 _) na110 rfl rfl)
              (lrC (LR_store (at_tmp 4 _) (at_tmp 22 _) (cells_agg _) (onC (one_is rfl) (onC (one_big _) (onC (one_big _) onN))) sz119 rfl rfl)
              (lrC (LR_assign (at_tmp 24 _) rfl)
              lrN)))))
              (by kernel_rfl)
              (saC (sS (sA sT0 (sA sT0 sT0)) sB0 sF0) (saC (sS (sT1 rfl) sB0 sF0) (saC (sS (sT1 rfl) (sB1 rfl) sF0) (saC (sS (sA (sT1 rfl) (sT1 rfl)) (sB1 rfl) sF0) (saC (sS (sT1 rfl) sB0 sF0) saN))))) ?_
            refine thenN ?_
            refine AW_ret ?_
            refine thenR ?_
            obtain rfl := Option.some.inj hr
            exact res2 rfl (rvC rfl rfl ag119 sz119 rfl) (rvT rfl)
          · have hr := hr.trans (cond_f h)
            clear h
            refine AW_skip ?_
            refine thenN ?_
            refine AW_seq1 ?_
            obtain ⟨y10, hy10, hr⟩ := bind_some hr
            refine AW_draw mixed
              (lrC (LR_fieldAddr (off := 0) (o := 0) (at_tmp 6 _) (fun b w => fa112_0 b 0 w) rfl)
              (lrC (LR_load (at_tmp 25 _) na4 rfl rfl)
              (lrC (LR_fieldAddr (off := 0) (o := 3) (at_tmp 6 _) (fun b w => fa112_3 b 0 w) rfl)
              (lrC (LR_load (at_tmp 27 _) na30 rfl rfl)
              (lrC (LR_call Hfaa.func20 rfl rfl (B20 x5) (all_cons (at_tmp 28 _) all_nil) rfl)
              (lrC (LR_fieldAddr (off := 0) (o := 2) (at_tmp 6 _) (fun b w => fa112_2 b 0 w) rfl)
              (lrC (LR_load (at_tmp 30 _) na44 rfl rfl)
              (lrC (LR_conv (vx := I16 x4) (at_tmp 31 _) (conv_I64 Hfaa.underlying44 Hfaa.underlying3 x4) rfl)
              (lrC (LR_call Hfaa.func130 rfl rfl (C130 N x2 x5.toNat (w64 x4) y10 hy10) (all_cons (at_tmp 26 _) (all_cons (at_tmp 29 _) (all_cons (at_tmp 32 _) all_nil))) rfl)
              (lrC (LR_fieldAddr (off := 0) (o := 1) (at_tmp 6 _) (fun b w => fa112_1 b 0 w) rfl)
              (lrC (LR_load (at_tmp 34 _) na110 rfl rfl)
              (lrC (LR_store (at_tmp 4 _) (at_tmp 33 _) (cells_agg _) (onC (one_is rfl) (onC (one_big _) (onC (one_big _) onN))) sz119 rfl rfl)
              (lrC (LR_assign (at_tmp 35 _) rfl)
              lrN)))))))))))))
              (by kernel_rfl)
              (saC (sS (sT1 rfl) sB0 sF0) (saC (sS (sT1 rfl) (sB1 rfl) sF0) (saC (sS (sT1 rfl) sB0 sF0) (saC (sS (sT1 rfl) (sB1 rfl) sF0) (saC (sS (sA (sT1 rfl) sT0) sB0 sF0) (saC (sS (sT1 rfl) sB0 sF0) (saC (sS (sT1 rfl) (sB1 rfl) sF0) (saC (sS (sT1 rfl) sB0 sF0) (saC (sS (sA (sT1 rfl) (sA (sT1 rfl) (sA (sT1 rfl) sT0))) sB0 sF0) (saC (sS (sT1 rfl) sB0 sF0) (saC (sS (sT1 rfl) (sB1 rfl) sF0) (saC (sS (sA (sT1 rfl) (sT1 rfl)) (sB1 rfl) sF0) (saC (sS (sT1 rfl) sB0 sF0) saN))))))))))))) ?_
            refine thenN ?_
            refine AW_ret ?_
            obtain rfl := Option.some.inj hr
            exact res2 rfl (rvC rfl rfl ag119 sz119 rfl) (rvT rfl)
/-- exact.open -/
def F144_2 (N : Nat) (a0_0 : BitVec 8) (a0_1 : BitVec 8) (x1 : BitVec 64) (x2 : Int) (x3 : Bool) (x4 : Nat) (x5 : Nat) : Option (BitVec 64 × Bool × Int × Bool × Nat × Nat) := lt (F70 a0_0 a0_1) fun y4 => some ((x1, (x1 &&& y4) != (0#64), x2, x3, x4, x5))
def F144_1 (N : Nat) (a0_0 : BitVec 8) (a0_1 : BitVec 8) (x1 : BitVec 64) : Option (BitVec 64 × Bool × Int × Bool × Nat × Nat) := (F72 N a0_0 a0_1 x1).bind fun y5 => F144_2 N a0_0 a0_1 x1 y5.2.2.2 y5.1 y5.2.1 y5.2.2.1
def F144 (N : Nat) (a0_0 : BitVec 8) (a0_1 : BitVec 8) (a1 : BitVec 64) : Option (BitVec 64 × Bool × Int × Bool × Nat × Nat) := lt (F69 a0_0 a0_1) fun y6 => F144_1 N a0_0 a0_1 (a1 &&& y6)
theorem C144 (N : Nat) (a0_0 : BitVec 8) (a0_1 : BitVec 8) (a1 : BitVec 64) (r : BitVec 64 × Bool × Int × Bool × Nat × Nat) (hr : some r = F144 N a0_0 a0_1 a1) : Aw.Fn Hfaa.prog 144 [agg [is (U8 a0_0), is (U8 a0_1)], is (U64 a1)] (agg [is (U64 r.1), is (Bl r.2.1), is (I8 r.2.2.1), is (Bl r.2.2.2.1), big r.2.2.2.2.1, big r.2.2.2.2.2]) := by
  refine fn_intro Hfaa.func144 rfl rfl rfl ?_
  intro bn0 w0 H0
  refine AW_seq1 ?_
  refine AW_region ?_
  refine AL_cons (LR_box (at_tmp 0 _) (cells_agg _) rfl) (sS (sT1 rfl) sB0 (sF1 rfl)) ?_
  refine AL_cons (zl175 rfl) (sS sT0 sB0 (sF1 rfl)) ?_
  refine AL_nil ?_
  refine thenN ?_
  refine AW_cut (σ := BitVec 64) (fun v => ⟨[(1, .inl (is (U64 v))), (2, .inr (.inl (2, 0))), (4, .inr (.inl (4, 0)))], [(2, pb 23 [is (U8 a0_0), is (U8 a0_1)]), (4, pb 175 [is (U64 (0#64)), is (Bl false), is (I8 0), is (Bl false), big 0, big 0])]⟩) (fun v => some r = F144_1 N a0_0 a0_1 v) ?_ ?_
  · skip
    refine AW_region ?_
    refine AL_cons (LR_move (at_tmp 1 _) rfl) (sS (sT1 rfl) sB0 sF0) ?_
    refine AL_cons (LR_loads (at_tmp 2 _) ag23 sz23 rfl rfl rfl) (sS (sT1 rfl) (sB1 rfl) sF0) ?_
    obtain ⟨y6, hy6, hr⟩ := lt_some hr
    refine AL_cons (LR_call Hfaa.func69 rfl rfl (C69 a0_0 a0_1 y6 hy6) (all_cons (at_tmp 8 _) all_nil) rfl) (sS (sA (sT1 rfl) sT0) sB0 sF0) ?_
    refine AL_cons (LR_bin (at_tmp 7 _) (at_tmp 9 _) (and_U64 a1 y6) rfl) (sS (sA (sT1 rfl) (sT1 rfl)) sB0 sF0) ?_
    refine AL_cons (LR_assign (at_tmp 10 _) rfl) (sS (sT1 rfl) sB0 sF0) ?_
    refine AL_nil ?_
    exact thenN (cutLeaf (v := a1 &&& y6) hr (weak0 ((sT rfl (sT rfl (sT rfl sT0)))) (sub_keep (sub_keep sub_nil))))
  · rintro x1 hr
    show AW Hfaa.prog _ _ _ ⟨[(1, .inl (is (U64 x1))), (2, .inr (.inl (2, 0))), (4, .inr (.inl (4, 0)))], [(2, pb 23 [is (U8 a0_0), is (U8 a0_1)]), (4, pb 175 [is (U64 (0#64)), is (Bl false), is (I8 0), is (Bl false), big 0, big 0])]⟩
    have hr : some r = F144_1 N a0_0 a0_1 x1 := hr
    refine AW_cut (σ := Int × Bool × Nat × Nat) (fun v => ⟨[(1, .inl (is (U64 x1))), (2, .inr (.inl (2, 0))), (4, .inr (.inl (4, 0))), (5, .inr (.inl (5, 0))), (6, .inl (is (I8 v.1)))], [(2, pb 23 [is (U8 a0_0), is (U8 a0_1)]), (4, pb 175 [is (U64 (0#64)), is (Bl false), is (I8 0), is (Bl false), big 0, big 0]), (5, pb 119 [is (Bl v.2.1), big v.2.2.1, big v.2.2.2])]⟩) (fun v => some r = F144_2 N a0_0 a0_1 x1 v.1 v.2.1 v.2.2.1 v.2.2.2) ?_ ?_
    · skip
      refine AW_region ?_
      refine AL_cons (LR_loads (at_tmp 2 _) ag23 sz23 rfl rfl rfl) (sS (sT1 rfl) (sB1 rfl) sF0) ?_
      refine AL_cons (LR_move (at_tmp 1 _) rfl) (sS (sT1 rfl) sB0 sF0) ?_
      obtain ⟨y5, hy5, hr⟩ := bind_some hr
      refine AL_cons (LR_call Hfaa.func72 rfl rfl (C72 N a0_0 a0_1 x1 y5 hy5) (all_cons (at_tmp 12 _) (all_cons (at_tmp 13 _) all_nil)) rfl) (sS (sA (sT1 rfl) (sA (sT1 rfl) sT0)) sB0 sF0) ?_
      refine AL_cons (LR_move (at_tmp 14 _) rfl) (sS (sT1 rfl) sB0 sF0) ?_
      refine AL_cons (LR_extract (at_tmp 11 _) rfl rfl) (sS (sT1 rfl) sB0 sF0) ?_
      refine AL_cons (LR_extract (at_tmp 11 _) rfl rfl) (sS (sT1 rfl) sB0 sF0) ?_
      refine AL_cons (zl119 rfl) (sS sT0 sB0 (sF1 rfl)) ?_
      refine AL_cons (LR_store (at_tmp 5 _) (at_tmp 15 _) (cells_agg _) (onC (one_is rfl) (onC (one_big _) (onC (one_big _) onN))) sz119 rfl rfl) (sS (sA (sT1 rfl) (sT1 rfl)) (sB1 rfl) sF0) ?_
      refine AL_cons (LR_assign (at_tmp 16 _) rfl) (sS (sT1 rfl) sB0 sF0) ?_
      refine AL_nil ?_
      exact thenN (cutLeaf (v := (y5.2.2.2, y5.1, y5.2.1, y5.2.2.1)) hr (weak0 ((sT rfl (sT rfl (sT rfl (sT rfl (sT rfl sT0)))))) (sub_keep (sub_keep (sub_keep sub_nil)))))
    · rintro ⟨x2, x3, x4, x5⟩ hr
      show AW Hfaa.prog _ _ _ ⟨[(1, .inl (is (U64 x1))), (2, .inr (.inl (2, 0))), (4, .inr (.inl (4, 0))), (5, .inr (.inl (5, 0))), (6, .inl (is (I8 x2)))], [(2, pb 23 [is (U8 a0_0), is (U8 a0_1)]), (4, pb 175 [is (U64 (0#64)), is (Bl false), is (I8 0), is (Bl false), big 0, big 0]), (5, pb 119 [is (Bl x3), big x4, big x5])]⟩
      have hr : some r = F144_2 N a0_0 a0_1 x1 x2 x3 x4 x5 := hr
      refine AW_seq1 ?_
      obtain ⟨y4, hy4, hr⟩ := lt_some hr
      refine AW_draw mixed
        (lrC (LR_move (at_tmp 1 _) rfl)
        (lrC (LR_move (at_tmp 1 _) rfl)
        (lrC (LR_loads (at_tmp 2 _) ag23 sz23 rfl rfl rfl)
        (lrC (LR_call Hfaa.func70 rfl rfl (C70 a0_0 a0_1 y4 hy4) (all_cons (at_tmp 19 _) all_nil) rfl)
        (lrC (LR_bin (at_tmp 18 _) (at_tmp 20 _) (and_U64 x1 y4) rfl)
        (lrC (LR_bin (at_tmp 21 _) (at_c (v' := U64 (0#64)) rfl) (neq_U64 (x1 &&& y4) (0#64)) rfl)
        (lrC (LR_move (at_tmp 6 _) rfl)
        (lrC (LR_loads (at_tmp 5 _) ag119 sz119 rfl rfl rfl)
        (lrC (bl175 (parts_cons (i := 0) (off := 0) (at_tmp 17 _) (cells_one (one_is rfl)) rfl rfl (parts_cons (i := 1) (off := 1) (at_tmp 22 _) (cells_one (one_is rfl)) rfl rfl (parts_cons (i := 2) (off := 2) (at_tmp 23 _) (cells_one (one_is rfl)) rfl rfl (parts_cons (i := 3) (off := 3) (at_tmp 24 _) (cells_agg _) rfl rfl parts_nil)))) rfl rfl)
        (lrC (LR_store (at_tmp 4 _) (at_tmp 25 _) (cells_agg _) (onC (one_is rfl) (onC (one_is rfl) (onC (one_is rfl) (onC (one_is rfl) (onC (one_big _) (onC (one_big _) onN)))))) sz175 rfl rfl)
        lrN))))))))))
        (by kernel_rfl)
        (saC (sS (sT1 rfl) sB0 sF0) (saC (sS (sT1 rfl) sB0 sF0) (saC (sS (sT1 rfl) (sB1 rfl) sF0) (saC (sS (sA (sT1 rfl) sT0) sB0 sF0) (saC (sS (sA (sT1 rfl) (sT1 rfl)) sB0 sF0) (saC (sS (sA (sT1 rfl) sT0) sB0 sF0) (saC (sS (sT1 rfl) sB0 sF0) (saC (sS (sT1 rfl) (sB1 rfl) sF0) (saC (sS (sA (sT1 rfl) (sA (sT1 rfl) (sA (sT1 rfl) (sA (sT1 rfl) sT0)))) sB0 sF0) (saC (sS (sA (sT1 rfl) (sT1 rfl)) (sB1 rfl) sF0) saN)))))))))) ?_
      refine thenN ?_
      refine AW_ret ?_
      obtain rfl := Option.some.inj hr
      exact res1 rfl (rvC rfl rfl ag175 sz175 rfl)
/-- ieee.Signals -/
def F107 (a0_0 : BitVec 8) (a0_1 : BitVec 8) (a1 : BitVec 64) : Bool := lt (F65 a0_0 a0_1 a1) fun y2 => (y2.2.1 == 4) && (((a1 >>> (a0_1 - (1#8)).toNat) &&& (1#64)) == (0#64))
theorem C107 (a0_0 : BitVec 8) (a0_1 : BitVec 8) (a1 : BitVec 64) (r : Bool) (hr : r = F107 a0_0 a0_1 a1) : Aw.Fn Hfaa.prog 107 [agg [is (U8 a0_0), is (U8 a0_1)], is (U64 a1)] (is (Bl r)) := by
  refine fn_intro Hfaa.func107 rfl rfl rfl ?_
  intro bn0 w0 H0
  refine AW_seq1 ?_
  refine AW_region ?_
  refine AL_cons (LR_box (at_tmp 0 _) (cells_agg _) rfl) (sS (sT1 rfl) sB0 (sF1 rfl)) ?_
  refine AL_cons (LR_assign (at_c (v' := Bl false) rfl) rfl) (sS sT0 sB0 sF0) ?_
  refine AL_nil ?_
  refine thenN ?_
  refine AW_seq1 ?_
  refine AW_region ?_
  refine AL_cons (LR_loads (at_tmp 2 _) ag23 sz23 rfl rfl rfl) (sS (sT1 rfl) (sB1 rfl) sF0) ?_
  refine AL_cons (LR_move (at_tmp 1 _) rfl) (sS (sT1 rfl) sB0 sF0) ?_
  obtain ⟨y2, hy2, hr⟩ := lt_some hr
  refine AL_cons (LR_call Hfaa.func65 rfl rfl (C65 a0_0 a0_1 a1 y2 hy2) (all_cons (at_tmp 5 _) (all_cons (at_tmp 6 _) all_nil)) rfl) (sS (sA (sT1 rfl) (sA (sT1 rfl) sT0)) sB0 sF0) ?_
  refine AL_cons (LR_field (off := 1) (at_tmp 7 _) Hfaa.underlying112 rfl rfl na110 rfl rfl) (sS (sT1 rfl) sB0 sF0) ?_
  refine AL_cons (LR_bin (at_tmp 8 _) (at_c (v' := I8 4) rfl) (eql_I8 y2.2.1 4) rfl) (sS (sA (sT1 rfl) sT0) sB0 sF0) ?_
  refine AL_cons (LR_move (at_tmp 9 _) rfl) (sS (sT1 rfl) sB0 sF0) ?_
  refine AL_cutAt 8 ⟨[(0, .inl (agg [is (U8 a0_0), is (U8 a0_1)])), (1, .inl (is (U64 a1))), (2, .inr (.inl (2, 0))), (4, .inl (is (Bl false))), (5, .inl (agg [is (U8 a0_0), is (U8 a0_1)])), (6, .inl (is (U64 a1))), (7, .inl (agg [is (Bl y2.1), is (I8 y2.2.1), is (I16 y2.2.2.1), is (U64 y2.2.2.2)])), (8, .inl (is (I8 y2.2.1))), (9, .inl (is (Bl (y2.2.1 == 4)))), (10, .inl (is (Bl (y2.2.1 == 4)))), (18, .inl (is (Bl ((y2.2.1 == 4) && (((a1 >>> (a0_1 - (1#8)).toNat) &&& (1#64)) == (0#64))))))], [(2, pb 23 [is (U8 a0_0), is (U8 a0_1)])]⟩ ?_ ?_
  · cases hb : y2.2.1 == 4
    · skip
      refine AL_cons (LR_off (b := false) rfl rfl rfl rfl) (sS (sT1 rfl) sB0 sF0) ?_
      refine AL_cons (LR_off (b := false) rfl rfl rfl rfl) (sS (sT1 rfl) sB0 sF0) ?_
      refine AL_cons (LR_off (b := false) rfl rfl rfl rfl) (sS (sT1 rfl) sB0 sF0) ?_
      refine AL_cons (LR_off (b := false) rfl rfl rfl rfl) (sS (sT1 rfl) sB0 sF0) ?_
      refine AL_cons (LR_off (b := false) rfl rfl rfl rfl) (sS (sT1 rfl) sB0 sF0) ?_
      refine AL_cons (LR_off (b := false) rfl rfl rfl rfl) (sS (sT1 rfl) sB0 sF0) ?_
      refine AL_cons (LR_off (b := false) rfl rfl rfl rfl) (sS (sT1 rfl) sB0 sF0) ?_
      refine AL_cons (LR_pick (b := false) (at_tmp 10 _) (at_tmp 17 _) (at_c (v' := Bl false) rfl) rfl) (sS (sA (sT1 rfl) (sA (sT1 rfl) sT0)) sB0 sF0) ?_
      exact AL_nil ⟨rfl, weak0 ((sT rfl (sT rfl (sT rfl (sT rfl (sT rfl (sT rfl (sT rfl (sT rfl (sT rfl (sT rfl (sT rfl sT0)))))))))))) (sub_keep sub_nil)⟩
    · skip
      refine AL_cons (LR_on rfl rfl rfl (LR_move (at_tmp 1 _) rfl)) (sS (sT rfl (sT1 rfl)) sB0 sF0) ?_
      refine AL_cons (LR_on rfl rfl rfl (LR_fieldAddr (off := 0) (o := 1) (at_tmp 2 _) (fun b w => fa23_1 b 0 w) rfl)) (sS (sT rfl (sT1 rfl)) sB0 sF0) ?_
      refine AL_cons (LR_on rfl rfl rfl (LR_load (at_tmp 12 _) na5 rfl rfl)) (sS (sT rfl (sT1 rfl)) (sB1 rfl) sF0) ?_
      refine AL_cons (LR_on rfl rfl rfl (LR_bin (at_tmp 13 _) (at_c (v' := U8 (1#8)) rfl) (sub_U8 a0_1 (1#8)) rfl)) (sS (sT rfl (sA (sT1 rfl) sT0)) sB0 sF0) ?_
      refine AL_cons (LR_on rfl rfl rfl (LR_bin (at_tmp 11 _) (at_tmp 14 _) (shr_U64 a1 ((a0_1 - (1#8)).toNat : Int) (Int.natCast_nonneg _)) rfl)) (sS (sT rfl (sA (sT1 rfl) (sT1 rfl))) sB0 sF0) ?_
      refine AL_cons (LR_on rfl rfl rfl (LR_bin (at_tmp 15 _) (at_c (v' := U64 (1#64)) rfl) (and_U64 (a1 >>> (a0_1 - (1#8)).toNat) (1#64)) rfl)) (sS (sT rfl (sA (sT1 rfl) sT0)) sB0 sF0) ?_
      refine AL_cons (LR_on rfl rfl rfl (LR_bin (at_tmp 16 _) (at_c (v' := U64 (0#64)) rfl) (eql_U64 ((a1 >>> (a0_1 - (1#8)).toNat) &&& (1#64)) (0#64)) rfl)) (sS (sT rfl (sA (sT1 rfl) sT0)) sB0 sF0) ?_
      refine AL_cons (LR_pick (b := true) (at_tmp 10 _) (at_tmp 17 _) (at_c (v' := Bl false) rfl) rfl) (sS (sA (sT1 rfl) (sA (sT1 rfl) sT0)) sB0 sF0) ?_
      exact AL_nil ⟨rfl, weak0 ((sT rfl (sT rfl (sT rfl (sT rfl (sT rfl (sT rfl (sT rfl (sT rfl (sT rfl (sT rfl (sT rfl sT0)))))))))))) (sub_keep sub_nil)⟩
  refine AL_cons (LR_assign (at_tmp 18 _) rfl) (sS (sT1 rfl) sB0 sF0) ?_
  refine AL_nil ?_
  refine thenN ?_
  refine AW_ret ?_
  subst hr
  exact res1 rfl (rvT rfl)
/-- exact.heard -/
def F216_1 (x1 : Bool) : BitVec 8 := bif x1 then 1#8 else 0#8
def F216 (a0_0 : BitVec 8) (a0_1 : BitVec 8) (a1 : BitVec 64) (a2 : BitVec 64) : BitVec 8 := lt (F107 a0_0 a0_1 a1) fun y4 => F216_1 (y4 || (F107 a0_0 a0_1 a2))
theorem C216 (a0_0 : BitVec 8) (a0_1 : BitVec 8) (a1 : BitVec 64) (a2 : BitVec 64) (r : BitVec 8) (hr : r = F216 a0_0 a0_1 a1 a2) : Aw.Fn Hfaa.prog 216 [agg [is (U8 a0_0), is (U8 a0_1)], is (U64 a1), is (U64 a2)] (is (U8 r)) := by
  refine fn_intro Hfaa.func216 rfl rfl rfl ?_
  intro bn0 w0 H0
  refine AW_seq1 ?_
  refine AW_region ?_
  refine AL_cons (LR_box (at_tmp 0 _) (cells_agg _) rfl) (sS (sT1 rfl) sB0 (sF1 rfl)) ?_
  refine AL_cons (LR_assign (at_c (v' := U8 (0#8)) rfl) rfl) (sS sT0 sB0 sF0) ?_
  refine AL_nil ?_
  refine thenN ?_
  refine AW_seq1 ?_
  refine AW_cut (σ := Bool) (fun v => ⟨[(14, .inl (is (Bl v)))], []⟩) (fun v => r = F216_1 v) ?_ ?_
  · skip
    refine AW_region ?_
    refine AL_cons (LR_loads (at_tmp 3 _) ag23 sz23 rfl rfl rfl) (sS (sT1 rfl) (sB1 rfl) sF0) ?_
    refine AL_cons (LR_move (at_tmp 1 _) rfl) (sS (sT1 rfl) sB0 sF0) ?_
    obtain ⟨y4, hy4, hr⟩ := lt_some hr
    refine AL_cons (LR_call Hfaa.func107 rfl rfl (C107 a0_0 a0_1 a1 y4 hy4) (all_cons (at_tmp 7 _) (all_cons (at_tmp 8 _) all_nil)) rfl) (sS (sA (sT1 rfl) (sA (sT1 rfl) sT0)) sB0 sF0) ?_
    refine AL_cons (LR_move (at_tmp 9 _) rfl) (sS (sT1 rfl) sB0 sF0) ?_
    refine AL_cutAt 4 ⟨[(0, .inl (agg [is (U8 a0_0), is (U8 a0_1)])), (1, .inl (is (U64 a1))), (2, .inl (is (U64 a2))), (3, .inr (.inl (3, 0))), (6, .inl (is (U8 (0#8)))), (7, .inl (agg [is (U8 a0_0), is (U8 a0_1)])), (8, .inl (is (U64 a1))), (9, .inl (is (Bl y4))), (10, .inl (is (Bl y4))), (14, .inl (is (Bl (y4 || (F107 a0_0 a0_1 a2)))))], [(3, pb 23 [is (U8 a0_0), is (U8 a0_1)])]⟩ ?_ ?_
    · cases hb : y4
      · skip
        refine AL_cons (LR_on rfl rfl rfl (LR_loads (at_tmp 3 _) ag23 sz23 rfl rfl rfl)) (sS (sT rfl (sT1 rfl)) (sB1 rfl) sF0) ?_
        refine AL_cons (LR_on rfl rfl rfl (LR_move (at_tmp 2 _) rfl)) (sS (sT rfl (sT1 rfl)) sB0 sF0) ?_
        refine AL_cons (LR_on rfl rfl rfl (LR_call Hfaa.func107 rfl rfl (C107 a0_0 a0_1 a2 _ rfl) (all_cons (at_tmp 11 _) (all_cons (at_tmp 12 _) all_nil)) rfl)) (sS (sT rfl (sA (sT1 rfl) (sA (sT1 rfl) sT0))) sB0 sF0) ?_
        refine AL_cons (LR_pick (b := false) (at_tmp 10 _) (at_c (v' := Bl true) rfl) (at_tmp 13 _) rfl) (sS (sA (sT1 rfl) (sA sT0 (sT1 rfl))) sB0 sF0) ?_
        exact AL_nil ⟨rfl, weak0 ((sT rfl (sT rfl (sT rfl (sT rfl (sT rfl (sT rfl (sT rfl (sT rfl (sT rfl (sT rfl sT0))))))))))) (sub_keep sub_nil)⟩
      · skip
        refine AL_cons (LR_off (b := true) rfl rfl rfl rfl) (sS (sT1 rfl) sB0 sF0) ?_
        refine AL_cons (LR_off (b := true) rfl rfl rfl rfl) (sS (sT1 rfl) sB0 sF0) ?_
        refine AL_cons (LR_off (b := true) rfl rfl rfl rfl) (sS (sT1 rfl) sB0 sF0) ?_
        refine AL_cons (LR_pick (b := true) (at_tmp 10 _) (at_c (v' := Bl true) rfl) (at_tmp 13 _) rfl) (sS (sA (sT1 rfl) (sA sT0 (sT1 rfl))) sB0 sF0) ?_
        exact AL_nil ⟨rfl, weak0 ((sT rfl (sT rfl (sT rfl (sT rfl (sT rfl (sT rfl (sT rfl (sT rfl (sT rfl (sT rfl sT0))))))))))) (sub_keep sub_nil)⟩
    refine AL_nil ?_
    exact thenN (cutLeaf (v := y4 || (F107 a0_0 a0_1 a2)) hr (weak0 ((sT rfl sT0)) (sub_drop sub_nil)))
  · rintro x1 hr
    show AW Hfaa.prog _ _ _ ⟨[(14, .inl (is (Bl x1)))], []⟩
    have hr : r = F216_1 x1 := hr
    refine AW_condT (b := x1) rfl (fun h => ?_) (fun h => ?_)
    · have hr := hr.trans (cond_t h)
      clear h
      refine AW_seq1 ?_
      refine AW_region ?_
      refine AL_cons (LR_assign (at_c (v' := U8 (1#8)) rfl) rfl) (sS sT0 sB0 sF0) ?_
      refine AL_nil ?_
      refine thenN ?_
      refine AW_ret ?_
      refine thenR ?_
      subst hr
      exact res1 rfl (rvT rfl)
    · have hr := hr.trans (cond_f h)
      clear h
      refine AW_skip ?_
      refine thenN ?_
      refine AW_seq1 ?_
      refine AW_region ?_
      refine AL_cons (LR_assign (at_c (v' := U8 (0#8)) rfl) rfl) (sS sT0 sB0 sF0) ?_
      refine AL_nil ?_
      refine thenN ?_
      refine AW_ret ?_
      subst hr
      exact res1 rfl (rvT rfl)
/-- exact.addRat -/
def F146_5 (N : Nat) (a1_0 : Bool) (a1_1 : Nat) (a1_2 : Nat) (x3 : Nat) (x7 : Nat) : Option (Bool × Nat × Nat) := some (a1_0, x7, x3)
def F146_4 (N : Nat) (a0_0 : Bool) (a0_1 : Nat) (a0_2 : Nat) (a1_0 : Bool) (a1_1 : Nat) (a1_2 : Nat) (x1 : Nat) (x2 : Nat) (x3 : Nat) (x5 : Nat) (x6 : Bool) : Option (Bool × Nat × Nat) := bif x6 then some (a0_0, x5, x3) else bif lim x2 && lim x1 then F146_5 N a1_0 a1_1 a1_2 x3 (x2 - x1) else none
def F146_3 (N : Nat) (a0_0 : Bool) (a0_1 : Nat) (a0_2 : Nat) (a1_0 : Bool) (a1_1 : Nat) (a1_2 : Nat) (x1 : Nat) (x2 : Nat) (x3 : Nat) (x4 : Bool) : Option (Bool × Nat × Nat) := bif x4 then bif lim x1 && lim x2 then some (a0_0, x1 + x2, x3) else none else bif lim x1 && lim x2 then F146_4 N a0_0 a0_1 a0_2 a1_0 a1_1 a1_2 x1 x2 x3 (x1 - x2) (decide (x2 ≤ x1)) else none
def F146_2 (N : Nat) (a0_0 : Bool) (a0_1 : Nat) (a0_2 : Nat) (a1_0 : Bool) (a1_1 : Nat) (a1_2 : Nat) (x1 : Nat) (x2 : Nat) (x3 : Nat) : Option (Bool × Nat × Nat) := F146_3 N a0_0 a0_1 a0_2 a1_0 a1_1 a1_2 x1 x2 x3 (a0_0 == a1_0)
def F146_1 (N : Nat) (a0_0 : Bool) (a0_1 : Nat) (a0_2 : Nat) (a1_0 : Bool) (a1_1 : Nat) (a1_2 : Nat) (x1 : Nat) (x2 : Nat) : Option (Bool × Nat × Nat) := bif lim a0_2 && lim a1_2 then F146_2 N a0_0 a0_1 a0_2 a1_0 a1_1 a1_2 x1 x2 (a0_2 * a1_2) else none
def F146 (N : Nat) (a0_0 : Bool) (a0_1 : Nat) (a0_2 : Nat) (a1_0 : Bool) (a1_1 : Nat) (a1_2 : Nat) : Option (Bool × Nat × Nat) := bif lim a0_1 && lim a1_2 then bif lim a1_1 && lim a0_2 then F146_1 N a0_0 a0_1 a0_2 a1_0 a1_1 a1_2 (a0_1 * a1_2) (a1_1 * a0_2) else none else none
theorem C146 (N : Nat) (a0_0 : Bool) (a0_1 : Nat) (a0_2 : Nat) (a1_0 : Bool) (a1_1 : Nat) (a1_2 : Nat) (r : Bool × Nat × Nat) (hr : some r = F146 N a0_0 a0_1 a0_2 a1_0 a1_1 a1_2) : Aw.Fn Hfaa.prog 146 [agg [is (Bl a0_0), big a0_1, big a0_2], agg [is (Bl a1_0), big a1_1, big a1_2]] (agg [is (Bl r.1), big r.2.1, big r.2.2]) := by
  refine fn_intro Hfaa.func146 rfl rfl rfl ?_
  intro bn0 w0 H0
  refine AW_seq1 ?_
  refine AW_region ?_
  refine AL_cons (LR_box (at_tmp 0 _) (cells_agg _) rfl) (sS (sT1 rfl) sB0 (sF1 rfl)) ?_
  refine AL_cons (LR_box (at_tmp 1 _) (cells_agg _) rfl) (sS (sT1 rfl) sB0 (sF1 rfl)) ?_
  refine AL_cons (zl119 rfl) (sS sT0 sB0 (sF1 rfl)) ?_
  refine AL_nil ?_
  refine thenN ?_
  refine AW_cut (σ := Nat × Nat) (fun v => ⟨[(2, .inr (.inl (2, 0))), (3, .inr (.inl (3, 0))), (4, .inr (.inl (4, 0))), (5, .inl (big v.1)), (6, .inl (big v.2))], [(2, pb 119 [is (Bl a0_0), big a0_1, big a0_2]), (3, pb 119 [is (Bl a1_0), big a1_1, big a1_2]), (4, pb 119 [is (Bl false), big 0, big 0])]⟩) (fun v => some r = F146_1 N a0_0 a0_1 a0_2 a1_0 a1_1 a1_2 v.1 v.2) ?_ ?_
  · skip
    obtain ⟨hg15, hr⟩ := guard_some hr
    obtain ⟨hg16, hr⟩ := guard_some hr
    refine AW_draw mixed
      (lrC (LR_fieldAddr (off := 0) (o := 1) (at_tmp 2 _) (fun b w => fa119_1 b 0 w) rfl)
      (lrC (LR_load (at_tmp 12 _) na49 rfl rfl)
      (lrC (LR_fieldAddr (off := 0) (o := 2) (at_tmp 3 _) (fun b w => fa119_2 b 0 w) rfl)
      (lrC (LR_load (at_tmp 14 _) na49 rfl rfl)
      (lrC (LR_call Hfaa.func22 rfl rfl (B22 a0_1 a1_2 hg15) (all_cons (at_tmp 13 _) (all_cons (at_tmp 15 _) all_nil)) rfl)
      (lrC (LR_fieldAddr (off := 0) (o := 1) (at_tmp 3 _) (fun b w => fa119_1 b 0 w) rfl)
      (lrC (LR_load (at_tmp 17 _) na49 rfl rfl)
      (lrC (LR_fieldAddr (off := 0) (o := 2) (at_tmp 2 _) (fun b w => fa119_2 b 0 w) rfl)
      (lrC (LR_load (at_tmp 19 _) na49 rfl rfl)
      (lrC (LR_call Hfaa.func22 rfl rfl (B22 a1_1 a0_2 hg16) (all_cons (at_tmp 18 _) (all_cons (at_tmp 20 _) all_nil)) rfl)
      (lrC (LR_assign (at_tmp 16 _) rfl)
      (lrC (LR_assign (at_tmp 21 _) rfl)
      lrN))))))))))))
      (by kernel_rfl)
      (saC (sS (sT1 rfl) sB0 sF0) (saC (sS (sT1 rfl) (sB1 rfl) sF0) (saC (sS (sT1 rfl) sB0 sF0) (saC (sS (sT1 rfl) (sB1 rfl) sF0) (saC (sS (sA (sT1 rfl) (sA (sT1 rfl) sT0)) sB0 sF0) (saC (sS (sT1 rfl) sB0 sF0) (saC (sS (sT1 rfl) (sB1 rfl) sF0) (saC (sS (sT1 rfl) sB0 sF0) (saC (sS (sT1 rfl) (sB1 rfl) sF0) (saC (sS (sA (sT1 rfl) (sA (sT1 rfl) sT0)) sB0 sF0) (saC (sS (sT1 rfl) sB0 sF0) (saC (sS (sT1 rfl) sB0 sF0) saN)))))))))))) ?_
    exact thenN (cutLeaf (v := (a0_1 * a1_2, a1_1 * a0_2)) hr (weak0 ((sT rfl (sT rfl (sT rfl (sT rfl (sT rfl sT0)))))) (sub_keep (sub_keep (sub_keep sub_nil)))))
  · rintro ⟨x1, x2⟩ hr
    show AW Hfaa.prog _ _ _ ⟨[(2, .inr (.inl (2, 0))), (3, .inr (.inl (3, 0))), (4, .inr (.inl (4, 0))), (5, .inl (big x1)), (6, .inl (big x2))], [(2, pb 119 [is (Bl a0_0), big a0_1, big a0_2]), (3, pb 119 [is (Bl a1_0), big a1_1, big a1_2]), (4, pb 119 [is (Bl false), big 0, big 0])]⟩
    have hr : some r = F146_1 N a0_0 a0_1 a0_2 a1_0 a1_1 a1_2 x1 x2 := hr
    refine AW_cut (σ := Nat) (fun v => ⟨[(2, .inr (.inl (2, 0))), (3, .inr (.inl (3, 0))), (4, .inr (.inl (4, 0))), (5, .inl (big x1)), (6, .inl (big x2)), (7, .inl (big v))], [(2, pb 119 [is (Bl a0_0), big a0_1, big a0_2]), (3, pb 119 [is (Bl a1_0), big a1_1, big a1_2]), (4, pb 119 [is (Bl false), big 0, big 0])]⟩) (fun v => some r = F146_2 N a0_0 a0_1 a0_2 a1_0 a1_1 a1_2 x1 x2 v) ?_ ?_
    · skip
      refine AW_region ?_
      refine AL_cons (LR_fieldAddr (off := 0) (o := 2) (at_tmp 2 _) (fun b w => fa119_2 b 0 w) rfl) (sS (sT1 rfl) sB0 sF0) ?_
      refine AL_cons (LR_load (at_tmp 22 _) na49 rfl rfl) (sS (sT1 rfl) (sB1 rfl) sF0) ?_
      refine AL_cons (LR_fieldAddr (off := 0) (o := 2) (at_tmp 3 _) (fun b w => fa119_2 b 0 w) rfl) (sS (sT1 rfl) sB0 sF0) ?_
      refine AL_cons (LR_load (at_tmp 24 _) na49 rfl rfl) (sS (sT1 rfl) (sB1 rfl) sF0) ?_
      obtain ⟨hg14, hr⟩ := guard_some hr
      refine AL_cons (LR_call Hfaa.func22 rfl rfl (B22 a0_2 a1_2 hg14) (all_cons (at_tmp 23 _) (all_cons (at_tmp 25 _) all_nil)) rfl) (sS (sA (sT1 rfl) (sA (sT1 rfl) sT0)) sB0 sF0) ?_
      refine AL_cons (LR_assign (at_tmp 26 _) rfl) (sS (sT1 rfl) sB0 sF0) ?_
      refine AL_nil ?_
      exact thenN (cutLeaf (v := a0_2 * a1_2) hr (weak0 ((sT rfl (sT rfl (sT rfl (sT rfl (sT rfl (sT rfl sT0))))))) (sub_keep (sub_keep (sub_keep sub_nil)))))
    · rintro x3 hr
      show AW Hfaa.prog _ _ _ ⟨[(2, .inr (.inl (2, 0))), (3, .inr (.inl (3, 0))), (4, .inr (.inl (4, 0))), (5, .inl (big x1)), (6, .inl (big x2)), (7, .inl (big x3))], [(2, pb 119 [is (Bl a0_0), big a0_1, big a0_2]), (3, pb 119 [is (Bl a1_0), big a1_1, big a1_2]), (4, pb 119 [is (Bl false), big 0, big 0])]⟩
      have hr : some r = F146_2 N a0_0 a0_1 a0_2 a1_0 a1_1 a1_2 x1 x2 x3 := hr
      refine AW_seq1 ?_
      refine AW_cut (σ := Bool) (fun v => ⟨[(2, .inr (.inl (2, 0))), (3, .inr (.inl (3, 0))), (4, .inr (.inl (4, 0))), (5, .inl (big x1)), (6, .inl (big x2)), (7, .inl (big x3)), (31, .inl (is (Bl v)))], [(2, pb 119 [is (Bl a0_0), big a0_1, big a0_2]), (3, pb 119 [is (Bl a1_0), big a1_1, big a1_2]), (4, pb 119 [is (Bl false), big 0, big 0])]⟩) (fun v => some r = F146_3 N a0_0 a0_1 a0_2 a1_0 a1_1 a1_2 x1 x2 x3 v) ?_ ?_
      · skip
        refine AW_region ?_
        refine AL_cons (LR_fieldAddr (off := 0) (o := 0) (at_tmp 2 _) (fun b w => fa119_0 b 0 w) rfl) (sS (sT1 rfl) sB0 sF0) ?_
        refine AL_cons (LR_load (at_tmp 27 _) na4 rfl rfl) (sS (sT1 rfl) (sB1 rfl) sF0) ?_
        refine AL_cons (LR_fieldAddr (off := 0) (o := 0) (at_tmp 3 _) (fun b w => fa119_0 b 0 w) rfl) (sS (sT1 rfl) sB0 sF0) ?_
        refine AL_cons (LR_load (at_tmp 29 _) na4 rfl rfl) (sS (sT1 rfl) (sB1 rfl) sF0) ?_
        refine AL_cons (LR_bin (at_tmp 28 _) (at_tmp 30 _) (eql_Bl Hfaa.underlying4 a0_0 a1_0) rfl) (sS (sA (sT1 rfl) (sT1 rfl)) sB0 sF0) ?_
        refine AL_nil ?_
        exact thenN (cutLeaf (v := a0_0 == a1_0) hr (weak0 ((sT rfl (sT rfl (sT rfl (sT rfl (sT rfl (sT rfl (sT rfl sT0)))))))) (sub_keep (sub_keep (sub_keep sub_nil)))))
      · rintro x4 hr
        show AW Hfaa.prog _ _ _ ⟨[(2, .inr (.inl (2, 0))), (3, .inr (.inl (3, 0))), (4, .inr (.inl (4, 0))), (5, .inl (big x1)), (6, .inl (big x2)), (7, .inl (big x3)), (31, .inl (is (Bl x4)))], [(2, pb 119 [is (Bl a0_0), big a0_1, big a0_2]), (3, pb 119 [is (Bl a1_0), big a1_1, big a1_2]), (4, pb 119 [is (Bl false), big 0, big 0])]⟩
        have hr : some r = F146_3 N a0_0 a0_1 a0_2 a1_0 a1_1 a1_2 x1 x2 x3 x4 := hr
        refine AW_condT (b := x4) rfl (fun h => ?_) (fun h => ?_)
        · have hr := hr.trans (cond_t h)
          clear h
          refine AW_seq1 ?_
          obtain ⟨hg7, hr⟩ := guard_some hr
          refine AW_draw mixed
            (lrC (LR_fieldAddr (off := 0) (o := 0) (at_tmp 2 _) (fun b w => fa119_0 b 0 w) rfl)
            (lrC (LR_load (at_tmp 32 _) na4 rfl rfl)
            (lrC (LR_move (at_tmp 5 _) rfl)
            (lrC (LR_move (at_tmp 6 _) rfl)
            (lrC (LR_call Hfaa.func253 rfl rfl (B253 x1 x2 hg7) (all_cons (at_tmp 34 _) (all_cons (at_tmp 35 _) all_nil)) rfl)
            (lrC (LR_move (at_tmp 7 _) rfl)
            (lrC (bl119 (parts_cons (i := 0) (off := 0) (at_tmp 33 _) (cells_one (one_is rfl)) rfl rfl (parts_cons (i := 1) (off := 1) (at_tmp 36 _) (cells_one (one_big _)) rfl rfl (parts_cons (i := 2) (off := 2) (at_tmp 37 _) (cells_one (one_big _)) rfl rfl parts_nil))) rfl rfl)
            (lrC (LR_store (at_tmp 4 _) (at_tmp 38 _) (cells_agg _) (onC (one_is rfl) (onC (one_big _) (onC (one_big _) onN))) sz119 rfl rfl)
            lrN))))))))
            (by kernel_rfl)
            (saC (sS (sT1 rfl) sB0 sF0) (saC (sS (sT1 rfl) (sB1 rfl) sF0) (saC (sS (sT1 rfl) sB0 sF0) (saC (sS (sT1 rfl) sB0 sF0) (saC (sS (sA (sT1 rfl) (sA (sT1 rfl) sT0)) sB0 sF0) (saC (sS (sT1 rfl) sB0 sF0) (saC (sS (sA (sT1 rfl) (sA (sT1 rfl) (sA (sT1 rfl) sT0))) sB0 sF0) (saC (sS (sA (sT1 rfl) (sT1 rfl)) (sB1 rfl) sF0) saN)))))))) ?_
          refine thenN ?_
          refine AW_ret ?_
          refine thenR ?_
          obtain rfl := Option.some.inj hr
          exact res1 rfl (rvC rfl rfl ag119 sz119 rfl)
        · have hr := hr.trans (cond_f h)
          clear h
          refine AW_skip ?_
          refine thenN ?_
          refine AW_seq1 ?_
          refine AW_cut (σ := Nat × Bool) (fun v => ⟨[(2, .inr (.inl (2, 0))), (3, .inr (.inl (3, 0))), (4, .inr (.inl (4, 0))), (5, .inl (big x1)), (6, .inl (big x2)), (7, .inl (big x3)), (8, .inl (big v.1)), (9, .inl (is (Bl v.2)))], [(2, pb 119 [is (Bl a0_0), big a0_1, big a0_2]), (3, pb 119 [is (Bl a1_0), big a1_1, big a1_2]), (4, pb 119 [is (Bl false), big 0, big 0])]⟩) (fun v => some r = F146_4 N a0_0 a0_1 a0_2 a1_0 a1_1 a1_2 x1 x2 x3 v.1 v.2) ?_ ?_
          · skip
            refine AW_region ?_
            refine AL_cons (LR_move (at_tmp 5 _) rfl) (sS (sT1 rfl) sB0 sF0) ?_
            refine AL_cons (LR_move (at_tmp 6 _) rfl) (sS (sT1 rfl) sB0 sF0) ?_
            obtain ⟨hg13, hr⟩ := guard_some hr
            refine AL_cons (LR_call Hfaa.func254 rfl rfl (B254 x1 x2 hg13) (all_cons (at_tmp 40 _) (all_cons (at_tmp 41 _) all_nil)) rfl) (sS (sA (sT1 rfl) (sA (sT1 rfl) sT0)) sB0 sF0) ?_
            refine AL_cons (LR_move (at_tmp 42 _) rfl) (sS (sT1 rfl) sB0 sF0) ?_
            refine AL_cons (LR_extract (at_tmp 39 _) rfl rfl) (sS (sT1 rfl) sB0 sF0) ?_
            refine AL_cons (LR_extract (at_tmp 39 _) rfl rfl) (sS (sT1 rfl) sB0 sF0) ?_
            refine AL_cons (LR_assign (at_tmp 43 _) rfl) (sS (sT1 rfl) sB0 sF0) ?_
            refine AL_cons (LR_assign (at_tmp 44 _) rfl) (sS (sT1 rfl) sB0 sF0) ?_
            refine AL_nil ?_
            exact thenN (cutLeaf (v := (x1 - x2, decide (x2 ≤ x1))) hr (weak0 ((sT rfl (sT rfl (sT rfl (sT rfl (sT rfl (sT rfl (sT rfl (sT rfl sT0))))))))) (sub_keep (sub_keep (sub_keep sub_nil)))))
          · rintro ⟨x5, x6⟩ hr
            show AW Hfaa.prog _ _ _ ⟨[(2, .inr (.inl (2, 0))), (3, .inr (.inl (3, 0))), (4, .inr (.inl (4, 0))), (5, .inl (big x1)), (6, .inl (big x2)), (7, .inl (big x3)), (8, .inl (big x5)), (9, .inl (is (Bl x6)))], [(2, pb 119 [is (Bl a0_0), big a0_1, big a0_2]), (3, pb 119 [is (Bl a1_0), big a1_1, big a1_2]), (4, pb 119 [is (Bl false), big 0, big 0])]⟩
            have hr : some r = F146_4 N a0_0 a0_1 a0_2 a1_0 a1_1 a1_2 x1 x2 x3 x5 x6 := hr
            refine AW_seq1 ?_
            refine AW_region ?_
            refine AL_cons (LR_move (at_tmp 9 _) rfl) (sS (sT1 rfl) sB0 sF0) ?_
            refine AL_nil ?_
            refine thenN ?_
            refine AW_condT (b := x6) rfl (fun h => ?_) (fun h => ?_)
            · have hr := hr.trans (cond_t h)
              clear h
              refine AW_seq1 ?_
              refine AW_region ?_
              refine AL_cons (LR_fieldAddr (off := 0) (o := 0) (at_tmp 2 _) (fun b w => fa119_0 b 0 w) rfl) (sS (sT1 rfl) sB0 sF0) ?_
              refine AL_cons (LR_load (at_tmp 46 _) na4 rfl rfl) (sS (sT1 rfl) (sB1 rfl) sF0) ?_
              refine AL_cons (LR_move (at_tmp 8 _) rfl) (sS (sT1 rfl) sB0 sF0) ?_
              refine AL_cons (LR_move (at_tmp 7 _) rfl) (sS (sT1 rfl) sB0 sF0) ?_
              refine AL_cons (bl119 (parts_cons (i := 0) (off := 0) (at_tmp 47 _) (cells_one (one_is rfl)) rfl rfl (parts_cons (i := 1) (off := 1) (at_tmp 48 _) (cells_one (one_big _)) rfl rfl (parts_cons (i := 2) (off := 2) (at_tmp 49 _) (cells_one (one_big _)) rfl rfl parts_nil))) rfl rfl) (sS (sA (sT1 rfl) (sA (sT1 rfl) (sA (sT1 rfl) sT0))) sB0 sF0) ?_
              refine AL_cons (LR_store (at_tmp 4 _) (at_tmp 50 _) (cells_agg _) (onC (one_is rfl) (onC (one_big _) (onC (one_big _) onN))) sz119 rfl rfl) (sS (sA (sT1 rfl) (sT1 rfl)) (sB1 rfl) sF0) ?_
              refine AL_nil ?_
              refine thenN ?_
              refine AW_ret ?_
              refine thenR ?_
              obtain rfl := Option.some.inj hr
              exact res1 rfl (rvC rfl rfl ag119 sz119 rfl)
            · have hr := hr.trans (cond_f h)
              clear h
              refine AW_skip ?_
              refine thenN ?_
              refine AW_cut (σ := Nat) (fun v => ⟨[(3, .inr (.inl (3, 0))), (4, .inr (.inl (4, 0))), (7, .inl (big x3)), (10, .inl (big v))], [(3, pb 119 [is (Bl a1_0), big a1_1, big a1_2]), (4, pb 119 [is (Bl false), big 0, big 0])]⟩) (fun v => some r = F146_5 N a1_0 a1_1 a1_2 x3 v) ?_ ?_
              · skip
                refine AW_region ?_
                refine AL_cons (LR_move (at_tmp 6 _) rfl) (sS (sT1 rfl) sB0 sF0) ?_
                refine AL_cons (LR_move (at_tmp 5 _) rfl) (sS (sT1 rfl) sB0 sF0) ?_
                obtain ⟨hg12, hr⟩ := guard_some hr
                refine AL_cons (LR_call Hfaa.func254 rfl rfl (B254 x2 x1 hg12) (all_cons (at_tmp 52 _) (all_cons (at_tmp 53 _) all_nil)) rfl) (sS (sA (sT1 rfl) (sA (sT1 rfl) sT0)) sB0 sF0) ?_
                refine AL_cons (LR_move (at_tmp 54 _) rfl) (sS (sT1 rfl) sB0 sF0) ?_
                refine AL_cons (LR_extract (at_tmp 51 _) rfl rfl) (sS (sT1 rfl) sB0 sF0) ?_
                refine AL_cons (LR_extract (at_tmp 51 _) rfl rfl) (sS (sT1 rfl) sB0 sF0) ?_
                refine AL_cons (LR_assign (at_tmp 55 _) rfl) (sS (sT1 rfl) sB0 sF0) ?_
                refine AL_cons (LR_assign (at_tmp 56 _) rfl) (sS (sT1 rfl) sB0 sF0) ?_
                refine AL_nil ?_
                exact thenN (cutLeaf (v := x2 - x1) hr (weak0 ((sT rfl (sT rfl (sT rfl (sT rfl sT0))))) (sub_drop (sub_keep (sub_keep sub_nil)))))
              · rintro x7 hr
                show AW Hfaa.prog _ _ _ ⟨[(3, .inr (.inl (3, 0))), (4, .inr (.inl (4, 0))), (7, .inl (big x3)), (10, .inl (big x7))], [(3, pb 119 [is (Bl a1_0), big a1_1, big a1_2]), (4, pb 119 [is (Bl false), big 0, big 0])]⟩
                have hr : some r = F146_5 N a1_0 a1_1 a1_2 x3 x7 := hr
                refine AW_seq1 ?_
                refine AW_region ?_
                refine AL_cons (LR_fieldAddr (off := 0) (o := 0) (at_tmp 3 _) (fun b w => fa119_0 b 0 w) rfl) (sS (sT1 rfl) sB0 sF0) ?_
                refine AL_cons (LR_load (at_tmp 57 _) na4 rfl rfl) (sS (sT1 rfl) (sB1 rfl) sF0) ?_
                refine AL_cons (LR_move (at_tmp 10 _) rfl) (sS (sT1 rfl) sB0 sF0) ?_
                refine AL_cons (LR_move (at_tmp 7 _) rfl) (sS (sT1 rfl) sB0 sF0) ?_
                refine AL_cons (bl119 (parts_cons (i := 0) (off := 0) (at_tmp 58 _) (cells_one (one_is rfl)) rfl rfl (parts_cons (i := 1) (off := 1) (at_tmp 59 _) (cells_one (one_big _)) rfl rfl (parts_cons (i := 2) (off := 2) (at_tmp 60 _) (cells_one (one_big _)) rfl rfl parts_nil))) rfl rfl) (sS (sA (sT1 rfl) (sA (sT1 rfl) (sA (sT1 rfl) sT0))) sB0 sF0) ?_
                refine AL_cons (LR_store (at_tmp 4 _) (at_tmp 61 _) (cells_agg _) (onC (one_is rfl) (onC (one_big _) (onC (one_big _) onN))) sz119 rfl rfl) (sS (sA (sT1 rfl) (sT1 rfl)) (sB1 rfl) sF0) ?_
                refine AL_nil ?_
                refine thenN ?_
                refine AW_ret ?_
                obtain rfl := Option.some.inj hr
                exact res1 rfl (rvC rfl rfl ag119 sz119 rfl)
end Go.Proofs.YfwaawGreat
