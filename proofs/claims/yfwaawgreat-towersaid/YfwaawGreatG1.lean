import Derived.Test.YfwaawGreatBig
namespace Go.Proofs.YfwaawGreat
open Go.Aw
set_option linter.unusedVariables false
set_option maxRecDepth 100000
set_option maxHeartbeats 1000000
/-- (ieee.Format).Ok -/
def F40 (a0_0 : BitVec 8) (a0_1 : BitVec 8) : Bool := (((decide ((2#8).toNat ≤ a0_0.toNat)) && (decide (a0_0.toNat ≤ (11#8).toNat))) && (decide ((2#8).toNat ≤ a0_1.toNat))) && (decide (a0_1.toNat ≤ (52#8).toNat))
theorem C40 (a0_0 : BitVec 8) (a0_1 : BitVec 8) (r : Bool) (hr : r = F40 a0_0 a0_1) : Aw.Fn Hfaa.prog 40 [agg [is (U8 a0_0), is (U8 a0_1)]] (is (Bl r)) := by
  refine fn_intro Hfaa.func40 rfl rfl rfl ?_
  intro bn0 w0 H0
  refine AW_seq1 ?_
  refine AW_region ?_
  refine AL_cons (LR_box (at_tmp 0 _) (cells_agg _) rfl) (sS (sT1 rfl) sB0 (sF1 rfl)) ?_
  refine AL_cons (LR_assign (at_c (v' := Bl false) rfl) rfl) (sS sT0 sB0 sF0) ?_
  refine AL_nil ?_
  refine thenN ?_
  refine AW_seq1 ?_
  refine AW_region ?_
  refine AL_cons (LR_fieldAddr (off := 0) (o := 0) (at_tmp 1 _) (fun b w => fa23_0 b 0 w) rfl) (sS (sT1 rfl) sB0 sF0) ?_
  refine AL_cons (LR_load (at_tmp 3 _) na5 rfl rfl) (sS (sT1 rfl) (sB1 rfl) sF0) ?_
  refine AL_cons (LR_bin (at_c (v' := U8 (2#8)) rfl) (at_tmp 4 _) (leq_U8 (2#8) a0_0) rfl) (sS (sA sT0 (sT1 rfl)) sB0 sF0) ?_
  refine AL_cons (LR_move (at_tmp 5 _) rfl) (sS (sT1 rfl) sB0 sF0) ?_
  refine AL_cutAt 4 ⟨[(0, .inl (agg [is (U8 a0_0), is (U8 a0_1)])), (1, .inr (.inl (1, 0))), (2, .inl (is (Bl false))), (3, .inr (.inl (1, 0))), (4, .inl (is (U8 a0_0))), (5, .inl (is (Bl (decide ((2#8).toNat ≤ a0_0.toNat))))), (6, .inl (is (Bl (decide ((2#8).toNat ≤ a0_0.toNat))))), (10, .inl (is (Bl ((decide ((2#8).toNat ≤ a0_0.toNat)) && (decide (a0_0.toNat ≤ (11#8).toNat))))))], [(1, pb 23 [is (U8 a0_0), is (U8 a0_1)])]⟩ ?_ ?_
  · cases hb : decide ((2#8).toNat ≤ a0_0.toNat)
    · skip
      refine AL_cons (LR_off (b := false) rfl rfl rfl rfl) (sS (sT1 rfl) sB0 sF0) ?_
      refine AL_cons (LR_off (b := false) rfl rfl rfl rfl) (sS (sT1 rfl) sB0 sF0) ?_
      refine AL_cons (LR_off (b := false) rfl rfl rfl rfl) (sS (sT1 rfl) sB0 sF0) ?_
      refine AL_cons (LR_pick (b := false) (at_tmp 6 _) (at_tmp 9 _) (at_c (v' := Bl false) rfl) rfl) (sS (sA (sT1 rfl) (sA (sT1 rfl) sT0)) sB0 sF0) ?_
      exact AL_nil ⟨rfl, weak0 ((sT rfl (sT rfl (sT rfl (sT rfl (sT rfl (sT rfl (sT rfl (sT rfl sT0))))))))) (sub_keep sub_nil)⟩
    · skip
      refine AL_cons (LR_on rfl rfl rfl (LR_fieldAddr (off := 0) (o := 0) (at_tmp 1 _) (fun b w => fa23_0 b 0 w) rfl)) (sS (sT rfl (sT1 rfl)) sB0 sF0) ?_
      refine AL_cons (LR_on rfl rfl rfl (LR_load (at_tmp 7 _) na5 rfl rfl)) (sS (sT rfl (sT1 rfl)) (sB1 rfl) sF0) ?_
      refine AL_cons (LR_on rfl rfl rfl (LR_bin (at_tmp 8 _) (at_c (v' := U8 (11#8)) rfl) (leq_U8 a0_0 (11#8)) rfl)) (sS (sT rfl (sA (sT1 rfl) sT0)) sB0 sF0) ?_
      refine AL_cons (LR_pick (b := true) (at_tmp 6 _) (at_tmp 9 _) (at_c (v' := Bl false) rfl) rfl) (sS (sA (sT1 rfl) (sA (sT1 rfl) sT0)) sB0 sF0) ?_
      exact AL_nil ⟨rfl, weak0 ((sT rfl (sT rfl (sT rfl (sT rfl (sT rfl (sT rfl (sT rfl (sT rfl sT0))))))))) (sub_keep sub_nil)⟩
  refine AL_cons (LR_move (at_tmp 10 _) rfl) (sS (sT1 rfl) sB0 sF0) ?_
  refine AL_cutAt 4 ⟨[(0, .inl (agg [is (U8 a0_0), is (U8 a0_1)])), (1, .inr (.inl (1, 0))), (2, .inl (is (Bl false))), (3, .inr (.inl (1, 0))), (4, .inl (is (U8 a0_0))), (5, .inl (is (Bl (decide ((2#8).toNat ≤ a0_0.toNat))))), (6, .inl (is (Bl (decide ((2#8).toNat ≤ a0_0.toNat))))), (10, .inl (is (Bl ((decide ((2#8).toNat ≤ a0_0.toNat)) && (decide (a0_0.toNat ≤ (11#8).toNat)))))), (11, .inl (is (Bl ((decide ((2#8).toNat ≤ a0_0.toNat)) && (decide (a0_0.toNat ≤ (11#8).toNat)))))), (15, .inl (is (Bl (((decide ((2#8).toNat ≤ a0_0.toNat)) && (decide (a0_0.toNat ≤ (11#8).toNat))) && (decide ((2#8).toNat ≤ a0_1.toNat))))))], [(1, pb 23 [is (U8 a0_0), is (U8 a0_1)])]⟩ ?_ ?_
  · cases hb : (decide ((2#8).toNat ≤ a0_0.toNat)) && (decide (a0_0.toNat ≤ (11#8).toNat))
    · skip
      refine AL_cons (LR_off (b := false) rfl rfl rfl rfl) (sS (sT1 rfl) sB0 sF0) ?_
      refine AL_cons (LR_off (b := false) rfl rfl rfl rfl) (sS (sT1 rfl) sB0 sF0) ?_
      refine AL_cons (LR_off (b := false) rfl rfl rfl rfl) (sS (sT1 rfl) sB0 sF0) ?_
      refine AL_cons (LR_pick (b := false) (at_tmp 11 _) (at_tmp 14 _) (at_c (v' := Bl false) rfl) rfl) (sS (sA (sT1 rfl) (sA (sT1 rfl) sT0)) sB0 sF0) ?_
      exact AL_nil ⟨rfl, weak0 ((sT rfl (sT rfl (sT rfl (sT rfl (sT rfl (sT rfl (sT rfl (sT rfl (sT rfl (sT rfl sT0))))))))))) (sub_keep sub_nil)⟩
    · skip
      refine AL_cons (LR_on rfl rfl rfl (LR_fieldAddr (off := 0) (o := 1) (at_tmp 1 _) (fun b w => fa23_1 b 0 w) rfl)) (sS (sT rfl (sT1 rfl)) sB0 sF0) ?_
      refine AL_cons (LR_on rfl rfl rfl (LR_load (at_tmp 12 _) na5 rfl rfl)) (sS (sT rfl (sT1 rfl)) (sB1 rfl) sF0) ?_
      refine AL_cons (LR_on rfl rfl rfl (LR_bin (at_c (v' := U8 (2#8)) rfl) (at_tmp 13 _) (leq_U8 (2#8) a0_1) rfl)) (sS (sT rfl (sA sT0 (sT1 rfl))) sB0 sF0) ?_
      refine AL_cons (LR_pick (b := true) (at_tmp 11 _) (at_tmp 14 _) (at_c (v' := Bl false) rfl) rfl) (sS (sA (sT1 rfl) (sA (sT1 rfl) sT0)) sB0 sF0) ?_
      exact AL_nil ⟨rfl, weak0 ((sT rfl (sT rfl (sT rfl (sT rfl (sT rfl (sT rfl (sT rfl (sT rfl (sT rfl (sT rfl sT0))))))))))) (sub_keep sub_nil)⟩
  refine AL_cons (LR_move (at_tmp 15 _) rfl) (sS (sT1 rfl) sB0 sF0) ?_
  refine AL_cutAt 4 ⟨[(0, .inl (agg [is (U8 a0_0), is (U8 a0_1)])), (1, .inr (.inl (1, 0))), (2, .inl (is (Bl false))), (3, .inr (.inl (1, 0))), (4, .inl (is (U8 a0_0))), (5, .inl (is (Bl (decide ((2#8).toNat ≤ a0_0.toNat))))), (6, .inl (is (Bl (decide ((2#8).toNat ≤ a0_0.toNat))))), (10, .inl (is (Bl ((decide ((2#8).toNat ≤ a0_0.toNat)) && (decide (a0_0.toNat ≤ (11#8).toNat)))))), (11, .inl (is (Bl ((decide ((2#8).toNat ≤ a0_0.toNat)) && (decide (a0_0.toNat ≤ (11#8).toNat)))))), (15, .inl (is (Bl (((decide ((2#8).toNat ≤ a0_0.toNat)) && (decide (a0_0.toNat ≤ (11#8).toNat))) && (decide ((2#8).toNat ≤ a0_1.toNat)))))), (16, .inl (is (Bl (((decide ((2#8).toNat ≤ a0_0.toNat)) && (decide (a0_0.toNat ≤ (11#8).toNat))) && (decide ((2#8).toNat ≤ a0_1.toNat)))))), (20, .inl (is (Bl ((((decide ((2#8).toNat ≤ a0_0.toNat)) && (decide (a0_0.toNat ≤ (11#8).toNat))) && (decide ((2#8).toNat ≤ a0_1.toNat))) && (decide (a0_1.toNat ≤ (52#8).toNat))))))], [(1, pb 23 [is (U8 a0_0), is (U8 a0_1)])]⟩ ?_ ?_
  · cases hb : ((decide ((2#8).toNat ≤ a0_0.toNat)) && (decide (a0_0.toNat ≤ (11#8).toNat))) && (decide ((2#8).toNat ≤ a0_1.toNat))
    · skip
      refine AL_cons (LR_off (b := false) rfl rfl rfl rfl) (sS (sT1 rfl) sB0 sF0) ?_
      refine AL_cons (LR_off (b := false) rfl rfl rfl rfl) (sS (sT1 rfl) sB0 sF0) ?_
      refine AL_cons (LR_off (b := false) rfl rfl rfl rfl) (sS (sT1 rfl) sB0 sF0) ?_
      refine AL_cons (LR_pick (b := false) (at_tmp 16 _) (at_tmp 19 _) (at_c (v' := Bl false) rfl) rfl) (sS (sA (sT1 rfl) (sA (sT1 rfl) sT0)) sB0 sF0) ?_
      exact AL_nil ⟨rfl, weak0 ((sT rfl (sT rfl (sT rfl (sT rfl (sT rfl (sT rfl (sT rfl (sT rfl (sT rfl (sT rfl (sT rfl (sT rfl sT0))))))))))))) (sub_keep sub_nil)⟩
    · skip
      refine AL_cons (LR_on rfl rfl rfl (LR_fieldAddr (off := 0) (o := 1) (at_tmp 1 _) (fun b w => fa23_1 b 0 w) rfl)) (sS (sT rfl (sT1 rfl)) sB0 sF0) ?_
      refine AL_cons (LR_on rfl rfl rfl (LR_load (at_tmp 17 _) na5 rfl rfl)) (sS (sT rfl (sT1 rfl)) (sB1 rfl) sF0) ?_
      refine AL_cons (LR_on rfl rfl rfl (LR_bin (at_tmp 18 _) (at_c (v' := U8 (52#8)) rfl) (leq_U8 a0_1 (52#8)) rfl)) (sS (sT rfl (sA (sT1 rfl) sT0)) sB0 sF0) ?_
      refine AL_cons (LR_pick (b := true) (at_tmp 16 _) (at_tmp 19 _) (at_c (v' := Bl false) rfl) rfl) (sS (sA (sT1 rfl) (sA (sT1 rfl) sT0)) sB0 sF0) ?_
      exact AL_nil ⟨rfl, weak0 ((sT rfl (sT rfl (sT rfl (sT rfl (sT rfl (sT rfl (sT rfl (sT rfl (sT rfl (sT rfl (sT rfl (sT rfl sT0))))))))))))) (sub_keep sub_nil)⟩
  refine AL_cons (LR_assign (at_tmp 20 _) rfl) (sS (sT1 rfl) sB0 sF0) ?_
  refine AL_nil ?_
  refine thenN ?_
  refine AW_ret ?_
  subst hr
  exact res1 rfl (rvT rfl)
/-- (ieee.Format).SignBit -/
def F70_1 (a0_0 : BitVec 8) (a0_1 : BitVec 8) (x1 : Bool) : BitVec 64 := bif x1 then 0#64 else (1#64) <<< (a0_0 + a0_1).toNat
def F70 (a0_0 : BitVec 8) (a0_1 : BitVec 8) : BitVec 64 := lt (F40 a0_0 a0_1) fun y4 => F70_1 a0_0 a0_1 (!y4)
theorem C70 (a0_0 : BitVec 8) (a0_1 : BitVec 8) (r : BitVec 64) (hr : r = F70 a0_0 a0_1) : Aw.Fn Hfaa.prog 70 [agg [is (U8 a0_0), is (U8 a0_1)]] (is (U64 r)) := by
  refine fn_intro Hfaa.func70 rfl rfl rfl ?_
  intro bn0 w0 H0
  refine AW_seq1 ?_
  refine AW_region ?_
  refine AL_cons (LR_box (at_tmp 0 _) (cells_agg _) rfl) (sS (sT1 rfl) sB0 (sF1 rfl)) ?_
  refine AL_cons (LR_assign (at_c (v' := U64 (0#64)) rfl) rfl) (sS sT0 sB0 sF0) ?_
  refine AL_nil ?_
  refine thenN ?_
  refine AW_seq1 ?_
  refine AW_cut (σ := Bool) (fun v => ⟨[(1, .inr (.inl (1, 0))), (5, .inl (is (Bl v)))], [(1, pb 23 [is (U8 a0_0), is (U8 a0_1)])]⟩) (fun v => r = F70_1 a0_0 a0_1 v) ?_ ?_
  · skip
    refine AW_region ?_
    refine AL_cons (LR_loads (at_tmp 1 _) ag23 sz23 rfl rfl rfl) (sS (sT1 rfl) (sB1 rfl) sF0) ?_
    obtain ⟨y4, hy4, hr⟩ := lt_some hr
    refine AL_cons (LR_call Hfaa.func40 rfl rfl (C40 a0_0 a0_1 y4 hy4) (all_cons (at_tmp 3 _) all_nil) rfl) (sS (sA (sT1 rfl) sT0) sB0 sF0) ?_
    refine AL_cons (LR_un (at_tmp 4 _) (not_Bl y4) rfl) (sS (sT1 rfl) sB0 sF0) ?_
    refine AL_nil ?_
    exact thenN (cutLeaf (v := !y4) hr (weak0 ((sT rfl (sT rfl sT0))) (sub_keep sub_nil)))
  · rintro x1 hr
    show AW Hfaa.prog _ _ _ ⟨[(1, .inr (.inl (1, 0))), (5, .inl (is (Bl x1)))], [(1, pb 23 [is (U8 a0_0), is (U8 a0_1)])]⟩
    have hr : r = F70_1 a0_0 a0_1 x1 := hr
    refine AW_condT (b := x1) rfl (fun h => ?_) (fun h => ?_)
    · have hr := hr.trans (cond_t h)
      clear h
      refine AW_seq1 ?_
      refine AW_region ?_
      refine AL_cons (LR_assign (at_c (v' := U64 (0#64)) rfl) rfl) (sS sT0 sB0 sF0) ?_
      refine AL_nil ?_
      refine thenN ?_
      refine AW_ret ?_
      refine thenR ?_
      subst hr
      exact res1 rfl (rvT rfl)
    · have hr := hr.trans (cond_f h)
      clear h
      refine AW_skip ?_
      refine thenN ?_
      refine AW_seq1 ?_
      refine AW_region ?_
      refine AL_cons (LR_fieldAddr (off := 0) (o := 0) (at_tmp 1 _) (fun b w => fa23_0 b 0 w) rfl) (sS (sT1 rfl) sB0 sF0) ?_
      refine AL_cons (LR_load (at_tmp 6 _) na5 rfl rfl) (sS (sT1 rfl) (sB1 rfl) sF0) ?_
      refine AL_cons (LR_fieldAddr (off := 0) (o := 1) (at_tmp 1 _) (fun b w => fa23_1 b 0 w) rfl) (sS (sT1 rfl) sB0 sF0) ?_
      refine AL_cons (LR_load (at_tmp 8 _) na5 rfl rfl) (sS (sT1 rfl) (sB1 rfl) sF0) ?_
      refine AL_cons (LR_bin (at_tmp 7 _) (at_tmp 9 _) (add_U8 a0_0 a0_1) rfl) (sS (sA (sT1 rfl) (sT1 rfl)) sB0 sF0) ?_
      refine AL_cons (LR_bin (at_c (v' := U64 (1#64)) rfl) (at_tmp 10 _) (shl_U64 (1#64) ((a0_0 + a0_1).toNat : Int) (Int.natCast_nonneg _)) rfl) (sS (sA sT0 (sT1 rfl)) sB0 sF0) ?_
      refine AL_cons (LR_assign (at_tmp 11 _) rfl) (sS (sT1 rfl) sB0 sF0) ?_
      refine AL_nil ?_
      refine thenN ?_
      refine AW_ret ?_
      subst hr
      exact res1 rfl (rvT rfl)
/-- ieee.width -/
def F244_9 (x9 : BitVec 64) : BitVec 8 := BitVec.ofInt 8 (((x9 * (72340172838076673#64)) >>> 56).toNat : Int)
def F244_8 (x8 : BitVec 64) : BitVec 8 := F244_9 ((x8 + (x8 >>> 4)) &&& (1085102592571150095#64))
def F244_7 (x7 : BitVec 64) : BitVec 8 := F244_8 ((x7 &&& (3689348814741910323#64)) + ((x7 >>> 2) &&& (3689348814741910323#64)))
def F244_6 (x6 : BitVec 64) : BitVec 8 := F244_7 (x6 - ((x6 >>> 1) &&& (6148914691236517205#64)))
def F244_5 (x5 : BitVec 64) : BitVec 8 := F244_6 (x5 ||| (x5 >>> 32))
def F244_4 (x4 : BitVec 64) : BitVec 8 := F244_5 (x4 ||| (x4 >>> 16))
def F244_3 (x3 : BitVec 64) : BitVec 8 := F244_4 (x3 ||| (x3 >>> 8))
def F244_2 (x2 : BitVec 64) : BitVec 8 := F244_3 (x2 ||| (x2 >>> 4))
def F244_1 (x1 : BitVec 64) : BitVec 8 := F244_2 (x1 ||| (x1 >>> 2))
def F244 (a0 : BitVec 64) : BitVec 8 := F244_1 (a0 ||| (a0 >>> 1))
theorem C244 (a0 : BitVec 64) (r : BitVec 8) (hr : r = F244 a0) : Aw.Fn Hfaa.prog 244 [is (U64 a0)] (is (U8 r)) := by
  refine fn_intro Hfaa.func244 rfl rfl rfl ?_
  intro bn0 w0 H0
  refine AW_seq1 ?_
  refine AW_region ?_
  refine AL_cons (LR_assign (at_c (v' := U8 (0#8)) rfl) rfl) (sS sT0 sB0 sF0) ?_
  refine AL_nil ?_
  refine thenN ?_
  refine AW_cut (σ := BitVec 64) (fun v => ⟨[(0, .inl (is (U64 v)))], []⟩) (fun v => r = F244_1 v) ?_ ?_
  · skip
    refine AW_region ?_
    refine AL_cons (LR_move (at_tmp 0 _) rfl) (sS (sT1 rfl) sB0 sF0) ?_
    refine AL_cons (LR_move (at_tmp 0 _) rfl) (sS (sT1 rfl) sB0 sF0) ?_
    refine AL_cons (LR_bin (at_tmp 4 _) (at_c (v' := U64 (1#64)) rfl) (shr_U64 a0 ((1#64).toNat : Int) (Int.natCast_nonneg _)) rfl) (sS (sA (sT1 rfl) sT0) sB0 sF0) ?_
    refine AL_cons (LR_bin (at_tmp 3 _) (at_tmp 5 _) (or_U64 a0 (a0 >>> 1)) rfl) (sS (sA (sT1 rfl) (sT1 rfl)) sB0 sF0) ?_
    refine AL_cons (LR_assign (at_tmp 6 _) rfl) (sS (sT1 rfl) sB0 sF0) ?_
    refine AL_nil ?_
    exact thenN (cutLeaf (v := a0 ||| (a0 >>> 1)) hr (weak0 ((sT rfl sT0)) sub_nil))
  · rintro x1 hr
    show AW Hfaa.prog _ _ _ ⟨[(0, .inl (is (U64 x1)))], []⟩
    have hr : r = F244_1 x1 := hr
    refine AW_cut (σ := BitVec 64) (fun v => ⟨[(0, .inl (is (U64 v)))], []⟩) (fun v => r = F244_2 v) ?_ ?_
    · skip
      refine AW_region ?_
      refine AL_cons (LR_move (at_tmp 0 _) rfl) (sS (sT1 rfl) sB0 sF0) ?_
      refine AL_cons (LR_move (at_tmp 0 _) rfl) (sS (sT1 rfl) sB0 sF0) ?_
      refine AL_cons (LR_bin (at_tmp 8 _) (at_c (v' := U64 (2#64)) rfl) (shr_U64 x1 ((2#64).toNat : Int) (Int.natCast_nonneg _)) rfl) (sS (sA (sT1 rfl) sT0) sB0 sF0) ?_
      refine AL_cons (LR_bin (at_tmp 7 _) (at_tmp 9 _) (or_U64 x1 (x1 >>> 2)) rfl) (sS (sA (sT1 rfl) (sT1 rfl)) sB0 sF0) ?_
      refine AL_cons (LR_assign (at_tmp 10 _) rfl) (sS (sT1 rfl) sB0 sF0) ?_
      refine AL_nil ?_
      exact thenN (cutLeaf (v := x1 ||| (x1 >>> 2)) hr (weak0 ((sT rfl sT0)) sub_nil))
    · rintro x2 hr
      show AW Hfaa.prog _ _ _ ⟨[(0, .inl (is (U64 x2)))], []⟩
      have hr : r = F244_2 x2 := hr
      refine AW_cut (σ := BitVec 64) (fun v => ⟨[(0, .inl (is (U64 v)))], []⟩) (fun v => r = F244_3 v) ?_ ?_
      · skip
        refine AW_region ?_
        refine AL_cons (LR_move (at_tmp 0 _) rfl) (sS (sT1 rfl) sB0 sF0) ?_
        refine AL_cons (LR_move (at_tmp 0 _) rfl) (sS (sT1 rfl) sB0 sF0) ?_
        refine AL_cons (LR_bin (at_tmp 12 _) (at_c (v' := U64 (4#64)) rfl) (shr_U64 x2 ((4#64).toNat : Int) (Int.natCast_nonneg _)) rfl) (sS (sA (sT1 rfl) sT0) sB0 sF0) ?_
        refine AL_cons (LR_bin (at_tmp 11 _) (at_tmp 13 _) (or_U64 x2 (x2 >>> 4)) rfl) (sS (sA (sT1 rfl) (sT1 rfl)) sB0 sF0) ?_
        refine AL_cons (LR_assign (at_tmp 14 _) rfl) (sS (sT1 rfl) sB0 sF0) ?_
        refine AL_nil ?_
        exact thenN (cutLeaf (v := x2 ||| (x2 >>> 4)) hr (weak0 ((sT rfl sT0)) sub_nil))
      · rintro x3 hr
        show AW Hfaa.prog _ _ _ ⟨[(0, .inl (is (U64 x3)))], []⟩
        have hr : r = F244_3 x3 := hr
        refine AW_cut (σ := BitVec 64) (fun v => ⟨[(0, .inl (is (U64 v)))], []⟩) (fun v => r = F244_4 v) ?_ ?_
        · skip
          refine AW_region ?_
          refine AL_cons (LR_move (at_tmp 0 _) rfl) (sS (sT1 rfl) sB0 sF0) ?_
          refine AL_cons (LR_move (at_tmp 0 _) rfl) (sS (sT1 rfl) sB0 sF0) ?_
          refine AL_cons (LR_bin (at_tmp 16 _) (at_c (v' := U64 (8#64)) rfl) (shr_U64 x3 ((8#64).toNat : Int) (Int.natCast_nonneg _)) rfl) (sS (sA (sT1 rfl) sT0) sB0 sF0) ?_
          refine AL_cons (LR_bin (at_tmp 15 _) (at_tmp 17 _) (or_U64 x3 (x3 >>> 8)) rfl) (sS (sA (sT1 rfl) (sT1 rfl)) sB0 sF0) ?_
          refine AL_cons (LR_assign (at_tmp 18 _) rfl) (sS (sT1 rfl) sB0 sF0) ?_
          refine AL_nil ?_
          exact thenN (cutLeaf (v := x3 ||| (x3 >>> 8)) hr (weak0 ((sT rfl sT0)) sub_nil))
        · rintro x4 hr
          show AW Hfaa.prog _ _ _ ⟨[(0, .inl (is (U64 x4)))], []⟩
          have hr : r = F244_4 x4 := hr
          refine AW_cut (σ := BitVec 64) (fun v => ⟨[(0, .inl (is (U64 v)))], []⟩) (fun v => r = F244_5 v) ?_ ?_
          · skip
            refine AW_region ?_
            refine AL_cons (LR_move (at_tmp 0 _) rfl) (sS (sT1 rfl) sB0 sF0) ?_
            refine AL_cons (LR_move (at_tmp 0 _) rfl) (sS (sT1 rfl) sB0 sF0) ?_
            refine AL_cons (LR_bin (at_tmp 20 _) (at_c (v' := U64 (16#64)) rfl) (shr_U64 x4 ((16#64).toNat : Int) (Int.natCast_nonneg _)) rfl) (sS (sA (sT1 rfl) sT0) sB0 sF0) ?_
            refine AL_cons (LR_bin (at_tmp 19 _) (at_tmp 21 _) (or_U64 x4 (x4 >>> 16)) rfl) (sS (sA (sT1 rfl) (sT1 rfl)) sB0 sF0) ?_
            refine AL_cons (LR_assign (at_tmp 22 _) rfl) (sS (sT1 rfl) sB0 sF0) ?_
            refine AL_nil ?_
            exact thenN (cutLeaf (v := x4 ||| (x4 >>> 16)) hr (weak0 ((sT rfl sT0)) sub_nil))
          · rintro x5 hr
            show AW Hfaa.prog _ _ _ ⟨[(0, .inl (is (U64 x5)))], []⟩
            have hr : r = F244_5 x5 := hr
            refine AW_cut (σ := BitVec 64) (fun v => ⟨[(0, .inl (is (U64 v)))], []⟩) (fun v => r = F244_6 v) ?_ ?_
            · skip
              refine AW_region ?_
              refine AL_cons (LR_move (at_tmp 0 _) rfl) (sS (sT1 rfl) sB0 sF0) ?_
              refine AL_cons (LR_move (at_tmp 0 _) rfl) (sS (sT1 rfl) sB0 sF0) ?_
              refine AL_cons (LR_bin (at_tmp 24 _) (at_c (v' := U64 (32#64)) rfl) (shr_U64 x5 ((32#64).toNat : Int) (Int.natCast_nonneg _)) rfl) (sS (sA (sT1 rfl) sT0) sB0 sF0) ?_
              refine AL_cons (LR_bin (at_tmp 23 _) (at_tmp 25 _) (or_U64 x5 (x5 >>> 32)) rfl) (sS (sA (sT1 rfl) (sT1 rfl)) sB0 sF0) ?_
              refine AL_cons (LR_assign (at_tmp 26 _) rfl) (sS (sT1 rfl) sB0 sF0) ?_
              refine AL_nil ?_
              exact thenN (cutLeaf (v := x5 ||| (x5 >>> 32)) hr (weak0 ((sT rfl sT0)) sub_nil))
            · rintro x6 hr
              show AW Hfaa.prog _ _ _ ⟨[(0, .inl (is (U64 x6)))], []⟩
              have hr : r = F244_6 x6 := hr
              refine AW_cut (σ := BitVec 64) (fun v => ⟨[(0, .inl (is (U64 v)))], []⟩) (fun v => r = F244_7 v) ?_ ?_
              · skip
                refine AW_region ?_
                refine AL_cons (LR_move (at_tmp 0 _) rfl) (sS (sT1 rfl) sB0 sF0) ?_
                refine AL_cons (LR_move (at_tmp 0 _) rfl) (sS (sT1 rfl) sB0 sF0) ?_
                refine AL_cons (LR_bin (at_tmp 28 _) (at_c (v' := U64 (1#64)) rfl) (shr_U64 x6 ((1#64).toNat : Int) (Int.natCast_nonneg _)) rfl) (sS (sA (sT1 rfl) sT0) sB0 sF0) ?_
                refine AL_cons (LR_bin (at_tmp 29 _) (at_c (v' := U64 (6148914691236517205#64)) rfl) (and_U64 (x6 >>> 1) (6148914691236517205#64)) rfl) (sS (sA (sT1 rfl) sT0) sB0 sF0) ?_
                refine AL_cons (LR_bin (at_tmp 27 _) (at_tmp 30 _) (sub_U64 x6 ((x6 >>> 1) &&& (6148914691236517205#64))) rfl) (sS (sA (sT1 rfl) (sT1 rfl)) sB0 sF0) ?_
                refine AL_cons (LR_assign (at_tmp 31 _) rfl) (sS (sT1 rfl) sB0 sF0) ?_
                refine AL_nil ?_
                exact thenN (cutLeaf (v := x6 - ((x6 >>> 1) &&& (6148914691236517205#64))) hr (weak0 ((sT rfl sT0)) sub_nil))
              · rintro x7 hr
                show AW Hfaa.prog _ _ _ ⟨[(0, .inl (is (U64 x7)))], []⟩
                have hr : r = F244_7 x7 := hr
                refine AW_cut (σ := BitVec 64) (fun v => ⟨[(0, .inl (is (U64 v)))], []⟩) (fun v => r = F244_8 v) ?_ ?_
                · skip
                  refine AW_region ?_
                  refine AL_cons (LR_move (at_tmp 0 _) rfl) (sS (sT1 rfl) sB0 sF0) ?_
                  refine AL_cons (LR_bin (at_tmp 32 _) (at_c (v' := U64 (3689348814741910323#64)) rfl) (and_U64 x7 (3689348814741910323#64)) rfl) (sS (sA (sT1 rfl) sT0) sB0 sF0) ?_
                  refine AL_cons (LR_move (at_tmp 0 _) rfl) (sS (sT1 rfl) sB0 sF0) ?_
                  refine AL_cons (LR_bin (at_tmp 34 _) (at_c (v' := U64 (2#64)) rfl) (shr_U64 x7 ((2#64).toNat : Int) (Int.natCast_nonneg _)) rfl) (sS (sA (sT1 rfl) sT0) sB0 sF0) ?_
                  refine AL_cons (LR_bin (at_tmp 35 _) (at_c (v' := U64 (3689348814741910323#64)) rfl) (and_U64 (x7 >>> 2) (3689348814741910323#64)) rfl) (sS (sA (sT1 rfl) sT0) sB0 sF0) ?_
                  refine AL_cons (LR_bin (at_tmp 33 _) (at_tmp 36 _) (add_U64 (x7 &&& (3689348814741910323#64)) ((x7 >>> 2) &&& (3689348814741910323#64))) rfl) (sS (sA (sT1 rfl) (sT1 rfl)) sB0 sF0) ?_
                  refine AL_cons (LR_assign (at_tmp 37 _) rfl) (sS (sT1 rfl) sB0 sF0) ?_
                  refine AL_nil ?_
                  exact thenN (cutLeaf (v := (x7 &&& (3689348814741910323#64)) + ((x7 >>> 2) &&& (3689348814741910323#64))) hr (weak0 ((sT rfl sT0)) sub_nil))
                · rintro x8 hr
                  show AW Hfaa.prog _ _ _ ⟨[(0, .inl (is (U64 x8)))], []⟩
                  have hr : r = F244_8 x8 := hr
                  refine AW_cut (σ := BitVec 64) (fun v => ⟨[(0, .inl (is (U64 v)))], []⟩) (fun v => r = F244_9 v) ?_ ?_
                  · skip
                    refine AW_region ?_
                    refine AL_cons (LR_move (at_tmp 0 _) rfl) (sS (sT1 rfl) sB0 sF0) ?_
                    refine AL_cons (LR_move (at_tmp 0 _) rfl) (sS (sT1 rfl) sB0 sF0) ?_
                    refine AL_cons (LR_bin (at_tmp 39 _) (at_c (v' := U64 (4#64)) rfl) (shr_U64 x8 ((4#64).toNat : Int) (Int.natCast_nonneg _)) rfl) (sS (sA (sT1 rfl) sT0) sB0 sF0) ?_
                    refine AL_cons (LR_bin (at_tmp 38 _) (at_tmp 40 _) (add_U64 x8 (x8 >>> 4)) rfl) (sS (sA (sT1 rfl) (sT1 rfl)) sB0 sF0) ?_
                    refine AL_cons (LR_bin (at_tmp 41 _) (at_c (v' := U64 (1085102592571150095#64)) rfl) (and_U64 (x8 + (x8 >>> 4)) (1085102592571150095#64)) rfl) (sS (sA (sT1 rfl) sT0) sB0 sF0) ?_
                    refine AL_cons (LR_assign (at_tmp 42 _) rfl) (sS (sT1 rfl) sB0 sF0) ?_
                    refine AL_nil ?_
                    exact thenN (cutLeaf (v := (x8 + (x8 >>> 4)) &&& (1085102592571150095#64)) hr (weak0 ((sT rfl sT0)) sub_nil))
                  · rintro x9 hr
                    show AW Hfaa.prog _ _ _ ⟨[(0, .inl (is (U64 x9)))], []⟩
                    have hr : r = F244_9 x9 := hr
                    refine AW_seq1 ?_
                    refine AW_region ?_
                    refine AL_cons (LR_move (at_tmp 0 _) rfl) (sS (sT1 rfl) sB0 sF0) ?_
                    refine AL_cons (LR_bin (at_tmp 43 _) (at_c (v' := U64 (72340172838076673#64)) rfl) (mul_U64 x9 (72340172838076673#64)) rfl) (sS (sA (sT1 rfl) sT0) sB0 sF0) ?_
                    refine AL_cons (LR_bin (at_tmp 44 _) (at_c (v' := U64 (56#64)) rfl) (shr_U64 (x9 * (72340172838076673#64)) ((56#64).toNat : Int) (Int.natCast_nonneg _)) rfl) (sS (sA (sT1 rfl) sT0) sB0 sF0) ?_
                    refine AL_cons (LR_conv (vx := U64 ((x9 * (72340172838076673#64)) >>> 56)) (at_tmp 45 _) (conv_U8 Hfaa.underlying30 Hfaa.underlying5 (((x9 * (72340172838076673#64)) >>> 56).toNat : Int)) rfl) (sS (sT1 rfl) sB0 sF0) ?_
                    refine AL_cons (LR_assign (at_tmp 46 _) rfl) (sS (sT1 rfl) sB0 sF0) ?_
                    refine AL_nil ?_
                    refine thenN ?_
                    refine AW_ret ?_
                    subst hr
                    exact res1 rfl (rvT rfl)
/-- (ieee.Format).Bias -/
def F71_1 (a0_0 : BitVec 8) (a0_1 : BitVec 8) (x1 : Bool) : Int := bif x1 then 0 else w16 ((w16 (1 * 2 ^ (min (a0_0 - (1#8)).toNat 16))) - 1)
def F71 (a0_0 : BitVec 8) (a0_1 : BitVec 8) : Int := lt (F40 a0_0 a0_1) fun y4 => F71_1 a0_0 a0_1 (!y4)
theorem C71 (a0_0 : BitVec 8) (a0_1 : BitVec 8) (r : Int) (hr : r = F71 a0_0 a0_1) : Aw.Fn Hfaa.prog 71 [agg [is (U8 a0_0), is (U8 a0_1)]] (is (I16 r)) := by
  refine fn_intro Hfaa.func71 rfl rfl rfl ?_
  intro bn0 w0 H0
  refine AW_seq1 ?_
  refine AW_region ?_
  refine AL_cons (LR_box (at_tmp 0 _) (cells_agg _) rfl) (sS (sT1 rfl) sB0 (sF1 rfl)) ?_
  refine AL_cons (LR_assign (at_c (v' := I16 0) rfl) rfl) (sS sT0 sB0 sF0) ?_
  refine AL_nil ?_
  refine thenN ?_
  refine AW_seq1 ?_
  refine AW_cut (σ := Bool) (fun v => ⟨[(1, .inr (.inl (1, 0))), (5, .inl (is (Bl v)))], [(1, pb 23 [is (U8 a0_0), is (U8 a0_1)])]⟩) (fun v => r = F71_1 a0_0 a0_1 v) ?_ ?_
  · skip
    refine AW_region ?_
    refine AL_cons (LR_loads (at_tmp 1 _) ag23 sz23 rfl rfl rfl) (sS (sT1 rfl) (sB1 rfl) sF0) ?_
    obtain ⟨y4, hy4, hr⟩ := lt_some hr
    refine AL_cons (LR_call Hfaa.func40 rfl rfl (C40 a0_0 a0_1 y4 hy4) (all_cons (at_tmp 3 _) all_nil) rfl) (sS (sA (sT1 rfl) sT0) sB0 sF0) ?_
    refine AL_cons (LR_un (at_tmp 4 _) (not_Bl y4) rfl) (sS (sT1 rfl) sB0 sF0) ?_
    refine AL_nil ?_
    exact thenN (cutLeaf (v := !y4) hr (weak0 ((sT rfl (sT rfl sT0))) (sub_keep sub_nil)))
  · rintro x1 hr
    show AW Hfaa.prog _ _ _ ⟨[(1, .inr (.inl (1, 0))), (5, .inl (is (Bl x1)))], [(1, pb 23 [is (U8 a0_0), is (U8 a0_1)])]⟩
    have hr : r = F71_1 a0_0 a0_1 x1 := hr
    refine AW_condT (b := x1) rfl (fun h => ?_) (fun h => ?_)
    · have hr := hr.trans (cond_t h)
      clear h
      refine AW_seq1 ?_
      refine AW_region ?_
      refine AL_cons (LR_assign (at_c (v' := I16 0) rfl) rfl) (sS sT0 sB0 sF0) ?_
      refine AL_nil ?_
      refine thenN ?_
      refine AW_ret ?_
      refine thenR ?_
      subst hr
      exact res1 rfl (rvT rfl)
    · have hr := hr.trans (cond_f h)
      clear h
      refine AW_skip ?_
      refine thenN ?_
      refine AW_seq1 ?_
      refine AW_region ?_
      refine AL_cons (LR_fieldAddr (off := 0) (o := 0) (at_tmp 1 _) (fun b w => fa23_0 b 0 w) rfl) (sS (sT1 rfl) sB0 sF0) ?_
      refine AL_cons (LR_load (at_tmp 6 _) na5 rfl rfl) (sS (sT1 rfl) (sB1 rfl) sF0) ?_
      refine AL_cons (LR_bin (at_tmp 7 _) (at_c (v' := U8 (1#8)) rfl) (sub_U8 a0_0 (1#8)) rfl) (sS (sA (sT1 rfl) sT0) sB0 sF0) ?_
      refine AL_cons (LR_bin (at_c (v' := I16 1) rfl) (at_tmp 8 _) (shl_I16 1 ((a0_0 - (1#8)).toNat : Int) (Int.natCast_nonneg _)) rfl) (sS (sA sT0 (sT1 rfl)) sB0 sF0) ?_
      refine AL_cons (LR_bin (at_tmp 9 _) (at_c (v' := I16 1) rfl) (sub_I16 (w16 (1 * 2 ^ (min (a0_0 - (1#8)).toNat 16))) 1) rfl) (sS (sA (sT1 rfl) sT0) sB0 sF0) ?_
      refine AL_cons (LR_assign (at_tmp 10 _) rfl) (sS (sT1 rfl) sB0 sF0) ?_
      refine AL_nil ?_
      refine thenN ?_
      refine AW_ret ?_
      subst hr
      exact res1 rfl (rvT rfl)
/-- ieee.subnormal -/
def F127_1 (a0_0 : BitVec 8) (a0_1 : BitVec 8) (a1 : Bool) (a2 : BitVec 64) (x1 : BitVec 8) : Bool × Int × Int × BitVec 64 := lt (F71 a0_0 a0_1) fun y3 => (a1, 1, w16 ((w16 ((w16 (1 - y3)) - (w16 (a0_1.toNat : Int)))) - (w16 (x1.toNat : Int))), a2 <<< x1.toNat)
def F127 (a0_0 : BitVec 8) (a0_1 : BitVec 8) (a1 : Bool) (a2 : BitVec 64) : Bool × Int × Int × BitVec 64 := lt (F244 a2) fun y4 => F127_1 a0_0 a0_1 a1 a2 ((a0_1 + (1#8)) - y4)
theorem C127 (a0_0 : BitVec 8) (a0_1 : BitVec 8) (a1 : Bool) (a2 : BitVec 64) (r : Bool × Int × Int × BitVec 64) (hr : r = F127 a0_0 a0_1 a1 a2) : Aw.Fn Hfaa.prog 127 [agg [is (U8 a0_0), is (U8 a0_1)], is (Bl a1), is (U64 a2)] (agg [is (Bl r.1), is (I8 r.2.1), is (I16 r.2.2.1), is (U64 r.2.2.2)]) := by
  refine fn_intro Hfaa.func127 rfl rfl rfl ?_
  intro bn0 w0 H0
  refine AW_seq1 ?_
  refine AW_region ?_
  refine AL_cons (LR_box (at_tmp 0 _) (cells_agg _) rfl) (sS (sT1 rfl) sB0 (sF1 rfl)) ?_
  refine AL_cons (zl112 rfl) (sS sT0 sB0 (sF1 rfl)) ?_
  refine AL_nil ?_
  refine thenN ?_
  refine AW_cut (σ := BitVec 8) (fun v => ⟨[(1, .inl (is (Bl a1))), (2, .inl (is (U64 a2))), (3, .inr (.inl (3, 0))), (6, .inr (.inl (6, 0))), (7, .inl (is (U8 v)))], [(3, pb 23 [is (U8 a0_0), is (U8 a0_1)]), (6, pb 112 [is (Bl false), is (I8 0), is (I16 0), is (U64 (0#64))])]⟩) (fun v => r = F127_1 a0_0 a0_1 a1 a2 v) ?_ ?_
  · skip
    obtain ⟨y4, hy4, hr⟩ := lt_some hr
    refine AW_draw mixed
      (lrC (LR_fieldAddr (off := 0) (o := 1) (at_tmp 3 _) (fun b w => fa23_1 b 0 w) rfl)
      (lrC (LR_load (at_tmp 8 _) na5 rfl rfl)
      (lrC (LR_bin (at_tmp 9 _) (at_c (v' := U8 (1#8)) rfl) (add_U8 a0_1 (1#8)) rfl)
      (lrC (LR_move (at_tmp 2 _) rfl)
      (lrC (LR_call Hfaa.func244 rfl rfl (C244 a2 y4 hy4) (all_cons (at_tmp 11 _) all_nil) rfl)
      (lrC (LR_bin (at_tmp 10 _) (at_tmp 12 _) (sub_U8 (a0_1 + (1#8)) y4) rfl)
      (lrC (LR_assign (at_tmp 13 _) rfl)
      lrN)))))))
      (by kernel_rfl)
      (saC (sS (sT1 rfl) sB0 sF0) (saC (sS (sT1 rfl) (sB1 rfl) sF0) (saC (sS (sA (sT1 rfl) sT0) sB0 sF0) (saC (sS (sT1 rfl) sB0 sF0) (saC (sS (sA (sT1 rfl) sT0) sB0 sF0) (saC (sS (sA (sT1 rfl) (sT1 rfl)) sB0 sF0) (saC (sS (sT1 rfl) sB0 sF0) saN))))))) ?_
    exact thenN (cutLeaf (v := (a0_1 + (1#8)) - y4) hr (weak0 ((sT rfl (sT rfl (sT rfl (sT rfl (sT rfl sT0)))))) (sub_keep (sub_keep sub_nil))))
  · rintro x1 hr
    show AW Hfaa.prog _ _ _ ⟨[(1, .inl (is (Bl a1))), (2, .inl (is (U64 a2))), (3, .inr (.inl (3, 0))), (6, .inr (.inl (6, 0))), (7, .inl (is (U8 x1)))], [(3, pb 23 [is (U8 a0_0), is (U8 a0_1)]), (6, pb 112 [is (Bl false), is (I8 0), is (I16 0), is (U64 (0#64))])]⟩
    have hr : r = F127_1 a0_0 a0_1 a1 a2 x1 := hr
    refine AW_seq1 ?_
    obtain ⟨y3, hy3, hr⟩ := lt_some hr
    refine AW_draw mixed
      (lrC (LR_move (at_tmp 1 _) rfl)
      (lrC (LR_loads (at_tmp 3 _) ag23 sz23 rfl rfl rfl)
      (lrC (LR_call Hfaa.func71 rfl rfl (C71 a0_0 a0_1 y3 hy3) (all_cons (at_tmp 15 _) all_nil) rfl)
      (lrC (LR_bin (at_c (v' := I16 1) rfl) (at_tmp 16 _) (sub_I16 1 y3) rfl)
      (lrC (LR_fieldAddr (off := 0) (o := 1) (at_tmp 3 _) (fun b w => fa23_1 b 0 w) rfl)
      (lrC (LR_load (at_tmp 18 _) na5 rfl rfl)
      (lrC (LR_conv (vx := U8 a0_1) (at_tmp 19 _) (conv_I16 Hfaa.underlying5 Hfaa.underlying44 (a0_1.toNat : Int)) rfl)
      (lrC (LR_bin (at_tmp 17 _) (at_tmp 20 _) (sub_I16 (w16 (1 - y3)) (w16 (a0_1.toNat : Int))) rfl)
      (lrC (LR_move (at_tmp 7 _) rfl)
      (lrC (LR_conv (vx := U8 x1) (at_tmp 22 _) (conv_I16 Hfaa.underlying5 Hfaa.underlying44 (x1.toNat : Int)) rfl)
      (lrC (LR_bin (at_tmp 21 _) (at_tmp 23 _) (sub_I16 (w16 ((w16 (1 - y3)) - (w16 (a0_1.toNat : Int)))) (w16 (x1.toNat : Int))) rfl)
      (lrC (LR_move (at_tmp 2 _) rfl)
      (lrC (LR_move (at_tmp 7 _) rfl)
      (lrC (LR_bin (at_tmp 25 _) (at_tmp 26 _) (shl_U64 a2 (x1.toNat : Int) (Int.natCast_nonneg _)) rfl)
      (lrC (bl112 (parts_cons (i := 0) (off := 0) (at_tmp 14 _) (cells_one (one_is rfl)) rfl rfl (parts_cons (i := 1) (off := 1) (at_c (v' := I8 1) rfl) (cells_one (one_is rfl)) rfl rfl (parts_cons (i := 2) (off := 2) (at_tmp 24 _) (cells_one (one_is rfl)) rfl rfl (parts_cons (i := 3) (off := 3) (at_tmp 27 _) (cells_one (one_is rfl)) rfl rfl parts_nil)))) rfl rfl)
      (lrC (LR_store (at_tmp 6 _) (at_tmp 28 _) (cells_agg _) (onC (one_is rfl) (onC (one_is rfl) (onC (one_is rfl) (onC (one_is rfl) onN)))) sz112 rfl rfl)
      lrN))))))))))))))))
      (by kernel_rfl)
      (saC (sS (sT1 rfl) sB0 sF0) (saC (sS (sT1 rfl) (sB1 rfl) sF0) (saC (sS (sA (sT1 rfl) sT0) sB0 sF0) (saC (sS (sA sT0 (sT1 rfl)) sB0 sF0) (saC (sS (sT1 rfl) sB0 sF0) (saC (sS (sT1 rfl) (sB1 rfl) sF0) (saC (sS (sT1 rfl) sB0 sF0) (saC (sS (sA (sT1 rfl) (sT1 rfl)) sB0 sF0) (saC (sS (sT1 rfl) sB0 sF0) (saC (sS (sT1 rfl) sB0 sF0) (saC (sS (sA (sT1 rfl) (sT1 rfl)) sB0 sF0) (saC (sS (sT1 rfl) sB0 sF0) (saC (sS (sT1 rfl) sB0 sF0) (saC (sS (sA (sT1 rfl) (sT1 rfl)) sB0 sF0) (saC (sS (sA (sT1 rfl) (sA sT0 (sA (sT1 rfl) (sA (sT1 rfl) sT0)))) sB0 sF0) (saC (sS (sA (sT1 rfl) (sT1 rfl)) (sB1 rfl) sF0) saN)))))))))))))))) ?_
    refine thenN ?_
    refine AW_ret ?_
    subst hr
    exact res1 rfl (rvC rfl rfl ag112 sz112 rfl)
/-- ieee.Unpack -/
def F65_9 (a0_0 : BitVec 8) (a0_1 : BitVec 8) (x2 : Bool) (x4 : BitVec 64) (x5 : BitVec 64) (x9 : Bool) : Bool × Int × Int × BitVec 64 := bif x9 then lt (F127 a0_0 a0_1 x2 x5) fun y8 => (y8.1, y8.2.1, y8.2.2.1, y8.2.2.2) else lt (F71 a0_0 a0_1) fun y10 => (x2, 2, w16 ((w16 ((w16 (x4.toNat : Int)) - y10)) - (w16 (a0_1.toNat : Int))), x5 ||| ((1#64) <<< a0_1.toNat))
def F65_8 (a0_0 : BitVec 8) (a0_1 : BitVec 8) (x2 : Bool) (x4 : BitVec 64) (x5 : BitVec 64) (x8 : Bool) : Bool × Int × Int × BitVec 64 := bif x8 then (x2, 0, 0, 0#64) else F65_9 a0_0 a0_1 x2 x4 x5 (x4 == (0#64))
def F65_7 (a0_0 : BitVec 8) (a0_1 : BitVec 8) (x2 : Bool) (x4 : BitVec 64) (x5 : BitVec 64) (x7 : Bool) : Bool × Int × Int × BitVec 64 := bif x7 then (x2, 3, 0, 0#64) else F65_8 a0_0 a0_1 x2 x4 x5 ((x4 == (0#64)) && (x5 == (0#64)))
def F65_6 (a0_0 : BitVec 8) (a0_1 : BitVec 8) (x2 : Bool) (x3 : BitVec 64) (x4 : BitVec 64) (x5 : BitVec 64) (x6 : Bool) : Bool × Int × Int × BitVec 64 := bif x6 then (false, 4, 0, 0#64) else F65_7 a0_0 a0_1 x2 x4 x5 (x4 == x3)
def F65_5 (a0_0 : BitVec 8) (a0_1 : BitVec 8) (x2 : Bool) (x3 : BitVec 64) (x4 : BitVec 64) (x5 : BitVec 64) : Bool × Int × Int × BitVec 64 := F65_6 a0_0 a0_1 x2 x3 x4 x5 ((x4 == x3) && (x5 != (0#64)))
def F65_4 (a0_0 : BitVec 8) (a0_1 : BitVec 8) (a1 : BitVec 64) (x2 : Bool) (x3 : BitVec 64) (x4 : BitVec 64) : Bool × Int × Int × BitVec 64 := F65_5 a0_0 a0_1 x2 x3 x4 (a1 &&& (((1#64) <<< a0_1.toNat) - (1#64)))
def F65_3 (a0_0 : BitVec 8) (a0_1 : BitVec 8) (a1 : BitVec 64) (x2 : Bool) (x3 : BitVec 64) : Bool × Int × Int × BitVec 64 := F65_4 a0_0 a0_1 a1 x2 x3 ((a1 >>> a0_1.toNat) &&& x3)
def F65_2 (a0_0 : BitVec 8) (a0_1 : BitVec 8) (a1 : BitVec 64) (x2 : Bool) : Bool × Int × Int × BitVec 64 := F65_3 a0_0 a0_1 a1 x2 (((1#64) <<< a0_0.toNat) - (1#64))
def F65_1 (a0_0 : BitVec 8) (a0_1 : BitVec 8) (a1 : BitVec 64) (x1 : Bool) : Bool × Int × Int × BitVec 64 := bif x1 then (false, 0, 0, 0#64) else lt (F70 a0_0 a0_1) fun y11 => F65_2 a0_0 a0_1 a1 ((a1 &&& y11) != (0#64))
def F65 (a0_0 : BitVec 8) (a0_1 : BitVec 8) (a1 : BitVec 64) : Bool × Int × Int × BitVec 64 := lt (F40 a0_0 a0_1) fun y12 => F65_1 a0_0 a0_1 a1 (!y12)
theorem C65 (a0_0 : BitVec 8) (a0_1 : BitVec 8) (a1 : BitVec 64) (r : Bool × Int × Int × BitVec 64) (hr : r = F65 a0_0 a0_1 a1) : Aw.Fn Hfaa.prog 65 [agg [is (U8 a0_0), is (U8 a0_1)], is (U64 a1)] (agg [is (Bl r.1), is (I8 r.2.1), is (I16 r.2.2.1), is (U64 r.2.2.2)]) := by
  refine fn_intro Hfaa.func65 rfl rfl rfl ?_
  intro bn0 w0 H0
  refine AW_seq1 ?_
  refine AW_region ?_
  refine AL_cons (LR_box (at_tmp 0 _) (cells_agg _) rfl) (sS (sT1 rfl) sB0 (sF1 rfl)) ?_
  refine AL_cons (zl112 rfl) (sS sT0 sB0 (sF1 rfl)) ?_
  refine AL_nil ?_
  refine thenN ?_
  refine AW_seq1 ?_
  refine AW_cut (σ := Bool) (fun v => ⟨[(1, .inl (is (U64 a1))), (2, .inr (.inl (2, 0))), (4, .inr (.inl (4, 0))), (11, .inl (is (Bl v)))], [(2, pb 23 [is (U8 a0_0), is (U8 a0_1)]), (4, pb 112 [is (Bl false), is (I8 0), is (I16 0), is (U64 (0#64))])]⟩) (fun v => r = F65_1 a0_0 a0_1 a1 v) ?_ ?_
  · skip
    refine AW_region ?_
    refine AL_cons (LR_loads (at_tmp 2 _) ag23 sz23 rfl rfl rfl) (sS (sT1 rfl) (sB1 rfl) sF0) ?_
    obtain ⟨y12, hy12, hr⟩ := lt_some hr
    refine AL_cons (LR_call Hfaa.func40 rfl rfl (C40 a0_0 a0_1 y12 hy12) (all_cons (at_tmp 9 _) all_nil) rfl) (sS (sA (sT1 rfl) sT0) sB0 sF0) ?_
    refine AL_cons (LR_un (at_tmp 10 _) (not_Bl y12) rfl) (sS (sT1 rfl) sB0 sF0) ?_
    refine AL_nil ?_
    exact thenN (cutLeaf (v := !y12) hr (weak0 ((sT rfl (sT rfl (sT rfl (sT rfl sT0))))) (sub_keep (sub_keep sub_nil))))
  · rintro x1 hr
    show AW Hfaa.prog _ _ _ ⟨[(1, .inl (is (U64 a1))), (2, .inr (.inl (2, 0))), (4, .inr (.inl (4, 0))), (11, .inl (is (Bl x1)))], [(2, pb 23 [is (U8 a0_0), is (U8 a0_1)]), (4, pb 112 [is (Bl false), is (I8 0), is (I16 0), is (U64 (0#64))])]⟩
    have hr : r = F65_1 a0_0 a0_1 a1 x1 := hr
    refine AW_condT (b := x1) rfl (fun h => ?_) (fun h => ?_)
    · have hr := hr.trans (cond_t h)
      clear h
      refine AW_seq1 ?_
      refine AW_region ?_
      refine AL_cons (bl112 parts_nil rfl rfl) (sS sT0 sB0 sF0) ?_
      refine AL_cons (LR_store (at_tmp 4 _) (at_tmp 12 _) (cells_agg _) (onC (one_is rfl) (onC (one_is rfl) (onC (one_is rfl) (onC (one_is rfl) onN)))) sz112 rfl rfl) (sS (sA (sT1 rfl) (sT1 rfl)) (sB1 rfl) sF0) ?_
      refine AL_nil ?_
      refine thenN ?_
      refine AW_ret ?_
      refine thenR ?_
      subst hr
      exact res1 rfl (rvC rfl rfl ag112 sz112 rfl)
    · have hr := hr.trans (cond_f h)
      clear h
      refine AW_skip ?_
      refine thenN ?_
      refine AW_cut (σ := Bool) (fun v => ⟨[(1, .inl (is (U64 a1))), (2, .inr (.inl (2, 0))), (4, .inr (.inl (4, 0))), (5, .inl (is (Bl v)))], [(2, pb 23 [is (U8 a0_0), is (U8 a0_1)]), (4, pb 112 [is (Bl false), is (I8 0), is (I16 0), is (U64 (0#64))])]⟩) (fun v => r = F65_2 a0_0 a0_1 a1 v) ?_ ?_
      · skip
        refine AW_region ?_
        refine AL_cons (LR_move (at_tmp 1 _) rfl) (sS (sT1 rfl) sB0 sF0) ?_
        refine AL_cons (LR_loads (at_tmp 2 _) ag23 sz23 rfl rfl rfl) (sS (sT1 rfl) (sB1 rfl) sF0) ?_
        obtain ⟨y11, hy11, hr⟩ := lt_some hr
        refine AL_cons (LR_call Hfaa.func70 rfl rfl (C70 a0_0 a0_1 y11 hy11) (all_cons (at_tmp 14 _) all_nil) rfl) (sS (sA (sT1 rfl) sT0) sB0 sF0) ?_
        refine AL_cons (LR_bin (at_tmp 13 _) (at_tmp 15 _) (and_U64 a1 y11) rfl) (sS (sA (sT1 rfl) (sT1 rfl)) sB0 sF0) ?_
        refine AL_cons (LR_bin (at_tmp 16 _) (at_c (v' := U64 (0#64)) rfl) (neq_U64 (a1 &&& y11) (0#64)) rfl) (sS (sA (sT1 rfl) sT0) sB0 sF0) ?_
        refine AL_cons (LR_assign (at_tmp 17 _) rfl) (sS (sT1 rfl) sB0 sF0) ?_
        refine AL_nil ?_
        exact thenN (cutLeaf (v := (a1 &&& y11) != (0#64)) hr (weak0 ((sT rfl (sT rfl (sT rfl (sT rfl sT0))))) (sub_keep (sub_keep sub_nil))))
      · rintro x2 hr
        show AW Hfaa.prog _ _ _ ⟨[(1, .inl (is (U64 a1))), (2, .inr (.inl (2, 0))), (4, .inr (.inl (4, 0))), (5, .inl (is (Bl x2)))], [(2, pb 23 [is (U8 a0_0), is (U8 a0_1)]), (4, pb 112 [is (Bl false), is (I8 0), is (I16 0), is (U64 (0#64))])]⟩
        have hr : r = F65_2 a0_0 a0_1 a1 x2 := hr
        refine AW_cut (σ := BitVec 64) (fun v => ⟨[(1, .inl (is (U64 a1))), (2, .inr (.inl (2, 0))), (4, .inr (.inl (4, 0))), (5, .inl (is (Bl x2))), (6, .inl (is (U64 v)))], [(2, pb 23 [is (U8 a0_0), is (U8 a0_1)]), (4, pb 112 [is (Bl false), is (I8 0), is (I16 0), is (U64 (0#64))])]⟩) (fun v => r = F65_3 a0_0 a0_1 a1 x2 v) ?_ ?_
        · skip
          refine AW_region ?_
          refine AL_cons (LR_fieldAddr (off := 0) (o := 0) (at_tmp 2 _) (fun b w => fa23_0 b 0 w) rfl) (sS (sT1 rfl) sB0 sF0) ?_
          refine AL_cons (LR_load (at_tmp 18 _) na5 rfl rfl) (sS (sT1 rfl) (sB1 rfl) sF0) ?_
          refine AL_cons (LR_bin (at_c (v' := U64 (1#64)) rfl) (at_tmp 19 _) (shl_U64 (1#64) (a0_0.toNat : Int) (Int.natCast_nonneg _)) rfl) (sS (sA sT0 (sT1 rfl)) sB0 sF0) ?_
          refine AL_cons (LR_bin (at_tmp 20 _) (at_c (v' := U64 (1#64)) rfl) (sub_U64 ((1#64) <<< a0_0.toNat) (1#64)) rfl) (sS (sA (sT1 rfl) sT0) sB0 sF0) ?_
          refine AL_cons (LR_assign (at_tmp 21 _) rfl) (sS (sT1 rfl) sB0 sF0) ?_
          refine AL_nil ?_
          exact thenN (cutLeaf (v := ((1#64) <<< a0_0.toNat) - (1#64)) hr (weak0 ((sT rfl (sT rfl (sT rfl (sT rfl (sT rfl sT0)))))) (sub_keep (sub_keep sub_nil))))
        · rintro x3 hr
          show AW Hfaa.prog _ _ _ ⟨[(1, .inl (is (U64 a1))), (2, .inr (.inl (2, 0))), (4, .inr (.inl (4, 0))), (5, .inl (is (Bl x2))), (6, .inl (is (U64 x3)))], [(2, pb 23 [is (U8 a0_0), is (U8 a0_1)]), (4, pb 112 [is (Bl false), is (I8 0), is (I16 0), is (U64 (0#64))])]⟩
          have hr : r = F65_3 a0_0 a0_1 a1 x2 x3 := hr
          refine AW_cut (σ := BitVec 64) (fun v => ⟨[(1, .inl (is (U64 a1))), (2, .inr (.inl (2, 0))), (4, .inr (.inl (4, 0))), (5, .inl (is (Bl x2))), (6, .inl (is (U64 x3))), (7, .inl (is (U64 v)))], [(2, pb 23 [is (U8 a0_0), is (U8 a0_1)]), (4, pb 112 [is (Bl false), is (I8 0), is (I16 0), is (U64 (0#64))])]⟩) (fun v => r = F65_4 a0_0 a0_1 a1 x2 x3 v) ?_ ?_
          · skip
            refine AW_region ?_
            refine AL_cons (LR_move (at_tmp 1 _) rfl) (sS (sT1 rfl) sB0 sF0) ?_
            refine AL_cons (LR_fieldAddr (off := 0) (o := 1) (at_tmp 2 _) (fun b w => fa23_1 b 0 w) rfl) (sS (sT1 rfl) sB0 sF0) ?_
            refine AL_cons (LR_load (at_tmp 23 _) na5 rfl rfl) (sS (sT1 rfl) (sB1 rfl) sF0) ?_
            refine AL_cons (LR_bin (at_tmp 22 _) (at_tmp 24 _) (shr_U64 a1 (a0_1.toNat : Int) (Int.natCast_nonneg _)) rfl) (sS (sA (sT1 rfl) (sT1 rfl)) sB0 sF0) ?_
            refine AL_cons (LR_move (at_tmp 6 _) rfl) (sS (sT1 rfl) sB0 sF0) ?_
            refine AL_cons (LR_bin (at_tmp 25 _) (at_tmp 26 _) (and_U64 (a1 >>> a0_1.toNat) x3) rfl) (sS (sA (sT1 rfl) (sT1 rfl)) sB0 sF0) ?_
            refine AL_cons (LR_assign (at_tmp 27 _) rfl) (sS (sT1 rfl) sB0 sF0) ?_
            refine AL_nil ?_
            exact thenN (cutLeaf (v := (a1 >>> a0_1.toNat) &&& x3) hr (weak0 ((sT rfl (sT rfl (sT rfl (sT rfl (sT rfl (sT rfl sT0))))))) (sub_keep (sub_keep sub_nil))))
          · rintro x4 hr
            show AW Hfaa.prog _ _ _ ⟨[(1, .inl (is (U64 a1))), (2, .inr (.inl (2, 0))), (4, .inr (.inl (4, 0))), (5, .inl (is (Bl x2))), (6, .inl (is (U64 x3))), (7, .inl (is (U64 x4)))], [(2, pb 23 [is (U8 a0_0), is (U8 a0_1)]), (4, pb 112 [is (Bl false), is (I8 0), is (I16 0), is (U64 (0#64))])]⟩
            have hr : r = F65_4 a0_0 a0_1 a1 x2 x3 x4 := hr
            refine AW_cut (σ := BitVec 64) (fun v => ⟨[(2, .inr (.inl (2, 0))), (4, .inr (.inl (4, 0))), (5, .inl (is (Bl x2))), (6, .inl (is (U64 x3))), (7, .inl (is (U64 x4))), (8, .inl (is (U64 v)))], [(2, pb 23 [is (U8 a0_0), is (U8 a0_1)]), (4, pb 112 [is (Bl false), is (I8 0), is (I16 0), is (U64 (0#64))])]⟩) (fun v => r = F65_5 a0_0 a0_1 x2 x3 x4 v) ?_ ?_
            · skip
              refine AW_region ?_
              refine AL_cons (LR_move (at_tmp 1 _) rfl) (sS (sT1 rfl) sB0 sF0) ?_
              refine AL_cons (LR_fieldAddr (off := 0) (o := 1) (at_tmp 2 _) (fun b w => fa23_1 b 0 w) rfl) (sS (sT1 rfl) sB0 sF0) ?_
              refine AL_cons (LR_load (at_tmp 29 _) na5 rfl rfl) (sS (sT1 rfl) (sB1 rfl) sF0) ?_
              refine AL_cons (LR_bin (at_c (v' := U64 (1#64)) rfl) (at_tmp 30 _) (shl_U64 (1#64) (a0_1.toNat : Int) (Int.natCast_nonneg _)) rfl) (sS (sA sT0 (sT1 rfl)) sB0 sF0) ?_
              refine AL_cons (LR_bin (at_tmp 31 _) (at_c (v' := U64 (1#64)) rfl) (sub_U64 ((1#64) <<< a0_1.toNat) (1#64)) rfl) (sS (sA (sT1 rfl) sT0) sB0 sF0) ?_
              refine AL_cons (LR_bin (at_tmp 28 _) (at_tmp 32 _) (and_U64 a1 (((1#64) <<< a0_1.toNat) - (1#64))) rfl) (sS (sA (sT1 rfl) (sT1 rfl)) sB0 sF0) ?_
              refine AL_cons (LR_assign (at_tmp 33 _) rfl) (sS (sT1 rfl) sB0 sF0) ?_
              refine AL_nil ?_
              exact thenN (cutLeaf (v := a1 &&& (((1#64) <<< a0_1.toNat) - (1#64))) hr (weak0 ((sT rfl (sT rfl (sT rfl (sT rfl (sT rfl (sT rfl sT0))))))) (sub_keep (sub_keep sub_nil))))
            · rintro x5 hr
              show AW Hfaa.prog _ _ _ ⟨[(2, .inr (.inl (2, 0))), (4, .inr (.inl (4, 0))), (5, .inl (is (Bl x2))), (6, .inl (is (U64 x3))), (7, .inl (is (U64 x4))), (8, .inl (is (U64 x5)))], [(2, pb 23 [is (U8 a0_0), is (U8 a0_1)]), (4, pb 112 [is (Bl false), is (I8 0), is (I16 0), is (U64 (0#64))])]⟩
              have hr : r = F65_5 a0_0 a0_1 x2 x3 x4 x5 := hr
              refine AW_seq1 ?_
              refine AW_block ?_
              refine AW_cut (σ := Bool) (fun v => ⟨[(2, .inr (.inl (2, 0))), (4, .inr (.inl (4, 0))), (5, .inl (is (Bl x2))), (6, .inl (is (U64 x3))), (7, .inl (is (U64 x4))), (8, .inl (is (U64 x5))), (34, .inl (is (Bl v)))], [(2, pb 23 [is (U8 a0_0), is (U8 a0_1)]), (4, pb 112 [is (Bl false), is (I8 0), is (I16 0), is (U64 (0#64))])]⟩) (fun v => r = F65_6 a0_0 a0_1 x2 x3 x4 x5 v) ?_ ?_
              · skip
                refine AW_region ?_
                refine AL_cons (LR_move (at_tmp 7 _) rfl) (sS (sT1 rfl) sB0 sF0) ?_
                refine AL_cons (LR_move (at_tmp 6 _) rfl) (sS (sT1 rfl) sB0 sF0) ?_
                refine AL_cons (LR_bin (at_tmp 35 _) (at_tmp 36 _) (eql_U64 x4 x3) rfl) (sS (sA (sT1 rfl) (sT1 rfl)) sB0 sF0) ?_
                refine AL_cons (LR_move (at_tmp 37 _) rfl) (sS (sT1 rfl) sB0 sF0) ?_
                refine AL_cutAt 3 ⟨[(2, .inr (.inl (2, 0))), (4, .inr (.inl (4, 0))), (5, .inl (is (Bl x2))), (6, .inl (is (U64 x3))), (7, .inl (is (U64 x4))), (8, .inl (is (U64 x5))), (35, .inl (is (U64 x4))), (36, .inl (is (U64 x3))), (37, .inl (is (Bl (x4 == x3)))), (38, .inl (is (Bl (x4 == x3)))), (41, .inl (is (Bl ((x4 == x3) && (x5 != (0#64))))))], [(2, pb 23 [is (U8 a0_0), is (U8 a0_1)]), (4, pb 112 [is (Bl false), is (I8 0), is (I16 0), is (U64 (0#64))])]⟩ ?_ ?_
                · cases hb : x4 == x3
                  · skip
                    refine AL_cons (LR_off (b := false) rfl rfl rfl rfl) (sS (sT1 rfl) sB0 sF0) ?_
                    refine AL_cons (LR_off (b := false) rfl rfl rfl rfl) (sS (sT1 rfl) sB0 sF0) ?_
                    refine AL_cons (LR_pick (b := false) (at_tmp 38 _) (at_tmp 40 _) (at_c (v' := Bl false) rfl) rfl) (sS (sA (sT1 rfl) (sA (sT1 rfl) sT0)) sB0 sF0) ?_
                    exact AL_nil ⟨rfl, weak0 ((sT rfl (sT rfl (sT rfl (sT rfl (sT rfl (sT rfl (sT rfl (sT rfl (sT rfl (sT rfl (sT rfl sT0)))))))))))) (sub_keep (sub_keep sub_nil))⟩
                  · skip
                    refine AL_cons (LR_on rfl rfl rfl (LR_move (at_tmp 8 _) rfl)) (sS (sT rfl (sT1 rfl)) sB0 sF0) ?_
                    refine AL_cons (LR_on rfl rfl rfl (LR_bin (at_tmp 39 _) (at_c (v' := U64 (0#64)) rfl) (neq_U64 x5 (0#64)) rfl)) (sS (sT rfl (sA (sT1 rfl) sT0)) sB0 sF0) ?_
                    refine AL_cons (LR_pick (b := true) (at_tmp 38 _) (at_tmp 40 _) (at_c (v' := Bl false) rfl) rfl) (sS (sA (sT1 rfl) (sA (sT1 rfl) sT0)) sB0 sF0) ?_
                    exact AL_nil ⟨rfl, weak0 ((sT rfl (sT rfl (sT rfl (sT rfl (sT rfl (sT rfl (sT rfl (sT rfl (sT rfl (sT rfl (sT rfl sT0)))))))))))) (sub_keep (sub_keep sub_nil))⟩
                refine AL_cons (LR_assign (at_tmp 41 _) rfl) (sS (sT1 rfl) sB0 sF0) ?_
                refine AL_nil ?_
                exact thenN (cutLeaf (v := (x4 == x3) && (x5 != (0#64))) hr (weak0 ((sT rfl (sT rfl (sT rfl (sT rfl (sT rfl (sT rfl (sT rfl sT0)))))))) (sub_keep (sub_keep sub_nil))))
              · rintro x6 hr
                show AW Hfaa.prog _ _ _ ⟨[(2, .inr (.inl (2, 0))), (4, .inr (.inl (4, 0))), (5, .inl (is (Bl x2))), (6, .inl (is (U64 x3))), (7, .inl (is (U64 x4))), (8, .inl (is (U64 x5))), (34, .inl (is (Bl x6)))], [(2, pb 23 [is (U8 a0_0), is (U8 a0_1)]), (4, pb 112 [is (Bl false), is (I8 0), is (I16 0), is (U64 (0#64))])]⟩
                have hr : r = F65_6 a0_0 a0_1 x2 x3 x4 x5 x6 := hr
                refine AW_condT (b := x6) rfl (fun h => ?_) (fun h => ?_)
                · have hr := hr.trans (cond_t h)
                  clear h
                  refine AW_seq1 ?_
                  refine AW_region ?_
                  refine AL_cons (bl112 (parts_cons (i := 1) (off := 1) (at_c (v' := I8 4) rfl) (cells_one (one_is rfl)) rfl rfl parts_nil) rfl rfl) (sS (sA sT0 sT0) sB0 sF0) ?_
                  refine AL_cons (LR_store (at_tmp 4 _) (at_tmp 42 _) (cells_agg _) (onC (one_is rfl) (onC (one_is rfl) (onC (one_is rfl) (onC (one_is rfl) onN)))) sz112 rfl rfl) (sS (sA (sT1 rfl) (sT1 rfl)) (sB1 rfl) sF0) ?_
                  refine AL_nil ?_
                  refine thenN ?_
                  refine AW_ret ?_
                  refine blR ?_
                  refine thenR ?_
                  subst hr
                  exact res1 rfl (rvC rfl rfl ag112 sz112 rfl)
                · have hr := hr.trans (cond_f h)
                  clear h
                  refine AW_cut (σ := Bool) (fun v => ⟨[(2, .inr (.inl (2, 0))), (4, .inr (.inl (4, 0))), (5, .inl (is (Bl x2))), (7, .inl (is (U64 x4))), (8, .inl (is (U64 x5))), (43, .inl (is (Bl v)))], [(2, pb 23 [is (U8 a0_0), is (U8 a0_1)]), (4, pb 112 [is (Bl false), is (I8 0), is (I16 0), is (U64 (0#64))])]⟩) (fun v => r = F65_7 a0_0 a0_1 x2 x4 x5 v) ?_ ?_
                  · skip
                    refine AW_region ?_
                    refine AL_cons (LR_move (at_tmp 7 _) rfl) (sS (sT1 rfl) sB0 sF0) ?_
                    refine AL_cons (LR_move (at_tmp 6 _) rfl) (sS (sT1 rfl) sB0 sF0) ?_
                    refine AL_cons (LR_bin (at_tmp 44 _) (at_tmp 45 _) (eql_U64 x4 x3) rfl) (sS (sA (sT1 rfl) (sT1 rfl)) sB0 sF0) ?_
                    refine AL_cons (LR_assign (at_tmp 46 _) rfl) (sS (sT1 rfl) sB0 sF0) ?_
                    refine AL_nil ?_
                    exact thenN (cutLeaf (v := x4 == x3) hr (weak0 ((sT rfl (sT rfl (sT rfl (sT rfl (sT rfl (sT rfl sT0))))))) (sub_keep (sub_keep sub_nil))))
                  · rintro x7 hr
                    show AW Hfaa.prog _ _ _ ⟨[(2, .inr (.inl (2, 0))), (4, .inr (.inl (4, 0))), (5, .inl (is (Bl x2))), (7, .inl (is (U64 x4))), (8, .inl (is (U64 x5))), (43, .inl (is (Bl x7)))], [(2, pb 23 [is (U8 a0_0), is (U8 a0_1)]), (4, pb 112 [is (Bl false), is (I8 0), is (I16 0), is (U64 (0#64))])]⟩
                    have hr : r = F65_7 a0_0 a0_1 x2 x4 x5 x7 := hr
                    refine AW_condT (b := x7) rfl (fun h => ?_) (fun h => ?_)
                    · have hr := hr.trans (cond_t h)
                      clear h
                      refine AW_seq1 ?_
                      refine AW_region ?_
                      refine AL_cons (LR_move (at_tmp 5 _) rfl) (sS (sT1 rfl) sB0 sF0) ?_
                      refine AL_cons (bl112 (parts_cons (i := 0) (off := 0) (at_tmp 47 _) (cells_one (one_is rfl)) rfl rfl (parts_cons (i := 1) (off := 1) (at_c (v' := I8 3) rfl) (cells_one (one_is rfl)) rfl rfl parts_nil)) rfl rfl) (sS (sA (sT1 rfl) (sA sT0 sT0)) sB0 sF0) ?_
                      refine AL_cons (LR_store (at_tmp 4 _) (at_tmp 48 _) (cells_agg _) (onC (one_is rfl) (onC (one_is rfl) (onC (one_is rfl) (onC (one_is rfl) onN)))) sz112 rfl rfl) (sS (sA (sT1 rfl) (sT1 rfl)) (sB1 rfl) sF0) ?_
                      refine AL_nil ?_
                      refine thenN ?_
                      refine AW_ret ?_
                      refine blR ?_
                      refine thenR ?_
                      subst hr
                      exact res1 rfl (rvC rfl rfl ag112 sz112 rfl)
                    · have hr := hr.trans (cond_f h)
                      clear h
                      refine AW_cut (σ := Bool) (fun v => ⟨[(2, .inr (.inl (2, 0))), (4, .inr (.inl (4, 0))), (5, .inl (is (Bl x2))), (7, .inl (is (U64 x4))), (8, .inl (is (U64 x5))), (49, .inl (is (Bl v)))], [(2, pb 23 [is (U8 a0_0), is (U8 a0_1)]), (4, pb 112 [is (Bl false), is (I8 0), is (I16 0), is (U64 (0#64))])]⟩) (fun v => r = F65_8 a0_0 a0_1 x2 x4 x5 v) ?_ ?_
                      · skip
                        refine AW_region ?_
                        refine AL_cons (LR_move (at_tmp 7 _) rfl) (sS (sT1 rfl) sB0 sF0) ?_
                        refine AL_cons (LR_bin (at_tmp 50 _) (at_c (v' := U64 (0#64)) rfl) (eql_U64 x4 (0#64)) rfl) (sS (sA (sT1 rfl) sT0) sB0 sF0) ?_
                        refine AL_cons (LR_move (at_tmp 51 _) rfl) (sS (sT1 rfl) sB0 sF0) ?_
                        refine AL_cutAt 3 ⟨[(2, .inr (.inl (2, 0))), (4, .inr (.inl (4, 0))), (5, .inl (is (Bl x2))), (7, .inl (is (U64 x4))), (8, .inl (is (U64 x5))), (43, .inl (is (Bl x7))), (50, .inl (is (U64 x4))), (51, .inl (is (Bl (x4 == (0#64))))), (52, .inl (is (Bl (x4 == (0#64))))), (55, .inl (is (Bl ((x4 == (0#64)) && (x5 == (0#64))))))], [(2, pb 23 [is (U8 a0_0), is (U8 a0_1)]), (4, pb 112 [is (Bl false), is (I8 0), is (I16 0), is (U64 (0#64))])]⟩ ?_ ?_
                        · cases hb : x4 == (0#64)
                          · skip
                            refine AL_cons (LR_off (b := false) rfl rfl rfl rfl) (sS (sT1 rfl) sB0 sF0) ?_
                            refine AL_cons (LR_off (b := false) rfl rfl rfl rfl) (sS (sT1 rfl) sB0 sF0) ?_
                            refine AL_cons (LR_pick (b := false) (at_tmp 52 _) (at_tmp 54 _) (at_c (v' := Bl false) rfl) rfl) (sS (sA (sT1 rfl) (sA (sT1 rfl) sT0)) sB0 sF0) ?_
                            exact AL_nil ⟨rfl, weak0 ((sT rfl (sT rfl (sT rfl (sT rfl (sT rfl (sT rfl (sT rfl (sT rfl (sT rfl (sT rfl sT0))))))))))) (sub_keep (sub_keep sub_nil))⟩
                          · skip
                            refine AL_cons (LR_on rfl rfl rfl (LR_move (at_tmp 8 _) rfl)) (sS (sT rfl (sT1 rfl)) sB0 sF0) ?_
                            refine AL_cons (LR_on rfl rfl rfl (LR_bin (at_tmp 53 _) (at_c (v' := U64 (0#64)) rfl) (eql_U64 x5 (0#64)) rfl)) (sS (sT rfl (sA (sT1 rfl) sT0)) sB0 sF0) ?_
                            refine AL_cons (LR_pick (b := true) (at_tmp 52 _) (at_tmp 54 _) (at_c (v' := Bl false) rfl) rfl) (sS (sA (sT1 rfl) (sA (sT1 rfl) sT0)) sB0 sF0) ?_
                            exact AL_nil ⟨rfl, weak0 ((sT rfl (sT rfl (sT rfl (sT rfl (sT rfl (sT rfl (sT rfl (sT rfl (sT rfl (sT rfl sT0))))))))))) (sub_keep (sub_keep sub_nil))⟩
                        refine AL_cons (LR_assign (at_tmp 55 _) rfl) (sS (sT1 rfl) sB0 sF0) ?_
                        refine AL_nil ?_
                        exact thenN (cutLeaf (v := (x4 == (0#64)) && (x5 == (0#64))) hr (weak0 ((sT rfl (sT rfl (sT rfl (sT rfl (sT rfl (sT rfl sT0))))))) (sub_keep (sub_keep sub_nil))))
                      · rintro x8 hr
                        show AW Hfaa.prog _ _ _ ⟨[(2, .inr (.inl (2, 0))), (4, .inr (.inl (4, 0))), (5, .inl (is (Bl x2))), (7, .inl (is (U64 x4))), (8, .inl (is (U64 x5))), (49, .inl (is (Bl x8)))], [(2, pb 23 [is (U8 a0_0), is (U8 a0_1)]), (4, pb 112 [is (Bl false), is (I8 0), is (I16 0), is (U64 (0#64))])]⟩
                        have hr : r = F65_8 a0_0 a0_1 x2 x4 x5 x8 := hr
                        refine AW_condT (b := x8) rfl (fun h => ?_) (fun h => ?_)
                        · have hr := hr.trans (cond_t h)
                          clear h
                          refine AW_seq1 ?_
                          refine AW_region ?_
                          refine AL_cons (LR_move (at_tmp 5 _) rfl) (sS (sT1 rfl) sB0 sF0) ?_
                          refine AL_cons (bl112 (parts_cons (i := 0) (off := 0) (at_tmp 56 _) (cells_one (one_is rfl)) rfl rfl parts_nil) rfl rfl) (sS (sA (sT1 rfl) sT0) sB0 sF0) ?_
                          refine AL_cons (LR_store (at_tmp 4 _) (at_tmp 57 _) (cells_agg _) (onC (one_is rfl) (onC (one_is rfl) (onC (one_is rfl) (onC (one_is rfl) onN)))) sz112 rfl rfl) (sS (sA (sT1 rfl) (sT1 rfl)) (sB1 rfl) sF0) ?_
                          refine AL_nil ?_
                          refine thenN ?_
                          refine AW_ret ?_
                          refine blR ?_
                          refine thenR ?_
                          subst hr
                          exact res1 rfl (rvC rfl rfl ag112 sz112 rfl)
                        · have hr := hr.trans (cond_f h)
                          clear h
                          refine AW_skip ?_
                          refine blN ?_
                          refine thenN ?_
                          refine AW_seq1 ?_
                          refine AW_cut (σ := Bool) (fun v => ⟨[(2, .inr (.inl (2, 0))), (4, .inr (.inl (4, 0))), (5, .inl (is (Bl x2))), (7, .inl (is (U64 x4))), (8, .inl (is (U64 x5))), (59, .inl (is (Bl v)))], [(2, pb 23 [is (U8 a0_0), is (U8 a0_1)]), (4, pb 112 [is (Bl false), is (I8 0), is (I16 0), is (U64 (0#64))])]⟩) (fun v => r = F65_9 a0_0 a0_1 x2 x4 x5 v) ?_ ?_
                          · skip
                            refine AW_region ?_
                            refine AL_cons (LR_move (at_tmp 7 _) rfl) (sS (sT1 rfl) sB0 sF0) ?_
                            refine AL_cons (LR_bin (at_tmp 58 _) (at_c (v' := U64 (0#64)) rfl) (eql_U64 x4 (0#64)) rfl) (sS (sA (sT1 rfl) sT0) sB0 sF0) ?_
                            refine AL_nil ?_
                            exact thenN (cutLeaf (v := x4 == (0#64)) hr (weak0 ((sT rfl (sT rfl (sT rfl (sT rfl (sT rfl (sT rfl sT0))))))) (sub_keep (sub_keep sub_nil))))
                          · rintro x9 hr
                            show AW Hfaa.prog _ _ _ ⟨[(2, .inr (.inl (2, 0))), (4, .inr (.inl (4, 0))), (5, .inl (is (Bl x2))), (7, .inl (is (U64 x4))), (8, .inl (is (U64 x5))), (59, .inl (is (Bl x9)))], [(2, pb 23 [is (U8 a0_0), is (U8 a0_1)]), (4, pb 112 [is (Bl false), is (I8 0), is (I16 0), is (U64 (0#64))])]⟩
                            have hr : r = F65_9 a0_0 a0_1 x2 x4 x5 x9 := hr
                            refine AW_condT (b := x9) rfl (fun h => ?_) (fun h => ?_)
                            · have hr := hr.trans (cond_t h)
                              clear h
                              refine AW_seq1 ?_
                              refine AW_region ?_
                              refine AL_cons (LR_loads (at_tmp 2 _) ag23 sz23 rfl rfl rfl) (sS (sT1 rfl) (sB1 rfl) sF0) ?_
                              refine AL_cons (LR_move (at_tmp 5 _) rfl) (sS (sT1 rfl) sB0 sF0) ?_
                              refine AL_cons (LR_move (at_tmp 8 _) rfl) (sS (sT1 rfl) sB0 sF0) ?_
                              obtain ⟨y8, hy8, hr⟩ := lt_some hr
                              refine AL_cons (LR_call Hfaa.func127 rfl rfl (C127 a0_0 a0_1 x2 x5 y8 hy8) (all_cons (at_tmp 60 _) (all_cons (at_tmp 61 _) (all_cons (at_tmp 62 _) all_nil))) rfl) (sS (sA (sT1 rfl) (sA (sT1 rfl) (sA (sT1 rfl) sT0))) sB0 sF0) ?_
                              refine AL_cons (LR_store (at_tmp 4 _) (at_tmp 63 _) (cells_agg _) (onC (one_is rfl) (onC (one_is rfl) (onC (one_is rfl) (onC (one_is rfl) onN)))) sz112 rfl rfl) (sS (sA (sT1 rfl) (sT1 rfl)) (sB1 rfl) sF0) ?_
                              refine AL_nil ?_
                              refine thenN ?_
                              refine AW_ret ?_
                              refine thenR ?_
                              subst hr
                              exact res1 rfl (rvC rfl rfl ag112 sz112 rfl)
                            · have hr := hr.trans (cond_f h)
                              clear h
                              refine AW_skip ?_
                              refine thenN ?_
                              refine AW_seq1 ?_
                              obtain ⟨y10, hy10, hr⟩ := lt_some hr
                              refine AW_draw mixed
                                (lrC (LR_move (at_tmp 5 _) rfl)
                                (lrC (LR_move (at_tmp 7 _) rfl)
                                (lrC (LR_conv (vx := U64 x4) (at_tmp 65 _) (conv_I16 Hfaa.underlying30 Hfaa.underlying44 (x4.toNat : Int)) rfl)
                                (lrC (LR_loads (at_tmp 2 _) ag23 sz23 rfl rfl rfl)
                                (lrC (LR_call Hfaa.func71 rfl rfl (C71 a0_0 a0_1 y10 hy10) (all_cons (at_tmp 67 _) all_nil) rfl)
                                (lrC (LR_bin (at_tmp 66 _) (at_tmp 68 _) (sub_I16 (w16 (x4.toNat : Int)) y10) rfl)
                                (lrC (LR_fieldAddr (off := 0) (o := 1) (at_tmp 2 _) (fun b w => fa23_1 b 0 w) rfl)
                                (lrC (LR_load (at_tmp 70 _) na5 rfl rfl)
                                (lrC (LR_conv (vx := U8 a0_1) (at_tmp 71 _) (conv_I16 Hfaa.underlying5 Hfaa.underlying44 (a0_1.toNat : Int)) rfl)
                                (lrC (LR_bin (at_tmp 69 _) (at_tmp 72 _) (sub_I16 (w16 ((w16 (x4.toNat : Int)) - y10)) (w16 (a0_1.toNat : Int))) rfl)
                                (lrC (LR_move (at_tmp 8 _) rfl)
                                (lrC (LR_fieldAddr (off := 0) (o := 1) (at_tmp 2 _) (fun b w => fa23_1 b 0 w) rfl)
                                (lrC (LR_load (at_tmp 75 _) na5 rfl rfl)
                                (lrC (LR_bin (at_c (v' := U64 (1#64)) rfl) (at_tmp 76 _) (shl_U64 (1#64) (a0_1.toNat : Int) (Int.natCast_nonneg _)) rfl)
                                (lrC (LR_bin (at_tmp 74 _) (at_tmp 77 _) (or_U64 x5 ((1#64) <<< a0_1.toNat)) rfl)
                                (lrC (bl112 (parts_cons (i := 0) (off := 0) (at_tmp 64 _) (cells_one (one_is rfl)) rfl rfl (parts_cons (i := 1) (off := 1) (at_c (v' := I8 2) rfl) (cells_one (one_is rfl)) rfl rfl (parts_cons (i := 2) (off := 2) (at_tmp 73 _) (cells_one (one_is rfl)) rfl rfl (parts_cons (i := 3) (off := 3) (at_tmp 78 _) (cells_one (one_is rfl)) rfl rfl parts_nil)))) rfl rfl)
                                (lrC (LR_store (at_tmp 4 _) (at_tmp 79 _) (cells_agg _) (onC (one_is rfl) (onC (one_is rfl) (onC (one_is rfl) (onC (one_is rfl) onN)))) sz112 rfl rfl)
                                lrN)))))))))))))))))
                                (by kernel_rfl)
                                (saC (sS (sT1 rfl) sB0 sF0) (saC (sS (sT1 rfl) sB0 sF0) (saC (sS (sT1 rfl) sB0 sF0) (saC (sS (sT1 rfl) (sB1 rfl) sF0) (saC (sS (sA (sT1 rfl) sT0) sB0 sF0) (saC (sS (sA (sT1 rfl) (sT1 rfl)) sB0 sF0) (saC (sS (sT1 rfl) sB0 sF0) (saC (sS (sT1 rfl) (sB1 rfl) sF0) (saC (sS (sT1 rfl) sB0 sF0) (saC (sS (sA (sT1 rfl) (sT1 rfl)) sB0 sF0) (saC (sS (sT1 rfl) sB0 sF0) (saC (sS (sT1 rfl) sB0 sF0) (saC (sS (sT1 rfl) (sB1 rfl) sF0) (saC (sS (sA sT0 (sT1 rfl)) sB0 sF0) (saC (sS (sA (sT1 rfl) (sT1 rfl)) sB0 sF0) (saC (sS (sA (sT1 rfl) (sA sT0 (sA (sT1 rfl) (sA (sT1 rfl) sT0)))) sB0 sF0) (saC (sS (sA (sT1 rfl) (sT1 rfl)) (sB1 rfl) sF0) saN))))))))))))))))) ?_
                              refine thenN ?_
                              refine AW_ret ?_
                              subst hr
                              exact res1 rfl (rvC rfl rfl ag112 sz112 rfl)
end Go.Proofs.YfwaawGreat
