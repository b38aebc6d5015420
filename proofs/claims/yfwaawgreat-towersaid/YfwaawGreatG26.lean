import Derived.Test.YfwaawGreatG25
namespace Go.Proofs.YfwaawGreat
open Go.Aw
set_option linter.unusedVariables false
set_option maxRecDepth 100000
set_option maxHeartbeats 1000000
/-- soft.top -/
def F260_1 (a1_0 : Bool) (a1_1 : Int) (a1_2 : Int) (a1_3 : BitVec 64) (x1 : BitVec 8) : BitVec 64 × Int := (a1_3 <<< x1.toNat, w16 (a1_2 - (w16 (x1.toNat : Int))))
def F260 (a0_0 : BitVec 8) (a0_1 : BitVec 8) (a1_0 : Bool) (a1_1 : Int) (a1_2 : Int) (a1_3 : BitVec 64) : BitVec 64 × Int := F260_1 a1_0 a1_1 a1_2 a1_3 ((63#8) - a0_1)
theorem C260 (a0_0 : BitVec 8) (a0_1 : BitVec 8) (a1_0 : Bool) (a1_1 : Int) (a1_2 : Int) (a1_3 : BitVec 64) (r : BitVec 64 × Int) (hr : r = F260 a0_0 a0_1 a1_0 a1_1 a1_2 a1_3) : Aw.Fn Hfaa.prog 260 [agg [is (U8 a0_0), is (U8 a0_1)], agg [is (Bl a1_0), is (I8 a1_1), is (I16 a1_2), is (U64 a1_3)]] (tup [is (U64 r.1), is (I16 r.2)]) := by
  refine fn_intro Hfaa.func260 rfl rfl rfl ?_
  intro bn0 w0 H0
  refine AW_seq1 ?_
  refine AW_region ?_
  refine AL_cons (LR_box (at_tmp 0 _) (cells_agg _) rfl) (sS (sT1 rfl) sB0 (sF1 rfl)) ?_
  refine AL_cons (LR_box (at_tmp 1 _) (cells_agg _) rfl) (sS (sT1 rfl) sB0 (sF1 rfl)) ?_
  refine AL_cons (LR_assign (at_c (v' := U64 (0#64)) rfl) rfl) (sS sT0 sB0 sF0) ?_
  refine AL_cons (LR_assign (at_c (v' := I16 0) rfl) rfl) (sS sT0 sB0 sF0) ?_
  refine AL_nil ?_
  refine thenN ?_
  refine AW_cut (σ := BitVec 8) (fun v => ⟨[(3, .inr (.inl (3, 0))), (6, .inl (is (U8 v)))], [(3, pb 112 [is (Bl a1_0), is (I8 a1_1), is (I16 a1_2), is (U64 a1_3)])]⟩) (fun v => r = F260_1 a1_0 a1_1 a1_2 a1_3 v) ?_ ?_
  · skip
    refine AW_region ?_
    refine AL_cons (LR_fieldAddr (off := 0) (o := 1) (at_tmp 2 _) (fun b w => fa23_1 b 0 w) rfl) (sS (sT1 rfl) sB0 sF0) ?_
    refine AL_cons (LR_load (at_tmp 7 _) na5 rfl rfl) (sS (sT1 rfl) (sB1 rfl) sF0) ?_
    refine AL_cons (LR_bin (at_c (v' := U8 (63#8)) rfl) (at_tmp 8 _) (sub_U8 (63#8) a0_1) rfl) (sS (sA sT0 (sT1 rfl)) sB0 sF0) ?_
    refine AL_cons (LR_assign (at_tmp 9 _) rfl) (sS (sT1 rfl) sB0 sF0) ?_
    refine AL_nil ?_
    exact thenN (cutLeaf (v := (63#8) - a0_1) hr (weak0 ((sT rfl (sT rfl sT0))) (sub_drop (sub_keep sub_nil))))
  · rintro x1 hr
    show AW Hfaa.prog _ _ _ ⟨[(3, .inr (.inl (3, 0))), (6, .inl (is (U8 x1)))], [(3, pb 112 [is (Bl a1_0), is (I8 a1_1), is (I16 a1_2), is (U64 a1_3)])]⟩
    have hr : r = F260_1 a1_0 a1_1 a1_2 a1_3 x1 := hr
    refine AW_seq1 ?_
    refine AW_draw mixed
      (lrC (LR_fieldAddr (off := 0) (o := 3) (at_tmp 3 _) (fun b w => fa112_3 b 0 w) rfl)
      (lrC (LR_load (at_tmp 10 _) na30 rfl rfl)
      (lrC (LR_move (at_tmp 6 _) rfl)
      (lrC (LR_bin (at_tmp 11 _) (at_tmp 12 _) (shl_U64 a1_3 (x1.toNat : Int) (Int.natCast_nonneg _)) rfl)
      (lrC (LR_fieldAddr (off := 0) (o := 2) (at_tmp 3 _) (fun b w => fa112_2 b 0 w) rfl)
      (lrC (LR_load (at_tmp 14 _) na44 rfl rfl)
      (lrC (LR_move (at_tmp 6 _) rfl)
      (lrC (LR_conv (vx := U8 x1) (at_tmp 16 _) (conv_I16 Hfaa.underlying5 Hfaa.underlying44 (x1.toNat : Int)) rfl)
      (lrC (LR_bin (at_tmp 15 _) (at_tmp 17 _) (sub_I16 a1_2 (w16 (x1.toNat : Int))) rfl)
      (lrC (LR_assign (at_tmp 13 _) rfl)
      (lrC (LR_assign (at_tmp 18 _) rfl)
      lrN)))))))))))
      (by kernel_rfl)
      (saC (sS (sT1 rfl) sB0 sF0) (saC (sS (sT1 rfl) (sB1 rfl) sF0) (saC (sS (sT1 rfl) sB0 sF0) (saC (sS (sA (sT1 rfl) (sT1 rfl)) sB0 sF0) (saC (sS (sT1 rfl) sB0 sF0) (saC (sS (sT1 rfl) (sB1 rfl) sF0) (saC (sS (sT1 rfl) sB0 sF0) (saC (sS (sT1 rfl) sB0 sF0) (saC (sS (sA (sT1 rfl) (sT1 rfl)) sB0 sF0) (saC (sS (sT1 rfl) sB0 sF0) (saC (sS (sT1 rfl) sB0 sF0) saN))))))))))) ?_
    refine thenN ?_
    refine AW_ret ?_
    subst hr
    exact res2 rfl (rvT rfl) (rvT rfl)
/-- soft.numberOf -/
def F274_1 (a1_0 : Bool) (a1_1 : Int) (a1_2 : Int) (a1_3 : BitVec 64) (x1 : BitVec 64) (x2 : Int) : Bool × Int × BitVec 64 × BitVec 64 := (a1_0, w16 (x2 - 63), x1 >>> 1, x1 <<< 63)
def F274 (a0_0 : BitVec 8) (a0_1 : BitVec 8) (a1_0 : Bool) (a1_1 : Int) (a1_2 : Int) (a1_3 : BitVec 64) : Bool × Int × BitVec 64 × BitVec 64 := lt (F260 a0_0 a0_1 a1_0 a1_1 a1_2 a1_3) fun y2 => F274_1 a1_0 a1_1 a1_2 a1_3 y2.1 y2.2
theorem C274 (a0_0 : BitVec 8) (a0_1 : BitVec 8) (a1_0 : Bool) (a1_1 : Int) (a1_2 : Int) (a1_3 : BitVec 64) (r : Bool × Int × BitVec 64 × BitVec 64) (hr : r = F274 a0_0 a0_1 a1_0 a1_1 a1_2 a1_3) : Aw.Fn Hfaa.prog 274 [agg [is (U8 a0_0), is (U8 a0_1)], agg [is (Bl a1_0), is (I8 a1_1), is (I16 a1_2), is (U64 a1_3)]] (agg [is (Bl r.1), is (I16 r.2.1), is (U64 r.2.2.1), is (U64 r.2.2.2)]) := by
  refine fn_intro Hfaa.func274 rfl rfl rfl ?_
  intro bn0 w0 H0
  refine AW_seq1 ?_
  refine AW_region ?_
  refine AL_cons (LR_box (at_tmp 0 _) (cells_agg _) rfl) (sS (sT1 rfl) sB0 (sF1 rfl)) ?_
  refine AL_cons (LR_box (at_tmp 1 _) (cells_agg _) rfl) (sS (sT1 rfl) sB0 (sF1 rfl)) ?_
  refine AL_cons (zl272 rfl) (sS sT0 sB0 (sF1 rfl)) ?_
  refine AL_nil ?_
  refine thenN ?_
  refine AW_cut (σ := BitVec 64 × Int) (fun v => ⟨[(3, .inr (.inl (3, 0))), (4, .inr (.inl (4, 0))), (5, .inl (is (U64 v.1))), (6, .inl (is (I16 v.2)))], [(3, pb 112 [is (Bl a1_0), is (I8 a1_1), is (I16 a1_2), is (U64 a1_3)]), (4, pb 272 [is (Bl false), is (I16 0), is (U64 (0#64)), is (U64 (0#64))])]⟩) (fun v => r = F274_1 a1_0 a1_1 a1_2 a1_3 v.1 v.2) ?_ ?_
  · skip
    refine AW_region ?_
    refine AL_cons (LR_loads (at_tmp 2 _) ag23 sz23 rfl rfl rfl) (sS (sT1 rfl) (sB1 rfl) sF0) ?_
    refine AL_cons (LR_loads (at_tmp 3 _) ag112 sz112 rfl rfl rfl) (sS (sT1 rfl) (sB1 rfl) sF0) ?_
    obtain ⟨y2, hy2, hr⟩ := lt_some hr
    refine AL_cons (LR_call Hfaa.func260 rfl rfl (C260 a0_0 a0_1 a1_0 a1_1 a1_2 a1_3 y2 hy2) (all_cons (at_tmp 8 _) (all_cons (at_tmp 9 _) all_nil)) rfl) (sS (sA (sT1 rfl) (sA (sT1 rfl) sT0)) sB0 sF0) ?_
    refine AL_cons (LR_move (at_tmp 10 _) rfl) (sS (sT1 rfl) sB0 sF0) ?_
    refine AL_cons (LR_extract (at_tmp 7 _) rfl rfl) (sS (sT1 rfl) sB0 sF0) ?_
    refine AL_cons (LR_extract (at_tmp 7 _) rfl rfl) (sS (sT1 rfl) sB0 sF0) ?_
    refine AL_cons (LR_assign (at_tmp 11 _) rfl) (sS (sT1 rfl) sB0 sF0) ?_
    refine AL_cons (LR_assign (at_tmp 12 _) rfl) (sS (sT1 rfl) sB0 sF0) ?_
    refine AL_nil ?_
    exact thenN (cutLeaf (v := (y2.1, y2.2)) hr (weak0 ((sT rfl (sT rfl (sT rfl (sT rfl sT0))))) (sub_drop (sub_keep (sub_keep sub_nil)))))
  · rintro ⟨x1, x2⟩ hr
    show AW Hfaa.prog _ _ _ ⟨[(3, .inr (.inl (3, 0))), (4, .inr (.inl (4, 0))), (5, .inl (is (U64 x1))), (6, .inl (is (I16 x2)))], [(3, pb 112 [is (Bl a1_0), is (I8 a1_1), is (I16 a1_2), is (U64 a1_3)]), (4, pb 272 [is (Bl false), is (I16 0), is (U64 (0#64)), is (U64 (0#64))])]⟩
    have hr : r = F274_1 a1_0 a1_1 a1_2 a1_3 x1 x2 := hr
    refine AW_seq1 ?_
    refine AW_region ?_
    refine AL_cons (LR_fieldAddr (off := 0) (o := 0) (at_tmp 3 _) (fun b w => fa112_0 b 0 w) rfl) (sS (sT1 rfl) sB0 sF0) ?_
    refine AL_cons (LR_load (at_tmp 13 _) na4 rfl rfl) (sS (sT1 rfl) (sB1 rfl) sF0) ?_
    refine AL_cons (LR_move (at_tmp 6 _) rfl) (sS (sT1 rfl) sB0 sF0) ?_
    refine AL_cons (LR_bin (at_tmp 15 _) (at_c (v' := I16 63) rfl) (sub_I16 x2 63) rfl) (sS (sA (sT1 rfl) sT0) sB0 sF0) ?_
    refine AL_cons (LR_move (at_tmp 5 _) rfl) (sS (sT1 rfl) sB0 sF0) ?_
    refine AL_cons (LR_bin (at_tmp 17 _) (at_c (v' := U64 (1#64)) rfl) (shr_U64 x1 ((1#64).toNat : Int) (Int.natCast_nonneg _)) rfl) (sS (sA (sT1 rfl) sT0) sB0 sF0) ?_
    refine AL_cons (LR_move (at_tmp 5 _) rfl) (sS (sT1 rfl) sB0 sF0) ?_
    refine AL_cons (LR_bin (at_tmp 19 _) (at_c (v' := U64 (63#64)) rfl) (shl_U64 x1 ((63#64).toNat : Int) (Int.natCast_nonneg _)) rfl) (sS (sA (sT1 rfl) sT0) sB0 sF0) ?_
    refine AL_cons (bl42 (parts_cons (i := 0) (off := 0) (at_tmp 18 _) (cells_one (one_is rfl)) rfl rfl (parts_cons (i := 1) (off := 1) (at_tmp 20 _) (cells_one (one_is rfl)) rfl rfl parts_nil)) rfl rfl) (sS (sA (sT1 rfl) (sA (sT1 rfl) sT0)) sB0 sF0) ?_
    refine AL_cons (bl272 (parts_cons (i := 0) (off := 0) (at_tmp 14 _) (cells_one (one_is rfl)) rfl rfl (parts_cons (i := 1) (off := 1) (at_tmp 16 _) (cells_one (one_is rfl)) rfl rfl (parts_cons (i := 2) (off := 2) (at_tmp 21 _) (cells_agg _) rfl rfl parts_nil))) rfl rfl) (sS (sA (sT1 rfl) (sA (sT1 rfl) (sA (sT1 rfl) sT0))) sB0 sF0) ?_
    refine AL_cons (LR_store (at_tmp 4 _) (at_tmp 22 _) (cells_agg _) (onC (one_is rfl) (onC (one_is rfl) (onC (one_is rfl) (onC (one_is rfl) onN)))) sz272 rfl rfl) (sS (sA (sT1 rfl) (sT1 rfl)) (sB1 rfl) sF0) ?_
    refine AL_nil ?_
    refine thenN ?_
    refine AW_ret ?_
    subst hr
    exact res1 rfl (rvC rfl rfl ag272 sz272 rfl)
/-- wide.Cmp -/
def F362_2 (x2 : Bool) : Int := bif x2 then 0 else 1
def F362_1 (a0_0 : BitVec 64) (a0_1 : BitVec 64) (a1_0 : BitVec 64) (a1_1 : BitVec 64) (x1 : Bool) : Int := bif x1 then (-1) else F362_2 ((a0_0 == a1_0) && (a0_1 == a1_1))
def F362 (a0_0 : BitVec 64) (a0_1 : BitVec 64) (a1_0 : BitVec 64) (a1_1 : BitVec 64) : Int := F362_1 a0_0 a0_1 a1_0 a1_1 ((decide (a0_0.toNat < a1_0.toNat)) || ((a0_0 == a1_0) && (decide (a0_1.toNat < a1_1.toNat))))
theorem C362 (a0_0 : BitVec 64) (a0_1 : BitVec 64) (a1_0 : BitVec 64) (a1_1 : BitVec 64) (r : Int) (hr : r = F362 a0_0 a0_1 a1_0 a1_1) : Aw.Fn Hfaa.prog 362 [agg [is (U64 a0_0), is (U64 a0_1)], agg [is (U64 a1_0), is (U64 a1_1)]] (is (I8 r)) := by
  refine fn_intro Hfaa.func362 rfl rfl rfl ?_
  intro bn0 w0 H0
  refine AW_seq1 ?_
  refine AW_region ?_
  refine AL_cons (LR_box (at_tmp 0 _) (cells_agg _) rfl) (sS (sT1 rfl) sB0 (sF1 rfl)) ?_
  refine AL_cons (LR_box (at_tmp 1 _) (cells_agg _) rfl) (sS (sT1 rfl) sB0 (sF1 rfl)) ?_
  refine AL_cons (LR_assign (at_c (v' := I8 0) rfl) rfl) (sS sT0 sB0 sF0) ?_
  refine AL_nil ?_
  refine thenN ?_
  refine AW_seq1 ?_
  refine AW_block ?_
  refine AW_cut (σ := Bool) (fun v => ⟨[(2, .inr (.inl (2, 0))), (3, .inr (.inl (3, 0))), (5, .inl (is (Bl v)))], [(2, pb 42 [is (U64 a0_0), is (U64 a0_1)]), (3, pb 42 [is (U64 a1_0), is (U64 a1_1)])]⟩) (fun v => r = F362_1 a0_0 a0_1 a1_0 a1_1 v) ?_ ?_
  · skip
    refine AW_region ?_
    refine AL_cons (LR_fieldAddr (off := 0) (o := 0) (at_tmp 2 _) (fun b w => fa42_0 b 0 w) rfl) (sS (sT1 rfl) sB0 sF0) ?_
    refine AL_cons (LR_load (at_tmp 6 _) na30 rfl rfl) (sS (sT1 rfl) (sB1 rfl) sF0) ?_
    refine AL_cons (LR_fieldAddr (off := 0) (o := 0) (at_tmp 3 _) (fun b w => fa42_0 b 0 w) rfl) (sS (sT1 rfl) sB0 sF0) ?_
    refine AL_cons (LR_load (at_tmp 8 _) na30 rfl rfl) (sS (sT1 rfl) (sB1 rfl) sF0) ?_
    refine AL_cons (LR_bin (at_tmp 7 _) (at_tmp 9 _) (lss_U64 a0_0 a1_0) rfl) (sS (sA (sT1 rfl) (sT1 rfl)) sB0 sF0) ?_
    refine AL_cons (LR_move (at_tmp 10 _) rfl) (sS (sT1 rfl) sB0 sF0) ?_
    refine AL_cutAt 13 ⟨[(0, .inl (agg [is (U64 a0_0), is (U64 a0_1)])), (1, .inl (agg [is (U64 a1_0), is (U64 a1_1)])), (2, .inr (.inl (2, 0))), (3, .inr (.inl (3, 0))), (4, .inl (is (I8 0))), (6, .inr (.inl (2, 0))), (7, .inl (is (U64 a0_0))), (8, .inr (.inl (3, 0))), (9, .inl (is (U64 a1_0))), (10, .inl (is (Bl (decide (a0_0.toNat < a1_0.toNat))))), (11, .inl (is (Bl (decide (a0_0.toNat < a1_0.toNat))))), (24, .inl (is (Bl ((decide (a0_0.toNat < a1_0.toNat)) || ((a0_0 == a1_0) && (decide (a0_1.toNat < a1_1.toNat)))))))], [(2, pb 42 [is (U64 a0_0), is (U64 a0_1)]), (3, pb 42 [is (U64 a1_0), is (U64 a1_1)])]⟩ ?_ ?_
    · cases hb : decide (a0_0.toNat < a1_0.toNat)
      · skip
        refine AL_cons (LR_on rfl rfl rfl (LR_fieldAddr (off := 0) (o := 0) (at_tmp 2 _) (fun b w => fa42_0 b 0 w) rfl)) (sS (sT rfl (sT1 rfl)) sB0 sF0) ?_
        refine AL_cons (LR_on rfl rfl rfl (LR_load (at_tmp 12 _) na30 rfl rfl)) (sS (sT rfl (sT1 rfl)) (sB1 rfl) sF0) ?_
        refine AL_cons (LR_on rfl rfl rfl (LR_fieldAddr (off := 0) (o := 0) (at_tmp 3 _) (fun b w => fa42_0 b 0 w) rfl)) (sS (sT rfl (sT1 rfl)) sB0 sF0) ?_
        refine AL_cons (LR_on rfl rfl rfl (LR_load (at_tmp 14 _) na30 rfl rfl)) (sS (sT rfl (sT1 rfl)) (sB1 rfl) sF0) ?_
        refine AL_cons (LR_on rfl rfl rfl (LR_bin (at_tmp 13 _) (at_tmp 15 _) (eql_U64 a0_0 a1_0) rfl)) (sS (sT rfl (sA (sT1 rfl) (sT1 rfl))) sB0 sF0) ?_
        refine AL_cons (LR_on rfl rfl rfl (LR_move (at_tmp 16 _) rfl)) (sS (sT rfl (sT1 rfl)) sB0 sF0) ?_
        refine AL_cutAt 6 ⟨[(0, .inl (agg [is (U64 a0_0), is (U64 a0_1)])), (1, .inl (agg [is (U64 a1_0), is (U64 a1_1)])), (2, .inr (.inl (2, 0))), (3, .inr (.inl (3, 0))), (4, .inl (is (I8 0))), (6, .inr (.inl (2, 0))), (7, .inl (is (U64 a0_0))), (8, .inr (.inl (3, 0))), (9, .inl (is (U64 a1_0))), (10, .inl (is (Bl false))), (11, .inl (is (Bl false))), (12, .inr (.inl (2, 0))), (13, .inl (is (U64 a0_0))), (14, .inr (.inl (3, 0))), (15, .inl (is (U64 a1_0))), (16, .inl (is (Bl (a0_0 == a1_0)))), (17, .inl (is (Bl (a0_0 == a1_0)))), (23, .inl (is (Bl ((a0_0 == a1_0) && (decide (a0_1.toNat < a1_1.toNat))))))], [(2, pb 42 [is (U64 a0_0), is (U64 a0_1)]), (3, pb 42 [is (U64 a1_0), is (U64 a1_1)])]⟩ ?_ ?_
        · cases hb : a0_0 == a1_0
          · skip
            refine AL_cons (LR_off (b := false) rfl rfl rfl rfl) (sS (sT1 rfl) sB0 sF0) ?_
            refine AL_cons (LR_off (b := false) rfl rfl rfl rfl) (sS (sT1 rfl) sB0 sF0) ?_
            refine AL_cons (LR_off (b := false) rfl rfl rfl rfl) (sS (sT1 rfl) sB0 sF0) ?_
            refine AL_cons (LR_off (b := false) rfl rfl rfl rfl) (sS (sT1 rfl) sB0 sF0) ?_
            refine AL_cons (LR_off (b := false) rfl rfl rfl rfl) (sS (sT1 rfl) sB0 sF0) ?_
            refine AL_cons (LR_on rfl rfl rfl (LR_pick (b := false) (at_tmp 17 _) (at_tmp 22 _) (at_c (v' := Bl false) rfl) rfl)) (sS (sT rfl (sA (sT1 rfl) (sA (sT1 rfl) sT0))) sB0 sF0) ?_
            exact AL_nil ⟨rfl, weak0 ((sT rfl (sT rfl (sT rfl (sT rfl (sT rfl (sT rfl (sT rfl (sT rfl (sT rfl (sT rfl (sT rfl (sT rfl (sT rfl (sT rfl (sT rfl (sT rfl (sT rfl (sT rfl sT0))))))))))))))))))) (sub_keep (sub_keep sub_nil))⟩
          · skip
            refine AL_cons (LR_on rfl rfl rfl (LR_fieldAddr (off := 0) (o := 1) (at_tmp 2 _) (fun b w => fa42_1 b 0 w) rfl)) (sS (sT rfl (sT1 rfl)) sB0 sF0) ?_
            refine AL_cons (LR_on rfl rfl rfl (LR_load (at_tmp 18 _) na30 rfl rfl)) (sS (sT rfl (sT1 rfl)) (sB1 rfl) sF0) ?_
            refine AL_cons (LR_on rfl rfl rfl (LR_fieldAddr (off := 0) (o := 1) (at_tmp 3 _) (fun b w => fa42_1 b 0 w) rfl)) (sS (sT rfl (sT1 rfl)) sB0 sF0) ?_
            refine AL_cons (LR_on rfl rfl rfl (LR_load (at_tmp 20 _) na30 rfl rfl)) (sS (sT rfl (sT1 rfl)) (sB1 rfl) sF0) ?_
            refine AL_cons (LR_on rfl rfl rfl (LR_bin (at_tmp 19 _) (at_tmp 21 _) (lss_U64 a0_1 a1_1) rfl)) (sS (sT rfl (sA (sT1 rfl) (sT1 rfl))) sB0 sF0) ?_
            refine AL_cons (LR_on rfl rfl rfl (LR_pick (b := true) (at_tmp 17 _) (at_tmp 22 _) (at_c (v' := Bl false) rfl) rfl)) (sS (sT rfl (sA (sT1 rfl) (sA (sT1 rfl) sT0))) sB0 sF0) ?_
            exact AL_nil ⟨rfl, weak0 ((sT rfl (sT rfl (sT rfl (sT rfl (sT rfl (sT rfl (sT rfl (sT rfl (sT rfl (sT rfl (sT rfl (sT rfl (sT rfl (sT rfl (sT rfl (sT rfl (sT rfl (sT rfl sT0))))))))))))))))))) (sub_keep (sub_keep sub_nil))⟩
        refine AL_cons (LR_pick (b := false) (at_tmp 11 _) (at_c (v' := Bl true) rfl) (at_tmp 23 _) rfl) (sS (sA (sT1 rfl) (sA sT0 (sT1 rfl))) sB0 sF0) ?_
        exact AL_nil ⟨rfl, weak0 ((sT rfl (sT rfl (sT rfl (sT rfl (sT rfl (sT rfl (sT rfl (sT rfl (sT rfl (sT rfl (sT rfl (sT rfl sT0))))))))))))) (sub_keep (sub_keep sub_nil))⟩
      · skip
        refine AL_cons (LR_off (b := true) rfl rfl rfl rfl) (sS (sT1 rfl) sB0 sF0) ?_
        refine AL_cons (LR_off (b := true) rfl rfl rfl rfl) (sS (sT1 rfl) sB0 sF0) ?_
        refine AL_cons (LR_off (b := true) rfl rfl rfl rfl) (sS (sT1 rfl) sB0 sF0) ?_
        refine AL_cons (LR_off (b := true) rfl rfl rfl rfl) (sS (sT1 rfl) sB0 sF0) ?_
        refine AL_cons (LR_off (b := true) rfl rfl rfl rfl) (sS (sT1 rfl) sB0 sF0) ?_
        refine AL_cons (LR_off (b := true) rfl rfl rfl rfl) (sS (sT1 rfl) sB0 sF0) ?_
        refine AL_cons (LR_offU rfl rfl rfl rfl) (sS (sT1 rfl) sB0 sF0) ?_
        refine AL_cons (LR_offU rfl rfl rfl rfl) (sS (sT1 rfl) sB0 sF0) ?_
        refine AL_cons (LR_offU rfl rfl rfl rfl) (sS (sT1 rfl) sB0 sF0) ?_
        refine AL_cons (LR_offU rfl rfl rfl rfl) (sS (sT1 rfl) sB0 sF0) ?_
        refine AL_cons (LR_offU rfl rfl rfl rfl) (sS (sT1 rfl) sB0 sF0) ?_
        refine AL_cons (LR_off (b := true) rfl rfl rfl rfl) (sS (sT1 rfl) sB0 sF0) ?_
        refine AL_cons (LR_pick (b := true) (at_tmp 11 _) (at_c (v' := Bl true) rfl) (at_tmp 23 _) rfl) (sS (sA (sT1 rfl) (sA sT0 (sT1 rfl))) sB0 sF0) ?_
        exact AL_nil ⟨rfl, weak0 ((sT rfl (sT rfl (sT rfl (sT rfl (sT rfl (sT rfl (sT rfl (sT rfl (sT rfl (sT rfl (sT rfl (sT rfl sT0))))))))))))) (sub_keep (sub_keep sub_nil))⟩
    refine AL_cons (LR_assign (at_tmp 24 _) rfl) (sS (sT1 rfl) sB0 sF0) ?_
    refine AL_nil ?_
    exact thenN (cutLeaf (v := (decide (a0_0.toNat < a1_0.toNat)) || ((a0_0 == a1_0) && (decide (a0_1.toNat < a1_1.toNat)))) hr (weak0 ((sT rfl (sT rfl (sT rfl sT0)))) (sub_keep (sub_keep sub_nil))))
  · rintro x1 hr
    show AW Hfaa.prog _ _ _ ⟨[(2, .inr (.inl (2, 0))), (3, .inr (.inl (3, 0))), (5, .inl (is (Bl x1)))], [(2, pb 42 [is (U64 a0_0), is (U64 a0_1)]), (3, pb 42 [is (U64 a1_0), is (U64 a1_1)])]⟩
    have hr : r = F362_1 a0_0 a0_1 a1_0 a1_1 x1 := hr
    refine AW_condT (b := x1) rfl (fun h => ?_) (fun h => ?_)
    · have hr := hr.trans (cond_t h)
      clear h
      refine AW_seq1 ?_
      refine AW_region ?_
      refine AL_cons (LR_assign (at_c (v' := I8 (-1)) rfl) rfl) (sS sT0 sB0 sF0) ?_
      refine AL_nil ?_
      refine thenN ?_
      refine AW_ret ?_
      refine blR ?_
      refine thenR ?_
      subst hr
      exact res1 rfl (rvT rfl)
    · have hr := hr.trans (cond_f h)
      clear h
      refine AW_cut (σ := Bool) (fun v => ⟨[(25, .inl (is (Bl v)))], []⟩) (fun v => r = F362_2 v) ?_ ?_
      · skip
        refine AW_region ?_
        refine AL_cons (LR_loads (at_tmp 2 _) ag42 sz42 rfl rfl rfl) (sS (sT1 rfl) (sB1 rfl) sF0) ?_
        refine AL_cons (LR_loads (at_tmp 3 _) ag42 sz42 rfl rfl rfl) (sS (sT1 rfl) (sB1 rfl) sF0) ?_
        refine AL_cons (LR_binA (at_tmp 26 _) (at_tmp 27 _) (eqlA42 a0_0 a0_1 a1_0 a1_1) rfl) (sS (sA (sT1 rfl) (sT1 rfl)) sB0 sF0) ?_
        refine AL_cons (LR_assign (at_tmp 28 _) rfl) (sS (sT1 rfl) sB0 sF0) ?_
        refine AL_nil ?_
        exact thenN (cutLeaf (v := (a0_0 == a1_0) && (a0_1 == a1_1)) hr (weak0 ((sT rfl sT0)) (sub_drop (sub_drop sub_nil))))
      · rintro x2 hr
        show AW Hfaa.prog _ _ _ ⟨[(25, .inl (is (Bl x2)))], []⟩
        have hr : r = F362_2 x2 := hr
        refine AW_condT (b := x2) rfl (fun h => ?_) (fun h => ?_)
        · have hr := hr.trans (cond_t h)
          clear h
          refine AW_seq1 ?_
          refine AW_region ?_
          refine AL_cons (LR_assign (at_c (v' := I8 0) rfl) rfl) (sS sT0 sB0 sF0) ?_
          refine AL_nil ?_
          refine thenN ?_
          refine AW_ret ?_
          refine blR ?_
          refine thenR ?_
          subst hr
          exact res1 rfl (rvT rfl)
        · have hr := hr.trans (cond_f h)
          clear h
          refine AW_skip ?_
          refine blN ?_
          refine thenN ?_
          refine AW_seq1 ?_
          refine AW_region ?_
          refine AL_cons (LR_assign (at_c (v' := I8 1) rfl) rfl) (sS sT0 sB0 sF0) ?_
          refine AL_nil ?_
          refine thenN ?_
          refine AW_ret ?_
          subst hr
          exact res1 rfl (rvT rfl)
/-- wide.Shr -/
def F217_1 (a0_0 : BitVec 64) (a0_1 : BitVec 64) (a1 : BitVec 8) (x1 : Bool) : BitVec 64 × BitVec 64 := bif x1 then (0#64, a0_0 >>> (a1 - (64#8)).toNat) else (a0_0 >>> a1.toNat, (a0_1 >>> a1.toNat) ||| (a0_0 <<< ((64#8) - a1).toNat))
def F217 (a0_0 : BitVec 64) (a0_1 : BitVec 64) (a1 : BitVec 8) : BitVec 64 × BitVec 64 := F217_1 a0_0 a0_1 a1 (decide ((64#8).toNat ≤ a1.toNat))
theorem C217 (a0_0 : BitVec 64) (a0_1 : BitVec 64) (a1 : BitVec 8) (r : BitVec 64 × BitVec 64) (hr : r = F217 a0_0 a0_1 a1) : Aw.Fn Hfaa.prog 217 [agg [is (U64 a0_0), is (U64 a0_1)], is (U8 a1)] (agg [is (U64 r.1), is (U64 r.2)]) := by
  refine fn_intro Hfaa.func217 rfl rfl rfl ?_
  intro bn0 w0 H0
  refine AW_seq1 ?_
  refine AW_region ?_
  refine AL_cons (LR_box (at_tmp 0 _) (cells_agg _) rfl) (sS (sT1 rfl) sB0 (sF1 rfl)) ?_
  refine AL_cons (zl42 rfl) (sS sT0 sB0 (sF1 rfl)) ?_
  refine AL_nil ?_
  refine thenN ?_
  refine AW_seq1 ?_
  refine AW_cut (σ := Bool) (fun v => ⟨[(1, .inl (is (U8 a1))), (2, .inr (.inl (2, 0))), (4, .inr (.inl (4, 0))), (6, .inl (is (Bl v)))], [(2, pb 42 [is (U64 a0_0), is (U64 a0_1)]), (4, pb 42 [is (U64 (0#64)), is (U64 (0#64))])]⟩) (fun v => r = F217_1 a0_0 a0_1 a1 v) ?_ ?_
  · skip
    refine AW_region ?_
    refine AL_cons (LR_move (at_tmp 1 _) rfl) (sS (sT1 rfl) sB0 sF0) ?_
    refine AL_cons (LR_bin (at_tmp 5 _) (at_c (v' := U8 (64#8)) rfl) (geq_U8 a1 (64#8)) rfl) (sS (sA (sT1 rfl) sT0) sB0 sF0) ?_
    refine AL_nil ?_
    exact thenN (cutLeaf (v := decide ((64#8).toNat ≤ a1.toNat)) hr (weak0 ((sT rfl (sT rfl (sT rfl (sT rfl sT0))))) (sub_keep (sub_keep sub_nil))))
  · rintro x1 hr
    show AW Hfaa.prog _ _ _ ⟨[(1, .inl (is (U8 a1))), (2, .inr (.inl (2, 0))), (4, .inr (.inl (4, 0))), (6, .inl (is (Bl x1)))], [(2, pb 42 [is (U64 a0_0), is (U64 a0_1)]), (4, pb 42 [is (U64 (0#64)), is (U64 (0#64))])]⟩
    have hr : r = F217_1 a0_0 a0_1 a1 x1 := hr
    refine AW_condT (b := x1) rfl (fun h => ?_) (fun h => ?_)
    · have hr := hr.trans (cond_t h)
      clear h
      refine AW_seq1 ?_
      refine AW_region ?_
      refine AL_cons (LR_fieldAddr (off := 0) (o := 0) (at_tmp 2 _) (fun b w => fa42_0 b 0 w) rfl) (sS (sT1 rfl) sB0 sF0) ?_
      refine AL_cons (LR_load (at_tmp 7 _) na30 rfl rfl) (sS (sT1 rfl) (sB1 rfl) sF0) ?_
      refine AL_cons (LR_move (at_tmp 1 _) rfl) (sS (sT1 rfl) sB0 sF0) ?_
      refine AL_cons (LR_bin (at_tmp 9 _) (at_c (v' := U8 (64#8)) rfl) (sub_U8 a1 (64#8)) rfl) (sS (sA (sT1 rfl) sT0) sB0 sF0) ?_
      refine AL_cons (LR_bin (at_tmp 8 _) (at_tmp 10 _) (shr_U64 a0_0 ((a1 - (64#8)).toNat : Int) (Int.natCast_nonneg _)) rfl) (sS (sA (sT1 rfl) (sT1 rfl)) sB0 sF0) ?_
      refine AL_cons (bl42 (parts_cons (i := 0) (off := 0) (at_c (v' := U64 (0#64)) rfl) (cells_one (one_is rfl)) rfl rfl (parts_cons (i := 1) (off := 1) (at_tmp 11 _) (cells_one (one_is rfl)) rfl rfl parts_nil)) rfl rfl) (sS (sA sT0 (sA (sT1 rfl) sT0)) sB0 sF0) ?_
      refine AL_cons (LR_store (at_tmp 4 _) (at_tmp 12 _) (cells_agg _) (onC (one_is rfl) (onC (one_is rfl) onN)) sz42 rfl rfl) (sS (sA (sT1 rfl) (sT1 rfl)) (sB1 rfl) sF0) ?_
      refine AL_nil ?_
      refine thenN ?_
      refine AW_ret ?_
      refine thenR ?_
      subst hr
      exact res1 rfl (rvC rfl rfl ag42 sz42 rfl)
    · have hr := hr.trans (cond_f h)
      clear h
      refine AW_skip ?_
      refine thenN ?_
      refine AW_seq1 ?_
      refine AW_region ?_
      refine AL_cons (LR_fieldAddr (off := 0) (o := 0) (at_tmp 2 _) (fun b w => fa42_0 b 0 w) rfl) (sS (sT1 rfl) sB0 sF0) ?_
      refine AL_cons (LR_load (at_tmp 13 _) na30 rfl rfl) (sS (sT1 rfl) (sB1 rfl) sF0) ?_
      refine AL_cons (LR_move (at_tmp 1 _) rfl) (sS (sT1 rfl) sB0 sF0) ?_
      refine AL_cons (LR_bin (at_tmp 14 _) (at_tmp 15 _) (shr_U64 a0_0 (a1.toNat : Int) (Int.natCast_nonneg _)) rfl) (sS (sA (sT1 rfl) (sT1 rfl)) sB0 sF0) ?_
      refine AL_cons (LR_fieldAddr (off := 0) (o := 1) (at_tmp 2 _) (fun b w => fa42_1 b 0 w) rfl) (sS (sT1 rfl) sB0 sF0) ?_
      refine AL_cons (LR_load (at_tmp 17 _) na30 rfl rfl) (sS (sT1 rfl) (sB1 rfl) sF0) ?_
      refine AL_cons (LR_move (at_tmp 1 _) rfl) (sS (sT1 rfl) sB0 sF0) ?_
      refine AL_cons (LR_bin (at_tmp 18 _) (at_tmp 19 _) (shr_U64 a0_1 (a1.toNat : Int) (Int.natCast_nonneg _)) rfl) (sS (sA (sT1 rfl) (sT1 rfl)) sB0 sF0) ?_
      refine AL_cons (LR_fieldAddr (off := 0) (o := 0) (at_tmp 2 _) (fun b w => fa42_0 b 0 w) rfl) (sS (sT1 rfl) sB0 sF0) ?_
      refine AL_cons (LR_load (at_tmp 21 _) na30 rfl rfl) (sS (sT1 rfl) (sB1 rfl) sF0) ?_
      refine AL_cons (LR_move (at_tmp 1 _) rfl) (sS (sT1 rfl) sB0 sF0) ?_
      refine AL_cons (LR_bin (at_c (v' := U8 (64#8)) rfl) (at_tmp 23 _) (sub_U8 (64#8) a1) rfl) (sS (sA sT0 (sT1 rfl)) sB0 sF0) ?_
      refine AL_cons (LR_bin (at_tmp 22 _) (at_tmp 24 _) (shl_U64 a0_0 (((64#8) - a1).toNat : Int) (Int.natCast_nonneg _)) rfl) (sS (sA (sT1 rfl) (sT1 rfl)) sB0 sF0) ?_
      refine AL_cons (LR_bin (at_tmp 20 _) (at_tmp 25 _) (or_U64 (a0_1 >>> a1.toNat) (a0_0 <<< ((64#8) - a1).toNat)) rfl) (sS (sA (sT1 rfl) (sT1 rfl)) sB0 sF0) ?_
      refine AL_cons (bl42 (parts_cons (i := 0) (off := 0) (at_tmp 16 _) (cells_one (one_is rfl)) rfl rfl (parts_cons (i := 1) (off := 1) (at_tmp 26 _) (cells_one (one_is rfl)) rfl rfl parts_nil)) rfl rfl) (sS (sA (sT1 rfl) (sA (sT1 rfl) sT0)) sB0 sF0) ?_
      refine AL_cons (LR_store (at_tmp 4 _) (at_tmp 27 _) (cells_agg _) (onC (one_is rfl) (onC (one_is rfl) onN)) sz42 rfl rfl) (sS (sA (sT1 rfl) (sT1 rfl)) (sB1 rfl) sF0) ?_
      refine AL_nil ?_
      refine thenN ?_
      refine AW_ret ?_
      subst hr
      exact res1 rfl (rvC rfl rfl ag42 sz42 rfl)
/-- wide.Shl -/
def F206_1 (a0_0 : BitVec 64) (a0_1 : BitVec 64) (a1 : BitVec 8) (x1 : Bool) : BitVec 64 × BitVec 64 := bif x1 then (a0_1 <<< (a1 - (64#8)).toNat, 0#64) else ((a0_0 <<< a1.toNat) ||| (a0_1 >>> ((64#8) - a1).toNat), a0_1 <<< a1.toNat)
def F206 (a0_0 : BitVec 64) (a0_1 : BitVec 64) (a1 : BitVec 8) : BitVec 64 × BitVec 64 := F206_1 a0_0 a0_1 a1 (decide ((64#8).toNat ≤ a1.toNat))
theorem C206 (a0_0 : BitVec 64) (a0_1 : BitVec 64) (a1 : BitVec 8) (r : BitVec 64 × BitVec 64) (hr : r = F206 a0_0 a0_1 a1) : Aw.Fn Hfaa.prog 206 [agg [is (U64 a0_0), is (U64 a0_1)], is (U8 a1)] (agg [is (U64 r.1), is (U64 r.2)]) := by
  refine fn_intro Hfaa.func206 rfl rfl rfl ?_
  intro bn0 w0 H0
  refine AW_seq1 ?_
  refine AW_region ?_
  refine AL_cons (LR_box (at_tmp 0 _) (cells_agg _) rfl) (sS (sT1 rfl) sB0 (sF1 rfl)) ?_
  refine AL_cons (zl42 rfl) (sS sT0 sB0 (sF1 rfl)) ?_
  refine AL_nil ?_
  refine thenN ?_
  refine AW_seq1 ?_
  refine AW_cut (σ := Bool) (fun v => ⟨[(1, .inl (is (U8 a1))), (2, .inr (.inl (2, 0))), (4, .inr (.inl (4, 0))), (6, .inl (is (Bl v)))], [(2, pb 42 [is (U64 a0_0), is (U64 a0_1)]), (4, pb 42 [is (U64 (0#64)), is (U64 (0#64))])]⟩) (fun v => r = F206_1 a0_0 a0_1 a1 v) ?_ ?_
  · skip
    refine AW_region ?_
    refine AL_cons (LR_move (at_tmp 1 _) rfl) (sS (sT1 rfl) sB0 sF0) ?_
    refine AL_cons (LR_bin (at_tmp 5 _) (at_c (v' := U8 (64#8)) rfl) (geq_U8 a1 (64#8)) rfl) (sS (sA (sT1 rfl) sT0) sB0 sF0) ?_
    refine AL_nil ?_
    exact thenN (cutLeaf (v := decide ((64#8).toNat ≤ a1.toNat)) hr (weak0 ((sT rfl (sT rfl (sT rfl (sT rfl sT0))))) (sub_keep (sub_keep sub_nil))))
  · rintro x1 hr
    show AW Hfaa.prog _ _ _ ⟨[(1, .inl (is (U8 a1))), (2, .inr (.inl (2, 0))), (4, .inr (.inl (4, 0))), (6, .inl (is (Bl x1)))], [(2, pb 42 [is (U64 a0_0), is (U64 a0_1)]), (4, pb 42 [is (U64 (0#64)), is (U64 (0#64))])]⟩
    have hr : r = F206_1 a0_0 a0_1 a1 x1 := hr
    refine AW_condT (b := x1) rfl (fun h => ?_) (fun h => ?_)
    · have hr := hr.trans (cond_t h)
      clear h
      refine AW_seq1 ?_
      refine AW_region ?_
      refine AL_cons (LR_fieldAddr (off := 0) (o := 1) (at_tmp 2 _) (fun b w => fa42_1 b 0 w) rfl) (sS (sT1 rfl) sB0 sF0) ?_
      refine AL_cons (LR_load (at_tmp 7 _) na30 rfl rfl) (sS (sT1 rfl) (sB1 rfl) sF0) ?_
      refine AL_cons (LR_move (at_tmp 1 _) rfl) (sS (sT1 rfl) sB0 sF0) ?_
      refine AL_cons (LR_bin (at_tmp 9 _) (at_c (v' := U8 (64#8)) rfl) (sub_U8 a1 (64#8)) rfl) (sS (sA (sT1 rfl) sT0) sB0 sF0) ?_
      refine AL_cons (LR_bin (at_tmp 8 _) (at_tmp 10 _) (shl_U64 a0_1 ((a1 - (64#8)).toNat : Int) (Int.natCast_nonneg _)) rfl) (sS (sA (sT1 rfl) (sT1 rfl)) sB0 sF0) ?_
      refine AL_cons (bl42 (parts_cons (i := 0) (off := 0) (at_tmp 11 _) (cells_one (one_is rfl)) rfl rfl (parts_cons (i := 1) (off := 1) (at_c (v' := U64 (0#64)) rfl) (cells_one (one_is rfl)) rfl rfl parts_nil)) rfl rfl) (sS (sA (sT1 rfl) (sA sT0 sT0)) sB0 sF0) ?_
      refine AL_cons (LR_store (at_tmp 4 _) (at_tmp 12 _) (cells_agg _) (onC (one_is rfl) (onC (one_is rfl) onN)) sz42 rfl rfl) (sS (sA (sT1 rfl) (sT1 rfl)) (sB1 rfl) sF0) ?_
      refine AL_nil ?_
      refine thenN ?_
      refine AW_ret ?_
      refine thenR ?_
      subst hr
      exact res1 rfl (rvC rfl rfl ag42 sz42 rfl)
    · have hr := hr.trans (cond_f h)
      clear h
      refine AW_skip ?_
      refine thenN ?_
      refine AW_seq1 ?_
      refine AW_region ?_
      refine AL_cons (LR_fieldAddr (off := 0) (o := 0) (at_tmp 2 _) (fun b w => fa42_0 b 0 w) rfl) (sS (sT1 rfl) sB0 sF0) ?_
      refine AL_cons (LR_load (at_tmp 13 _) na30 rfl rfl) (sS (sT1 rfl) (sB1 rfl) sF0) ?_
      refine AL_cons (LR_move (at_tmp 1 _) rfl) (sS (sT1 rfl) sB0 sF0) ?_
      refine AL_cons (LR_bin (at_tmp 14 _) (at_tmp 15 _) (shl_U64 a0_0 (a1.toNat : Int) (Int.natCast_nonneg _)) rfl) (sS (sA (sT1 rfl) (sT1 rfl)) sB0 sF0) ?_
      refine AL_cons (LR_fieldAddr (off := 0) (o := 1) (at_tmp 2 _) (fun b w => fa42_1 b 0 w) rfl) (sS (sT1 rfl) sB0 sF0) ?_
      refine AL_cons (LR_load (at_tmp 17 _) na30 rfl rfl) (sS (sT1 rfl) (sB1 rfl) sF0) ?_
      refine AL_cons (LR_move (at_tmp 1 _) rfl) (sS (sT1 rfl) sB0 sF0) ?_
      refine AL_cons (LR_bin (at_c (v' := U8 (64#8)) rfl) (at_tmp 19 _) (sub_U8 (64#8) a1) rfl) (sS (sA sT0 (sT1 rfl)) sB0 sF0) ?_
      refine AL_cons (LR_bin (at_tmp 18 _) (at_tmp 20 _) (shr_U64 a0_1 (((64#8) - a1).toNat : Int) (Int.natCast_nonneg _)) rfl) (sS (sA (sT1 rfl) (sT1 rfl)) sB0 sF0) ?_
      refine AL_cons (LR_bin (at_tmp 16 _) (at_tmp 21 _) (or_U64 (a0_0 <<< a1.toNat) (a0_1 >>> ((64#8) - a1).toNat)) rfl) (sS (sA (sT1 rfl) (sT1 rfl)) sB0 sF0) ?_
      refine AL_cons (LR_fieldAddr (off := 0) (o := 1) (at_tmp 2 _) (fun b w => fa42_1 b 0 w) rfl) (sS (sT1 rfl) sB0 sF0) ?_
      refine AL_cons (LR_load (at_tmp 23 _) na30 rfl rfl) (sS (sT1 rfl) (sB1 rfl) sF0) ?_
      refine AL_cons (LR_move (at_tmp 1 _) rfl) (sS (sT1 rfl) sB0 sF0) ?_
      refine AL_cons (LR_bin (at_tmp 24 _) (at_tmp 25 _) (shl_U64 a0_1 (a1.toNat : Int) (Int.natCast_nonneg _)) rfl) (sS (sA (sT1 rfl) (sT1 rfl)) sB0 sF0) ?_
      refine AL_cons (bl42 (parts_cons (i := 0) (off := 0) (at_tmp 22 _) (cells_one (one_is rfl)) rfl rfl (parts_cons (i := 1) (off := 1) (at_tmp 26 _) (cells_one (one_is rfl)) rfl rfl parts_nil)) rfl rfl) (sS (sA (sT1 rfl) (sA (sT1 rfl) sT0)) sB0 sF0) ?_
      refine AL_cons (LR_store (at_tmp 4 _) (at_tmp 27 _) (cells_agg _) (onC (one_is rfl) (onC (one_is rfl) onN)) sz42 rfl rfl) (sS (sA (sT1 rfl) (sT1 rfl)) (sB1 rfl) sF0) ?_
      refine AL_nil ?_
      refine thenN ?_
      refine AW_ret ?_
      subst hr
      exact res1 rfl (rvC rfl rfl ag42 sz42 rfl)
/-- wide.ShrJam -/
def F370_2 (x1 : BitVec 64) (x3 : BitVec 64) : BitVec 64 × BitVec 64 := (x1, x3)
def F370_3 (x1 : BitVec 64) (x2 : BitVec 64) (x4 : Bool) : BitVec 64 × BitVec 64 := bif x4 then F370_2 x1 (x2 ||| (1#64)) else F370_2 x1 x2
def F370_1 (a0_0 : BitVec 64) (a0_1 : BitVec 64) (a1 : BitVec 8) (x1 : BitVec 64) (x2 : BitVec 64) : BitVec 64 × BitVec 64 := lt (F206 x1 x2 a1) fun y5 => F370_3 x1 x2 (!((y5.1 == a0_0) && (y5.2 == a0_1)))
def F370 (a0_0 : BitVec 64) (a0_1 : BitVec 64) (a1 : BitVec 8) : BitVec 64 × BitVec 64 := lt (F217 a0_0 a0_1 a1) fun y6 => F370_1 a0_0 a0_1 a1 y6.1 y6.2
theorem C370 (a0_0 : BitVec 64) (a0_1 : BitVec 64) (a1 : BitVec 8) (r : BitVec 64 × BitVec 64) (hr : r = F370 a0_0 a0_1 a1) : Aw.Fn Hfaa.prog 370 [agg [is (U64 a0_0), is (U64 a0_1)], is (U8 a1)] (agg [is (U64 r.1), is (U64 r.2)]) := by
  refine fn_intro Hfaa.func370 rfl rfl rfl ?_
  intro bn0 w0 H0
  refine AW_seq1 ?_
  refine AW_region ?_
  refine AL_cons (LR_box (at_tmp 0 _) (cells_agg _) rfl) (sS (sT1 rfl) sB0 (sF1 rfl)) ?_
  refine AL_cons (zl42 rfl) (sS sT0 sB0 (sF1 rfl)) ?_
  refine AL_nil ?_
  refine thenN ?_
  refine AW_cut (σ := BitVec 64 × BitVec 64) (fun v => ⟨[(1, .inl (is (U8 a1))), (2, .inr (.inl (2, 0))), (4, .inr (.inl (4, 0))), (5, .inr (.inl (5, 0)))], [(2, pb 42 [is (U64 a0_0), is (U64 a0_1)]), (4, pb 42 [is (U64 (0#64)), is (U64 (0#64))]), (5, pb 42 [is (U64 v.1), is (U64 v.2)])]⟩) (fun v => r = F370_1 a0_0 a0_1 a1 v.1 v.2) ?_ ?_
  · skip
    refine AW_region ?_
    refine AL_cons (LR_loads (at_tmp 2 _) ag42 sz42 rfl rfl rfl) (sS (sT1 rfl) (sB1 rfl) sF0) ?_
    refine AL_cons (LR_move (at_tmp 1 _) rfl) (sS (sT1 rfl) sB0 sF0) ?_
    obtain ⟨y6, hy6, hr⟩ := lt_some hr
    refine AL_cons (LR_call Hfaa.func217 rfl rfl (C217 a0_0 a0_1 a1 y6 hy6) (all_cons (at_tmp 6 _) (all_cons (at_tmp 7 _) all_nil)) rfl) (sS (sA (sT1 rfl) (sA (sT1 rfl) sT0)) sB0 sF0) ?_
    refine AL_cons (zl42 rfl) (sS sT0 sB0 (sF1 rfl)) ?_
    refine AL_cons (LR_store (at_tmp 5 _) (at_tmp 8 _) (cells_agg _) (onC (one_is rfl) (onC (one_is rfl) onN)) sz42 rfl rfl) (sS (sA (sT1 rfl) (sT1 rfl)) (sB1 rfl) sF0) ?_
    refine AL_nil ?_
    exact thenN (cutLeaf (v := (y6.1, y6.2)) hr (weak0 ((sT rfl (sT rfl (sT rfl (sT rfl sT0))))) (sub_keep (sub_keep (sub_keep sub_nil)))))
  · rintro ⟨x1, x2⟩ hr
    show AW Hfaa.prog _ _ _ ⟨[(1, .inl (is (U8 a1))), (2, .inr (.inl (2, 0))), (4, .inr (.inl (4, 0))), (5, .inr (.inl (5, 0)))], [(2, pb 42 [is (U64 a0_0), is (U64 a0_1)]), (4, pb 42 [is (U64 (0#64)), is (U64 (0#64))]), (5, pb 42 [is (U64 x1), is (U64 x2)])]⟩
    have hr : r = F370_1 a0_0 a0_1 a1 x1 x2 := hr
    refine AW_cut (σ := BitVec 64) (fun v => ⟨[(4, .inr (.inl (4, 0))), (5, .inr (.inl (5, 0)))], [(4, pb 42 [is (U64 (0#64)), is (U64 (0#64))]), (5, pb 42 [is (U64 x1), is (U64 v)])]⟩) (fun v => r = F370_2 x1 v) ?_ ?_
    · skip
      refine AW_cut (σ := Bool) (fun v => ⟨[(4, .inr (.inl (4, 0))), (5, .inr (.inl (5, 0))), (13, .inl (is (Bl v)))], [(4, pb 42 [is (U64 (0#64)), is (U64 (0#64))]), (5, pb 42 [is (U64 x1), is (U64 x2)])]⟩) (fun v => r = F370_3 x1 x2 v) ?_ ?_
      · skip
        obtain ⟨y5, hy5, hr⟩ := lt_some hr
        refine AW_draw mixed
          (lrC (LR_loads (at_tmp 5 _) ag42 sz42 rfl rfl rfl)
          (lrC (LR_move (at_tmp 1 _) rfl)
          (lrC (LR_call Hfaa.func206 rfl rfl (C206 x1 x2 a1 y5 hy5) (all_cons (at_tmp 9 _) (all_cons (at_tmp 10 _) all_nil)) rfl)
          (lrC (LR_loads (at_tmp 2 _) ag42 sz42 rfl rfl rfl)
          (lrC (LR_binA (at_tmp 11 _) (at_tmp 12 _) (neqA42 y5.1 y5.2 a0_0 a0_1) rfl)
          lrN)))))
          (by kernel_rfl)
          (saC (sS (sT1 rfl) (sB1 rfl) sF0) (saC (sS (sT1 rfl) sB0 sF0) (saC (sS (sA (sT1 rfl) (sA (sT1 rfl) sT0)) sB0 sF0) (saC (sS (sT1 rfl) (sB1 rfl) sF0) (saC (sS (sA (sT1 rfl) (sT1 rfl)) sB0 sF0) saN))))) ?_
        exact thenN (cutLeaf (v := !((y5.1 == a0_0) && (y5.2 == a0_1))) hr (weak0 ((sT rfl (sT rfl (sT rfl sT0)))) (sub_drop (sub_keep (sub_keep sub_nil)))))
      · rintro x4 hr
        show AW Hfaa.prog _ _ _ ⟨[(4, .inr (.inl (4, 0))), (5, .inr (.inl (5, 0))), (13, .inl (is (Bl x4)))], [(4, pb 42 [is (U64 (0#64)), is (U64 (0#64))]), (5, pb 42 [is (U64 x1), is (U64 x2)])]⟩
        have hr : r = F370_3 x1 x2 x4 := hr
        refine AW_condT (b := x4) rfl (fun h => ?_) (fun h => ?_)
        · have hr := hr.trans (cond_t h)
          clear h
          refine AW_region ?_
          refine AL_cons (LR_fieldAddr (off := 0) (o := 1) (at_tmp 5 _) (fun b w => fa42_1 b 0 w) rfl) (sS (sT1 rfl) sB0 sF0) ?_
          refine AL_cons (LR_load (at_tmp 14 _) na30 rfl rfl) (sS (sT1 rfl) (sB1 rfl) sF0) ?_
          refine AL_cons (LR_bin (at_tmp 15 _) (at_c (v' := U64 (1#64)) rfl) (or_U64 x2 (1#64)) rfl) (sS (sA (sT1 rfl) sT0) sB0 sF0) ?_
          refine AL_cons (LR_fieldAddr (off := 0) (o := 1) (at_tmp 5 _) (fun b w => fa42_1 b 0 w) rfl) (sS (sT1 rfl) sB0 sF0) ?_
          refine AL_cons (LR_store (at_tmp 17 _) (at_tmp 16 _) (cells_one (one_is rfl)) (onC (one_is rfl) onN) sz30 rfl rfl) (sS (sA (sT1 rfl) (sT1 rfl)) (sB1 rfl) sF0) ?_
          refine AL_nil ?_
          exact thenN (cutLeaf (v := x2 ||| (1#64)) hr (weak0 ((sT rfl (sT rfl sT0))) (sub_keep (sub_keep sub_nil))))
        · have hr := hr.trans (cond_f h)
          clear h
          refine AW_skip ?_
          exact thenN (cutLeaf (v := x2) hr (weak0 ((sT rfl (sT rfl sT0))) (sub_keep (sub_keep sub_nil))))
    · rintro x3 hr
      show AW Hfaa.prog _ _ _ ⟨[(4, .inr (.inl (4, 0))), (5, .inr (.inl (5, 0)))], [(4, pb 42 [is (U64 (0#64)), is (U64 (0#64))]), (5, pb 42 [is (U64 x1), is (U64 x3)])]⟩
      have hr : r = F370_2 x1 x3 := hr
      refine AW_seq1 ?_
      refine AW_region ?_
      refine AL_cons (LR_loads (at_tmp 5 _) ag42 sz42 rfl rfl rfl) (sS (sT1 rfl) (sB1 rfl) sF0) ?_
      refine AL_cons (LR_store (at_tmp 4 _) (at_tmp 18 _) (cells_agg _) (onC (one_is rfl) (onC (one_is rfl) onN)) sz42 rfl rfl) (sS (sA (sT1 rfl) (sT1 rfl)) (sB1 rfl) sF0) ?_
      refine AL_nil ?_
      refine thenN ?_
      refine AW_ret ?_
      subst hr
      exact res1 rfl (rvC rfl rfl ag42 sz42 rfl)
/-- wide.Add -/
def F166_4 (x1 : BitVec 64) (x4 : BitVec 64) (x5 : Bool) : BitVec 64 × BitVec 64 × Bool := (x4, x1, x5)
def F166_6 (x1 : BitVec 64) (x3 : Bool) (x7 : BitVec 64) : BitVec 64 × BitVec 64 × Bool := F166_4 x1 x7 (x3 || (x7 == (0#64)))
def F166_5 (x1 : BitVec 64) (x2 : BitVec 64) (x3 : Bool) (x6 : Bool) : BitVec 64 × BitVec 64 × Bool := bif x6 then F166_6 x1 x3 (x2 + (1#64)) else F166_4 x1 x2 x3
def F166_3 (a0_0 : BitVec 64) (a0_1 : BitVec 64) (x1 : BitVec 64) (x2 : BitVec 64) (x3 : Bool) : BitVec 64 × BitVec 64 × Bool := F166_5 x1 x2 x3 (decide (x1.toNat < a0_1.toNat))
def F166_2 (a0_0 : BitVec 64) (a0_1 : BitVec 64) (x1 : BitVec 64) (x2 : BitVec 64) : BitVec 64 × BitVec 64 × Bool := F166_3 a0_0 a0_1 x1 x2 (decide (x2.toNat < a0_0.toNat))
def F166_1 (a0_0 : BitVec 64) (a0_1 : BitVec 64) (a1_0 : BitVec 64) (a1_1 : BitVec 64) (x1 : BitVec 64) : BitVec 64 × BitVec 64 × Bool := F166_2 a0_0 a0_1 x1 (a0_0 + a1_0)
def F166 (a0_0 : BitVec 64) (a0_1 : BitVec 64) (a1_0 : BitVec 64) (a1_1 : BitVec 64) : BitVec 64 × BitVec 64 × Bool := F166_1 a0_0 a0_1 a1_0 a1_1 (a0_1 + a1_1)
theorem C166 (a0_0 : BitVec 64) (a0_1 : BitVec 64) (a1_0 : BitVec 64) (a1_1 : BitVec 64) (r : BitVec 64 × BitVec 64 × Bool) (hr : r = F166 a0_0 a0_1 a1_0 a1_1) : Aw.Fn Hfaa.prog 166 [agg [is (U64 a0_0), is (U64 a0_1)], agg [is (U64 a1_0), is (U64 a1_1)]] (tup [agg [is (U64 r.1), is (U64 r.2.1)], is (Bl r.2.2)]) := by
  refine fn_intro Hfaa.func166 rfl rfl rfl ?_
  intro bn0 w0 H0
  refine AW_seq1 ?_
  refine AW_region ?_
  refine AL_cons (LR_box (at_tmp 0 _) (cells_agg _) rfl) (sS (sT1 rfl) sB0 (sF1 rfl)) ?_
  refine AL_cons (LR_box (at_tmp 1 _) (cells_agg _) rfl) (sS (sT1 rfl) sB0 (sF1 rfl)) ?_
  refine AL_cons (zl42 rfl) (sS sT0 sB0 (sF1 rfl)) ?_
  refine AL_cons (LR_assign (at_c (v' := Bl false) rfl) rfl) (sS sT0 sB0 sF0) ?_
  refine AL_nil ?_
  refine thenN ?_
  refine AW_cut (σ := BitVec 64) (fun v => ⟨[(2, .inr (.inl (2, 0))), (3, .inr (.inl (3, 0))), (4, .inr (.inl (4, 0))), (6, .inl (is (U64 v)))], [(2, pb 42 [is (U64 a0_0), is (U64 a0_1)]), (3, pb 42 [is (U64 a1_0), is (U64 a1_1)]), (4, pb 42 [is (U64 (0#64)), is (U64 (0#64))])]⟩) (fun v => r = F166_1 a0_0 a0_1 a1_0 a1_1 v) ?_ ?_
  · skip
    refine AW_region ?_
    refine AL_cons (LR_fieldAddr (off := 0) (o := 1) (at_tmp 2 _) (fun b w => fa42_1 b 0 w) rfl) (sS (sT1 rfl) sB0 sF0) ?_
    refine AL_cons (LR_load (at_tmp 9 _) na30 rfl rfl) (sS (sT1 rfl) (sB1 rfl) sF0) ?_
    refine AL_cons (LR_fieldAddr (off := 0) (o := 1) (at_tmp 3 _) (fun b w => fa42_1 b 0 w) rfl) (sS (sT1 rfl) sB0 sF0) ?_
    refine AL_cons (LR_load (at_tmp 11 _) na30 rfl rfl) (sS (sT1 rfl) (sB1 rfl) sF0) ?_
    refine AL_cons (LR_bin (at_tmp 10 _) (at_tmp 12 _) (add_U64 a0_1 a1_1) rfl) (sS (sA (sT1 rfl) (sT1 rfl)) sB0 sF0) ?_
    refine AL_cons (LR_assign (at_tmp 13 _) rfl) (sS (sT1 rfl) sB0 sF0) ?_
    refine AL_nil ?_
    exact thenN (cutLeaf (v := a0_1 + a1_1) hr (weak0 ((sT rfl (sT rfl (sT rfl (sT rfl sT0))))) (sub_keep (sub_keep (sub_keep sub_nil)))))
  · rintro x1 hr
    show AW Hfaa.prog _ _ _ ⟨[(2, .inr (.inl (2, 0))), (3, .inr (.inl (3, 0))), (4, .inr (.inl (4, 0))), (6, .inl (is (U64 x1)))], [(2, pb 42 [is (U64 a0_0), is (U64 a0_1)]), (3, pb 42 [is (U64 a1_0), is (U64 a1_1)]), (4, pb 42 [is (U64 (0#64)), is (U64 (0#64))])]⟩
    have hr : r = F166_1 a0_0 a0_1 a1_0 a1_1 x1 := hr
    refine AW_cut (σ := BitVec 64) (fun v => ⟨[(2, .inr (.inl (2, 0))), (4, .inr (.inl (4, 0))), (6, .inl (is (U64 x1))), (7, .inl (is (U64 v)))], [(2, pb 42 [is (U64 a0_0), is (U64 a0_1)]), (4, pb 42 [is (U64 (0#64)), is (U64 (0#64))])]⟩) (fun v => r = F166_2 a0_0 a0_1 x1 v) ?_ ?_
    · skip
      refine AW_region ?_
      refine AL_cons (LR_fieldAddr (off := 0) (o := 0) (at_tmp 2 _) (fun b w => fa42_0 b 0 w) rfl) (sS (sT1 rfl) sB0 sF0) ?_
      refine AL_cons (LR_load (at_tmp 14 _) na30 rfl rfl) (sS (sT1 rfl) (sB1 rfl) sF0) ?_
      refine AL_cons (LR_fieldAddr (off := 0) (o := 0) (at_tmp 3 _) (fun b w => fa42_0 b 0 w) rfl) (sS (sT1 rfl) sB0 sF0) ?_
      refine AL_cons (LR_load (at_tmp 16 _) na30 rfl rfl) (sS (sT1 rfl) (sB1 rfl) sF0) ?_
      refine AL_cons (LR_bin (at_tmp 15 _) (at_tmp 17 _) (add_U64 a0_0 a1_0) rfl) (sS (sA (sT1 rfl) (sT1 rfl)) sB0 sF0) ?_
      refine AL_cons (LR_assign (at_tmp 18 _) rfl) (sS (sT1 rfl) sB0 sF0) ?_
      refine AL_nil ?_
      exact thenN (cutLeaf (v := a0_0 + a1_0) hr (weak0 ((sT rfl (sT rfl (sT rfl (sT rfl sT0))))) (sub_keep (sub_drop (sub_keep sub_nil)))))
    · rintro x2 hr
      show AW Hfaa.prog _ _ _ ⟨[(2, .inr (.inl (2, 0))), (4, .inr (.inl (4, 0))), (6, .inl (is (U64 x1))), (7, .inl (is (U64 x2)))], [(2, pb 42 [is (U64 a0_0), is (U64 a0_1)]), (4, pb 42 [is (U64 (0#64)), is (U64 (0#64))])]⟩
      have hr : r = F166_2 a0_0 a0_1 x1 x2 := hr
      refine AW_cut (σ := Bool) (fun v => ⟨[(2, .inr (.inl (2, 0))), (4, .inr (.inl (4, 0))), (6, .inl (is (U64 x1))), (7, .inl (is (U64 x2))), (8, .inl (is (Bl v)))], [(2, pb 42 [is (U64 a0_0), is (U64 a0_1)]), (4, pb 42 [is (U64 (0#64)), is (U64 (0#64))])]⟩) (fun v => r = F166_3 a0_0 a0_1 x1 x2 v) ?_ ?_
      · skip
        refine AW_region ?_
        refine AL_cons (LR_move (at_tmp 7 _) rfl) (sS (sT1 rfl) sB0 sF0) ?_
        refine AL_cons (LR_fieldAddr (off := 0) (o := 0) (at_tmp 2 _) (fun b w => fa42_0 b 0 w) rfl) (sS (sT1 rfl) sB0 sF0) ?_
        refine AL_cons (LR_load (at_tmp 20 _) na30 rfl rfl) (sS (sT1 rfl) (sB1 rfl) sF0) ?_
        refine AL_cons (LR_bin (at_tmp 19 _) (at_tmp 21 _) (lss_U64 x2 a0_0) rfl) (sS (sA (sT1 rfl) (sT1 rfl)) sB0 sF0) ?_
        refine AL_cons (LR_assign (at_tmp 22 _) rfl) (sS (sT1 rfl) sB0 sF0) ?_
        refine AL_nil ?_
        exact thenN (cutLeaf (v := decide (x2.toNat < a0_0.toNat)) hr (weak0 ((sT rfl (sT rfl (sT rfl (sT rfl (sT rfl sT0)))))) (sub_keep (sub_keep sub_nil))))
      · rintro x3 hr
        show AW Hfaa.prog _ _ _ ⟨[(2, .inr (.inl (2, 0))), (4, .inr (.inl (4, 0))), (6, .inl (is (U64 x1))), (7, .inl (is (U64 x2))), (8, .inl (is (Bl x3)))], [(2, pb 42 [is (U64 a0_0), is (U64 a0_1)]), (4, pb 42 [is (U64 (0#64)), is (U64 (0#64))])]⟩
        have hr : r = F166_3 a0_0 a0_1 x1 x2 x3 := hr
        refine AW_cut (σ := BitVec 64 × Bool) (fun v => ⟨[(4, .inr (.inl (4, 0))), (6, .inl (is (U64 x1))), (7, .inl (is (U64 v.1))), (8, .inl (is (Bl v.2)))], [(4, pb 42 [is (U64 (0#64)), is (U64 (0#64))])]⟩) (fun v => r = F166_4 x1 v.1 v.2) ?_ ?_
        · skip
          refine AW_cut (σ := Bool) (fun v => ⟨[(4, .inr (.inl (4, 0))), (6, .inl (is (U64 x1))), (7, .inl (is (U64 x2))), (8, .inl (is (Bl x3))), (26, .inl (is (Bl v)))], [(4, pb 42 [is (U64 (0#64)), is (U64 (0#64))])]⟩) (fun v => r = F166_5 x1 x2 x3 v) ?_ ?_
          · skip
            refine AW_region ?_
            refine AL_cons (LR_move (at_tmp 6 _) rfl) (sS (sT1 rfl) sB0 sF0) ?_
            refine AL_cons (LR_fieldAddr (off := 0) (o := 1) (at_tmp 2 _) (fun b w => fa42_1 b 0 w) rfl) (sS (sT1 rfl) sB0 sF0) ?_
            refine AL_cons (LR_load (at_tmp 24 _) na30 rfl rfl) (sS (sT1 rfl) (sB1 rfl) sF0) ?_
            refine AL_cons (LR_bin (at_tmp 23 _) (at_tmp 25 _) (lss_U64 x1 a0_1) rfl) (sS (sA (sT1 rfl) (sT1 rfl)) sB0 sF0) ?_
            refine AL_nil ?_
            exact thenN (cutLeaf (v := decide (x1.toNat < a0_1.toNat)) hr (weak0 ((sT rfl (sT rfl (sT rfl (sT rfl (sT rfl sT0)))))) (sub_drop (sub_keep sub_nil))))
          · rintro x6 hr
            show AW Hfaa.prog _ _ _ ⟨[(4, .inr (.inl (4, 0))), (6, .inl (is (U64 x1))), (7, .inl (is (U64 x2))), (8, .inl (is (Bl x3))), (26, .inl (is (Bl x6)))], [(4, pb 42 [is (U64 (0#64)), is (U64 (0#64))])]⟩
            have hr : r = F166_5 x1 x2 x3 x6 := hr
            refine AW_condT (b := x6) rfl (fun h => ?_) (fun h => ?_)
            · have hr := hr.trans (cond_t h)
              clear h
              refine AW_cut (σ := BitVec 64) (fun v => ⟨[(4, .inr (.inl (4, 0))), (6, .inl (is (U64 x1))), (7, .inl (is (U64 v))), (8, .inl (is (Bl x3)))], [(4, pb 42 [is (U64 (0#64)), is (U64 (0#64))])]⟩) (fun v => r = F166_6 x1 x3 v) ?_ ?_
              · skip
                refine AW_region ?_
                refine AL_cons (LR_move (at_tmp 7 _) rfl) (sS (sT1 rfl) sB0 sF0) ?_
                refine AL_cons (LR_bin (at_tmp 27 _) (at_c (v' := U64 (1#64)) rfl) (add_U64 x2 (1#64)) rfl) (sS (sA (sT1 rfl) sT0) sB0 sF0) ?_
                refine AL_cons (LR_assign (at_tmp 28 _) rfl) (sS (sT1 rfl) sB0 sF0) ?_
                refine AL_nil ?_
                exact thenN (cutLeaf (v := x2 + (1#64)) hr (weak0 ((sT rfl (sT rfl (sT rfl (sT rfl sT0))))) (sub_keep sub_nil)))
              · rintro x7 hr
                show AW Hfaa.prog _ _ _ ⟨[(4, .inr (.inl (4, 0))), (6, .inl (is (U64 x1))), (7, .inl (is (U64 x7))), (8, .inl (is (Bl x3)))], [(4, pb 42 [is (U64 (0#64)), is (U64 (0#64))])]⟩
                have hr : r = F166_6 x1 x3 x7 := hr
                refine AW_region ?_
                refine AL_cons (LR_move (at_tmp 8 _) rfl) (sS (sT1 rfl) sB0 sF0) ?_
                refine AL_cons (LR_move (at_tmp 29 _) rfl) (sS (sT1 rfl) sB0 sF0) ?_
                refine AL_cutAt 3 ⟨[(4, .inr (.inl (4, 0))), (6, .inl (is (U64 x1))), (7, .inl (is (U64 x7))), (8, .inl (is (Bl x3))), (29, .inl (is (Bl x3))), (30, .inl (is (Bl x3))), (33, .inl (is (Bl (x3 || (x7 == (0#64))))))], [(4, pb 42 [is (U64 (0#64)), is (U64 (0#64))])]⟩ ?_ ?_
                · cases hb : x3
                  · skip
                    refine AL_cons (LR_on rfl rfl rfl (LR_move (at_tmp 7 _) rfl)) (sS (sT rfl (sT1 rfl)) sB0 sF0) ?_
                    refine AL_cons (LR_on rfl rfl rfl (LR_bin (at_tmp 31 _) (at_c (v' := U64 (0#64)) rfl) (eql_U64 x7 (0#64)) rfl)) (sS (sT rfl (sA (sT1 rfl) sT0)) sB0 sF0) ?_
                    refine AL_cons (LR_pick (b := false) (at_tmp 30 _) (at_c (v' := Bl true) rfl) (at_tmp 32 _) rfl) (sS (sA (sT1 rfl) (sA sT0 (sT1 rfl))) sB0 sF0) ?_
                    exact AL_nil ⟨rfl, weak0 ((sT rfl (sT rfl (sT rfl (sT rfl (sT rfl (sT rfl (sT rfl sT0)))))))) (sub_keep sub_nil)⟩
                  · skip
                    refine AL_cons (LR_off (b := true) rfl rfl rfl rfl) (sS (sT1 rfl) sB0 sF0) ?_
                    refine AL_cons (LR_off (b := true) rfl rfl rfl rfl) (sS (sT1 rfl) sB0 sF0) ?_
                    refine AL_cons (LR_pick (b := true) (at_tmp 30 _) (at_c (v' := Bl true) rfl) (at_tmp 32 _) rfl) (sS (sA (sT1 rfl) (sA sT0 (sT1 rfl))) sB0 sF0) ?_
                    exact AL_nil ⟨rfl, weak0 ((sT rfl (sT rfl (sT rfl (sT rfl (sT rfl (sT rfl (sT rfl sT0)))))))) (sub_keep sub_nil)⟩
                refine AL_cons (LR_assign (at_tmp 33 _) rfl) (sS (sT1 rfl) sB0 sF0) ?_
                refine AL_nil ?_
                exact thenN (cutLeaf (v := (x7, x3 || (x7 == (0#64)))) hr (weak0 ((sT rfl (sT rfl (sT rfl (sT rfl sT0))))) (sub_keep sub_nil)))
            · have hr := hr.trans (cond_f h)
              clear h
              refine AW_skip ?_
              exact thenN (cutLeaf (v := (x2, x3)) hr (weak0 ((sT rfl (sT rfl (sT rfl (sT rfl sT0))))) (sub_keep sub_nil)))
        · rintro ⟨x4, x5⟩ hr
          show AW Hfaa.prog _ _ _ ⟨[(4, .inr (.inl (4, 0))), (6, .inl (is (U64 x1))), (7, .inl (is (U64 x4))), (8, .inl (is (Bl x5)))], [(4, pb 42 [is (U64 (0#64)), is (U64 (0#64))])]⟩
          have hr : r = F166_4 x1 x4 x5 := hr
          refine AW_seq1 ?_
          refine AW_region ?_
          refine AL_cons (LR_move (at_tmp 7 _) rfl) (sS (sT1 rfl) sB0 sF0) ?_
          refine AL_cons (LR_move (at_tmp 6 _) rfl) (sS (sT1 rfl) sB0 sF0) ?_
          refine AL_cons (bl42 (parts_cons (i := 0) (off := 0) (at_tmp 34 _) (cells_one (one_is rfl)) rfl rfl (parts_cons (i := 1) (off := 1) (at_tmp 35 _) (cells_one (one_is rfl)) rfl rfl parts_nil)) rfl rfl) (sS (sA (sT1 rfl) (sA (sT1 rfl) sT0)) sB0 sF0) ?_
          refine AL_cons (LR_move (at_tmp 8 _) rfl) (sS (sT1 rfl) sB0 sF0) ?_
          refine AL_cons (LR_store (at_tmp 4 _) (at_tmp 36 _) (cells_agg _) (onC (one_is rfl) (onC (one_is rfl) onN)) sz42 rfl rfl) (sS (sA (sT1 rfl) (sT1 rfl)) (sB1 rfl) sF0) ?_
          refine AL_cons (LR_assign (at_tmp 37 _) rfl) (sS (sT1 rfl) sB0 sF0) ?_
          refine AL_nil ?_
          refine thenN ?_
          refine AW_ret ?_
          subst hr
          exact res2 rfl (rvC rfl rfl ag42 sz42 rfl) (rvT rfl)
/-- wide.Sub -/
def F371_2 (a0_0 : BitVec 64) (a0_1 : BitVec 64) (a1_0 : BitVec 64) (a1_1 : BitVec 64) (x2 : BitVec 64) : BitVec 64 × BitVec 64 × Bool := lt (F362 a0_0 a0_1 a1_0 a1_1) fun y2 => (x2, a0_1 - a1_1, decide (y2 < 0))
def F371_3 (a0_0 : BitVec 64) (a0_1 : BitVec 64) (a1_0 : BitVec 64) (a1_1 : BitVec 64) (x1 : BitVec 64) (x3 : Bool) : BitVec 64 × BitVec 64 × Bool := bif x3 then F371_2 a0_0 a0_1 a1_0 a1_1 (x1 - (1#64)) else F371_2 a0_0 a0_1 a1_0 a1_1 x1
def F371_1 (a0_0 : BitVec 64) (a0_1 : BitVec 64) (a1_0 : BitVec 64) (a1_1 : BitVec 64) (x1 : BitVec 64) : BitVec 64 × BitVec 64 × Bool := F371_3 a0_0 a0_1 a1_0 a1_1 x1 (decide (a0_1.toNat < a1_1.toNat))
def F371 (a0_0 : BitVec 64) (a0_1 : BitVec 64) (a1_0 : BitVec 64) (a1_1 : BitVec 64) : BitVec 64 × BitVec 64 × Bool := F371_1 a0_0 a0_1 a1_0 a1_1 (a0_0 - a1_0)
theorem C371 (a0_0 : BitVec 64) (a0_1 : BitVec 64) (a1_0 : BitVec 64) (a1_1 : BitVec 64) (r : BitVec 64 × BitVec 64 × Bool) (hr : r = F371 a0_0 a0_1 a1_0 a1_1) : Aw.Fn Hfaa.prog 371 [agg [is (U64 a0_0), is (U64 a0_1)], agg [is (U64 a1_0), is (U64 a1_1)]] (tup [agg [is (U64 r.1), is (U64 r.2.1)], is (Bl r.2.2)]) := by
  refine fn_intro Hfaa.func371 rfl rfl rfl ?_
  intro bn0 w0 H0
  refine AW_seq1 ?_
  refine AW_region ?_
  refine AL_cons (LR_box (at_tmp 0 _) (cells_agg _) rfl) (sS (sT1 rfl) sB0 (sF1 rfl)) ?_
  refine AL_cons (LR_box (at_tmp 1 _) (cells_agg _) rfl) (sS (sT1 rfl) sB0 (sF1 rfl)) ?_
  refine AL_cons (zl42 rfl) (sS sT0 sB0 (sF1 rfl)) ?_
  refine AL_cons (LR_assign (at_c (v' := Bl false) rfl) rfl) (sS sT0 sB0 sF0) ?_
  refine AL_nil ?_
  refine thenN ?_
  refine AW_cut (σ := BitVec 64) (fun v => ⟨[(2, .inr (.inl (2, 0))), (3, .inr (.inl (3, 0))), (4, .inr (.inl (4, 0))), (6, .inl (is (U64 v)))], [(2, pb 42 [is (U64 a0_0), is (U64 a0_1)]), (3, pb 42 [is (U64 a1_0), is (U64 a1_1)]), (4, pb 42 [is (U64 (0#64)), is (U64 (0#64))])]⟩) (fun v => r = F371_1 a0_0 a0_1 a1_0 a1_1 v) ?_ ?_
  · skip
    refine AW_region ?_
    refine AL_cons (LR_fieldAddr (off := 0) (o := 0) (at_tmp 2 _) (fun b w => fa42_0 b 0 w) rfl) (sS (sT1 rfl) sB0 sF0) ?_
    refine AL_cons (LR_load (at_tmp 7 _) na30 rfl rfl) (sS (sT1 rfl) (sB1 rfl) sF0) ?_
    refine AL_cons (LR_fieldAddr (off := 0) (o := 0) (at_tmp 3 _) (fun b w => fa42_0 b 0 w) rfl) (sS (sT1 rfl) sB0 sF0) ?_
    refine AL_cons (LR_load (at_tmp 9 _) na30 rfl rfl) (sS (sT1 rfl) (sB1 rfl) sF0) ?_
    refine AL_cons (LR_bin (at_tmp 8 _) (at_tmp 10 _) (sub_U64 a0_0 a1_0) rfl) (sS (sA (sT1 rfl) (sT1 rfl)) sB0 sF0) ?_
    refine AL_cons (LR_assign (at_tmp 11 _) rfl) (sS (sT1 rfl) sB0 sF0) ?_
    refine AL_nil ?_
    exact thenN (cutLeaf (v := a0_0 - a1_0) hr (weak0 ((sT rfl (sT rfl (sT rfl (sT rfl sT0))))) (sub_keep (sub_keep (sub_keep sub_nil)))))
  · rintro x1 hr
    show AW Hfaa.prog _ _ _ ⟨[(2, .inr (.inl (2, 0))), (3, .inr (.inl (3, 0))), (4, .inr (.inl (4, 0))), (6, .inl (is (U64 x1)))], [(2, pb 42 [is (U64 a0_0), is (U64 a0_1)]), (3, pb 42 [is (U64 a1_0), is (U64 a1_1)]), (4, pb 42 [is (U64 (0#64)), is (U64 (0#64))])]⟩
    have hr : r = F371_1 a0_0 a0_1 a1_0 a1_1 x1 := hr
    refine AW_cut (σ := BitVec 64) (fun v => ⟨[(2, .inr (.inl (2, 0))), (3, .inr (.inl (3, 0))), (4, .inr (.inl (4, 0))), (6, .inl (is (U64 v)))], [(2, pb 42 [is (U64 a0_0), is (U64 a0_1)]), (3, pb 42 [is (U64 a1_0), is (U64 a1_1)]), (4, pb 42 [is (U64 (0#64)), is (U64 (0#64))])]⟩) (fun v => r = F371_2 a0_0 a0_1 a1_0 a1_1 v) ?_ ?_
    · skip
      refine AW_cut (σ := Bool) (fun v => ⟨[(2, .inr (.inl (2, 0))), (3, .inr (.inl (3, 0))), (4, .inr (.inl (4, 0))), (6, .inl (is (U64 x1))), (16, .inl (is (Bl v)))], [(2, pb 42 [is (U64 a0_0), is (U64 a0_1)]), (3, pb 42 [is (U64 a1_0), is (U64 a1_1)]), (4, pb 42 [is (U64 (0#64)), is (U64 (0#64))])]⟩) (fun v => r = F371_3 a0_0 a0_1 a1_0 a1_1 x1 v) ?_ ?_
      · skip
        refine AW_region ?_
        refine AL_cons (LR_fieldAddr (off := 0) (o := 1) (at_tmp 2 _) (fun b w => fa42_1 b 0 w) rfl) (sS (sT1 rfl) sB0 sF0) ?_
        refine AL_cons (LR_load (at_tmp 12 _) na30 rfl rfl) (sS (sT1 rfl) (sB1 rfl) sF0) ?_
        refine AL_cons (LR_fieldAddr (off := 0) (o := 1) (at_tmp 3 _) (fun b w => fa42_1 b 0 w) rfl) (sS (sT1 rfl) sB0 sF0) ?_
        refine AL_cons (LR_load (at_tmp 14 _) na30 rfl rfl) (sS (sT1 rfl) (sB1 rfl) sF0) ?_
        refine AL_cons (LR_bin (at_tmp 13 _) (at_tmp 15 _) (lss_U64 a0_1 a1_1) rfl) (sS (sA (sT1 rfl) (sT1 rfl)) sB0 sF0) ?_
        refine AL_nil ?_
        exact thenN (cutLeaf (v := decide (a0_1.toNat < a1_1.toNat)) hr (weak0 ((sT rfl (sT rfl (sT rfl (sT rfl (sT rfl sT0)))))) (sub_keep (sub_keep (sub_keep sub_nil)))))
      · rintro x3 hr
        show AW Hfaa.prog _ _ _ ⟨[(2, .inr (.inl (2, 0))), (3, .inr (.inl (3, 0))), (4, .inr (.inl (4, 0))), (6, .inl (is (U64 x1))), (16, .inl (is (Bl x3)))], [(2, pb 42 [is (U64 a0_0), is (U64 a0_1)]), (3, pb 42 [is (U64 a1_0), is (U64 a1_1)]), (4, pb 42 [is (U64 (0#64)), is (U64 (0#64))])]⟩
        have hr : r = F371_3 a0_0 a0_1 a1_0 a1_1 x1 x3 := hr
        refine AW_condT (b := x3) rfl (fun h => ?_) (fun h => ?_)
        · have hr := hr.trans (cond_t h)
          clear h
          refine AW_region ?_
          refine AL_cons (LR_move (at_tmp 6 _) rfl) (sS (sT1 rfl) sB0 sF0) ?_
          refine AL_cons (LR_bin (at_tmp 17 _) (at_c (v' := U64 (1#64)) rfl) (sub_U64 x1 (1#64)) rfl) (sS (sA (sT1 rfl) sT0) sB0 sF0) ?_
          refine AL_cons (LR_assign (at_tmp 18 _) rfl) (sS (sT1 rfl) sB0 sF0) ?_
          refine AL_nil ?_
          exact thenN (cutLeaf (v := x1 - (1#64)) hr (weak0 ((sT rfl (sT rfl (sT rfl (sT rfl sT0))))) (sub_keep (sub_keep (sub_keep sub_nil)))))
        · have hr := hr.trans (cond_f h)
          clear h
          refine AW_skip ?_
          exact thenN (cutLeaf (v := x1) hr (weak0 ((sT rfl (sT rfl (sT rfl (sT rfl sT0))))) (sub_keep (sub_keep (sub_keep sub_nil)))))
    · rintro x2 hr
      show AW Hfaa.prog _ _ _ ⟨[(2, .inr (.inl (2, 0))), (3, .inr (.inl (3, 0))), (4, .inr (.inl (4, 0))), (6, .inl (is (U64 x2)))], [(2, pb 42 [is (U64 a0_0), is (U64 a0_1)]), (3, pb 42 [is (U64 a1_0), is (U64 a1_1)]), (4, pb 42 [is (U64 (0#64)), is (U64 (0#64))])]⟩
      have hr : r = F371_2 a0_0 a0_1 a1_0 a1_1 x2 := hr
      refine AW_seq1 ?_
      obtain ⟨y2, hy2, hr⟩ := lt_some hr
      refine AW_draw mixed
        (lrC (LR_move (at_tmp 6 _) rfl)
        (lrC (LR_fieldAddr (off := 0) (o := 1) (at_tmp 2 _) (fun b w => fa42_1 b 0 w) rfl)
        (lrC (LR_load (at_tmp 20 _) na30 rfl rfl)
        (lrC (LR_fieldAddr (off := 0) (o := 1) (at_tmp 3 _) (fun b w => fa42_1 b 0 w) rfl)
        (lrC (LR_load (at_tmp 22 _) na30 rfl rfl)
        (lrC (LR_bin (at_tmp 21 _) (at_tmp 23 _) (sub_U64 a0_1 a1_1) rfl)
        (lrC (bl42 (parts_cons (i := 0) (off := 0) (at_tmp 19 _) (cells_one (one_is rfl)) rfl rfl (parts_cons (i := 1) (off := 1) (at_tmp 24 _) (cells_one (one_is rfl)) rfl rfl parts_nil)) rfl rfl)
        (lrC (LR_loads (at_tmp 2 _) ag42 sz42 rfl rfl rfl)
        (lrC (LR_loads (at_tmp 3 _) ag42 sz42 rfl rfl rfl)
        (lrC (LR_call Hfaa.func362 rfl rfl (C362 a0_0 a0_1 a1_0 a1_1 y2 hy2) (all_cons (at_tmp 26 _) (all_cons (at_tmp 27 _) all_nil)) rfl)
        (lrC (LR_bin (at_tmp 28 _) (at_c (v' := I8 0) rfl) (lss_I8 y2 0) rfl)
        (lrC (LR_store (at_tmp 4 _) (at_tmp 25 _) (cells_agg _) (onC (one_is rfl) (onC (one_is rfl) onN)) sz42 rfl rfl)
        (lrC (LR_assign (at_tmp 29 _) rfl)
        lrN)))))))))))))
        (by kernel_rfl)
        (saC (sS (sT1 rfl) sB0 sF0) (saC (sS (sT1 rfl) sB0 sF0) (saC (sS (sT1 rfl) (sB1 rfl) sF0) (saC (sS (sT1 rfl) sB0 sF0) (saC (sS (sT1 rfl) (sB1 rfl) sF0) (saC (sS (sA (sT1 rfl) (sT1 rfl)) sB0 sF0) (saC (sS (sA (sT1 rfl) (sA (sT1 rfl) sT0)) sB0 sF0) (saC (sS (sT1 rfl) (sB1 rfl) sF0) (saC (sS (sT1 rfl) (sB1 rfl) sF0) (saC (sS (sA (sT1 rfl) (sA (sT1 rfl) sT0)) sB0 sF0) (saC (sS (sA (sT1 rfl) sT0) sB0 sF0) (saC (sS (sA (sT1 rfl) (sT1 rfl)) (sB1 rfl) sF0) (saC (sS (sT1 rfl) sB0 sF0) saN))))))))))))) ?_
      refine thenN ?_
      refine AW_ret ?_
      subst hr
      exact res2 rfl (rvC rfl rfl ag42 sz42 rfl) (rvT rfl)
/-- soft.jam -/
def F272_4 (N : Nat) (a1 : Int) (x2 : BitVec 8) (x4 : BitVec 64) (x5 : BitVec 64) : Option (BitVec 64 × Int) := some ((x5, w16 ((w16 (a1 + 64)) - (w16 (x2.toNat : Int)))))
def F272_5 (N : Nat) (a1 : Int) (x2 : BitVec 8) (x3 : BitVec 64) (x4 : BitVec 64) (x6 : Bool) : Option (BitVec 64 × Int) := bif x6 then F272_4 N a1 x2 x4 (x3 ||| (1#64)) else F272_4 N a1 x2 x4 x3
def F272_3 (N : Nat) (a1 : Int) (x2 : BitVec 8) (x3 : BitVec 64) (x4 : BitVec 64) : Option (BitVec 64 × Int) := F272_5 N a1 x2 x3 x4 (x4 != (0#64))
def F272_2 (N : Nat) (a0_0 : BitVec 64) (a0_1 : BitVec 64) (a1 : Int) (x2 : BitVec 8) : Option (BitVec 64 × Int) := lt (F206 a0_0 a0_1 x2) fun y4 => F272_3 N a1 x2 y4.1 y4.2
def F272_6 (N : Nat) (a0_0 : BitVec 64) (a0_1 : BitVec 64) (a1 : Int) (x1 : BitVec 8) (x7 : Bool) : Option (BitVec 64 × Int) := bif x7 then (F164 N a0_1).bind fun y5 => F272_2 N a0_0 a0_1 a1 (x1 + y5) else F272_2 N a0_0 a0_1 a1 x1
def F272_1 (N : Nat) (a0_0 : BitVec 64) (a0_1 : BitVec 64) (a1 : Int) (x1 : BitVec 8) : Option (BitVec 64 × Int) := F272_6 N a0_0 a0_1 a1 x1 (a0_0 == (0#64))
def F272 (N : Nat) (a0_0 : BitVec 64) (a0_1 : BitVec 64) (a1 : Int) : Option (BitVec 64 × Int) := (F164 N a0_0).bind fun y6 => F272_1 N a0_0 a0_1 a1 y6
theorem C272 (N : Nat) (a0_0 : BitVec 64) (a0_1 : BitVec 64) (a1 : Int) (r : BitVec 64 × Int) (hr : some r = F272 N a0_0 a0_1 a1) : Aw.Fn Hfaa.prog 272 [agg [is (U64 a0_0), is (U64 a0_1)], is (I16 a1)] (tup [is (U64 r.1), is (I16 r.2)]) := by
  refine fn_intro Hfaa.func272 rfl rfl rfl ?_
  intro bn0 w0 H0
  refine AW_seq1 ?_
  refine AW_region ?_
  refine AL_cons (LR_box (at_tmp 0 _) (cells_agg _) rfl) (sS (sT1 rfl) sB0 (sF1 rfl)) ?_
  refine AL_cons (LR_assign (at_c (v' := U64 (0#64)) rfl) rfl) (sS sT0 sB0 sF0) ?_
  refine AL_cons (LR_assign (at_c (v' := I16 0) rfl) rfl) (sS sT0 sB0 sF0) ?_
  refine AL_nil ?_
  refine thenN ?_
  refine AW_cut (σ := BitVec 8) (fun v => ⟨[(1, .inl (is (I16 a1))), (2, .inr (.inl (2, 0))), (6, .inl (is (U8 v)))], [(2, pb 42 [is (U64 a0_0), is (U64 a0_1)])]⟩) (fun v => some r = F272_1 N a0_0 a0_1 a1 v) ?_ ?_
  · skip
    refine AW_region ?_
    refine AL_cons (LR_fieldAddr (off := 0) (o := 0) (at_tmp 2 _) (fun b w => fa42_0 b 0 w) rfl) (sS (sT1 rfl) sB0 sF0) ?_
    refine AL_cons (LR_load (at_tmp 7 _) na30 rfl rfl) (sS (sT1 rfl) (sB1 rfl) sF0) ?_
    obtain ⟨y6, hy6, hr⟩ := bind_some hr
    refine AL_cons (LR_call Hfaa.func164 rfl rfl (C164 N a0_0 y6 hy6) (all_cons (at_tmp 8 _) all_nil) rfl) (sS (sA (sT1 rfl) sT0) sB0 sF0) ?_
    refine AL_cons (LR_assign (at_tmp 9 _) rfl) (sS (sT1 rfl) sB0 sF0) ?_
    refine AL_nil ?_
    exact thenN (cutLeaf (v := y6) hr (weak0 ((sT rfl (sT rfl (sT rfl sT0)))) (sub_keep sub_nil)))
  · rintro x1 hr
    show AW Hfaa.prog _ _ _ ⟨[(1, .inl (is (I16 a1))), (2, .inr (.inl (2, 0))), (6, .inl (is (U8 x1)))], [(2, pb 42 [is (U64 a0_0), is (U64 a0_1)])]⟩
    have hr : some r = F272_1 N a0_0 a0_1 a1 x1 := hr
    refine AW_cut (σ := BitVec 8) (fun v => ⟨[(1, .inl (is (I16 a1))), (2, .inr (.inl (2, 0))), (6, .inl (is (U8 v)))], [(2, pb 42 [is (U64 a0_0), is (U64 a0_1)])]⟩) (fun v => some r = F272_2 N a0_0 a0_1 a1 v) ?_ ?_
    · skip
      refine AW_cut (σ := Bool) (fun v => ⟨[(1, .inl (is (I16 a1))), (2, .inr (.inl (2, 0))), (6, .inl (is (U8 x1))), (12, .inl (is (Bl v)))], [(2, pb 42 [is (U64 a0_0), is (U64 a0_1)])]⟩) (fun v => some r = F272_6 N a0_0 a0_1 a1 x1 v) ?_ ?_
      · skip
        refine AW_region ?_
        refine AL_cons (LR_fieldAddr (off := 0) (o := 0) (at_tmp 2 _) (fun b w => fa42_0 b 0 w) rfl) (sS (sT1 rfl) sB0 sF0) ?_
        refine AL_cons (LR_load (at_tmp 10 _) na30 rfl rfl) (sS (sT1 rfl) (sB1 rfl) sF0) ?_
        refine AL_cons (LR_bin (at_tmp 11 _) (at_c (v' := U64 (0#64)) rfl) (eql_U64 a0_0 (0#64)) rfl) (sS (sA (sT1 rfl) sT0) sB0 sF0) ?_
        refine AL_nil ?_
        exact thenN (cutLeaf (v := a0_0 == (0#64)) hr (weak0 ((sT rfl (sT rfl (sT rfl (sT rfl sT0))))) (sub_keep sub_nil)))
      · rintro x7 hr
        show AW Hfaa.prog _ _ _ ⟨[(1, .inl (is (I16 a1))), (2, .inr (.inl (2, 0))), (6, .inl (is (U8 x1))), (12, .inl (is (Bl x7)))], [(2, pb 42 [is (U64 a0_0), is (U64 a0_1)])]⟩
        have hr : some r = F272_6 N a0_0 a0_1 a1 x1 x7 := hr
        refine AW_condT (b := x7) rfl (fun h => ?_) (fun h => ?_)
        · have hr := hr.trans (cond_t h)
          clear h
          refine AW_region ?_
          refine AL_cons (LR_move (at_tmp 6 _) rfl) (sS (sT1 rfl) sB0 sF0) ?_
          refine AL_cons (LR_fieldAddr (off := 0) (o := 1) (at_tmp 2 _) (fun b w => fa42_1 b 0 w) rfl) (sS (sT1 rfl) sB0 sF0) ?_
          refine AL_cons (LR_load (at_tmp 14 _) na30 rfl rfl) (sS (sT1 rfl) (sB1 rfl) sF0) ?_
          obtain ⟨y5, hy5, hr⟩ := bind_some hr
          refine AL_cons (LR_call Hfaa.func164 rfl rfl (C164 N a0_1 y5 hy5) (all_cons (at_tmp 15 _) all_nil) rfl) (sS (sA (sT1 rfl) sT0) sB0 sF0) ?_
          refine AL_cons (LR_bin (at_tmp 13 _) (at_tmp 16 _) (add_U8 x1 y5) rfl) (sS (sA (sT1 rfl) (sT1 rfl)) sB0 sF0) ?_
          refine AL_cons (LR_assign (at_tmp 17 _) rfl) (sS (sT1 rfl) sB0 sF0) ?_
          refine AL_nil ?_
          exact thenN (cutLeaf (v := x1 + y5) hr (weak0 ((sT rfl (sT rfl (sT rfl sT0)))) (sub_keep sub_nil)))
        · have hr := hr.trans (cond_f h)
          clear h
          refine AW_skip ?_
          exact thenN (cutLeaf (v := x1) hr (weak0 ((sT rfl (sT rfl (sT rfl sT0)))) (sub_keep sub_nil)))
    · rintro x2 hr
      show AW Hfaa.prog _ _ _ ⟨[(1, .inl (is (I16 a1))), (2, .inr (.inl (2, 0))), (6, .inl (is (U8 x2)))], [(2, pb 42 [is (U64 a0_0), is (U64 a0_1)])]⟩
      have hr : some r = F272_2 N a0_0 a0_1 a1 x2 := hr
      refine AW_cut (σ := BitVec 64 × BitVec 64) (fun v => ⟨[(1, .inl (is (I16 a1))), (2, .inr (.inl (2, 0))), (6, .inl (is (U8 x2)))], [(2, pb 42 [is (U64 v.1), is (U64 v.2)])]⟩) (fun v => some r = F272_3 N a1 x2 v.1 v.2) ?_ ?_
      · skip
        refine AW_region ?_
        refine AL_cons (LR_loads (at_tmp 2 _) ag42 sz42 rfl rfl rfl) (sS (sT1 rfl) (sB1 rfl) sF0) ?_
        refine AL_cons (LR_move (at_tmp 6 _) rfl) (sS (sT1 rfl) sB0 sF0) ?_
        obtain ⟨y4, hy4, hr⟩ := lt_some hr
        refine AL_cons (LR_call Hfaa.func206 rfl rfl (C206 a0_0 a0_1 x2 y4 hy4) (all_cons (at_tmp 18 _) (all_cons (at_tmp 19 _) all_nil)) rfl) (sS (sA (sT1 rfl) (sA (sT1 rfl) sT0)) sB0 sF0) ?_
        refine AL_cons (LR_store (at_tmp 2 _) (at_tmp 20 _) (cells_agg _) (onC (one_is rfl) (onC (one_is rfl) onN)) sz42 rfl rfl) (sS (sA (sT1 rfl) (sT1 rfl)) (sB1 rfl) sF0) ?_
        refine AL_nil ?_
        exact thenN (cutLeaf (v := (y4.1, y4.2)) hr (weak0 ((sT rfl (sT rfl (sT rfl sT0)))) (sub_keep sub_nil)))
      · rintro ⟨x3, x4⟩ hr
        show AW Hfaa.prog _ _ _ ⟨[(1, .inl (is (I16 a1))), (2, .inr (.inl (2, 0))), (6, .inl (is (U8 x2)))], [(2, pb 42 [is (U64 x3), is (U64 x4)])]⟩
        have hr : some r = F272_3 N a1 x2 x3 x4 := hr
        refine AW_cut (σ := BitVec 64) (fun v => ⟨[(1, .inl (is (I16 a1))), (2, .inr (.inl (2, 0))), (6, .inl (is (U8 x2)))], [(2, pb 42 [is (U64 v), is (U64 x4)])]⟩) (fun v => some r = F272_4 N a1 x2 x4 v) ?_ ?_
        · skip
          refine AW_cut (σ := Bool) (fun v => ⟨[(1, .inl (is (I16 a1))), (2, .inr (.inl (2, 0))), (6, .inl (is (U8 x2))), (23, .inl (is (Bl v)))], [(2, pb 42 [is (U64 x3), is (U64 x4)])]⟩) (fun v => some r = F272_5 N a1 x2 x3 x4 v) ?_ ?_
          · skip
            refine AW_region ?_
            refine AL_cons (LR_fieldAddr (off := 0) (o := 1) (at_tmp 2 _) (fun b w => fa42_1 b 0 w) rfl) (sS (sT1 rfl) sB0 sF0) ?_
            refine AL_cons (LR_load (at_tmp 21 _) na30 rfl rfl) (sS (sT1 rfl) (sB1 rfl) sF0) ?_
            refine AL_cons (LR_bin (at_tmp 22 _) (at_c (v' := U64 (0#64)) rfl) (neq_U64 x4 (0#64)) rfl) (sS (sA (sT1 rfl) sT0) sB0 sF0) ?_
            refine AL_nil ?_
            exact thenN (cutLeaf (v := x4 != (0#64)) hr (weak0 ((sT rfl (sT rfl (sT rfl (sT rfl sT0))))) (sub_keep sub_nil)))
          · rintro x6 hr
            show AW Hfaa.prog _ _ _ ⟨[(1, .inl (is (I16 a1))), (2, .inr (.inl (2, 0))), (6, .inl (is (U8 x2))), (23, .inl (is (Bl x6)))], [(2, pb 42 [is (U64 x3), is (U64 x4)])]⟩
            have hr : some r = F272_5 N a1 x2 x3 x4 x6 := hr
            refine AW_condT (b := x6) rfl (fun h => ?_) (fun h => ?_)
            · have hr := hr.trans (cond_t h)
              clear h
              refine AW_region ?_
              refine AL_cons (LR_fieldAddr (off := 0) (o := 0) (at_tmp 2 _) (fun b w => fa42_0 b 0 w) rfl) (sS (sT1 rfl) sB0 sF0) ?_
              refine AL_cons (LR_load (at_tmp 24 _) na30 rfl rfl) (sS (sT1 rfl) (sB1 rfl) sF0) ?_
              refine AL_cons (LR_bin (at_tmp 25 _) (at_c (v' := U64 (1#64)) rfl) (or_U64 x3 (1#64)) rfl) (sS (sA (sT1 rfl) sT0) sB0 sF0) ?_
              refine AL_cons (LR_fieldAddr (off := 0) (o := 0) (at_tmp 2 _) (fun b w => fa42_0 b 0 w) rfl) (sS (sT1 rfl) sB0 sF0) ?_
              refine AL_cons (LR_store (at_tmp 27 _) (at_tmp 26 _) (cells_one (one_is rfl)) (onC (one_is rfl) onN) sz30 rfl rfl) (sS (sA (sT1 rfl) (sT1 rfl)) (sB1 rfl) sF0) ?_
              refine AL_nil ?_
              exact thenN (cutLeaf (v := x3 ||| (1#64)) hr (weak0 ((sT rfl (sT rfl (sT rfl sT0)))) (sub_keep sub_nil)))
            · have hr := hr.trans (cond_f h)
              clear h
              refine AW_skip ?_
              exact thenN (cutLeaf (v := x3) hr (weak0 ((sT rfl (sT rfl (sT rfl sT0)))) (sub_keep sub_nil)))
        · rintro x5 hr
          show AW Hfaa.prog _ _ _ ⟨[(1, .inl (is (I16 a1))), (2, .inr (.inl (2, 0))), (6, .inl (is (U8 x2)))], [(2, pb 42 [is (U64 x5), is (U64 x4)])]⟩
          have hr : some r = F272_4 N a1 x2 x4 x5 := hr
          refine AW_seq1 ?_
          refine AW_region ?_
          refine AL_cons (LR_fieldAddr (off := 0) (o := 0) (at_tmp 2 _) (fun b w => fa42_0 b 0 w) rfl) (sS (sT1 rfl) sB0 sF0) ?_
          refine AL_cons (LR_load (at_tmp 28 _) na30 rfl rfl) (sS (sT1 rfl) (sB1 rfl) sF0) ?_
          refine AL_cons (LR_move (at_tmp 1 _) rfl) (sS (sT1 rfl) sB0 sF0) ?_
          refine AL_cons (LR_bin (at_tmp 30 _) (at_c (v' := I16 64) rfl) (add_I16 a1 64) rfl) (sS (sA (sT1 rfl) sT0) sB0 sF0) ?_
          refine AL_cons (LR_move (at_tmp 6 _) rfl) (sS (sT1 rfl) sB0 sF0) ?_
          refine AL_cons (LR_conv (vx := U8 x2) (at_tmp 32 _) (conv_I16 Hfaa.underlying5 Hfaa.underlying44 (x2.toNat : Int)) rfl) (sS (sT1 rfl) sB0 sF0) ?_
          refine AL_cons (LR_bin (at_tmp 31 _) (at_tmp 33 _) (sub_I16 (w16 (a1 + 64)) (w16 (x2.toNat : Int))) rfl) (sS (sA (sT1 rfl) (sT1 rfl)) sB0 sF0) ?_
          refine AL_cons (LR_assign (at_tmp 29 _) rfl) (sS (sT1 rfl) sB0 sF0) ?_
          refine AL_cons (LR_assign (at_tmp 34 _) rfl) (sS (sT1 rfl) sB0 sF0) ?_
          refine AL_nil ?_
          refine thenN ?_
          refine AW_ret ?_
          obtain rfl := Option.some.inj hr
          exact res2 rfl (rvT rfl) (rvT rfl)
end Go.Proofs.YfwaawGreat
