import Derived.Test.YfwaawGreatG1
import Derived.Test.YfwaawGreatG2
import Derived.Test.YfwaawGreatG25
import Derived.Test.YfwaawGreatG28
import Derived.Test.YfwaawGreatG29
import Derived.Test.YfwaawGreatG30
import Derived.Test.YfwaawGreatG44
import Derived.Test.YfwaawGreatG45
import Derived.Test.YfwaawGreatG46
namespace Go.Proofs.YfwaawGreat
open Go.Aw
set_option linter.unusedVariables false
set_option maxRecDepth 100000
set_option maxHeartbeats 1000000
/-- soft.Max -/
def F318_1 (x1 : BitVec 64) : BitVec 64 := x1
def F318 (a0_0 : BitVec 8) (a0_1 : BitVec 8) (a1 : BitVec 64) (a2 : BitVec 64) : BitVec 64 := lt (F176 a0_0 a0_1 a1 a2) fun y2 => F318_1 y2.1
theorem C318 (a0_0 : BitVec 8) (a0_1 : BitVec 8) (a1 : BitVec 64) (a2 : BitVec 64) (r : BitVec 64) (hr : r = F318 a0_0 a0_1 a1 a2) : Aw.Fn Hfaa.prog 318 [agg [is (U8 a0_0), is (U8 a0_1)], is (U64 a1), is (U64 a2)] (is (U64 r)) := by
  refine fn_intro Hfaa.func318 rfl rfl rfl ?_
  intro bn0 w0 H0
  refine AW_seq1 ?_
  refine AW_region ?_
  refine AL_cons (LR_box (at_tmp 0 _) (cells_agg _) rfl) (sS (sT1 rfl) sB0 (sF1 rfl)) ?_
  refine AL_cons (LR_assign (at_c (v' := U64 (0#64)) rfl) rfl) (sS sT0 sB0 sF0) ?_
  refine AL_nil ?_
  refine thenN ?_
  refine AW_cut (σ := BitVec 64) (fun v => ⟨[(7, .inl (is (U64 v)))], []⟩) (fun v => r = F318_1 v) ?_ ?_
  · skip
    refine AW_region ?_
    refine AL_cons (LR_loads (at_tmp 3 _) ag23 sz23 rfl rfl rfl) (sS (sT1 rfl) (sB1 rfl) sF0) ?_
    refine AL_cons (LR_move (at_tmp 1 _) rfl) (sS (sT1 rfl) sB0 sF0) ?_
    refine AL_cons (LR_move (at_tmp 2 _) rfl) (sS (sT1 rfl) sB0 sF0) ?_
    obtain ⟨y2, hy2, hr⟩ := lt_some hr
    refine AL_cons (LR_call Hfaa.func176 rfl rfl (C176 a0_0 a0_1 a1 a2 y2 hy2) (all_cons (at_tmp 10 _) (all_cons (at_tmp 11 _) (all_cons (at_tmp 12 _) all_nil))) rfl) (sS (sA (sT1 rfl) (sA (sT1 rfl) (sA (sT1 rfl) sT0))) sB0 sF0) ?_
    refine AL_cons (LR_move (at_tmp 13 _) rfl) (sS (sT1 rfl) sB0 sF0) ?_
    refine AL_cons (LR_extract (at_tmp 9 _) rfl rfl) (sS (sT1 rfl) sB0 sF0) ?_
    refine AL_cons (LR_extract (at_tmp 9 _) rfl rfl) (sS (sT1 rfl) sB0 sF0) ?_
    refine AL_cons (LR_assign (at_tmp 14 _) rfl) (sS (sT1 rfl) sB0 sF0) ?_
    refine AL_cons (LR_assign (at_tmp 15 _) rfl) (sS (sT1 rfl) sB0 sF0) ?_
    refine AL_nil ?_
    exact thenN (cutLeaf (v := y2.1) hr (weak0 ((sT rfl sT0)) (sub_drop sub_nil)))
  · rintro x1 hr
    show AW Hfaa.prog _ _ _ ⟨[(7, .inl (is (U64 x1)))], []⟩
    have hr : r = F318_1 x1 := hr
    refine AW_seq1 ?_
    refine AW_region ?_
    refine AL_cons (LR_move (at_tmp 7 _) rfl) (sS (sT1 rfl) sB0 sF0) ?_
    refine AL_cons (LR_assign (at_tmp 16 _) rfl) (sS (sT1 rfl) sB0 sF0) ?_
    refine AL_nil ?_
    refine thenN ?_
    refine AW_ret ?_
    subst hr
    exact res1 rfl (rvT rfl)
/-- soft.nextUp -/
def F277_3 (a1 : BitVec 64) (x3 : Bool) : BitVec 64 := bif x3 then a1 - (1#64) else a1 + (1#64)
def F277_2 (a0_0 : BitVec 8) (a0_1 : BitVec 8) (a1 : BitVec 64) (x2 : Bool) : BitVec 64 := bif x2 then 1#64 else lt (F70 a0_0 a0_1) fun y10 => F277_3 a1 (decide (y10.toNat < a1.toNat))
def F277_1 (a0_0 : BitVec 8) (a0_1 : BitVec 8) (a1 : BitVec 64) (x1 : Bool) : BitVec 64 := bif x1 then a1 else lt (F70 a0_0 a0_1) fun y11 => F277_2 a0_0 a0_1 a1 (a1 == y11)
def F277 (a0_0 : BitVec 8) (a0_1 : BitVec 8) (a1 : BitVec 64) : BitVec 64 := lt (F67 a0_0 a0_1 false) fun y12 => F277_1 a0_0 a0_1 a1 (a1 == y12)
theorem C277 (a0_0 : BitVec 8) (a0_1 : BitVec 8) (a1 : BitVec 64) (r : BitVec 64) (hr : r = F277 a0_0 a0_1 a1) : Aw.Fn Hfaa.prog 277 [agg [is (U8 a0_0), is (U8 a0_1)], is (U64 a1)] (is (U64 r)) := by
  refine fn_intro Hfaa.func277 rfl rfl rfl ?_
  intro bn0 w0 H0
  refine AW_seq1 ?_
  refine AW_region ?_
  refine AL_cons (LR_box (at_tmp 0 _) (cells_agg _) rfl) (sS (sT1 rfl) sB0 (sF1 rfl)) ?_
  refine AL_cons (LR_assign (at_c (v' := U64 (0#64)) rfl) rfl) (sS sT0 sB0 sF0) ?_
  refine AL_nil ?_
  refine thenN ?_
  refine AW_seq1 ?_
  refine AW_block ?_
  refine AW_cut (σ := Bool) (fun v => ⟨[(1, .inl (is (U64 a1))), (2, .inr (.inl (2, 0))), (5, .inl (is (Bl v)))], [(2, pb 23 [is (U8 a0_0), is (U8 a0_1)])]⟩) (fun v => r = F277_1 a0_0 a0_1 a1 v) ?_ ?_
  · skip
    refine AW_region ?_
    refine AL_cons (LR_move (at_tmp 1 _) rfl) (sS (sT1 rfl) sB0 sF0) ?_
    refine AL_cons (LR_loads (at_tmp 2 _) ag23 sz23 rfl rfl rfl) (sS (sT1 rfl) (sB1 rfl) sF0) ?_
    obtain ⟨y12, hy12, hr⟩ := lt_some hr
    refine AL_cons (LR_call Hfaa.func67 rfl rfl (C67 a0_0 a0_1 false y12 hy12) (all_cons (at_tmp 7 _) (all_cons (at_c (v' := Bl false) rfl) all_nil)) rfl) (sS (sA (sT1 rfl) (sA sT0 sT0)) sB0 sF0) ?_
    refine AL_cons (LR_bin (at_tmp 6 _) (at_tmp 8 _) (eql_U64 a1 y12) rfl) (sS (sA (sT1 rfl) (sT1 rfl)) sB0 sF0) ?_
    refine AL_cons (LR_assign (at_tmp 9 _) rfl) (sS (sT1 rfl) sB0 sF0) ?_
    refine AL_nil ?_
    exact thenN (cutLeaf (v := a1 == y12) hr (weak0 ((sT rfl (sT rfl (sT rfl sT0)))) (sub_keep sub_nil)))
  · rintro x1 hr
    show AW Hfaa.prog _ _ _ ⟨[(1, .inl (is (U64 a1))), (2, .inr (.inl (2, 0))), (5, .inl (is (Bl x1)))], [(2, pb 23 [is (U8 a0_0), is (U8 a0_1)])]⟩
    have hr : r = F277_1 a0_0 a0_1 a1 x1 := hr
    refine AW_condT (b := x1) rfl (fun h => ?_) (fun h => ?_)
    · have hr := hr.trans (cond_t h)
      clear h
      refine AW_seq1 ?_
      refine AW_region ?_
      refine AL_cons (LR_move (at_tmp 1 _) rfl) (sS (sT1 rfl) sB0 sF0) ?_
      refine AL_cons (LR_assign (at_tmp 10 _) rfl) (sS (sT1 rfl) sB0 sF0) ?_
      refine AL_nil ?_
      refine thenN ?_
      refine AW_ret ?_
      refine blR ?_
      refine thenR ?_
      subst hr
      exact res1 rfl (rvT rfl)
    · have hr := hr.trans (cond_f h)
      clear h
      refine AW_cut (σ := Bool) (fun v => ⟨[(1, .inl (is (U64 a1))), (2, .inr (.inl (2, 0))), (11, .inl (is (Bl v)))], [(2, pb 23 [is (U8 a0_0), is (U8 a0_1)])]⟩) (fun v => r = F277_2 a0_0 a0_1 a1 v) ?_ ?_
      · skip
        refine AW_region ?_
        refine AL_cons (LR_move (at_tmp 1 _) rfl) (sS (sT1 rfl) sB0 sF0) ?_
        refine AL_cons (LR_loads (at_tmp 2 _) ag23 sz23 rfl rfl rfl) (sS (sT1 rfl) (sB1 rfl) sF0) ?_
        obtain ⟨y11, hy11, hr⟩ := lt_some hr
        refine AL_cons (LR_call Hfaa.func70 rfl rfl (C70 a0_0 a0_1 y11 hy11) (all_cons (at_tmp 13 _) all_nil) rfl) (sS (sA (sT1 rfl) sT0) sB0 sF0) ?_
        refine AL_cons (LR_bin (at_tmp 12 _) (at_tmp 14 _) (eql_U64 a1 y11) rfl) (sS (sA (sT1 rfl) (sT1 rfl)) sB0 sF0) ?_
        refine AL_cons (LR_assign (at_tmp 15 _) rfl) (sS (sT1 rfl) sB0 sF0) ?_
        refine AL_nil ?_
        exact thenN (cutLeaf (v := a1 == y11) hr (weak0 ((sT rfl (sT rfl (sT rfl sT0)))) (sub_keep sub_nil)))
      · rintro x2 hr
        show AW Hfaa.prog _ _ _ ⟨[(1, .inl (is (U64 a1))), (2, .inr (.inl (2, 0))), (11, .inl (is (Bl x2)))], [(2, pb 23 [is (U8 a0_0), is (U8 a0_1)])]⟩
        have hr : r = F277_2 a0_0 a0_1 a1 x2 := hr
        refine AW_condT (b := x2) rfl (fun h => ?_) (fun h => ?_)
        · have hr := hr.trans (cond_t h)
          clear h
          refine AW_seq1 ?_
          refine AW_region ?_
          refine AL_cons (LR_assign (at_c (v' := U64 (1#64)) rfl) rfl) (sS sT0 sB0 sF0) ?_
          refine AL_nil ?_
          refine thenN ?_
          refine AW_ret ?_
          refine blR ?_
          refine thenR ?_
          subst hr
          exact res1 rfl (rvT rfl)
        · have hr := hr.trans (cond_f h)
          clear h
          refine AW_cut (σ := Bool) (fun v => ⟨[(1, .inl (is (U64 a1))), (16, .inl (is (Bl v)))], []⟩) (fun v => r = F277_3 a1 v) ?_ ?_
          · skip
            refine AW_region ?_
            refine AL_cons (LR_move (at_tmp 1 _) rfl) (sS (sT1 rfl) sB0 sF0) ?_
            refine AL_cons (LR_loads (at_tmp 2 _) ag23 sz23 rfl rfl rfl) (sS (sT1 rfl) (sB1 rfl) sF0) ?_
            obtain ⟨y10, hy10, hr⟩ := lt_some hr
            refine AL_cons (LR_call Hfaa.func70 rfl rfl (C70 a0_0 a0_1 y10 hy10) (all_cons (at_tmp 18 _) all_nil) rfl) (sS (sA (sT1 rfl) sT0) sB0 sF0) ?_
            refine AL_cons (LR_bin (at_tmp 17 _) (at_tmp 19 _) (gtr_U64 a1 y10) rfl) (sS (sA (sT1 rfl) (sT1 rfl)) sB0 sF0) ?_
            refine AL_cons (LR_assign (at_tmp 20 _) rfl) (sS (sT1 rfl) sB0 sF0) ?_
            refine AL_nil ?_
            exact thenN (cutLeaf (v := decide (y10.toNat < a1.toNat)) hr (weak0 ((sT rfl (sT rfl sT0))) (sub_drop sub_nil)))
          · rintro x3 hr
            show AW Hfaa.prog _ _ _ ⟨[(1, .inl (is (U64 a1))), (16, .inl (is (Bl x3)))], []⟩
            have hr : r = F277_3 a1 x3 := hr
            refine AW_condT (b := x3) rfl (fun h => ?_) (fun h => ?_)
            · have hr := hr.trans (cond_t h)
              clear h
              refine AW_seq1 ?_
              refine AW_region ?_
              refine AL_cons (LR_move (at_tmp 1 _) rfl) (sS (sT1 rfl) sB0 sF0) ?_
              refine AL_cons (LR_bin (at_tmp 21 _) (at_c (v' := U64 (1#64)) rfl) (sub_U64 a1 (1#64)) rfl) (sS (sA (sT1 rfl) sT0) sB0 sF0) ?_
              refine AL_cons (LR_assign (at_tmp 22 _) rfl) (sS (sT1 rfl) sB0 sF0) ?_
              refine AL_nil ?_
              refine thenN ?_
              refine AW_ret ?_
              refine blR ?_
              refine thenR ?_
              subst hr
              exact res1 rfl (rvT rfl)
            · have hr := hr.trans (cond_f h)
              clear h
              refine AW_skip ?_
              refine blN ?_
              refine thenN ?_
              refine AW_seq1 ?_
              refine AW_region ?_
              refine AL_cons (LR_move (at_tmp 1 _) rfl) (sS (sT1 rfl) sB0 sF0) ?_
              refine AL_cons (LR_bin (at_tmp 23 _) (at_c (v' := U64 (1#64)) rfl) (add_U64 a1 (1#64)) rfl) (sS (sA (sT1 rfl) sT0) sB0 sF0) ?_
              refine AL_cons (LR_assign (at_tmp 24 _) rfl) (sS (sT1 rfl) sB0 sF0) ?_
              refine AL_nil ?_
              refine thenN ?_
              refine AW_ret ?_
              subst hr
              exact res1 rfl (rvT rfl)
/-- soft.NextUpFlags -/
def F177_2 (a0_0 : BitVec 8) (a0_1 : BitVec 8) (a1 : BitVec 64) (x2 : Bool) : BitVec 64 × BitVec 8 := bif x2 then lt (F66 a0_0 a0_1) fun y13 => lt (F214 a0_0 a0_1 a1 a1) fun y14 => (y13, y14) else lt (F69 a0_0 a0_1) fun y17 => lt (F277 a0_0 a0_1 (a1 &&& y17)) fun y18 => (y18, 0#8)
def F177_1 (a0_0 : BitVec 8) (a0_1 : BitVec 8) (a1 : BitVec 64) (x1 : Bool) : BitVec 64 × BitVec 8 := bif x1 then (0#64, 0#8) else lt (F65 a0_0 a0_1 a1) fun y19 => F177_2 a0_0 a0_1 a1 (y19.2.1 == 4)
def F177 (a0_0 : BitVec 8) (a0_1 : BitVec 8) (a1 : BitVec 64) : BitVec 64 × BitVec 8 := lt (F40 a0_0 a0_1) fun y20 => F177_1 a0_0 a0_1 a1 (!y20)
theorem C177 (a0_0 : BitVec 8) (a0_1 : BitVec 8) (a1 : BitVec 64) (r : BitVec 64 × BitVec 8) (hr : r = F177 a0_0 a0_1 a1) : Aw.Fn Hfaa.prog 177 [agg [is (U8 a0_0), is (U8 a0_1)], is (U64 a1)] (tup [is (U64 r.1), is (U8 r.2)]) := by
  refine fn_intro Hfaa.func177 rfl rfl rfl ?_
  intro bn0 w0 H0
  refine AW_seq1 ?_
  refine AW_region ?_
  refine AL_cons (LR_box (at_tmp 0 _) (cells_agg _) rfl) (sS (sT1 rfl) sB0 (sF1 rfl)) ?_
  refine AL_cons (LR_assign (at_c (v' := U64 (0#64)) rfl) rfl) (sS sT0 sB0 sF0) ?_
  refine AL_cons (LR_assign (at_c (v' := U8 (0#8)) rfl) rfl) (sS sT0 sB0 sF0) ?_
  refine AL_nil ?_
  refine thenN ?_
  refine AW_seq1 ?_
  refine AW_block ?_
  refine AW_cut (σ := Bool) (fun v => ⟨[(1, .inl (is (U64 a1))), (2, .inr (.inl (2, 0))), (6, .inl (is (Bl v)))], [(2, pb 23 [is (U8 a0_0), is (U8 a0_1)])]⟩) (fun v => r = F177_1 a0_0 a0_1 a1 v) ?_ ?_
  · skip
    refine AW_region ?_
    refine AL_cons (LR_loads (at_tmp 2 _) ag23 sz23 rfl rfl rfl) (sS (sT1 rfl) (sB1 rfl) sF0) ?_
    obtain ⟨y20, hy20, hr⟩ := lt_some hr
    refine AL_cons (LR_call Hfaa.func40 rfl rfl (C40 a0_0 a0_1 y20 hy20) (all_cons (at_tmp 7 _) all_nil) rfl) (sS (sA (sT1 rfl) sT0) sB0 sF0) ?_
    refine AL_cons (LR_un (at_tmp 8 _) (not_Bl y20) rfl) (sS (sT1 rfl) sB0 sF0) ?_
    refine AL_cons (LR_assign (at_tmp 9 _) rfl) (sS (sT1 rfl) sB0 sF0) ?_
    refine AL_nil ?_
    exact thenN (cutLeaf (v := !y20) hr (weak0 ((sT rfl (sT rfl (sT rfl sT0)))) (sub_keep sub_nil)))
  · rintro x1 hr
    show AW Hfaa.prog _ _ _ ⟨[(1, .inl (is (U64 a1))), (2, .inr (.inl (2, 0))), (6, .inl (is (Bl x1)))], [(2, pb 23 [is (U8 a0_0), is (U8 a0_1)])]⟩
    have hr : r = F177_1 a0_0 a0_1 a1 x1 := hr
    refine AW_condT (b := x1) rfl (fun h => ?_) (fun h => ?_)
    · have hr := hr.trans (cond_t h)
      clear h
      refine AW_seq1 ?_
      refine AW_region ?_
      refine AL_cons (LR_assign (at_c (v' := U64 (0#64)) rfl) rfl) (sS sT0 sB0 sF0) ?_
      refine AL_cons (LR_assign (at_c (v' := U8 (0#8)) rfl) rfl) (sS sT0 sB0 sF0) ?_
      refine AL_nil ?_
      refine thenN ?_
      refine AW_ret ?_
      refine blR ?_
      refine thenR ?_
      subst hr
      exact res2 rfl (rvT rfl) (rvT rfl)
    · have hr := hr.trans (cond_f h)
      clear h
      refine AW_cut (σ := Bool) (fun v => ⟨[(1, .inl (is (U64 a1))), (2, .inr (.inl (2, 0))), (10, .inl (is (Bl v)))], [(2, pb 23 [is (U8 a0_0), is (U8 a0_1)])]⟩) (fun v => r = F177_2 a0_0 a0_1 a1 v) ?_ ?_
      · skip
        refine AW_region ?_
        refine AL_cons (LR_loads (at_tmp 2 _) ag23 sz23 rfl rfl rfl) (sS (sT1 rfl) (sB1 rfl) sF0) ?_
        refine AL_cons (LR_move (at_tmp 1 _) rfl) (sS (sT1 rfl) sB0 sF0) ?_
        obtain ⟨y19, hy19, hr⟩ := lt_some hr
        refine AL_cons (LR_call Hfaa.func65 rfl rfl (C65 a0_0 a0_1 a1 y19 hy19) (all_cons (at_tmp 11 _) (all_cons (at_tmp 12 _) all_nil)) rfl) (sS (sA (sT1 rfl) (sA (sT1 rfl) sT0)) sB0 sF0) ?_
        refine AL_cons (LR_field (off := 1) (at_tmp 13 _) Hfaa.underlying112 rfl rfl na110 rfl rfl) (sS (sT1 rfl) sB0 sF0) ?_
        refine AL_cons (LR_bin (at_tmp 14 _) (at_c (v' := I8 4) rfl) (eql_I8 y19.2.1 4) rfl) (sS (sA (sT1 rfl) sT0) sB0 sF0) ?_
        refine AL_cons (LR_assign (at_tmp 15 _) rfl) (sS (sT1 rfl) sB0 sF0) ?_
        refine AL_nil ?_
        exact thenN (cutLeaf (v := y19.2.1 == 4) hr (weak0 ((sT rfl (sT rfl (sT rfl sT0)))) (sub_keep sub_nil)))
      · rintro x2 hr
        show AW Hfaa.prog _ _ _ ⟨[(1, .inl (is (U64 a1))), (2, .inr (.inl (2, 0))), (10, .inl (is (Bl x2)))], [(2, pb 23 [is (U8 a0_0), is (U8 a0_1)])]⟩
        have hr : r = F177_2 a0_0 a0_1 a1 x2 := hr
        refine AW_condT (b := x2) rfl (fun h => ?_) (fun h => ?_)
        · have hr := hr.trans (cond_t h)
          clear h
          refine AW_seq1 ?_
          obtain ⟨y13, hy13, hr⟩ := lt_some hr
          obtain ⟨y14, hy14, hr⟩ := lt_some hr
          refine AW_draw mixed
            (lrC (LR_loads (at_tmp 2 _) ag23 sz23 rfl rfl rfl)
            (lrC (LR_call Hfaa.func66 rfl rfl (C66 a0_0 a0_1 y13 hy13) (all_cons (at_tmp 16 _) all_nil) rfl)
            (lrC (LR_loads (at_tmp 2 _) ag23 sz23 rfl rfl rfl)
            (lrC (LR_move (at_tmp 1 _) rfl)
            (lrC (LR_move (at_tmp 1 _) rfl)
            (lrC (LR_call Hfaa.func214 rfl rfl (C214 a0_0 a0_1 a1 a1 y14 hy14) (all_cons (at_tmp 18 _) (all_cons (at_tmp 19 _) (all_cons (at_tmp 20 _) all_nil))) rfl)
            (lrC (LR_assign (at_tmp 17 _) rfl)
            (lrC (LR_assign (at_tmp 21 _) rfl)
            lrN))))))))
            (by kernel_rfl)
            (saC (sS (sT1 rfl) (sB1 rfl) sF0) (saC (sS (sA (sT1 rfl) sT0) sB0 sF0) (saC (sS (sT1 rfl) (sB1 rfl) sF0) (saC (sS (sT1 rfl) sB0 sF0) (saC (sS (sT1 rfl) sB0 sF0) (saC (sS (sA (sT1 rfl) (sA (sT1 rfl) (sA (sT1 rfl) sT0))) sB0 sF0) (saC (sS (sT1 rfl) sB0 sF0) (saC (sS (sT1 rfl) sB0 sF0) saN)))))))) ?_
          refine thenN ?_
          refine AW_ret ?_
          refine blR ?_
          refine thenR ?_
          subst hr
          exact res2 rfl (rvT rfl) (rvT rfl)
        · have hr := hr.trans (cond_f h)
          clear h
          refine AW_skip ?_
          refine blN ?_
          refine thenN ?_
          refine AW_seq1 ?_
          obtain ⟨y17, hy17, hr⟩ := lt_some hr
          obtain ⟨y18, hy18, hr⟩ := lt_some hr
          refine AW_draw mixed
            (lrC (LR_loads (at_tmp 2 _) ag23 sz23 rfl rfl rfl)
            (lrC (LR_move (at_tmp 1 _) rfl)
            (lrC (LR_loads (at_tmp 2 _) ag23 sz23 rfl rfl rfl)
            (lrC (LR_call Hfaa.func69 rfl rfl (C69 a0_0 a0_1 y17 hy17) (all_cons (at_tmp 24 _) all_nil) rfl)
            (lrC (LR_bin (at_tmp 23 _) (at_tmp 25 _) (and_U64 a1 y17) rfl)
            (lrC (LR_call Hfaa.func277 rfl rfl (C277 a0_0 a0_1 (a1 &&& y17) y18 hy18) (all_cons (at_tmp 22 _) (all_cons (at_tmp 26 _) all_nil)) rfl)
            (lrC (LR_assign (at_tmp 27 _) rfl)
            (lrC (LR_assign (at_c (v' := U8 (0#8)) rfl) rfl)
            lrN))))))))
            (by kernel_rfl)
            (saC (sS (sT1 rfl) (sB1 rfl) sF0) (saC (sS (sT1 rfl) sB0 sF0) (saC (sS (sT1 rfl) (sB1 rfl) sF0) (saC (sS (sA (sT1 rfl) sT0) sB0 sF0) (saC (sS (sA (sT1 rfl) (sT1 rfl)) sB0 sF0) (saC (sS (sA (sT1 rfl) (sA (sT1 rfl) sT0)) sB0 sF0) (saC (sS (sT1 rfl) sB0 sF0) (saC (sS sT0 sB0 sF0) saN)))))))) ?_
          refine thenN ?_
          refine AW_ret ?_
          subst hr
          exact res2 rfl (rvT rfl) (rvT rfl)
/-- soft.NextUp -/
def F319_1 (x1 : BitVec 64) : BitVec 64 := x1
def F319 (a0_0 : BitVec 8) (a0_1 : BitVec 8) (a1 : BitVec 64) : BitVec 64 := lt (F177 a0_0 a0_1 a1) fun y2 => F319_1 y2.1
theorem C319 (a0_0 : BitVec 8) (a0_1 : BitVec 8) (a1 : BitVec 64) (r : BitVec 64) (hr : r = F319 a0_0 a0_1 a1) : Aw.Fn Hfaa.prog 319 [agg [is (U8 a0_0), is (U8 a0_1)], is (U64 a1)] (is (U64 r)) := by
  refine fn_intro Hfaa.func319 rfl rfl rfl ?_
  intro bn0 w0 H0
  refine AW_seq1 ?_
  refine AW_region ?_
  refine AL_cons (LR_box (at_tmp 0 _) (cells_agg _) rfl) (sS (sT1 rfl) sB0 (sF1 rfl)) ?_
  refine AL_cons (LR_assign (at_c (v' := U64 (0#64)) rfl) rfl) (sS sT0 sB0 sF0) ?_
  refine AL_nil ?_
  refine thenN ?_
  refine AW_cut (σ := BitVec 64) (fun v => ⟨[(5, .inl (is (U64 v)))], []⟩) (fun v => r = F319_1 v) ?_ ?_
  · skip
    refine AW_region ?_
    refine AL_cons (LR_loads (at_tmp 2 _) ag23 sz23 rfl rfl rfl) (sS (sT1 rfl) (sB1 rfl) sF0) ?_
    refine AL_cons (LR_move (at_tmp 1 _) rfl) (sS (sT1 rfl) sB0 sF0) ?_
    obtain ⟨y2, hy2, hr⟩ := lt_some hr
    refine AL_cons (LR_call Hfaa.func177 rfl rfl (C177 a0_0 a0_1 a1 y2 hy2) (all_cons (at_tmp 8 _) (all_cons (at_tmp 9 _) all_nil)) rfl) (sS (sA (sT1 rfl) (sA (sT1 rfl) sT0)) sB0 sF0) ?_
    refine AL_cons (LR_move (at_tmp 10 _) rfl) (sS (sT1 rfl) sB0 sF0) ?_
    refine AL_cons (LR_extract (at_tmp 7 _) rfl rfl) (sS (sT1 rfl) sB0 sF0) ?_
    refine AL_cons (LR_extract (at_tmp 7 _) rfl rfl) (sS (sT1 rfl) sB0 sF0) ?_
    refine AL_cons (LR_assign (at_tmp 11 _) rfl) (sS (sT1 rfl) sB0 sF0) ?_
    refine AL_cons (LR_assign (at_tmp 12 _) rfl) (sS (sT1 rfl) sB0 sF0) ?_
    refine AL_nil ?_
    exact thenN (cutLeaf (v := y2.1) hr (weak0 ((sT rfl sT0)) (sub_drop sub_nil)))
  · rintro x1 hr
    show AW Hfaa.prog _ _ _ ⟨[(5, .inl (is (U64 x1)))], []⟩
    have hr : r = F319_1 x1 := hr
    refine AW_seq1 ?_
    refine AW_region ?_
    refine AL_cons (LR_move (at_tmp 5 _) rfl) (sS (sT1 rfl) sB0 sF0) ?_
    refine AL_cons (LR_assign (at_tmp 13 _) rfl) (sS (sT1 rfl) sB0 sF0) ?_
    refine AL_nil ?_
    refine thenN ?_
    refine AW_ret ?_
    subst hr
    exact res1 rfl (rvT rfl)
/-- soft.NextDownFlags -/
def F178_2 (x2 : BitVec 8) (x3 : BitVec 64) : BitVec 64 × BitVec 8 := (x3, x2)
def F178_3 (a0_0 : BitVec 8) (a0_1 : BitVec 8) (x1 : BitVec 64) (x2 : BitVec 8) (x4 : Bool) : BitVec 64 × BitVec 8 := bif x4 then lt (F70 a0_0 a0_1) fun y7 => F178_2 x2 (x1 ^^^ y7) else F178_2 x2 x1
def F178_1 (a0_0 : BitVec 8) (a0_1 : BitVec 8) (x1 : BitVec 64) (x2 : BitVec 8) : BitVec 64 × BitVec 8 := lt (F40 a0_0 a0_1) fun y8 => F178_3 a0_0 a0_1 x1 x2 (y8 && (x1 != (F66 a0_0 a0_1)))
def F178 (a0_0 : BitVec 8) (a0_1 : BitVec 8) (a1 : BitVec 64) : BitVec 64 × BitVec 8 := lt (F70 a0_0 a0_1) fun y9 => lt (F177 a0_0 a0_1 (a1 ^^^ y9)) fun y10 => F178_1 a0_0 a0_1 y10.1 y10.2
theorem C178 (a0_0 : BitVec 8) (a0_1 : BitVec 8) (a1 : BitVec 64) (r : BitVec 64 × BitVec 8) (hr : r = F178 a0_0 a0_1 a1) : Aw.Fn Hfaa.prog 178 [agg [is (U8 a0_0), is (U8 a0_1)], is (U64 a1)] (tup [is (U64 r.1), is (U8 r.2)]) := by
  refine fn_intro Hfaa.func178 rfl rfl rfl ?_
  intro bn0 w0 H0
  refine AW_seq1 ?_
  refine AW_region ?_
  refine AL_cons (LR_box (at_tmp 0 _) (cells_agg _) rfl) (sS (sT1 rfl) sB0 (sF1 rfl)) ?_
  refine AL_cons (LR_assign (at_c (v' := U64 (0#64)) rfl) rfl) (sS sT0 sB0 sF0) ?_
  refine AL_cons (LR_assign (at_c (v' := U8 (0#8)) rfl) rfl) (sS sT0 sB0 sF0) ?_
  refine AL_nil ?_
  refine thenN ?_
  refine AW_cut (σ := BitVec 64 × BitVec 8) (fun v => ⟨[(2, .inr (.inl (2, 0))), (6, .inl (is (U64 v.1))), (7, .inl (is (U8 v.2)))], [(2, pb 23 [is (U8 a0_0), is (U8 a0_1)])]⟩) (fun v => r = F178_1 a0_0 a0_1 v.1 v.2) ?_ ?_
  · skip
    obtain ⟨y9, hy9, hr⟩ := lt_some hr
    obtain ⟨y10, hy10, hr⟩ := lt_some hr
    refine AW_draw mixed
      (lrC (LR_loads (at_tmp 2 _) ag23 sz23 rfl rfl rfl)
      (lrC (LR_move (at_tmp 1 _) rfl)
      (lrC (LR_loads (at_tmp 2 _) ag23 sz23 rfl rfl rfl)
      (lrC (LR_call Hfaa.func70 rfl rfl (C70 a0_0 a0_1 y9 hy9) (all_cons (at_tmp 11 _) all_nil) rfl)
      (lrC (LR_bin (at_tmp 10 _) (at_tmp 12 _) (xor_U64 a1 y9) rfl)
      (lrC (LR_call Hfaa.func177 rfl rfl (C177 a0_0 a0_1 (a1 ^^^ y9) y10 hy10) (all_cons (at_tmp 9 _) (all_cons (at_tmp 13 _) all_nil)) rfl)
      (lrC (LR_move (at_tmp 14 _) rfl)
      (lrC (LR_extract (at_tmp 8 _) rfl rfl)
      (lrC (LR_extract (at_tmp 8 _) rfl rfl)
      (lrC (LR_assign (at_tmp 15 _) rfl)
      (lrC (LR_assign (at_tmp 16 _) rfl)
      lrN)))))))))))
      (by kernel_rfl)
      (saC (sS (sT1 rfl) (sB1 rfl) sF0) (saC (sS (sT1 rfl) sB0 sF0) (saC (sS (sT1 rfl) (sB1 rfl) sF0) (saC (sS (sA (sT1 rfl) sT0) sB0 sF0) (saC (sS (sA (sT1 rfl) (sT1 rfl)) sB0 sF0) (saC (sS (sA (sT1 rfl) (sA (sT1 rfl) sT0)) sB0 sF0) (saC (sS (sT1 rfl) sB0 sF0) (saC (sS (sT1 rfl) sB0 sF0) (saC (sS (sT1 rfl) sB0 sF0) (saC (sS (sT1 rfl) sB0 sF0) (saC (sS (sT1 rfl) sB0 sF0) saN))))))))))) ?_
    exact thenN (cutLeaf (v := (y10.1, y10.2)) hr (weak0 ((sT rfl (sT rfl (sT rfl sT0)))) (sub_keep sub_nil)))
  · rintro ⟨x1, x2⟩ hr
    show AW Hfaa.prog _ _ _ ⟨[(2, .inr (.inl (2, 0))), (6, .inl (is (U64 x1))), (7, .inl (is (U8 x2)))], [(2, pb 23 [is (U8 a0_0), is (U8 a0_1)])]⟩
    have hr : r = F178_1 a0_0 a0_1 x1 x2 := hr
    refine AW_cut (σ := BitVec 64) (fun v => ⟨[(6, .inl (is (U64 v))), (7, .inl (is (U8 x2)))], []⟩) (fun v => r = F178_2 x2 v) ?_ ?_
    · skip
      refine AW_cut (σ := Bool) (fun v => ⟨[(2, .inr (.inl (2, 0))), (6, .inl (is (U64 x1))), (7, .inl (is (U8 x2))), (24, .inl (is (Bl v)))], [(2, pb 23 [is (U8 a0_0), is (U8 a0_1)])]⟩) (fun v => r = F178_3 a0_0 a0_1 x1 x2 v) ?_ ?_
      · skip
        refine AW_region ?_
        refine AL_cons (LR_loads (at_tmp 2 _) ag23 sz23 rfl rfl rfl) (sS (sT1 rfl) (sB1 rfl) sF0) ?_
        obtain ⟨y8, hy8, hr⟩ := lt_some hr
        refine AL_cons (LR_call Hfaa.func40 rfl rfl (C40 a0_0 a0_1 y8 hy8) (all_cons (at_tmp 17 _) all_nil) rfl) (sS (sA (sT1 rfl) sT0) sB0 sF0) ?_
        refine AL_cons (LR_move (at_tmp 18 _) rfl) (sS (sT1 rfl) sB0 sF0) ?_
        refine AL_cutAt 5 ⟨[(2, .inr (.inl (2, 0))), (6, .inl (is (U64 x1))), (7, .inl (is (U8 x2))), (17, .inl (agg [is (U8 a0_0), is (U8 a0_1)])), (18, .inl (is (Bl y8))), (19, .inl (is (Bl y8))), (24, .inl (is (Bl (y8 && (x1 != (F66 a0_0 a0_1))))))], [(2, pb 23 [is (U8 a0_0), is (U8 a0_1)])]⟩ ?_ ?_
        · cases hb : y8
          · skip
            refine AL_cons (LR_off (b := false) rfl rfl rfl rfl) (sS (sT1 rfl) sB0 sF0) ?_
            refine AL_cons (LR_off (b := false) rfl rfl rfl rfl) (sS (sT1 rfl) sB0 sF0) ?_
            refine AL_cons (LR_off (b := false) rfl rfl rfl rfl) (sS (sT1 rfl) sB0 sF0) ?_
            refine AL_cons (LR_off (b := false) rfl rfl rfl rfl) (sS (sT1 rfl) sB0 sF0) ?_
            refine AL_cons (LR_pick (b := false) (at_tmp 19 _) (at_tmp 23 _) (at_c (v' := Bl false) rfl) rfl) (sS (sA (sT1 rfl) (sA (sT1 rfl) sT0)) sB0 sF0) ?_
            exact AL_nil ⟨rfl, weak0 ((sT rfl (sT rfl (sT rfl (sT rfl (sT rfl (sT rfl (sT rfl sT0)))))))) (sub_keep sub_nil)⟩
          · skip
            refine AL_cons (LR_on rfl rfl rfl (LR_move (at_tmp 6 _) rfl)) (sS (sT rfl (sT1 rfl)) sB0 sF0) ?_
            refine AL_cons (LR_on rfl rfl rfl (LR_loads (at_tmp 2 _) ag23 sz23 rfl rfl rfl)) (sS (sT rfl (sT1 rfl)) (sB1 rfl) sF0) ?_
            refine AL_cons (LR_on rfl rfl rfl (LR_call Hfaa.func66 rfl rfl (C66 a0_0 a0_1 _ rfl) (all_cons (at_tmp 21 _) all_nil) rfl)) (sS (sT rfl (sA (sT1 rfl) sT0)) sB0 sF0) ?_
            refine AL_cons (LR_on rfl rfl rfl (LR_bin (at_tmp 20 _) (at_tmp 22 _) (neq_U64 x1 (F66 a0_0 a0_1)) rfl)) (sS (sT rfl (sA (sT1 rfl) (sT1 rfl))) sB0 sF0) ?_
            refine AL_cons (LR_pick (b := true) (at_tmp 19 _) (at_tmp 23 _) (at_c (v' := Bl false) rfl) rfl) (sS (sA (sT1 rfl) (sA (sT1 rfl) sT0)) sB0 sF0) ?_
            exact AL_nil ⟨rfl, weak0 ((sT rfl (sT rfl (sT rfl (sT rfl (sT rfl (sT rfl (sT rfl sT0)))))))) (sub_keep sub_nil)⟩
        refine AL_nil ?_
        exact thenN (cutLeaf (v := y8 && (x1 != (F66 a0_0 a0_1))) hr (weak0 ((sT rfl (sT rfl (sT rfl (sT rfl sT0))))) (sub_keep sub_nil)))
      · rintro x4 hr
        show AW Hfaa.prog _ _ _ ⟨[(2, .inr (.inl (2, 0))), (6, .inl (is (U64 x1))), (7, .inl (is (U8 x2))), (24, .inl (is (Bl x4)))], [(2, pb 23 [is (U8 a0_0), is (U8 a0_1)])]⟩
        have hr : r = F178_3 a0_0 a0_1 x1 x2 x4 := hr
        refine AW_condT (b := x4) rfl (fun h => ?_) (fun h => ?_)
        · have hr := hr.trans (cond_t h)
          clear h
          refine AW_region ?_
          refine AL_cons (LR_move (at_tmp 6 _) rfl) (sS (sT1 rfl) sB0 sF0) ?_
          refine AL_cons (LR_loads (at_tmp 2 _) ag23 sz23 rfl rfl rfl) (sS (sT1 rfl) (sB1 rfl) sF0) ?_
          obtain ⟨y7, hy7, hr⟩ := lt_some hr
          refine AL_cons (LR_call Hfaa.func70 rfl rfl (C70 a0_0 a0_1 y7 hy7) (all_cons (at_tmp 26 _) all_nil) rfl) (sS (sA (sT1 rfl) sT0) sB0 sF0) ?_
          refine AL_cons (LR_bin (at_tmp 25 _) (at_tmp 27 _) (xor_U64 x1 y7) rfl) (sS (sA (sT1 rfl) (sT1 rfl)) sB0 sF0) ?_
          refine AL_cons (LR_assign (at_tmp 28 _) rfl) (sS (sT1 rfl) sB0 sF0) ?_
          refine AL_nil ?_
          exact thenN (cutLeaf (v := x1 ^^^ y7) hr (weak0 ((sT rfl (sT rfl sT0))) (sub_drop sub_nil)))
        · have hr := hr.trans (cond_f h)
          clear h
          refine AW_skip ?_
          exact thenN (cutLeaf (v := x1) hr (weak0 ((sT rfl (sT rfl sT0))) (sub_drop sub_nil)))
    · rintro x3 hr
      show AW Hfaa.prog _ _ _ ⟨[(6, .inl (is (U64 x3))), (7, .inl (is (U8 x2)))], []⟩
      have hr : r = F178_2 x2 x3 := hr
      refine AW_seq1 ?_
      refine AW_region ?_
      refine AL_cons (LR_move (at_tmp 6 _) rfl) (sS (sT1 rfl) sB0 sF0) ?_
      refine AL_cons (LR_move (at_tmp 7 _) rfl) (sS (sT1 rfl) sB0 sF0) ?_
      refine AL_cons (LR_assign (at_tmp 29 _) rfl) (sS (sT1 rfl) sB0 sF0) ?_
      refine AL_cons (LR_assign (at_tmp 30 _) rfl) (sS (sT1 rfl) sB0 sF0) ?_
      refine AL_nil ?_
      refine thenN ?_
      refine AW_ret ?_
      subst hr
      exact res2 rfl (rvT rfl) (rvT rfl)
/-- soft.NextDown -/
def F320_1 (x1 : BitVec 64) : BitVec 64 := x1
def F320 (a0_0 : BitVec 8) (a0_1 : BitVec 8) (a1 : BitVec 64) : BitVec 64 := lt (F178 a0_0 a0_1 a1) fun y2 => F320_1 y2.1
theorem C320 (a0_0 : BitVec 8) (a0_1 : BitVec 8) (a1 : BitVec 64) (r : BitVec 64) (hr : r = F320 a0_0 a0_1 a1) : Aw.Fn Hfaa.prog 320 [agg [is (U8 a0_0), is (U8 a0_1)], is (U64 a1)] (is (U64 r)) := by
  refine fn_intro Hfaa.func320 rfl rfl rfl ?_
  intro bn0 w0 H0
  refine AW_seq1 ?_
  refine AW_region ?_
  refine AL_cons (LR_box (at_tmp 0 _) (cells_agg _) rfl) (sS (sT1 rfl) sB0 (sF1 rfl)) ?_
  refine AL_cons (LR_assign (at_c (v' := U64 (0#64)) rfl) rfl) (sS sT0 sB0 sF0) ?_
  refine AL_nil ?_
  refine thenN ?_
  refine AW_cut (σ := BitVec 64) (fun v => ⟨[(5, .inl (is (U64 v)))], []⟩) (fun v => r = F320_1 v) ?_ ?_
  · skip
    refine AW_region ?_
    refine AL_cons (LR_loads (at_tmp 2 _) ag23 sz23 rfl rfl rfl) (sS (sT1 rfl) (sB1 rfl) sF0) ?_
    refine AL_cons (LR_move (at_tmp 1 _) rfl) (sS (sT1 rfl) sB0 sF0) ?_
    obtain ⟨y2, hy2, hr⟩ := lt_some hr
    refine AL_cons (LR_call Hfaa.func178 rfl rfl (C178 a0_0 a0_1 a1 y2 hy2) (all_cons (at_tmp 8 _) (all_cons (at_tmp 9 _) all_nil)) rfl) (sS (sA (sT1 rfl) (sA (sT1 rfl) sT0)) sB0 sF0) ?_
    refine AL_cons (LR_move (at_tmp 10 _) rfl) (sS (sT1 rfl) sB0 sF0) ?_
    refine AL_cons (LR_extract (at_tmp 7 _) rfl rfl) (sS (sT1 rfl) sB0 sF0) ?_
    refine AL_cons (LR_extract (at_tmp 7 _) rfl rfl) (sS (sT1 rfl) sB0 sF0) ?_
    refine AL_cons (LR_assign (at_tmp 11 _) rfl) (sS (sT1 rfl) sB0 sF0) ?_
    refine AL_cons (LR_assign (at_tmp 12 _) rfl) (sS (sT1 rfl) sB0 sF0) ?_
    refine AL_nil ?_
    exact thenN (cutLeaf (v := y2.1) hr (weak0 ((sT rfl sT0)) (sub_drop sub_nil)))
  · rintro x1 hr
    show AW Hfaa.prog _ _ _ ⟨[(5, .inl (is (U64 x1)))], []⟩
    have hr : r = F320_1 x1 := hr
    refine AW_seq1 ?_
    refine AW_region ?_
    refine AL_cons (LR_move (at_tmp 5 _) rfl) (sS (sT1 rfl) sB0 sF0) ?_
    refine AL_cons (LR_assign (at_tmp 13 _) rfl) (sS (sT1 rfl) sB0 sF0) ?_
    refine AL_nil ?_
    refine thenN ?_
    refine AW_ret ?_
    subst hr
    exact res1 rfl (rvT rfl)
/-- calc/so.flags -/
def F321_1 (N : Nat) (x1 : BitVec 8) : Option (BitVec 8) := some x1
def F321_10 (N : Nat) (a0_0 : BitVec 8) (a0_1 : BitVec 8) (a1 : BitVec 8) (a3 : BitVec 64) (x10 : Bool) : Option (BitVec 8) := bif x10 then (F174 N a0_0 a0_1 a1 a3).bind fun y16 => F321_1 N y16.2 else F321_1 N (0#8)
def F321_9 (N : Nat) (a0_0 : BitVec 8) (a0_1 : BitVec 8) (a1 : BitVec 8) (a3 : BitVec 64) (a4 : BitVec 64) (x2 : BitVec 64) (x9 : Bool) : Option (BitVec 8) := bif x9 then (F173 N a0_0 a0_1 a3 a4).bind fun y15 => F321_1 N y15.2 else F321_10 N a0_0 a0_1 a1 a3 (x2 == (7#64))
def F321_8 (N : Nat) (a0_0 : BitVec 8) (a0_1 : BitVec 8) (a1 : BitVec 8) (a3 : BitVec 64) (a4 : BitVec 64) (a5 : BitVec 64) (x2 : BitVec 64) (x8 : Bool) : Option (BitVec 8) := bif x8 then (F172 N a0_0 a0_1 a1 a3 a4 a5).bind fun y14 => F321_1 N y14.2 else F321_9 N a0_0 a0_1 a1 a3 a4 x2 (x2 == (6#64))
def F321_7 (N : Nat) (a0_0 : BitVec 8) (a0_1 : BitVec 8) (a1 : BitVec 8) (a3 : BitVec 64) (a4 : BitVec 64) (a5 : BitVec 64) (x2 : BitVec 64) (x7 : Bool) : Option (BitVec 8) := bif x7 then (F152 N a0_0 a0_1 a1 a3).bind fun y13 => F321_1 N y13.2 else F321_8 N a0_0 a0_1 a1 a3 a4 a5 x2 (x2 == (5#64))
def F321_6 (N : Nat) (a0_0 : BitVec 8) (a0_1 : BitVec 8) (a1 : BitVec 8) (a3 : BitVec 64) (a4 : BitVec 64) (a5 : BitVec 64) (x2 : BitVec 64) (x6 : Bool) : Option (BitVec 8) := bif x6 then (F191 N a0_0 a0_1 a1 a3 a4).bind fun y12 => F321_1 N y12.2 else F321_7 N a0_0 a0_1 a1 a3 a4 a5 x2 (x2 == (4#64))
def F321_5 (N : Nat) (a0_0 : BitVec 8) (a0_1 : BitVec 8) (a1 : BitVec 8) (a3 : BitVec 64) (a4 : BitVec 64) (a5 : BitVec 64) (x2 : BitVec 64) (x5 : Bool) : Option (BitVec 8) := bif x5 then (F190 N a0_0 a0_1 a1 a3 a4).bind fun y11 => F321_1 N y11.2 else F321_6 N a0_0 a0_1 a1 a3 a4 a5 x2 (x2 == (3#64))
def F321_4 (N : Nat) (a0_0 : BitVec 8) (a0_1 : BitVec 8) (a1 : BitVec 8) (a3 : BitVec 64) (a4 : BitVec 64) (a5 : BitVec 64) (x2 : BitVec 64) (x4 : Bool) : Option (BitVec 8) := bif x4 then (F189 N a0_0 a0_1 a1 a3 a4).bind fun y10 => F321_1 N y10.2 else F321_5 N a0_0 a0_1 a1 a3 a4 a5 x2 (x2 == (2#64))
def F321_3 (N : Nat) (a0_0 : BitVec 8) (a0_1 : BitVec 8) (a1 : BitVec 8) (a3 : BitVec 64) (a4 : BitVec 64) (a5 : BitVec 64) (x2 : BitVec 64) (x3 : Bool) : Option (BitVec 8) := bif x3 then (F188 N a0_0 a0_1 a1 a3 a4).bind fun y9 => F321_1 N y9.2 else F321_4 N a0_0 a0_1 a1 a3 a4 a5 x2 (x2 == (1#64))
def F321_2 (N : Nat) (a0_0 : BitVec 8) (a0_1 : BitVec 8) (a1 : BitVec 8) (a3 : BitVec 64) (a4 : BitVec 64) (a5 : BitVec 64) (x2 : BitVec 64) : Option (BitVec 8) := F321_3 N a0_0 a0_1 a1 a3 a4 a5 x2 (x2 == (0#64))
def F321 (N : Nat) (a0_0 : BitVec 8) (a0_1 : BitVec 8) (a1 : BitVec 8) (a2 : BitVec 64) (a3 : BitVec 64) (a4 : BitVec 64) (a5 : BitVec 64) : Option (BitVec 8) := F321_2 N a0_0 a0_1 a1 a3 a4 a5 (a2 &&& (7#64))
theorem C321 (N : Nat) (a0_0 : BitVec 8) (a0_1 : BitVec 8) (a1 : BitVec 8) (a2 : BitVec 64) (a3 : BitVec 64) (a4 : BitVec 64) (a5 : BitVec 64) (r : BitVec 8) (hr : some r = F321 N a0_0 a0_1 a1 a2 a3 a4 a5) : Aw.Fn Hfaa.prog 321 [agg [is (U8 a0_0), is (U8 a0_1)], is (U8 a1), is (U64 a2), is (U64 a3), is (U64 a4), is (U64 a5)] (is (U8 r)) := by
  refine fn_intro Hfaa.func321 rfl rfl rfl ?_
  intro bn0 w0 H0
  refine AW_seq1 ?_
  refine AW_region ?_
  refine AL_cons (LR_box (at_tmp 0 _) (cells_agg _) rfl) (sS (sT1 rfl) sB0 (sF1 rfl)) ?_
  refine AL_cons (LR_assign (at_c (v' := U8 (0#8)) rfl) rfl) (sS sT0 sB0 sF0) ?_
  refine AL_nil ?_
  refine thenN ?_
  refine AW_seq1 ?_
  refine AW_region ?_
  refine AL_cons (LR_assign (at_c (v' := U8 (0#8)) rfl) rfl) (sS sT0 sB0 sF0) ?_
  refine AL_nil ?_
  refine thenN ?_
  refine AW_cut (σ := BitVec 8) (fun v => ⟨[(13, .inl (is (U8 v)))], []⟩) (fun v => some r = F321_1 N v) ?_ ?_
  · skip
    refine AW_cut (σ := BitVec 64) (fun v => ⟨[(1, .inl (is (U8 a1))), (3, .inl (is (U64 a3))), (4, .inl (is (U64 a4))), (5, .inl (is (U64 a5))), (6, .inr (.inl (6, 0))), (13, .inl (is (U8 (0#8)))), (15, .inl (is (U64 v)))], [(6, pb 23 [is (U8 a0_0), is (U8 a0_1)])]⟩) (fun v => some r = F321_2 N a0_0 a0_1 a1 a3 a4 a5 v) ?_ ?_
    · skip
      refine AW_region ?_
      refine AL_cons (LR_move (at_tmp 2 _) rfl) (sS (sT1 rfl) sB0 sF0) ?_
      refine AL_cons (LR_bin (at_tmp 14 _) (at_c (v' := U64 (7#64)) rfl) (and_U64 a2 (7#64)) rfl) (sS (sA (sT1 rfl) sT0) sB0 sF0) ?_
      refine AL_nil ?_
      exact thenN (cutLeaf (v := a2 &&& (7#64)) hr (weak0 ((sT rfl (sT rfl (sT rfl (sT rfl (sT rfl (sT rfl (sT rfl sT0)))))))) (sub_keep sub_nil)))
    · rintro x2 hr
      show AW Hfaa.prog _ _ _ ⟨[(1, .inl (is (U8 a1))), (3, .inl (is (U64 a3))), (4, .inl (is (U64 a4))), (5, .inl (is (U64 a5))), (6, .inr (.inl (6, 0))), (13, .inl (is (U8 (0#8)))), (15, .inl (is (U64 x2)))], [(6, pb 23 [is (U8 a0_0), is (U8 a0_1)])]⟩
      have hr : some r = F321_2 N a0_0 a0_1 a1 a3 a4 a5 x2 := hr
      refine AW_block ?_
      refine AW_cut (σ := Bool) (fun v => ⟨[(1, .inl (is (U8 a1))), (3, .inl (is (U64 a3))), (4, .inl (is (U64 a4))), (5, .inl (is (U64 a5))), (6, .inr (.inl (6, 0))), (13, .inl (is (U8 (0#8)))), (15, .inl (is (U64 x2))), (16, .inl (is (Bl v)))], [(6, pb 23 [is (U8 a0_0), is (U8 a0_1)])]⟩) (fun v => some r = F321_3 N a0_0 a0_1 a1 a3 a4 a5 x2 v) ?_ ?_
      · skip
        refine AW_region ?_
        refine AL_cons (LR_bin (at_tmp 15 _) (at_c (v' := U64 (0#64)) rfl) (eql_U64 x2 (0#64)) rfl) (sS (sA (sT1 rfl) sT0) sB0 sF0) ?_
        refine AL_cons (LR_assign (at_tmp 17 _) rfl) (sS (sT1 rfl) sB0 sF0) ?_
        refine AL_nil ?_
        exact thenN (cutLeaf (v := x2 == (0#64)) hr (weak0 ((sT rfl (sT rfl (sT rfl (sT rfl (sT rfl (sT rfl (sT rfl (sT rfl sT0))))))))) (sub_keep sub_nil)))
      · rintro x3 hr
        show AW Hfaa.prog _ _ _ ⟨[(1, .inl (is (U8 a1))), (3, .inl (is (U64 a3))), (4, .inl (is (U64 a4))), (5, .inl (is (U64 a5))), (6, .inr (.inl (6, 0))), (13, .inl (is (U8 (0#8)))), (15, .inl (is (U64 x2))), (16, .inl (is (Bl x3)))], [(6, pb 23 [is (U8 a0_0), is (U8 a0_1)])]⟩
        have hr : some r = F321_3 N a0_0 a0_1 a1 a3 a4 a5 x2 x3 := hr
        refine AW_condT (b := x3) rfl (fun h => ?_) (fun h => ?_)
        · have hr := hr.trans (cond_t h)
          clear h
          refine AW_region ?_
          refine AL_cons (LR_loads (at_tmp 6 _) ag23 sz23 rfl rfl rfl) (sS (sT1 rfl) (sB1 rfl) sF0) ?_
          refine AL_cons (LR_move (at_tmp 1 _) rfl) (sS (sT1 rfl) sB0 sF0) ?_
          refine AL_cons (LR_move (at_tmp 3 _) rfl) (sS (sT1 rfl) sB0 sF0) ?_
          refine AL_cons (LR_move (at_tmp 4 _) rfl) (sS (sT1 rfl) sB0 sF0) ?_
          obtain ⟨y9, hy9, hr⟩ := bind_some hr
          refine AL_cons (LR_call Hfaa.func188 rfl rfl (C188 N a0_0 a0_1 a1 a3 a4 y9 hy9) (all_cons (at_tmp 19 _) (all_cons (at_tmp 20 _) (all_cons (at_tmp 21 _) (all_cons (at_tmp 22 _) all_nil)))) rfl) (sS (sA (sT1 rfl) (sA (sT1 rfl) (sA (sT1 rfl) (sA (sT1 rfl) sT0)))) sB0 sF0) ?_
          refine AL_cons (LR_move (at_tmp 23 _) rfl) (sS (sT1 rfl) sB0 sF0) ?_
          refine AL_cons (LR_extract (at_tmp 18 _) rfl rfl) (sS (sT1 rfl) sB0 sF0) ?_
          refine AL_cons (LR_extract (at_tmp 18 _) rfl rfl) (sS (sT1 rfl) sB0 sF0) ?_
          refine AL_cons (LR_assign (at_tmp 25 _) rfl) (sS (sT1 rfl) sB0 sF0) ?_
          refine AL_nil ?_
          refine blN ?_
          exact thenN (cutLeaf (v := y9.2) hr (weak0 ((sT rfl sT0)) (sub_drop sub_nil)))
        · have hr := hr.trans (cond_f h)
          clear h
          refine AW_cut (σ := Bool) (fun v => ⟨[(1, .inl (is (U8 a1))), (3, .inl (is (U64 a3))), (4, .inl (is (U64 a4))), (5, .inl (is (U64 a5))), (6, .inr (.inl (6, 0))), (13, .inl (is (U8 (0#8)))), (15, .inl (is (U64 x2))), (26, .inl (is (Bl v)))], [(6, pb 23 [is (U8 a0_0), is (U8 a0_1)])]⟩) (fun v => some r = F321_4 N a0_0 a0_1 a1 a3 a4 a5 x2 v) ?_ ?_
          · skip
            refine AW_region ?_
            refine AL_cons (LR_bin (at_tmp 15 _) (at_c (v' := U64 (1#64)) rfl) (eql_U64 x2 (1#64)) rfl) (sS (sA (sT1 rfl) sT0) sB0 sF0) ?_
            refine AL_cons (LR_assign (at_tmp 27 _) rfl) (sS (sT1 rfl) sB0 sF0) ?_
            refine AL_nil ?_
            exact thenN (cutLeaf (v := x2 == (1#64)) hr (weak0 ((sT rfl (sT rfl (sT rfl (sT rfl (sT rfl (sT rfl (sT rfl (sT rfl sT0))))))))) (sub_keep sub_nil)))
          · rintro x4 hr
            show AW Hfaa.prog _ _ _ ⟨[(1, .inl (is (U8 a1))), (3, .inl (is (U64 a3))), (4, .inl (is (U64 a4))), (5, .inl (is (U64 a5))), (6, .inr (.inl (6, 0))), (13, .inl (is (U8 (0#8)))), (15, .inl (is (U64 x2))), (26, .inl (is (Bl x4)))], [(6, pb 23 [is (U8 a0_0), is (U8 a0_1)])]⟩
            have hr : some r = F321_4 N a0_0 a0_1 a1 a3 a4 a5 x2 x4 := hr
            refine AW_condT (b := x4) rfl (fun h => ?_) (fun h => ?_)
            · have hr := hr.trans (cond_t h)
              clear h
              refine AW_region ?_
              refine AL_cons (LR_loads (at_tmp 6 _) ag23 sz23 rfl rfl rfl) (sS (sT1 rfl) (sB1 rfl) sF0) ?_
              refine AL_cons (LR_move (at_tmp 1 _) rfl) (sS (sT1 rfl) sB0 sF0) ?_
              refine AL_cons (LR_move (at_tmp 3 _) rfl) (sS (sT1 rfl) sB0 sF0) ?_
              refine AL_cons (LR_move (at_tmp 4 _) rfl) (sS (sT1 rfl) sB0 sF0) ?_
              obtain ⟨y10, hy10, hr⟩ := bind_some hr
              refine AL_cons (LR_call Hfaa.func189 rfl rfl (C189 N a0_0 a0_1 a1 a3 a4 y10 hy10) (all_cons (at_tmp 29 _) (all_cons (at_tmp 30 _) (all_cons (at_tmp 31 _) (all_cons (at_tmp 32 _) all_nil)))) rfl) (sS (sA (sT1 rfl) (sA (sT1 rfl) (sA (sT1 rfl) (sA (sT1 rfl) sT0)))) sB0 sF0) ?_
              refine AL_cons (LR_move (at_tmp 33 _) rfl) (sS (sT1 rfl) sB0 sF0) ?_
              refine AL_cons (LR_extract (at_tmp 28 _) rfl rfl) (sS (sT1 rfl) sB0 sF0) ?_
              refine AL_cons (LR_extract (at_tmp 28 _) rfl rfl) (sS (sT1 rfl) sB0 sF0) ?_
              refine AL_cons (LR_assign (at_tmp 35 _) rfl) (sS (sT1 rfl) sB0 sF0) ?_
              refine AL_nil ?_
              refine blN ?_
              exact thenN (cutLeaf (v := y10.2) hr (weak0 ((sT rfl sT0)) (sub_drop sub_nil)))
            · have hr := hr.trans (cond_f h)
              clear h
              refine AW_cut (σ := Bool) (fun v => ⟨[(1, .inl (is (U8 a1))), (3, .inl (is (U64 a3))), (4, .inl (is (U64 a4))), (5, .inl (is (U64 a5))), (6, .inr (.inl (6, 0))), (13, .inl (is (U8 (0#8)))), (15, .inl (is (U64 x2))), (36, .inl (is (Bl v)))], [(6, pb 23 [is (U8 a0_0), is (U8 a0_1)])]⟩) (fun v => some r = F321_5 N a0_0 a0_1 a1 a3 a4 a5 x2 v) ?_ ?_
              · skip
                refine AW_region ?_
                refine AL_cons (LR_bin (at_tmp 15 _) (at_c (v' := U64 (2#64)) rfl) (eql_U64 x2 (2#64)) rfl) (sS (sA (sT1 rfl) sT0) sB0 sF0) ?_
                refine AL_cons (LR_assign (at_tmp 37 _) rfl) (sS (sT1 rfl) sB0 sF0) ?_
                refine AL_nil ?_
                exact thenN (cutLeaf (v := x2 == (2#64)) hr (weak0 ((sT rfl (sT rfl (sT rfl (sT rfl (sT rfl (sT rfl (sT rfl (sT rfl sT0))))))))) (sub_keep sub_nil)))
              · rintro x5 hr
                show AW Hfaa.prog _ _ _ ⟨[(1, .inl (is (U8 a1))), (3, .inl (is (U64 a3))), (4, .inl (is (U64 a4))), (5, .inl (is (U64 a5))), (6, .inr (.inl (6, 0))), (13, .inl (is (U8 (0#8)))), (15, .inl (is (U64 x2))), (36, .inl (is (Bl x5)))], [(6, pb 23 [is (U8 a0_0), is (U8 a0_1)])]⟩
                have hr : some r = F321_5 N a0_0 a0_1 a1 a3 a4 a5 x2 x5 := hr
                refine AW_condT (b := x5) rfl (fun h => ?_) (fun h => ?_)
                · have hr := hr.trans (cond_t h)
                  clear h
                  refine AW_region ?_
                  refine AL_cons (LR_loads (at_tmp 6 _) ag23 sz23 rfl rfl rfl) (sS (sT1 rfl) (sB1 rfl) sF0) ?_
                  refine AL_cons (LR_move (at_tmp 1 _) rfl) (sS (sT1 rfl) sB0 sF0) ?_
                  refine AL_cons (LR_move (at_tmp 3 _) rfl) (sS (sT1 rfl) sB0 sF0) ?_
                  refine AL_cons (LR_move (at_tmp 4 _) rfl) (sS (sT1 rfl) sB0 sF0) ?_
                  obtain ⟨y11, hy11, hr⟩ := bind_some hr
                  refine AL_cons (LR_call Hfaa.func190 rfl rfl (C190 N a0_0 a0_1 a1 a3 a4 y11 hy11) (all_cons (at_tmp 39 _) (all_cons (at_tmp 40 _) (all_cons (at_tmp 41 _) (all_cons (at_tmp 42 _) all_nil)))) rfl) (sS (sA (sT1 rfl) (sA (sT1 rfl) (sA (sT1 rfl) (sA (sT1 rfl) sT0)))) sB0 sF0) ?_
                  refine AL_cons (LR_move (at_tmp 43 _) rfl) (sS (sT1 rfl) sB0 sF0) ?_
                  refine AL_cons (LR_extract (at_tmp 38 _) rfl rfl) (sS (sT1 rfl) sB0 sF0) ?_
                  refine AL_cons (LR_extract (at_tmp 38 _) rfl rfl) (sS (sT1 rfl) sB0 sF0) ?_
                  refine AL_cons (LR_assign (at_tmp 45 _) rfl) (sS (sT1 rfl) sB0 sF0) ?_
                  refine AL_nil ?_
                  refine blN ?_
                  exact thenN (cutLeaf (v := y11.2) hr (weak0 ((sT rfl sT0)) (sub_drop sub_nil)))
                · have hr := hr.trans (cond_f h)
                  clear h
                  refine AW_cut (σ := Bool) (fun v => ⟨[(1, .inl (is (U8 a1))), (3, .inl (is (U64 a3))), (4, .inl (is (U64 a4))), (5, .inl (is (U64 a5))), (6, .inr (.inl (6, 0))), (13, .inl (is (U8 (0#8)))), (15, .inl (is (U64 x2))), (46, .inl (is (Bl v)))], [(6, pb 23 [is (U8 a0_0), is (U8 a0_1)])]⟩) (fun v => some r = F321_6 N a0_0 a0_1 a1 a3 a4 a5 x2 v) ?_ ?_
                  · skip
                    refine AW_region ?_
                    refine AL_cons (LR_bin (at_tmp 15 _) (at_c (v' := U64 (3#64)) rfl) (eql_U64 x2 (3#64)) rfl) (sS (sA (sT1 rfl) sT0) sB0 sF0) ?_
                    refine AL_cons (LR_assign (at_tmp 47 _) rfl) (sS (sT1 rfl) sB0 sF0) ?_
                    refine AL_nil ?_
                    exact thenN (cutLeaf (v := x2 == (3#64)) hr (weak0 ((sT rfl (sT rfl (sT rfl (sT rfl (sT rfl (sT rfl (sT rfl (sT rfl sT0))))))))) (sub_keep sub_nil)))
                  · rintro x6 hr
                    show AW Hfaa.prog _ _ _ ⟨[(1, .inl (is (U8 a1))), (3, .inl (is (U64 a3))), (4, .inl (is (U64 a4))), (5, .inl (is (U64 a5))), (6, .inr (.inl (6, 0))), (13, .inl (is (U8 (0#8)))), (15, .inl (is (U64 x2))), (46, .inl (is (Bl x6)))], [(6, pb 23 [is (U8 a0_0), is (U8 a0_1)])]⟩
                    have hr : some r = F321_6 N a0_0 a0_1 a1 a3 a4 a5 x2 x6 := hr
                    refine AW_condT (b := x6) rfl (fun h => ?_) (fun h => ?_)
                    · have hr := hr.trans (cond_t h)
                      clear h
                      refine AW_region ?_
                      refine AL_cons (LR_loads (at_tmp 6 _) ag23 sz23 rfl rfl rfl) (sS (sT1 rfl) (sB1 rfl) sF0) ?_
                      refine AL_cons (LR_move (at_tmp 1 _) rfl) (sS (sT1 rfl) sB0 sF0) ?_
                      refine AL_cons (LR_move (at_tmp 3 _) rfl) (sS (sT1 rfl) sB0 sF0) ?_
                      refine AL_cons (LR_move (at_tmp 4 _) rfl) (sS (sT1 rfl) sB0 sF0) ?_
                      obtain ⟨y12, hy12, hr⟩ := bind_some hr
                      refine AL_cons (LR_call Hfaa.func191 rfl rfl (C191 N a0_0 a0_1 a1 a3 a4 y12 hy12) (all_cons (at_tmp 49 _) (all_cons (at_tmp 50 _) (all_cons (at_tmp 51 _) (all_cons (at_tmp 52 _) all_nil)))) rfl) (sS (sA (sT1 rfl) (sA (sT1 rfl) (sA (sT1 rfl) (sA (sT1 rfl) sT0)))) sB0 sF0) ?_
                      refine AL_cons (LR_move (at_tmp 53 _) rfl) (sS (sT1 rfl) sB0 sF0) ?_
                      refine AL_cons (LR_extract (at_tmp 48 _) rfl rfl) (sS (sT1 rfl) sB0 sF0) ?_
                      refine AL_cons (LR_extract (at_tmp 48 _) rfl rfl) (sS (sT1 rfl) sB0 sF0) ?_
                      refine AL_cons (LR_assign (at_tmp 55 _) rfl) (sS (sT1 rfl) sB0 sF0) ?_
                      refine AL_nil ?_
                      refine blN ?_
                      exact thenN (cutLeaf (v := y12.2) hr (weak0 ((sT rfl sT0)) (sub_drop sub_nil)))
                    · have hr := hr.trans (cond_f h)
                      clear h
                      refine AW_cut (σ := Bool) (fun v => ⟨[(1, .inl (is (U8 a1))), (3, .inl (is (U64 a3))), (4, .inl (is (U64 a4))), (5, .inl (is (U64 a5))), (6, .inr (.inl (6, 0))), (13, .inl (is (U8 (0#8)))), (15, .inl (is (U64 x2))), (56, .inl (is (Bl v)))], [(6, pb 23 [is (U8 a0_0), is (U8 a0_1)])]⟩) (fun v => some r = F321_7 N a0_0 a0_1 a1 a3 a4 a5 x2 v) ?_ ?_
                      · skip
                        refine AW_region ?_
                        refine AL_cons (LR_bin (at_tmp 15 _) (at_c (v' := U64 (4#64)) rfl) (eql_U64 x2 (4#64)) rfl) (sS (sA (sT1 rfl) sT0) sB0 sF0) ?_
                        refine AL_cons (LR_assign (at_tmp 57 _) rfl) (sS (sT1 rfl) sB0 sF0) ?_
                        refine AL_nil ?_
                        exact thenN (cutLeaf (v := x2 == (4#64)) hr (weak0 ((sT rfl (sT rfl (sT rfl (sT rfl (sT rfl (sT rfl (sT rfl (sT rfl sT0))))))))) (sub_keep sub_nil)))
                      · rintro x7 hr
                        show AW Hfaa.prog _ _ _ ⟨[(1, .inl (is (U8 a1))), (3, .inl (is (U64 a3))), (4, .inl (is (U64 a4))), (5, .inl (is (U64 a5))), (6, .inr (.inl (6, 0))), (13, .inl (is (U8 (0#8)))), (15, .inl (is (U64 x2))), (56, .inl (is (Bl x7)))], [(6, pb 23 [is (U8 a0_0), is (U8 a0_1)])]⟩
                        have hr : some r = F321_7 N a0_0 a0_1 a1 a3 a4 a5 x2 x7 := hr
                        refine AW_condT (b := x7) rfl (fun h => ?_) (fun h => ?_)
                        · have hr := hr.trans (cond_t h)
                          clear h
                          refine AW_region ?_
                          refine AL_cons (LR_loads (at_tmp 6 _) ag23 sz23 rfl rfl rfl) (sS (sT1 rfl) (sB1 rfl) sF0) ?_
                          refine AL_cons (LR_move (at_tmp 1 _) rfl) (sS (sT1 rfl) sB0 sF0) ?_
                          refine AL_cons (LR_move (at_tmp 3 _) rfl) (sS (sT1 rfl) sB0 sF0) ?_
                          obtain ⟨y13, hy13, hr⟩ := bind_some hr
                          refine AL_cons (LR_call Hfaa.func152 rfl rfl (C152 N a0_0 a0_1 a1 a3 y13 hy13) (all_cons (at_tmp 59 _) (all_cons (at_tmp 60 _) (all_cons (at_tmp 61 _) all_nil))) rfl) (sS (sA (sT1 rfl) (sA (sT1 rfl) (sA (sT1 rfl) sT0))) sB0 sF0) ?_
                          refine AL_cons (LR_move (at_tmp 62 _) rfl) (sS (sT1 rfl) sB0 sF0) ?_
                          refine AL_cons (LR_extract (at_tmp 58 _) rfl rfl) (sS (sT1 rfl) sB0 sF0) ?_
                          refine AL_cons (LR_extract (at_tmp 58 _) rfl rfl) (sS (sT1 rfl) sB0 sF0) ?_
                          refine AL_cons (LR_assign (at_tmp 64 _) rfl) (sS (sT1 rfl) sB0 sF0) ?_
                          refine AL_nil ?_
                          refine blN ?_
                          exact thenN (cutLeaf (v := y13.2) hr (weak0 ((sT rfl sT0)) (sub_drop sub_nil)))
                        · have hr := hr.trans (cond_f h)
                          clear h
                          refine AW_cut (σ := Bool) (fun v => ⟨[(1, .inl (is (U8 a1))), (3, .inl (is (U64 a3))), (4, .inl (is (U64 a4))), (5, .inl (is (U64 a5))), (6, .inr (.inl (6, 0))), (13, .inl (is (U8 (0#8)))), (15, .inl (is (U64 x2))), (65, .inl (is (Bl v)))], [(6, pb 23 [is (U8 a0_0), is (U8 a0_1)])]⟩) (fun v => some r = F321_8 N a0_0 a0_1 a1 a3 a4 a5 x2 v) ?_ ?_
                          · skip
                            refine AW_region ?_
                            refine AL_cons (LR_bin (at_tmp 15 _) (at_c (v' := U64 (5#64)) rfl) (eql_U64 x2 (5#64)) rfl) (sS (sA (sT1 rfl) sT0) sB0 sF0) ?_
                            refine AL_cons (LR_assign (at_tmp 66 _) rfl) (sS (sT1 rfl) sB0 sF0) ?_
                            refine AL_nil ?_
                            exact thenN (cutLeaf (v := x2 == (5#64)) hr (weak0 ((sT rfl (sT rfl (sT rfl (sT rfl (sT rfl (sT rfl (sT rfl (sT rfl sT0))))))))) (sub_keep sub_nil)))
                          · rintro x8 hr
                            show AW Hfaa.prog _ _ _ ⟨[(1, .inl (is (U8 a1))), (3, .inl (is (U64 a3))), (4, .inl (is (U64 a4))), (5, .inl (is (U64 a5))), (6, .inr (.inl (6, 0))), (13, .inl (is (U8 (0#8)))), (15, .inl (is (U64 x2))), (65, .inl (is (Bl x8)))], [(6, pb 23 [is (U8 a0_0), is (U8 a0_1)])]⟩
                            have hr : some r = F321_8 N a0_0 a0_1 a1 a3 a4 a5 x2 x8 := hr
                            refine AW_condT (b := x8) rfl (fun h => ?_) (fun h => ?_)
                            · have hr := hr.trans (cond_t h)
                              clear h
                              refine AW_region ?_
                              refine AL_cons (LR_loads (at_tmp 6 _) ag23 sz23 rfl rfl rfl) (sS (sT1 rfl) (sB1 rfl) sF0) ?_
                              refine AL_cons (LR_move (at_tmp 1 _) rfl) (sS (sT1 rfl) sB0 sF0) ?_
                              refine AL_cons (LR_move (at_tmp 3 _) rfl) (sS (sT1 rfl) sB0 sF0) ?_
                              refine AL_cons (LR_move (at_tmp 4 _) rfl) (sS (sT1 rfl) sB0 sF0) ?_
                              refine AL_cons (LR_move (at_tmp 5 _) rfl) (sS (sT1 rfl) sB0 sF0) ?_
                              obtain ⟨y14, hy14, hr⟩ := bind_some hr
                              refine AL_cons (LR_call Hfaa.func172 rfl rfl (C172 N a0_0 a0_1 a1 a3 a4 a5 y14 hy14) (all_cons (at_tmp 68 _) (all_cons (at_tmp 69 _) (all_cons (at_tmp 70 _) (all_cons (at_tmp 71 _) (all_cons (at_tmp 72 _) all_nil))))) rfl) (sS (sA (sT1 rfl) (sA (sT1 rfl) (sA (sT1 rfl) (sA (sT1 rfl) (sA (sT1 rfl) sT0))))) sB0 sF0) ?_
                              refine AL_cons (LR_move (at_tmp 73 _) rfl) (sS (sT1 rfl) sB0 sF0) ?_
                              refine AL_cons (LR_extract (at_tmp 67 _) rfl rfl) (sS (sT1 rfl) sB0 sF0) ?_
                              refine AL_cons (LR_extract (at_tmp 67 _) rfl rfl) (sS (sT1 rfl) sB0 sF0) ?_
                              refine AL_cons (LR_assign (at_tmp 75 _) rfl) (sS (sT1 rfl) sB0 sF0) ?_
                              refine AL_nil ?_
                              refine blN ?_
                              exact thenN (cutLeaf (v := y14.2) hr (weak0 ((sT rfl sT0)) (sub_drop sub_nil)))
                            · have hr := hr.trans (cond_f h)
                              clear h
                              refine AW_cut (σ := Bool) (fun v => ⟨[(1, .inl (is (U8 a1))), (3, .inl (is (U64 a3))), (4, .inl (is (U64 a4))), (6, .inr (.inl (6, 0))), (13, .inl (is (U8 (0#8)))), (15, .inl (is (U64 x2))), (76, .inl (is (Bl v)))], [(6, pb 23 [is (U8 a0_0), is (U8 a0_1)])]⟩) (fun v => some r = F321_9 N a0_0 a0_1 a1 a3 a4 x2 v) ?_ ?_
                              · skip
                                refine AW_region ?_
                                refine AL_cons (LR_bin (at_tmp 15 _) (at_c (v' := U64 (6#64)) rfl) (eql_U64 x2 (6#64)) rfl) (sS (sA (sT1 rfl) sT0) sB0 sF0) ?_
                                refine AL_cons (LR_assign (at_tmp 77 _) rfl) (sS (sT1 rfl) sB0 sF0) ?_
                                refine AL_nil ?_
                                exact thenN (cutLeaf (v := x2 == (6#64)) hr (weak0 ((sT rfl (sT rfl (sT rfl (sT rfl (sT rfl (sT rfl (sT rfl sT0)))))))) (sub_keep sub_nil)))
                              · rintro x9 hr
                                show AW Hfaa.prog _ _ _ ⟨[(1, .inl (is (U8 a1))), (3, .inl (is (U64 a3))), (4, .inl (is (U64 a4))), (6, .inr (.inl (6, 0))), (13, .inl (is (U8 (0#8)))), (15, .inl (is (U64 x2))), (76, .inl (is (Bl x9)))], [(6, pb 23 [is (U8 a0_0), is (U8 a0_1)])]⟩
                                have hr : some r = F321_9 N a0_0 a0_1 a1 a3 a4 x2 x9 := hr
                                refine AW_condT (b := x9) rfl (fun h => ?_) (fun h => ?_)
                                · have hr := hr.trans (cond_t h)
                                  clear h
                                  refine AW_region ?_
                                  refine AL_cons (LR_loads (at_tmp 6 _) ag23 sz23 rfl rfl rfl) (sS (sT1 rfl) (sB1 rfl) sF0) ?_
                                  refine AL_cons (LR_move (at_tmp 3 _) rfl) (sS (sT1 rfl) sB0 sF0) ?_
                                  refine AL_cons (LR_move (at_tmp 4 _) rfl) (sS (sT1 rfl) sB0 sF0) ?_
                                  obtain ⟨y15, hy15, hr⟩ := bind_some hr
                                  refine AL_cons (LR_call Hfaa.func173 rfl rfl (C173 N a0_0 a0_1 a3 a4 y15 hy15) (all_cons (at_tmp 79 _) (all_cons (at_tmp 80 _) (all_cons (at_tmp 81 _) all_nil))) rfl) (sS (sA (sT1 rfl) (sA (sT1 rfl) (sA (sT1 rfl) sT0))) sB0 sF0) ?_
                                  refine AL_cons (LR_move (at_tmp 82 _) rfl) (sS (sT1 rfl) sB0 sF0) ?_
                                  refine AL_cons (LR_extract (at_tmp 78 _) rfl rfl) (sS (sT1 rfl) sB0 sF0) ?_
                                  refine AL_cons (LR_extract (at_tmp 78 _) rfl rfl) (sS (sT1 rfl) sB0 sF0) ?_
                                  refine AL_cons (LR_assign (at_tmp 84 _) rfl) (sS (sT1 rfl) sB0 sF0) ?_
                                  refine AL_nil ?_
                                  refine blN ?_
                                  exact thenN (cutLeaf (v := y15.2) hr (weak0 ((sT rfl sT0)) (sub_drop sub_nil)))
                                · have hr := hr.trans (cond_f h)
                                  clear h
                                  refine AW_cut (σ := Bool) (fun v => ⟨[(1, .inl (is (U8 a1))), (3, .inl (is (U64 a3))), (6, .inr (.inl (6, 0))), (13, .inl (is (U8 (0#8)))), (85, .inl (is (Bl v)))], [(6, pb 23 [is (U8 a0_0), is (U8 a0_1)])]⟩) (fun v => some r = F321_10 N a0_0 a0_1 a1 a3 v) ?_ ?_
                                  · skip
                                    refine AW_region ?_
                                    refine AL_cons (LR_bin (at_tmp 15 _) (at_c (v' := U64 (7#64)) rfl) (eql_U64 x2 (7#64)) rfl) (sS (sA (sT1 rfl) sT0) sB0 sF0) ?_
                                    refine AL_cons (LR_assign (at_tmp 86 _) rfl) (sS (sT1 rfl) sB0 sF0) ?_
                                    refine AL_nil ?_
                                    exact thenN (cutLeaf (v := x2 == (7#64)) hr (weak0 ((sT rfl (sT rfl (sT rfl (sT rfl (sT rfl sT0)))))) (sub_keep sub_nil)))
                                  · rintro x10 hr
                                    show AW Hfaa.prog _ _ _ ⟨[(1, .inl (is (U8 a1))), (3, .inl (is (U64 a3))), (6, .inr (.inl (6, 0))), (13, .inl (is (U8 (0#8)))), (85, .inl (is (Bl x10)))], [(6, pb 23 [is (U8 a0_0), is (U8 a0_1)])]⟩
                                    have hr : some r = F321_10 N a0_0 a0_1 a1 a3 x10 := hr
                                    refine AW_condT (b := x10) rfl (fun h => ?_) (fun h => ?_)
                                    · have hr := hr.trans (cond_t h)
                                      clear h
                                      refine AW_region ?_
                                      refine AL_cons (LR_loads (at_tmp 6 _) ag23 sz23 rfl rfl rfl) (sS (sT1 rfl) (sB1 rfl) sF0) ?_
                                      refine AL_cons (LR_move (at_tmp 1 _) rfl) (sS (sT1 rfl) sB0 sF0) ?_
                                      refine AL_cons (LR_move (at_tmp 3 _) rfl) (sS (sT1 rfl) sB0 sF0) ?_
                                      obtain ⟨y16, hy16, hr⟩ := bind_some hr
                                      refine AL_cons (LR_call Hfaa.func174 rfl rfl (C174 N a0_0 a0_1 a1 a3 y16 hy16) (all_cons (at_tmp 88 _) (all_cons (at_tmp 89 _) (all_cons (at_tmp 90 _) all_nil))) rfl) (sS (sA (sT1 rfl) (sA (sT1 rfl) (sA (sT1 rfl) sT0))) sB0 sF0) ?_
                                      refine AL_cons (LR_move (at_tmp 91 _) rfl) (sS (sT1 rfl) sB0 sF0) ?_
                                      refine AL_cons (LR_extract (at_tmp 87 _) rfl rfl) (sS (sT1 rfl) sB0 sF0) ?_
                                      refine AL_cons (LR_extract (at_tmp 87 _) rfl rfl) (sS (sT1 rfl) sB0 sF0) ?_
                                      refine AL_cons (LR_assign (at_tmp 93 _) rfl) (sS (sT1 rfl) sB0 sF0) ?_
                                      refine AL_nil ?_
                                      refine blN ?_
                                      exact thenN (cutLeaf (v := y16.2) hr (weak0 ((sT rfl sT0)) (sub_drop sub_nil)))
                                    · have hr := hr.trans (cond_f h)
                                      clear h
                                      refine AW_skip ?_
                                      refine blN ?_
                                      exact thenN (cutLeaf (v := 0#8) hr (weak0 ((sT rfl sT0)) (sub_drop sub_nil)))
  · rintro x1 hr
    show AW Hfaa.prog _ _ _ ⟨[(13, .inl (is (U8 x1)))], []⟩
    have hr : some r = F321_1 N x1 := hr
    refine AW_seq1 ?_
    refine AW_region ?_
    refine AL_cons (LR_move (at_tmp 13 _) rfl) (sS (sT1 rfl) sB0 sF0) ?_
    refine AL_cons (LR_assign (at_tmp 94 _) rfl) (sS (sT1 rfl) sB0 sF0) ?_
    refine AL_nil ?_
    refine thenN ?_
    refine AW_ret ?_
    obtain rfl := Option.some.inj hr
    exact res1 rfl (rvT rfl)
/-- expand.classOf -/
def F199_1 (a0_0 : BitVec 8) (a0_1 : BitVec 8) (a1 : BitVec 64) (x1 : Bool) : Int := bif x1 then 4 else lt (F65 a0_0 a0_1 a1) fun y5 => y5.2.1
def F199 (a0_0 : BitVec 8) (a0_1 : BitVec 8) (a1 : BitVec 64) (a2 : BitVec 16) : Int := lt (F40 a0_0 a0_1) fun y6 => F199_1 a0_0 a0_1 a1 ((!y6) || (decide ((2000#16).toNat < a2.toNat)))
theorem C199 (a0_0 : BitVec 8) (a0_1 : BitVec 8) (a1 : BitVec 64) (a2 : BitVec 16) (r : Int) (hr : r = F199 a0_0 a0_1 a1 a2) : Aw.Fn Hfaa.prog 199 [agg [is (U8 a0_0), is (U8 a0_1)], is (U64 a1), is (U16 a2)] (is (I8 r)) := by
  refine fn_intro Hfaa.func199 rfl rfl rfl ?_
  intro bn0 w0 H0
  refine AW_seq1 ?_
  refine AW_region ?_
  refine AL_cons (LR_box (at_tmp 0 _) (cells_agg _) rfl) (sS (sT1 rfl) sB0 (sF1 rfl)) ?_
  refine AL_cons (LR_assign (at_c (v' := I8 0) rfl) rfl) (sS sT0 sB0 sF0) ?_
  refine AL_nil ?_
  refine thenN ?_
  refine AW_seq1 ?_
  refine AW_cut (σ := Bool) (fun v => ⟨[(1, .inl (is (U64 a1))), (3, .inr (.inl (3, 0))), (13, .inl (is (Bl v)))], [(3, pb 23 [is (U8 a0_0), is (U8 a0_1)])]⟩) (fun v => r = F199_1 a0_0 a0_1 a1 v) ?_ ?_
  · skip
    refine AW_region ?_
    refine AL_cons (LR_loads (at_tmp 3 _) ag23 sz23 rfl rfl rfl) (sS (sT1 rfl) (sB1 rfl) sF0) ?_
    obtain ⟨y6, hy6, hr⟩ := lt_some hr
    refine AL_cons (LR_call Hfaa.func40 rfl rfl (C40 a0_0 a0_1 y6 hy6) (all_cons (at_tmp 7 _) all_nil) rfl) (sS (sA (sT1 rfl) sT0) sB0 sF0) ?_
    refine AL_cons (LR_un (at_tmp 8 _) (not_Bl y6) rfl) (sS (sT1 rfl) sB0 sF0) ?_
    refine AL_cons (LR_move (at_tmp 9 _) rfl) (sS (sT1 rfl) sB0 sF0) ?_
    refine AL_cutAt 3 ⟨[(0, .inl (agg [is (U8 a0_0), is (U8 a0_1)])), (1, .inl (is (U64 a1))), (2, .inl (is (U16 a2))), (3, .inr (.inl (3, 0))), (6, .inl (is (I8 0))), (7, .inl (agg [is (U8 a0_0), is (U8 a0_1)])), (8, .inl (is (Bl y6))), (9, .inl (is (Bl (!y6)))), (10, .inl (is (Bl (!y6)))), (13, .inl (is (Bl ((!y6) || (decide ((2000#16).toNat < a2.toNat))))))], [(3, pb 23 [is (U8 a0_0), is (U8 a0_1)])]⟩ ?_ ?_
    · cases hb : !y6
      · skip
        refine AL_cons (LR_on rfl rfl rfl (LR_move (at_tmp 2 _) rfl)) (sS (sT rfl (sT1 rfl)) sB0 sF0) ?_
        refine AL_cons (LR_on rfl rfl rfl (LR_bin (at_tmp 11 _) (at_c (v' := U16 (2000#16)) rfl) (gtr_U16 a2 (2000#16)) rfl)) (sS (sT rfl (sA (sT1 rfl) sT0)) sB0 sF0) ?_
        refine AL_cons (LR_pick (b := false) (at_tmp 10 _) (at_c (v' := Bl true) rfl) (at_tmp 12 _) rfl) (sS (sA (sT1 rfl) (sA sT0 (sT1 rfl))) sB0 sF0) ?_
        exact AL_nil ⟨rfl, weak0 ((sT rfl (sT rfl (sT rfl (sT rfl (sT rfl (sT rfl (sT rfl (sT rfl (sT rfl (sT rfl sT0))))))))))) (sub_keep sub_nil)⟩
      · skip
        refine AL_cons (LR_off (b := true) rfl rfl rfl rfl) (sS (sT1 rfl) sB0 sF0) ?_
        refine AL_cons (LR_off (b := true) rfl rfl rfl rfl) (sS (sT1 rfl) sB0 sF0) ?_
        refine AL_cons (LR_pick (b := true) (at_tmp 10 _) (at_c (v' := Bl true) rfl) (at_tmp 12 _) rfl) (sS (sA (sT1 rfl) (sA sT0 (sT1 rfl))) sB0 sF0) ?_
        exact AL_nil ⟨rfl, weak0 ((sT rfl (sT rfl (sT rfl (sT rfl (sT rfl (sT rfl (sT rfl (sT rfl (sT rfl (sT rfl sT0))))))))))) (sub_keep sub_nil)⟩
    refine AL_nil ?_
    exact thenN (cutLeaf (v := (!y6) || (decide ((2000#16).toNat < a2.toNat))) hr (weak0 ((sT rfl (sT rfl (sT rfl sT0)))) (sub_keep sub_nil)))
  · rintro x1 hr
    show AW Hfaa.prog _ _ _ ⟨[(1, .inl (is (U64 a1))), (3, .inr (.inl (3, 0))), (13, .inl (is (Bl x1)))], [(3, pb 23 [is (U8 a0_0), is (U8 a0_1)])]⟩
    have hr : r = F199_1 a0_0 a0_1 a1 x1 := hr
    refine AW_condT (b := x1) rfl (fun h => ?_) (fun h => ?_)
    · have hr := hr.trans (cond_t h)
      clear h
      refine AW_seq1 ?_
      refine AW_region ?_
      refine AL_cons (LR_assign (at_c (v' := I8 4) rfl) rfl) (sS sT0 sB0 sF0) ?_
      refine AL_nil ?_
      refine thenN ?_
      refine AW_ret ?_
      refine thenR ?_
      subst hr
      exact res1 rfl (rvT rfl)
    · have hr := hr.trans (cond_f h)
      clear h
      refine AW_skip ?_
      refine thenN ?_
      refine AW_seq1 ?_
      refine AW_region ?_
      refine AL_cons (LR_loads (at_tmp 3 _) ag23 sz23 rfl rfl rfl) (sS (sT1 rfl) (sB1 rfl) sF0) ?_
      refine AL_cons (LR_move (at_tmp 1 _) rfl) (sS (sT1 rfl) sB0 sF0) ?_
      obtain ⟨y5, hy5, hr⟩ := lt_some hr
      refine AL_cons (LR_call Hfaa.func65 rfl rfl (C65 a0_0 a0_1 a1 y5 hy5) (all_cons (at_tmp 14 _) (all_cons (at_tmp 15 _) all_nil)) rfl) (sS (sA (sT1 rfl) (sA (sT1 rfl) sT0)) sB0 sF0) ?_
      refine AL_cons (LR_field (off := 1) (at_tmp 16 _) Hfaa.underlying112 rfl rfl na110 rfl rfl) (sS (sT1 rfl) sB0 sF0) ?_
      refine AL_cons (LR_assign (at_tmp 17 _) rfl) (sS (sT1 rfl) sB0 sF0) ?_
      refine AL_nil ?_
      refine thenN ?_
      refine AW_ret ?_
      subst hr
      exact res1 rfl (rvT rfl)
end Go.Proofs.YfwaawGreat
