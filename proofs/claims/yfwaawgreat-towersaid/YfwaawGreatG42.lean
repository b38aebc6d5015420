import Derived.Test.YfwaawGreatBig
namespace Go.Proofs.YfwaawGreat
open Go.Aw
set_option linter.unusedVariables false
set_option maxRecDepth 100000
set_option maxHeartbeats 1000000
/-- (*ryu.span).drop -/
def F270_5 (b0_2 : BitVec 64) (b0_5 : Bool) (x1 : Bool) (x2 : Bool) (x3 : BitVec 64) (x4 : BitVec 64) (x5 : BitVec 64) : BitVec 64 × BitVec 64 × BitVec 64 × Bool × Bool × Bool × BitVec 64 := (x4, x5, b0_2 / (10#64), x1, x2, b0_5, x3)
def F270_4 (b0_1 : BitVec 64) (b0_2 : BitVec 64) (b0_5 : Bool) (x1 : Bool) (x2 : Bool) (x3 : BitVec 64) (x4 : BitVec 64) : BitVec 64 × BitVec 64 × BitVec 64 × Bool × Bool × Bool × BitVec 64 := F270_5 b0_2 b0_5 x1 x2 x3 x4 (b0_1 / (10#64))
def F270_3 (b0_0 : BitVec 64) (b0_1 : BitVec 64) (b0_2 : BitVec 64) (b0_5 : Bool) (x1 : Bool) (x2 : Bool) (x3 : BitVec 64) : BitVec 64 × BitVec 64 × BitVec 64 × Bool × Bool × Bool × BitVec 64 := F270_4 b0_1 b0_2 b0_5 x1 x2 x3 (b0_0 / (10#64))
def F270_2 (b0_0 : BitVec 64) (b0_1 : BitVec 64) (b0_2 : BitVec 64) (b0_5 : Bool) (b0_6 : BitVec 64) (x1 : Bool) (x2 : Bool) : BitVec 64 × BitVec 64 × BitVec 64 × Bool × Bool × Bool × BitVec 64 := F270_3 b0_0 b0_1 b0_2 b0_5 x1 x2 (b0_1 % (10#64))
def F270_1 (b0_0 : BitVec 64) (b0_1 : BitVec 64) (b0_2 : BitVec 64) (b0_4 : Bool) (b0_5 : Bool) (b0_6 : BitVec 64) (x1 : Bool) : BitVec 64 × BitVec 64 × BitVec 64 × Bool × Bool × Bool × BitVec 64 := F270_2 b0_0 b0_1 b0_2 b0_5 b0_6 x1 (b0_4 && (b0_6 == (0#64)))
def F270 (b0_0 : BitVec 64) (b0_1 : BitVec 64) (b0_2 : BitVec 64) (b0_3 : Bool) (b0_4 : Bool) (b0_5 : Bool) (b0_6 : BitVec 64) : BitVec 64 × BitVec 64 × BitVec 64 × Bool × Bool × Bool × BitVec 64 := F270_1 b0_0 b0_1 b0_2 b0_4 b0_5 b0_6 (b0_3 && ((b0_0 % (10#64)) == (0#64)))
theorem C270 (b0_0 : BitVec 64) (b0_1 : BitVec 64) (b0_2 : BitVec 64) (b0_3 : Bool) (b0_4 : Bool) (b0_5 : Bool) (b0_6 : BitVec 64) (r : BitVec 64 × BitVec 64 × BitVec 64 × Bool × Bool × Bool × BitVec 64) (hr : r = F270 b0_0 b0_1 b0_2 b0_3 b0_4 b0_5 b0_6) : FnB Hfaa.prog 270 [.inr (.inl (0, 0))] [(0, pb 199 [is (U64 b0_0), is (U64 b0_1), is (U64 b0_2), is (Bl b0_3), is (Bl b0_4), is (Bl b0_5), is (U64 b0_6)])] (tup []) [(0, pb 199 [is (U64 r.1), is (U64 r.2.1), is (U64 r.2.2.1), is (Bl r.2.2.2.1), is (Bl r.2.2.2.2.1), is (Bl r.2.2.2.2.2.1), is (U64 r.2.2.2.2.2.2)])] := by
  refine fnB_intro Hfaa.func270 rfl rfl rfl rfl rfl ⟨hf_pb _ _, trivial⟩ ?_
  intro bn0 w0 H0
  refine AW_cut (σ := Bool) (fun v => ⟨[(0, .inr (.inl (0, 0)))], [(0, pb 199 [is (U64 b0_0), is (U64 b0_1), is (U64 b0_2), is (Bl v), is (Bl b0_4), is (Bl b0_5), is (U64 b0_6)])]⟩) (fun v => r = F270_1 b0_0 b0_1 b0_2 b0_4 b0_5 b0_6 v) ?_ ?_
  · skip
    refine AW_region ?_
    refine AL_cons (LR_move (at_tmp 0 _) rfl) (sS (sT1 rfl) sB0 sF0) ?_
    refine AL_cons (LR_move (at_tmp 0 _) rfl) (sS (sT1 rfl) sB0 sF0) ?_
    refine AL_cons (LR_nilCheck (at_tmp 3 _) rfl) (sS (sT1 rfl) sB0 sF0) ?_
    refine AL_cons (LR_fieldAddr (off := 0) (o := 3) (at_tmp 4 _) (fun b w => fa199_3 b 0 w) rfl) (sS (sT1 rfl) sB0 sF0) ?_
    refine AL_cons (LR_load (at_tmp 5 _) na4 rfl rfl) (sS (sT1 rfl) (sB1 rfl) sF0) ?_
    refine AL_cons (LR_move (at_tmp 6 _) rfl) (sS (sT1 rfl) sB0 sF0) ?_
    refine AL_cutAt 7 ⟨[(0, .inr (.inl (0, 0))), (2, .inr (.inl (0, 0))), (3, .inr (.inl (0, 0))), (4, .inr (.inl (0, 0))), (5, .inr (.inl (0, 3))), (6, .inl (is (Bl b0_3))), (7, .inl (is (Bl b0_3))), (14, .inl (is (Bl (b0_3 && ((b0_0 % (10#64)) == (0#64))))))], [(0, pb 199 [is (U64 b0_0), is (U64 b0_1), is (U64 b0_2), is (Bl b0_3), is (Bl b0_4), is (Bl b0_5), is (U64 b0_6)])]⟩ ?_ ?_
    · cases hb : b0_3
      · skip
        refine AL_cons (LR_off (b := false) rfl rfl rfl rfl) (sS (sT1 rfl) sB0 sF0) ?_
        refine AL_cons (LR_off (b := false) rfl rfl rfl rfl) (sS (sT1 rfl) sB0 sF0) ?_
        refine AL_cons (LR_off (b := false) rfl rfl rfl rfl) (sS (sT1 rfl) sB0 sF0) ?_
        refine AL_cons (LR_off (b := false) rfl rfl rfl rfl) (sS (sT1 rfl) sB0 sF0) ?_
        refine AL_cons (LR_off (b := false) rfl rfl rfl rfl) (sS (sT1 rfl) sB0 sF0) ?_
        refine AL_cons (LR_off (b := false) rfl rfl rfl rfl) (sS (sT1 rfl) sB0 sF0) ?_
        refine AL_cons (LR_pick (b := false) (at_tmp 7 _) (at_tmp 13 _) (at_c (v' := Bl false) rfl) rfl) (sS (sA (sT1 rfl) (sA (sT1 rfl) sT0)) sB0 sF0) ?_
        exact AL_nil ⟨rfl, weakB ((sT rfl (sT rfl (sT rfl (sT rfl (sT rfl (sT rfl (sT rfl (sT rfl sT0))))))))) (sub_keep sub_nil) rfl⟩
      · skip
        refine AL_cons (LR_on rfl rfl rfl (LR_move (at_tmp 0 _) rfl)) (sS (sT rfl (sT1 rfl)) sB0 sF0) ?_
        refine AL_cons (LR_on rfl rfl rfl (LR_nilCheck (at_tmp 8 _) rfl)) (sS (sT rfl (sT1 rfl)) sB0 sF0) ?_
        refine AL_cons (LR_on rfl rfl rfl (LR_fieldAddr (off := 0) (o := 0) (at_tmp 9 _) (fun b w => fa199_0 b 0 w) rfl)) (sS (sT rfl (sT1 rfl)) sB0 sF0) ?_
        refine AL_cons (LR_on rfl rfl rfl (LR_load (at_tmp 10 _) na30 rfl rfl)) (sS (sT rfl (sT1 rfl)) (sB1 rfl) sF0) ?_
        refine AL_cons (LR_on rfl rfl rfl (LR_bin (at_tmp 11 _) (at_c (v' := U64 (10#64)) rfl) (rem_U64 b0_0 (10#64) (by decide)) rfl)) (sS (sT rfl (sA (sT1 rfl) sT0)) sB0 sF0) ?_
        refine AL_cons (LR_on rfl rfl rfl (LR_bin (at_tmp 12 _) (at_c (v' := U64 (0#64)) rfl) (eql_U64 (b0_0 % (10#64)) (0#64)) rfl)) (sS (sT rfl (sA (sT1 rfl) sT0)) sB0 sF0) ?_
        refine AL_cons (LR_pick (b := true) (at_tmp 7 _) (at_tmp 13 _) (at_c (v' := Bl false) rfl) rfl) (sS (sA (sT1 rfl) (sA (sT1 rfl) sT0)) sB0 sF0) ?_
        exact AL_nil ⟨rfl, weakB ((sT rfl (sT rfl (sT rfl (sT rfl (sT rfl (sT rfl (sT rfl (sT rfl sT0))))))))) (sub_keep sub_nil) rfl⟩
    refine AL_cons (LR_nilCheck (at_tmp 2 _) rfl) (sS (sT1 rfl) sB0 sF0) ?_
    refine AL_cons (LR_fieldAddr (off := 0) (o := 3) (at_tmp 15 _) (fun b w => fa199_3 b 0 w) rfl) (sS (sT1 rfl) sB0 sF0) ?_
    refine AL_cons (LR_store (at_tmp 16 _) (at_tmp 14 _) (cells_one (one_is rfl)) (onC (one_is rfl) onN) sz4 rfl rfl) (sS (sA (sT1 rfl) (sT1 rfl)) (sB1 rfl) sF0) ?_
    refine AL_nil ?_
    exact thenN (cutLeaf (v := b0_3 && ((b0_0 % (10#64)) == (0#64))) hr (weakB ((sT rfl sT0)) (sub_keep sub_nil) rfl))
  · rintro x1 hr
    show AW Hfaa.prog _ _ _ ⟨[(0, .inr (.inl (0, 0)))], [(0, pb 199 [is (U64 b0_0), is (U64 b0_1), is (U64 b0_2), is (Bl x1), is (Bl b0_4), is (Bl b0_5), is (U64 b0_6)])]⟩
    have hr : r = F270_1 b0_0 b0_1 b0_2 b0_4 b0_5 b0_6 x1 := hr
    refine AW_cut (σ := Bool) (fun v => ⟨[(0, .inr (.inl (0, 0)))], [(0, pb 199 [is (U64 b0_0), is (U64 b0_1), is (U64 b0_2), is (Bl x1), is (Bl v), is (Bl b0_5), is (U64 b0_6)])]⟩) (fun v => r = F270_2 b0_0 b0_1 b0_2 b0_5 b0_6 x1 v) ?_ ?_
    · skip
      refine AW_region ?_
      refine AL_cons (LR_move (at_tmp 0 _) rfl) (sS (sT1 rfl) sB0 sF0) ?_
      refine AL_cons (LR_move (at_tmp 0 _) rfl) (sS (sT1 rfl) sB0 sF0) ?_
      refine AL_cons (LR_nilCheck (at_tmp 18 _) rfl) (sS (sT1 rfl) sB0 sF0) ?_
      refine AL_cons (LR_fieldAddr (off := 0) (o := 4) (at_tmp 19 _) (fun b w => fa199_4 b 0 w) rfl) (sS (sT1 rfl) sB0 sF0) ?_
      refine AL_cons (LR_load (at_tmp 20 _) na4 rfl rfl) (sS (sT1 rfl) (sB1 rfl) sF0) ?_
      refine AL_cons (LR_move (at_tmp 21 _) rfl) (sS (sT1 rfl) sB0 sF0) ?_
      refine AL_cutAt 6 ⟨[(0, .inr (.inl (0, 0))), (17, .inr (.inl (0, 0))), (18, .inr (.inl (0, 0))), (19, .inr (.inl (0, 0))), (20, .inr (.inl (0, 4))), (21, .inl (is (Bl b0_4))), (22, .inl (is (Bl b0_4))), (28, .inl (is (Bl (b0_4 && (b0_6 == (0#64))))))], [(0, pb 199 [is (U64 b0_0), is (U64 b0_1), is (U64 b0_2), is (Bl x1), is (Bl b0_4), is (Bl b0_5), is (U64 b0_6)])]⟩ ?_ ?_
      · cases hb : b0_4
        · skip
          refine AL_cons (LR_off (b := false) rfl rfl rfl rfl) (sS (sT1 rfl) sB0 sF0) ?_
          refine AL_cons (LR_off (b := false) rfl rfl rfl rfl) (sS (sT1 rfl) sB0 sF0) ?_
          refine AL_cons (LR_off (b := false) rfl rfl rfl rfl) (sS (sT1 rfl) sB0 sF0) ?_
          refine AL_cons (LR_off (b := false) rfl rfl rfl rfl) (sS (sT1 rfl) sB0 sF0) ?_
          refine AL_cons (LR_off (b := false) rfl rfl rfl rfl) (sS (sT1 rfl) sB0 sF0) ?_
          refine AL_cons (LR_pick (b := false) (at_tmp 22 _) (at_tmp 27 _) (at_c (v' := Bl false) rfl) rfl) (sS (sA (sT1 rfl) (sA (sT1 rfl) sT0)) sB0 sF0) ?_
          exact AL_nil ⟨rfl, weakB ((sT rfl (sT rfl (sT rfl (sT rfl (sT rfl (sT rfl (sT rfl (sT rfl sT0))))))))) (sub_keep sub_nil) rfl⟩
        · skip
          refine AL_cons (LR_on rfl rfl rfl (LR_move (at_tmp 0 _) rfl)) (sS (sT rfl (sT1 rfl)) sB0 sF0) ?_
          refine AL_cons (LR_on rfl rfl rfl (LR_nilCheck (at_tmp 23 _) rfl)) (sS (sT rfl (sT1 rfl)) sB0 sF0) ?_
          refine AL_cons (LR_on rfl rfl rfl (LR_fieldAddr (off := 0) (o := 6) (at_tmp 24 _) (fun b w => fa199_6 b 0 w) rfl)) (sS (sT rfl (sT1 rfl)) sB0 sF0) ?_
          refine AL_cons (LR_on rfl rfl rfl (LR_load (at_tmp 25 _) na30 rfl rfl)) (sS (sT rfl (sT1 rfl)) (sB1 rfl) sF0) ?_
          refine AL_cons (LR_on rfl rfl rfl (LR_bin (at_tmp 26 _) (at_c (v' := U64 (0#64)) rfl) (eql_U64 b0_6 (0#64)) rfl)) (sS (sT rfl (sA (sT1 rfl) sT0)) sB0 sF0) ?_
          refine AL_cons (LR_pick (b := true) (at_tmp 22 _) (at_tmp 27 _) (at_c (v' := Bl false) rfl) rfl) (sS (sA (sT1 rfl) (sA (sT1 rfl) sT0)) sB0 sF0) ?_
          exact AL_nil ⟨rfl, weakB ((sT rfl (sT rfl (sT rfl (sT rfl (sT rfl (sT rfl (sT rfl (sT rfl sT0))))))))) (sub_keep sub_nil) rfl⟩
      refine AL_cons (LR_nilCheck (at_tmp 17 _) rfl) (sS (sT1 rfl) sB0 sF0) ?_
      refine AL_cons (LR_fieldAddr (off := 0) (o := 4) (at_tmp 29 _) (fun b w => fa199_4 b 0 w) rfl) (sS (sT1 rfl) sB0 sF0) ?_
      refine AL_cons (LR_store (at_tmp 30 _) (at_tmp 28 _) (cells_one (one_is rfl)) (onC (one_is rfl) onN) sz4 rfl rfl) (sS (sA (sT1 rfl) (sT1 rfl)) (sB1 rfl) sF0) ?_
      refine AL_nil ?_
      exact thenN (cutLeaf (v := b0_4 && (b0_6 == (0#64))) hr (weakB ((sT rfl sT0)) (sub_keep sub_nil) rfl))
    · rintro x2 hr
      show AW Hfaa.prog _ _ _ ⟨[(0, .inr (.inl (0, 0)))], [(0, pb 199 [is (U64 b0_0), is (U64 b0_1), is (U64 b0_2), is (Bl x1), is (Bl x2), is (Bl b0_5), is (U64 b0_6)])]⟩
      have hr : r = F270_2 b0_0 b0_1 b0_2 b0_5 b0_6 x1 x2 := hr
      refine AW_cut (σ := BitVec 64) (fun v => ⟨[(0, .inr (.inl (0, 0)))], [(0, pb 199 [is (U64 b0_0), is (U64 b0_1), is (U64 b0_2), is (Bl x1), is (Bl x2), is (Bl b0_5), is (U64 v)])]⟩) (fun v => r = F270_3 b0_0 b0_1 b0_2 b0_5 x1 x2 v) ?_ ?_
      · skip
        refine AW_region ?_
        refine AL_cons (LR_move (at_tmp 0 _) rfl) (sS (sT1 rfl) sB0 sF0) ?_
        refine AL_cons (LR_move (at_tmp 0 _) rfl) (sS (sT1 rfl) sB0 sF0) ?_
        refine AL_cons (LR_nilCheck (at_tmp 32 _) rfl) (sS (sT1 rfl) sB0 sF0) ?_
        refine AL_cons (LR_fieldAddr (off := 0) (o := 1) (at_tmp 33 _) (fun b w => fa199_1 b 0 w) rfl) (sS (sT1 rfl) sB0 sF0) ?_
        refine AL_cons (LR_load (at_tmp 34 _) na30 rfl rfl) (sS (sT1 rfl) (sB1 rfl) sF0) ?_
        refine AL_cons (LR_bin (at_tmp 35 _) (at_c (v' := U64 (10#64)) rfl) (rem_U64 b0_1 (10#64) (by decide)) rfl) (sS (sA (sT1 rfl) sT0) sB0 sF0) ?_
        refine AL_cons (LR_nilCheck (at_tmp 31 _) rfl) (sS (sT1 rfl) sB0 sF0) ?_
        refine AL_cons (LR_fieldAddr (off := 0) (o := 6) (at_tmp 37 _) (fun b w => fa199_6 b 0 w) rfl) (sS (sT1 rfl) sB0 sF0) ?_
        refine AL_cons (LR_store (at_tmp 38 _) (at_tmp 36 _) (cells_one (one_is rfl)) (onC (one_is rfl) onN) sz30 rfl rfl) (sS (sA (sT1 rfl) (sT1 rfl)) (sB1 rfl) sF0) ?_
        refine AL_nil ?_
        exact thenN (cutLeaf (v := b0_1 % (10#64)) hr (weakB ((sT rfl sT0)) (sub_keep sub_nil) rfl))
      · rintro x3 hr
        show AW Hfaa.prog _ _ _ ⟨[(0, .inr (.inl (0, 0)))], [(0, pb 199 [is (U64 b0_0), is (U64 b0_1), is (U64 b0_2), is (Bl x1), is (Bl x2), is (Bl b0_5), is (U64 x3)])]⟩
        have hr : r = F270_3 b0_0 b0_1 b0_2 b0_5 x1 x2 x3 := hr
        refine AW_cut (σ := BitVec 64) (fun v => ⟨[(0, .inr (.inl (0, 0)))], [(0, pb 199 [is (U64 v), is (U64 b0_1), is (U64 b0_2), is (Bl x1), is (Bl x2), is (Bl b0_5), is (U64 x3)])]⟩) (fun v => r = F270_4 b0_1 b0_2 b0_5 x1 x2 x3 v) ?_ ?_
        · skip
          refine AW_region ?_
          refine AL_cons (LR_move (at_tmp 0 _) rfl) (sS (sT1 rfl) sB0 sF0) ?_
          refine AL_cons (LR_nilCheck (at_tmp 39 _) rfl) (sS (sT1 rfl) sB0 sF0) ?_
          refine AL_cons (LR_fieldAddr (off := 0) (o := 0) (at_tmp 40 _) (fun b w => fa199_0 b 0 w) rfl) (sS (sT1 rfl) sB0 sF0) ?_
          refine AL_cons (LR_load (at_tmp 41 _) na30 rfl rfl) (sS (sT1 rfl) (sB1 rfl) sF0) ?_
          refine AL_cons (LR_bin (at_tmp 42 _) (at_c (v' := U64 (10#64)) rfl) (quo_U64 b0_0 (10#64) (by decide)) rfl) (sS (sA (sT1 rfl) sT0) sB0 sF0) ?_
          refine AL_cons (LR_nilCheck (at_tmp 39 _) rfl) (sS (sT1 rfl) sB0 sF0) ?_
          refine AL_cons (LR_fieldAddr (off := 0) (o := 0) (at_tmp 44 _) (fun b w => fa199_0 b 0 w) rfl) (sS (sT1 rfl) sB0 sF0) ?_
          refine AL_cons (LR_store (at_tmp 45 _) (at_tmp 43 _) (cells_one (one_is rfl)) (onC (one_is rfl) onN) sz30 rfl rfl) (sS (sA (sT1 rfl) (sT1 rfl)) (sB1 rfl) sF0) ?_
          refine AL_nil ?_
          exact thenN (cutLeaf (v := b0_0 / (10#64)) hr (weakB ((sT rfl sT0)) (sub_keep sub_nil) rfl))
        · rintro x4 hr
          show AW Hfaa.prog _ _ _ ⟨[(0, .inr (.inl (0, 0)))], [(0, pb 199 [is (U64 x4), is (U64 b0_1), is (U64 b0_2), is (Bl x1), is (Bl x2), is (Bl b0_5), is (U64 x3)])]⟩
          have hr : r = F270_4 b0_1 b0_2 b0_5 x1 x2 x3 x4 := hr
          refine AW_cut (σ := BitVec 64) (fun v => ⟨[(0, .inr (.inl (0, 0)))], [(0, pb 199 [is (U64 x4), is (U64 v), is (U64 b0_2), is (Bl x1), is (Bl x2), is (Bl b0_5), is (U64 x3)])]⟩) (fun v => r = F270_5 b0_2 b0_5 x1 x2 x3 x4 v) ?_ ?_
          · skip
            refine AW_region ?_
            refine AL_cons (LR_move (at_tmp 0 _) rfl) (sS (sT1 rfl) sB0 sF0) ?_
            refine AL_cons (LR_nilCheck (at_tmp 46 _) rfl) (sS (sT1 rfl) sB0 sF0) ?_
            refine AL_cons (LR_fieldAddr (off := 0) (o := 1) (at_tmp 47 _) (fun b w => fa199_1 b 0 w) rfl) (sS (sT1 rfl) sB0 sF0) ?_
            refine AL_cons (LR_load (at_tmp 48 _) na30 rfl rfl) (sS (sT1 rfl) (sB1 rfl) sF0) ?_
            refine AL_cons (LR_bin (at_tmp 49 _) (at_c (v' := U64 (10#64)) rfl) (quo_U64 b0_1 (10#64) (by decide)) rfl) (sS (sA (sT1 rfl) sT0) sB0 sF0) ?_
            refine AL_cons (LR_nilCheck (at_tmp 46 _) rfl) (sS (sT1 rfl) sB0 sF0) ?_
            refine AL_cons (LR_fieldAddr (off := 0) (o := 1) (at_tmp 51 _) (fun b w => fa199_1 b 0 w) rfl) (sS (sT1 rfl) sB0 sF0) ?_
            refine AL_cons (LR_store (at_tmp 52 _) (at_tmp 50 _) (cells_one (one_is rfl)) (onC (one_is rfl) onN) sz30 rfl rfl) (sS (sA (sT1 rfl) (sT1 rfl)) (sB1 rfl) sF0) ?_
            refine AL_nil ?_
            exact thenN (cutLeaf (v := b0_1 / (10#64)) hr (weakB ((sT rfl sT0)) (sub_keep sub_nil) rfl))
          · rintro x5 hr
            show AW Hfaa.prog _ _ _ ⟨[(0, .inr (.inl (0, 0)))], [(0, pb 199 [is (U64 x4), is (U64 x5), is (U64 b0_2), is (Bl x1), is (Bl x2), is (Bl b0_5), is (U64 x3)])]⟩
            have hr : r = F270_5 b0_2 b0_5 x1 x2 x3 x4 x5 := hr
            refine AW_region ?_
            refine AL_cons (LR_move (at_tmp 0 _) rfl) (sS (sT1 rfl) sB0 sF0) ?_
            refine AL_cons (LR_nilCheck (at_tmp 53 _) rfl) (sS (sT1 rfl) sB0 sF0) ?_
            refine AL_cons (LR_fieldAddr (off := 0) (o := 2) (at_tmp 54 _) (fun b w => fa199_2 b 0 w) rfl) (sS (sT1 rfl) sB0 sF0) ?_
            refine AL_cons (LR_load (at_tmp 55 _) na30 rfl rfl) (sS (sT1 rfl) (sB1 rfl) sF0) ?_
            refine AL_cons (LR_bin (at_tmp 56 _) (at_c (v' := U64 (10#64)) rfl) (quo_U64 b0_2 (10#64) (by decide)) rfl) (sS (sA (sT1 rfl) sT0) sB0 sF0) ?_
            refine AL_cons (LR_nilCheck (at_tmp 53 _) rfl) (sS (sT1 rfl) sB0 sF0) ?_
            refine AL_cons (LR_fieldAddr (off := 0) (o := 2) (at_tmp 58 _) (fun b w => fa199_2 b 0 w) rfl) (sS (sT1 rfl) sB0 sF0) ?_
            refine AL_cons (LR_store (at_tmp 59 _) (at_tmp 57 _) (cells_one (one_is rfl)) (onC (one_is rfl) onN) sz30 rfl rfl) (sS (sA (sT1 rfl) (sT1 rfl)) (sB1 rfl) sF0) ?_
            refine AL_nil ?_
            subst hr
            exact ⟨res0 rfl , (sub_keep sub_nil)⟩
/-- (*ryu.span).digits -/
def F169_5 (N : Nat) (x9 : Int) (x10 : BitVec 64) (x11 : BitVec 64) (x12 : BitVec 64) (x13 : Bool) (x14 : Bool) (x15 : Bool) (x16 : BitVec 64) (x19 : Bool) : Option (BitVec 64 × Int × BitVec 64 × BitVec 64 × BitVec 64 × Bool × Bool × Bool × BitVec 64) := bif x19 then some ((x11 + (1#64), x9, x10, x11, x12, x13, x14, x15, x16)) else some (x11, x9, x10, x11, x12, x13, x14, x15, x16)
def F169_6 (N : Nat) (x9 : Int) (x10 : BitVec 64) (x11 : BitVec 64) (x12 : BitVec 64) (x13 : Bool) (x14 : Bool) (x15 : Bool) (x16 : BitVec 64) (x18 : Bool) (x20 : Bool) : Option (BitVec 64 × Int × BitVec 64 × BitVec 64 × BitVec 64 × Bool × Bool × Bool × BitVec 64) := bif x20 then F169_5 N x9 x10 x11 x12 x13 x14 x15 x16 true else F169_5 N x9 x10 x11 x12 x13 x14 x15 x16 x18
def F169_4 (N : Nat) (x9 : Int) (x10 : BitVec 64) (x11 : BitVec 64) (x12 : BitVec 64) (x13 : Bool) (x14 : Bool) (x15 : Bool) (x16 : BitVec 64) (x18 : Bool) : Option (BitVec 64 × Int × BitVec 64 × BitVec 64 × BitVec 64 × Bool × Bool × Bool × BitVec 64) := bif x11 == x10 then bif x15 then F169_6 N x9 x10 x11 x12 x13 x14 x15 x16 x18 (!x13) else F169_6 N x9 x10 x11 x12 x13 x14 x15 x16 x18 true else F169_6 N x9 x10 x11 x12 x13 x14 x15 x16 x18 false
def F169_7 (N : Nat) (x9 : Int) (x10 : BitVec 64) (x11 : BitVec 64) (x12 : BitVec 64) (x13 : Bool) (x14 : Bool) (x15 : Bool) (x16 : BitVec 64) (x17 : Bool) (x21 : Bool) : Option (BitVec 64 × Int × BitVec 64 × BitVec 64 × BitVec 64 × Bool × Bool × Bool × BitVec 64) := bif x21 then F169_4 N x9 x10 x11 x12 x13 x14 x15 x16 false else F169_4 N x9 x10 x11 x12 x13 x14 x15 x16 x17
def F169_3 (N : Nat) (x9 : Int) (x10 : BitVec 64) (x11 : BitVec 64) (x12 : BitVec 64) (x13 : Bool) (x14 : Bool) (x15 : Bool) (x16 : BitVec 64) (x17 : Bool) : Option (BitVec 64 × Int × BitVec 64 × BitVec 64 × BitVec 64 × Bool × Bool × Bool × BitVec 64) := F169_7 N x9 x10 x11 x12 x13 x14 x15 x16 x17 (((x16 == (5#64)) && x14) && ((x11 % (2#64)) == (0#64)))
def F169_2 (N : Nat) (x9 : Int) (x10 : BitVec 64) (x11 : BitVec 64) (x12 : BitVec 64) (x13 : Bool) (x14 : Bool) (x15 : Bool) (x16 : BitVec 64) : Option (BitVec 64 × Int × BitVec 64 × BitVec 64 × BitVec 64 × Bool × Bool × Bool × BitVec 64) := F169_3 N x9 x10 x11 x12 x13 x14 x15 x16 (decide ((5#64).toNat ≤ x16.toNat))
def F169_11 (N : Nat) (x23 : Int) (x32 : BitVec 64) (x33 : BitVec 64) (x34 : BitVec 64) (x35 : Bool) (x36 : Bool) (x37 : Bool) (x38 : BitVec 64) : Option ((Int × BitVec 64 × BitVec 64 × BitVec 64 × Bool × Bool × Bool × BitVec 64) ⊕ (BitVec 64 × Int × BitVec 64 × BitVec 64 × BitVec 64 × Bool × Bool × Bool × BitVec 64)) := some (.inl ((w16 (x23 + 1), x32, x33, x34, x35, x36, x37, x38)))
def F169_10 (N : Nat) (x23 : Int) (x24 : BitVec 64) (x25 : BitVec 64) (x26 : BitVec 64) (x27 : Bool) (x28 : Bool) (x29 : Bool) (x30 : BitVec 64) (x31 : Bool) : Option ((Int × BitVec 64 × BitVec 64 × BitVec 64 × Bool × Bool × Bool × BitVec 64) ⊕ (BitVec 64 × Int × BitVec 64 × BitVec 64 × BitVec 64 × Bool × Bool × Bool × BitVec 64)) := bif x31 then lt (F270 x24 x25 x26 x27 x28 x29 x30) fun y18 => F169_11 N x23 y18.1 y18.2.1 y18.2.2.1 y18.2.2.2.1 y18.2.2.2.2.1 y18.2.2.2.2.2.1 y18.2.2.2.2.2.2 else (F169_2 N x23 x24 x25 x26 x27 x28 x29 x30).map Sum.inr
def F169_L9b (N : Nat) (x23 : Int) (x24 : BitVec 64) (x25 : BitVec 64) (x26 : BitVec 64) (x27 : Bool) (x28 : Bool) (x29 : Bool) (x30 : BitVec 64) : Option ((Int × BitVec 64 × BitVec 64 × BitVec 64 × Bool × Bool × Bool × BitVec 64) ⊕ (BitVec 64 × Int × BitVec 64 × BitVec 64 × BitVec 64 × Bool × Bool × Bool × BitVec 64)) := F169_10 N x23 x24 x25 x26 x27 x28 x29 x30 ((decide ((10#64).toNat ≤ x25.toNat)) && ((x24 % (10#64)) == (0#64)))
def F169_L9 (N : Nat) : (Int × BitVec 64 × BitVec 64 × BitVec 64 × Bool × Bool × Bool × BitVec 64) → Option ((Int × BitVec 64 × BitVec 64 × BitVec 64 × Bool × Bool × Bool × BitVec 64) ⊕ (BitVec 64 × Int × BitVec 64 × BitVec 64 × BitVec 64 × Bool × Bool × Bool × BitVec 64)) := fun v => F169_L9b N v.1 v.2.1 v.2.2.1 v.2.2.2.1 v.2.2.2.2.1 v.2.2.2.2.2.1 v.2.2.2.2.2.2.1 v.2.2.2.2.2.2.2
def F169_8 (N : Nat) (x1 : Int) (x2 : BitVec 64) (x3 : BitVec 64) (x4 : BitVec 64) (x5 : Bool) (x6 : Bool) (x7 : Bool) (x8 : BitVec 64) (x22 : Bool) : Option (BitVec 64 × Int × BitVec 64 × BitVec 64 × BitVec 64 × Bool × Bool × Bool × BitVec 64) := bif x22 then iterL (F169_L9 N) N (x1, x2, x3, x4, x5, x6, x7, x8) else F169_2 N x1 x2 x3 x4 x5 x6 x7 x8
def F169_1 (N : Nat) (x1 : Int) (x2 : BitVec 64) (x3 : BitVec 64) (x4 : BitVec 64) (x5 : Bool) (x6 : Bool) (x7 : Bool) (x8 : BitVec 64) : Option (BitVec 64 × Int × BitVec 64 × BitVec 64 × BitVec 64 × Bool × Bool × Bool × BitVec 64) := F169_8 N x1 x2 x3 x4 x5 x6 x7 x8 (x7 && x5)
def F169_14 (N : Nat) (x39 : Int) (x48 : BitVec 64) (x49 : BitVec 64) (x50 : BitVec 64) (x51 : Bool) (x52 : Bool) (x53 : Bool) (x54 : BitVec 64) : Option ((Int × BitVec 64 × BitVec 64 × BitVec 64 × Bool × Bool × Bool × BitVec 64) ⊕ (BitVec 64 × Int × BitVec 64 × BitVec 64 × BitVec 64 × Bool × Bool × Bool × BitVec 64)) := some (.inl ((w16 (x39 + 1), x48, x49, x50, x51, x52, x53, x54)))
def F169_13 (N : Nat) (x39 : Int) (x40 : BitVec 64) (x41 : BitVec 64) (x42 : BitVec 64) (x43 : Bool) (x44 : Bool) (x45 : Bool) (x46 : BitVec 64) (x47 : Bool) : Option ((Int × BitVec 64 × BitVec 64 × BitVec 64 × Bool × Bool × Bool × BitVec 64) ⊕ (BitVec 64 × Int × BitVec 64 × BitVec 64 × BitVec 64 × Bool × Bool × Bool × BitVec 64)) := bif x47 then lt (F270 x40 x41 x42 x43 x44 x45 x46) fun y24 => F169_14 N x39 y24.1 y24.2.1 y24.2.2.1 y24.2.2.2.1 y24.2.2.2.2.1 y24.2.2.2.2.2.1 y24.2.2.2.2.2.2 else (F169_1 N x39 x40 x41 x42 x43 x44 x45 x46).map Sum.inr
def F169_L12b (N : Nat) (x39 : Int) (x40 : BitVec 64) (x41 : BitVec 64) (x42 : BitVec 64) (x43 : Bool) (x44 : Bool) (x45 : Bool) (x46 : BitVec 64) : Option ((Int × BitVec 64 × BitVec 64 × BitVec 64 × Bool × Bool × Bool × BitVec 64) ⊕ (BitVec 64 × Int × BitVec 64 × BitVec 64 × BitVec 64 × Bool × Bool × Bool × BitVec 64)) := bif decide ((10#64).toNat ≤ x41.toNat) then F169_13 N x39 x40 x41 x42 x43 x44 x45 x46 (decide ((x40 / (10#64)).toNat < (x42 / (10#64)).toNat)) else F169_13 N x39 x40 x41 x42 x43 x44 x45 x46 false
def F169_L12 (N : Nat) : (Int × BitVec 64 × BitVec 64 × BitVec 64 × Bool × Bool × Bool × BitVec 64) → Option ((Int × BitVec 64 × BitVec 64 × BitVec 64 × Bool × Bool × Bool × BitVec 64) ⊕ (BitVec 64 × Int × BitVec 64 × BitVec 64 × BitVec 64 × Bool × Bool × Bool × BitVec 64)) := fun v => F169_L12b N v.1 v.2.1 v.2.2.1 v.2.2.2.1 v.2.2.2.2.1 v.2.2.2.2.2.1 v.2.2.2.2.2.2.1 v.2.2.2.2.2.2.2
def F169 (N : Nat) (b0_0 : BitVec 64) (b0_1 : BitVec 64) (b0_2 : BitVec 64) (b0_3 : Bool) (b0_4 : Bool) (b0_5 : Bool) (b0_6 : BitVec 64) : Option (BitVec 64 × Int × BitVec 64 × BitVec 64 × BitVec 64 × Bool × Bool × Bool × BitVec 64) := iterL (F169_L12 N) N (0, b0_0, b0_1, b0_2, b0_3, b0_4, b0_5, b0_6)
theorem C169 (N : Nat) (b0_0 : BitVec 64) (b0_1 : BitVec 64) (b0_2 : BitVec 64) (b0_3 : Bool) (b0_4 : Bool) (b0_5 : Bool) (b0_6 : BitVec 64) (r : BitVec 64 × Int × BitVec 64 × BitVec 64 × BitVec 64 × Bool × Bool × Bool × BitVec 64) (hr : some r = F169 N b0_0 b0_1 b0_2 b0_3 b0_4 b0_5 b0_6) : FnB Hfaa.prog 169 [.inr (.inl (0, 0))] [(0, pb 199 [is (U64 b0_0), is (U64 b0_1), is (U64 b0_2), is (Bl b0_3), is (Bl b0_4), is (Bl b0_5), is (U64 b0_6)])] (tup [is (U64 r.1), is (I16 r.2.1)]) [(0, pb 199 [is (U64 r.2.2.1), is (U64 r.2.2.2.1), is (U64 r.2.2.2.2.1), is (Bl r.2.2.2.2.2.1), is (Bl r.2.2.2.2.2.2.1), is (Bl r.2.2.2.2.2.2.2.1), is (U64 r.2.2.2.2.2.2.2.2)])] := by
  refine fnB_intro Hfaa.func169 rfl rfl rfl rfl rfl ⟨hf_pb _ _, trivial⟩ ?_
  intro bn0 w0 H0
  refine AW_seq1 ?_
  refine AW_region ?_
  refine AL_cons (LR_assign (at_c (v' := U64 (0#64)) rfl) rfl) (sS sT0 sB0 sF0) ?_
  refine AL_cons (LR_assign (at_c (v' := I16 0) rfl) rfl) (sS sT0 sB0 sF0) ?_
  refine AL_nil ?_
  refine thenN ?_
  refine AW_cut (σ := Int × BitVec 64 × BitVec 64 × BitVec 64 × Bool × Bool × Bool × BitVec 64) (fun v => ⟨[(0, .inr (.inl (0, 0))), (3, .inl (is (I16 v.1)))], [(0, pb 199 [is (U64 v.2.1), is (U64 v.2.2.1), is (U64 v.2.2.2.1), is (Bl v.2.2.2.2.1), is (Bl v.2.2.2.2.2.1), is (Bl v.2.2.2.2.2.2.1), is (U64 v.2.2.2.2.2.2.2)])]⟩) (fun v => some r = F169_1 N v.1 v.2.1 v.2.2.1 v.2.2.2.1 v.2.2.2.2.1 v.2.2.2.2.2.1 v.2.2.2.2.2.2.1 v.2.2.2.2.2.2.2) ?_ ?_
  · skip
    refine AW_block ?_
    refine AW_iterR (σ := Int × BitVec 64 × BitVec 64 × BitVec 64 × Bool × Bool × Bool × BitVec 64) (r := r) (x0 := (0, b0_0, b0_1, b0_2, b0_3, b0_4, b0_5, b0_6)) (emb := fun v => ⟨[(0, .inr (.inl (0, 0))), (3, .inl (is (I16 v.1)))], [(0, pb 199 [is (U64 v.2.1), is (U64 v.2.2.1), is (U64 v.2.2.2.1), is (Bl v.2.2.2.2.1), is (Bl v.2.2.2.2.2.1), is (Bl v.2.2.2.2.2.2.1), is (U64 v.2.2.2.2.2.2.2)])]⟩) ?_ hr ?_
    · exact weakB ((sT rfl (sT rfl sT0))) (sub_keep sub_nil) rfl
    rintro ⟨x39, x40, x41, x42, x43, x44, x45, x46⟩ out4 hr
    show AW Hfaa.prog _ _ _ ⟨[(0, .inr (.inl (0, 0))), (3, .inl (is (I16 x39)))], [(0, pb 199 [is (U64 x40), is (U64 x41), is (U64 x42), is (Bl x43), is (Bl x44), is (Bl x45), is (U64 x46)])]⟩
    have hr : some out4 = F169_L12b N x39 x40 x41 x42 x43 x44 x45 x46 := hr
    refine AW_seq1 ?_
    refine AW_cut (σ := Bool) (fun v => ⟨[(0, .inr (.inl (0, 0))), (3, .inl (is (I16 x39))), (22, .inl (is (Bl v)))], [(0, pb 199 [is (U64 x40), is (U64 x41), is (U64 x42), is (Bl x43), is (Bl x44), is (Bl x45), is (U64 x46)])]⟩) (fun v => some out4 = F169_13 N x39 x40 x41 x42 x43 x44 x45 x46 v) ?_ ?_
    · skip
      rcases bool_em (decide ((10#64).toNat ≤ x41.toNat)) with hb32 | hb32
      · have hr := hr.trans (cond_f hb32)
        refine AW_draw mixed
          (lrC (LR_move (at_tmp 0 _) rfl)
          (lrC (LR_nilCheck (at_tmp 5 _) rfl)
          (lrC (LR_fieldAddr (off := 0) (o := 1) (at_tmp 6 _) (fun b w => fa199_1 b 0 w) rfl)
          (lrC (LR_load (at_tmp 7 _) na30 rfl rfl)
          (lrC (LR_asB (LR_bin (at_tmp 8 _) (at_c (v' := U64 (10#64)) rfl) (geq_U64 x41 (10#64)) rfl) hb32)
          (lrC (LR_move (at_tmp 9 _) rfl)
          (lrC (LR_off (b := false) rfl rfl rfl rfl)
          (lrC (LR_off (b := false) rfl rfl rfl rfl)
          (lrC (LR_off (b := false) rfl rfl rfl rfl)
          (lrC (LR_off (b := false) rfl rfl rfl rfl)
          (lrC (LR_off (b := false) rfl rfl rfl rfl)
          (lrC (LR_off (b := false) rfl rfl rfl rfl)
          (lrC (LR_off (b := false) rfl rfl rfl rfl)
          (lrC (LR_off (b := false) rfl rfl rfl rfl)
          (lrC (LR_off (b := false) rfl rfl rfl rfl)
          (lrC (LR_off (b := false) rfl rfl rfl rfl)
          (lrC (LR_off (b := false) rfl rfl rfl rfl)
          (lrC (LR_pick (b := false) (at_tmp 10 _) (at_tmp 21 _) (at_c (v' := Bl false) rfl) rfl)
          lrN))))))))))))))))))
          (by kernel_rfl)
          (saC (sS (sT1 rfl) sB0 sF0) (saC (sS (sT1 rfl) sB0 sF0) (saC (sS (sT1 rfl) sB0 sF0) (saC (sS (sT1 rfl) (sB1 rfl) sF0) (saC (sS (sA (sT1 rfl) sT0) sB0 sF0) (saC (sS (sT1 rfl) sB0 sF0) (saC (sS (sT1 rfl) sB0 sF0) (saC (sS (sT1 rfl) sB0 sF0) (saC (sS (sT1 rfl) sB0 sF0) (saC (sS (sT1 rfl) sB0 sF0) (saC (sS (sT1 rfl) sB0 sF0) (saC (sS (sT1 rfl) sB0 sF0) (saC (sS (sT1 rfl) sB0 sF0) (saC (sS (sT1 rfl) sB0 sF0) (saC (sS (sT1 rfl) sB0 sF0) (saC (sS (sT1 rfl) sB0 sF0) (saC (sS (sT1 rfl) sB0 sF0) (saC (sS (sA (sT1 rfl) (sA (sT1 rfl) sT0)) sB0 sF0) saN)))))))))))))))))) ?_
        exact thenN (cutLeaf (v := false) hr (weakB ((sT rfl (sT rfl (sT rfl sT0)))) (sub_keep sub_nil) rfl))
      · have hr := hr.trans (cond_t hb32)
        refine AW_draw mixed
          (lrC (LR_move (at_tmp 0 _) rfl)
          (lrC (LR_nilCheck (at_tmp 5 _) rfl)
          (lrC (LR_fieldAddr (off := 0) (o := 1) (at_tmp 6 _) (fun b w => fa199_1 b 0 w) rfl)
          (lrC (LR_load (at_tmp 7 _) na30 rfl rfl)
          (lrC (LR_asB (LR_bin (at_tmp 8 _) (at_c (v' := U64 (10#64)) rfl) (geq_U64 x41 (10#64)) rfl) hb32)
          (lrC (LR_move (at_tmp 9 _) rfl)
          (lrC (LR_on rfl rfl rfl (LR_move (at_tmp 0 _) rfl))
          (lrC (LR_on rfl rfl rfl (LR_nilCheck (at_tmp 11 _) rfl))
          (lrC (LR_on rfl rfl rfl (LR_fieldAddr (off := 0) (o := 2) (at_tmp 12 _) (fun b w => fa199_2 b 0 w) rfl))
          (lrC (LR_on rfl rfl rfl (LR_load (at_tmp 13 _) na30 rfl rfl))
          (lrC (LR_on rfl rfl rfl (LR_bin (at_tmp 14 _) (at_c (v' := U64 (10#64)) rfl) (quo_U64 x42 (10#64) (by decide)) rfl))
          (lrC (LR_on rfl rfl rfl (LR_move (at_tmp 0 _) rfl))
          (lrC (LR_on rfl rfl rfl (LR_nilCheck (at_tmp 16 _) rfl))
          (lrC (LR_on rfl rfl rfl (LR_fieldAddr (off := 0) (o := 0) (at_tmp 17 _) (fun b w => fa199_0 b 0 w) rfl))
          (lrC (LR_on rfl rfl rfl (LR_load (at_tmp 18 _) na30 rfl rfl))
          (lrC (LR_on rfl rfl rfl (LR_bin (at_tmp 19 _) (at_c (v' := U64 (10#64)) rfl) (quo_U64 x40 (10#64) (by decide)) rfl))
          (lrC (LR_on rfl rfl rfl (LR_bin (at_tmp 15 _) (at_tmp 20 _) (gtr_U64 (x42 / (10#64)) (x40 / (10#64))) rfl))
          (lrC (LR_pick (b := true) (at_tmp 10 _) (at_tmp 21 _) (at_c (v' := Bl false) rfl) rfl)
          lrN))))))))))))))))))
          (by kernel_rfl)
          (saC (sS (sT1 rfl) sB0 sF0) (saC (sS (sT1 rfl) sB0 sF0) (saC (sS (sT1 rfl) sB0 sF0) (saC (sS (sT1 rfl) (sB1 rfl) sF0) (saC (sS (sA (sT1 rfl) sT0) sB0 sF0) (saC (sS (sT1 rfl) sB0 sF0) (saC (sS (sT rfl (sT1 rfl)) sB0 sF0) (saC (sS (sT rfl (sT1 rfl)) sB0 sF0) (saC (sS (sT rfl (sT1 rfl)) sB0 sF0) (saC (sS (sT rfl (sT1 rfl)) (sB1 rfl) sF0) (saC (sS (sT rfl (sA (sT1 rfl) sT0)) sB0 sF0) (saC (sS (sT rfl (sT1 rfl)) sB0 sF0) (saC (sS (sT rfl (sT1 rfl)) sB0 sF0) (saC (sS (sT rfl (sT1 rfl)) sB0 sF0) (saC (sS (sT rfl (sT1 rfl)) (sB1 rfl) sF0) (saC (sS (sT rfl (sA (sT1 rfl) sT0)) sB0 sF0) (saC (sS (sT rfl (sA (sT1 rfl) (sT1 rfl))) sB0 sF0) (saC (sS (sA (sT1 rfl) (sA (sT1 rfl) sT0)) sB0 sF0) saN)))))))))))))))))) ?_
        exact thenN (cutLeaf (v := decide ((x40 / (10#64)).toNat < (x42 / (10#64)).toNat)) hr (weakB ((sT rfl (sT rfl (sT rfl sT0)))) (sub_keep sub_nil) rfl))
    · rintro x47 hr
      show AW Hfaa.prog _ _ _ ⟨[(0, .inr (.inl (0, 0))), (3, .inl (is (I16 x39))), (22, .inl (is (Bl x47)))], [(0, pb 199 [is (U64 x40), is (U64 x41), is (U64 x42), is (Bl x43), is (Bl x44), is (Bl x45), is (U64 x46)])]⟩
      have hr : some out4 = F169_13 N x39 x40 x41 x42 x43 x44 x45 x46 x47 := hr
      refine AW_condT (b := x47) rfl (fun h => ?_) (fun h => ?_)
      · have hr := hr.trans (cond_t h)
        clear h
        refine AW_skip ?_
        refine thenN ?_
        refine AW_block ?_
        refine AW_cut (σ := BitVec 64 × BitVec 64 × BitVec 64 × Bool × Bool × Bool × BitVec 64) (fun v => ⟨[(0, .inr (.inl (0, 0))), (3, .inl (is (I16 x39)))], [(0, pb 199 [is (U64 v.1), is (U64 v.2.1), is (U64 v.2.2.1), is (Bl v.2.2.2.1), is (Bl v.2.2.2.2.1), is (Bl v.2.2.2.2.2.1), is (U64 v.2.2.2.2.2.2)])]⟩) (fun v => some out4 = F169_14 N x39 v.1 v.2.1 v.2.2.1 v.2.2.2.1 v.2.2.2.2.1 v.2.2.2.2.2.1 v.2.2.2.2.2.2) ?_ ?_
        · skip
          refine AW_region ?_
          refine AL_cons (LR_move (at_tmp 0 _) rfl) (sS (sT1 rfl) sB0 sF0) ?_
          obtain ⟨y24, hy24, hr⟩ := lt_some hr
          refine AL_cons (LR_callB [(0, 0)] [(0, 0)] Hfaa.func270 rfl rfl (C270 x40 x41 x42 x43 x44 x45 x46 y24 hy24) (aTC (at_tmp 23 _) aT0) rfl rfl rfl rfl rfl) (sS (sA (sT1 rfl) sT0) (sB1 rfl) sF0) ?_
          refine AL_nil ?_
          exact thenN (cutLeaf (v := (y24.1, y24.2.1, y24.2.2.1, y24.2.2.2.1, y24.2.2.2.2.1, y24.2.2.2.2.2.1, y24.2.2.2.2.2.2)) hr (weakB ((sT rfl (sT rfl sT0))) (sub_keep sub_nil) rfl))
        · rintro ⟨x48, x49, x50, x51, x52, x53, x54⟩ hr
          show AW Hfaa.prog _ _ _ ⟨[(0, .inr (.inl (0, 0))), (3, .inl (is (I16 x39)))], [(0, pb 199 [is (U64 x48), is (U64 x49), is (U64 x50), is (Bl x51), is (Bl x52), is (Bl x53), is (U64 x54)])]⟩
          have hr : some out4 = F169_14 N x39 x48 x49 x50 x51 x52 x53 x54 := hr
          refine AW_region ?_
          refine AL_cons (LR_move (at_tmp 3 _) rfl) (sS (sT1 rfl) sB0 sF0) ?_
          refine AL_cons (LR_bin (at_tmp 25 _) (at_c (v' := I16 1) rfl) (add_I16 x39 1) rfl) (sS (sA (sT1 rfl) sT0) sB0 sF0) ?_
          refine AL_cons (LR_assign (at_tmp 26 _) rfl) (sS (sT1 rfl) sB0 sF0) ?_
          refine AL_nil ?_
          refine blN ?_
          exact thenN (loopNext (x' := (w16 (x39 + 1), x48, x49, x50, x51, x52, x53, x54)) hr (weakB ((sT rfl (sT rfl sT0))) (sub_keep sub_nil) rfl))
      · have hr := hr.trans (cond_f h)
        clear h
        refine AW_exit ?_
        refine thenX ?_
        obtain ⟨r', hro, hr⟩ := map_inr hr
        refine thenX (loopOut hro (fun he => ?_))
        rw [he] at hr
        refine blH ?_
        exact thenN (cutLeaf (v := (x39, x40, x41, x42, x43, x44, x45, x46)) hr (weakB ((sT rfl (sT rfl sT0))) (sub_keep sub_nil) rfl))
  · rintro ⟨x1, x2, x3, x4, x5, x6, x7, x8⟩ hr
    show AW Hfaa.prog _ _ _ ⟨[(0, .inr (.inl (0, 0))), (3, .inl (is (I16 x1)))], [(0, pb 199 [is (U64 x2), is (U64 x3), is (U64 x4), is (Bl x5), is (Bl x6), is (Bl x7), is (U64 x8)])]⟩
    have hr : some r = F169_1 N x1 x2 x3 x4 x5 x6 x7 x8 := hr
    refine AW_cut (σ := Int × BitVec 64 × BitVec 64 × BitVec 64 × Bool × Bool × Bool × BitVec 64) (fun v => ⟨[(0, .inr (.inl (0, 0))), (3, .inl (is (I16 v.1)))], [(0, pb 199 [is (U64 v.2.1), is (U64 v.2.2.1), is (U64 v.2.2.2.1), is (Bl v.2.2.2.2.1), is (Bl v.2.2.2.2.2.1), is (Bl v.2.2.2.2.2.2.1), is (U64 v.2.2.2.2.2.2.2)])]⟩) (fun v => some r = F169_2 N v.1 v.2.1 v.2.2.1 v.2.2.2.1 v.2.2.2.2.1 v.2.2.2.2.2.1 v.2.2.2.2.2.2.1 v.2.2.2.2.2.2.2) ?_ ?_
    · skip
      refine AW_cut (σ := Bool) (fun v => ⟨[(0, .inr (.inl (0, 0))), (3, .inl (is (I16 x1))), (36, .inl (is (Bl v)))], [(0, pb 199 [is (U64 x2), is (U64 x3), is (U64 x4), is (Bl x5), is (Bl x6), is (Bl x7), is (U64 x8)])]⟩) (fun v => some r = F169_8 N x1 x2 x3 x4 x5 x6 x7 x8 v) ?_ ?_
      · skip
        refine AW_region ?_
        refine AL_cons (LR_move (at_tmp 0 _) rfl) (sS (sT1 rfl) sB0 sF0) ?_
        refine AL_cons (LR_nilCheck (at_tmp 27 _) rfl) (sS (sT1 rfl) sB0 sF0) ?_
        refine AL_cons (LR_fieldAddr (off := 0) (o := 5) (at_tmp 28 _) (fun b w => fa199_5 b 0 w) rfl) (sS (sT1 rfl) sB0 sF0) ?_
        refine AL_cons (LR_load (at_tmp 29 _) na4 rfl rfl) (sS (sT1 rfl) (sB1 rfl) sF0) ?_
        refine AL_cons (LR_move (at_tmp 30 _) rfl) (sS (sT1 rfl) sB0 sF0) ?_
        refine AL_cutAt 5 ⟨[(0, .inr (.inl (0, 0))), (3, .inl (is (I16 x1))), (27, .inr (.inl (0, 0))), (28, .inr (.inl (0, 0))), (29, .inr (.inl (0, 5))), (30, .inl (is (Bl x7))), (31, .inl (is (Bl x7))), (36, .inl (is (Bl (x7 && x5))))], [(0, pb 199 [is (U64 x2), is (U64 x3), is (U64 x4), is (Bl x5), is (Bl x6), is (Bl x7), is (U64 x8)])]⟩ ?_ ?_
        · cases hb : x7
          · skip
            refine AL_cons (LR_off (b := false) rfl rfl rfl rfl) (sS (sT1 rfl) sB0 sF0) ?_
            refine AL_cons (LR_off (b := false) rfl rfl rfl rfl) (sS (sT1 rfl) sB0 sF0) ?_
            refine AL_cons (LR_off (b := false) rfl rfl rfl rfl) (sS (sT1 rfl) sB0 sF0) ?_
            refine AL_cons (LR_off (b := false) rfl rfl rfl rfl) (sS (sT1 rfl) sB0 sF0) ?_
            refine AL_cons (LR_pick (b := false) (at_tmp 31 _) (at_tmp 35 _) (at_c (v' := Bl false) rfl) rfl) (sS (sA (sT1 rfl) (sA (sT1 rfl) sT0)) sB0 sF0) ?_
            exact AL_nil ⟨rfl, weakB ((sT rfl (sT rfl (sT rfl (sT rfl (sT rfl (sT rfl (sT rfl (sT rfl sT0))))))))) (sub_keep sub_nil) rfl⟩
          · skip
            refine AL_cons (LR_on rfl rfl rfl (LR_move (at_tmp 0 _) rfl)) (sS (sT rfl (sT1 rfl)) sB0 sF0) ?_
            refine AL_cons (LR_on rfl rfl rfl (LR_nilCheck (at_tmp 32 _) rfl)) (sS (sT rfl (sT1 rfl)) sB0 sF0) ?_
            refine AL_cons (LR_on rfl rfl rfl (LR_fieldAddr (off := 0) (o := 3) (at_tmp 33 _) (fun b w => fa199_3 b 0 w) rfl)) (sS (sT rfl (sT1 rfl)) sB0 sF0) ?_
            refine AL_cons (LR_on rfl rfl rfl (LR_load (at_tmp 34 _) na4 rfl rfl)) (sS (sT rfl (sT1 rfl)) (sB1 rfl) sF0) ?_
            refine AL_cons (LR_pick (b := true) (at_tmp 31 _) (at_tmp 35 _) (at_c (v' := Bl false) rfl) rfl) (sS (sA (sT1 rfl) (sA (sT1 rfl) sT0)) sB0 sF0) ?_
            exact AL_nil ⟨rfl, weakB ((sT rfl (sT rfl (sT rfl (sT rfl (sT rfl (sT rfl (sT rfl (sT rfl sT0))))))))) (sub_keep sub_nil) rfl⟩
        refine AL_nil ?_
        exact thenN (cutLeaf (v := x7 && x5) hr (weakB ((sT rfl (sT rfl (sT rfl sT0)))) (sub_keep sub_nil) rfl))
      · rintro x22 hr
        show AW Hfaa.prog _ _ _ ⟨[(0, .inr (.inl (0, 0))), (3, .inl (is (I16 x1))), (36, .inl (is (Bl x22)))], [(0, pb 199 [is (U64 x2), is (U64 x3), is (U64 x4), is (Bl x5), is (Bl x6), is (Bl x7), is (U64 x8)])]⟩
        have hr : some r = F169_8 N x1 x2 x3 x4 x5 x6 x7 x8 x22 := hr
        refine AW_condT (b := x22) rfl (fun h => ?_) (fun h => ?_)
        · have hr := hr.trans (cond_t h)
          clear h
          refine AW_block ?_
          refine AW_iterR (σ := Int × BitVec 64 × BitVec 64 × BitVec 64 × Bool × Bool × Bool × BitVec 64) (r := r) (x0 := (x1, x2, x3, x4, x5, x6, x7, x8)) (emb := fun v => ⟨[(0, .inr (.inl (0, 0))), (3, .inl (is (I16 v.1)))], [(0, pb 199 [is (U64 v.2.1), is (U64 v.2.2.1), is (U64 v.2.2.2.1), is (Bl v.2.2.2.2.1), is (Bl v.2.2.2.2.2.1), is (Bl v.2.2.2.2.2.2.1), is (U64 v.2.2.2.2.2.2.2)])]⟩) ?_ hr ?_
          · exact weakB ((sT rfl (sT rfl sT0))) (sub_keep sub_nil) rfl
          rintro ⟨x23, x24, x25, x26, x27, x28, x29, x30⟩ out3 hr
          show AW Hfaa.prog _ _ _ ⟨[(0, .inr (.inl (0, 0))), (3, .inl (is (I16 x23)))], [(0, pb 199 [is (U64 x24), is (U64 x25), is (U64 x26), is (Bl x27), is (Bl x28), is (Bl x29), is (U64 x30)])]⟩
          have hr : some out3 = F169_L9b N x23 x24 x25 x26 x27 x28 x29 x30 := hr
          refine AW_seq1 ?_
          refine AW_cut (σ := Bool) (fun v => ⟨[(0, .inr (.inl (0, 0))), (3, .inl (is (I16 x23))), (49, .inl (is (Bl v)))], [(0, pb 199 [is (U64 x24), is (U64 x25), is (U64 x26), is (Bl x27), is (Bl x28), is (Bl x29), is (U64 x30)])]⟩) (fun v => some out3 = F169_10 N x23 x24 x25 x26 x27 x28 x29 x30 v) ?_ ?_
          · skip
            refine AW_region ?_
            refine AL_cons (LR_move (at_tmp 0 _) rfl) (sS (sT1 rfl) sB0 sF0) ?_
            refine AL_cons (LR_nilCheck (at_tmp 37 _) rfl) (sS (sT1 rfl) sB0 sF0) ?_
            refine AL_cons (LR_fieldAddr (off := 0) (o := 1) (at_tmp 38 _) (fun b w => fa199_1 b 0 w) rfl) (sS (sT1 rfl) sB0 sF0) ?_
            refine AL_cons (LR_load (at_tmp 39 _) na30 rfl rfl) (sS (sT1 rfl) (sB1 rfl) sF0) ?_
            refine AL_cons (LR_bin (at_tmp 40 _) (at_c (v' := U64 (10#64)) rfl) (geq_U64 x25 (10#64)) rfl) (sS (sA (sT1 rfl) sT0) sB0 sF0) ?_
            refine AL_cons (LR_move (at_tmp 41 _) rfl) (sS (sT1 rfl) sB0 sF0) ?_
            refine AL_cutAt 7 ⟨[(0, .inr (.inl (0, 0))), (3, .inl (is (I16 x23))), (37, .inr (.inl (0, 0))), (38, .inr (.inl (0, 0))), (39, .inr (.inl (0, 1))), (40, .inl (is (U64 x25))), (41, .inl (is (Bl (decide ((10#64).toNat ≤ x25.toNat))))), (42, .inl (is (Bl (decide ((10#64).toNat ≤ x25.toNat))))), (49, .inl (is (Bl ((decide ((10#64).toNat ≤ x25.toNat)) && ((x24 % (10#64)) == (0#64))))))], [(0, pb 199 [is (U64 x24), is (U64 x25), is (U64 x26), is (Bl x27), is (Bl x28), is (Bl x29), is (U64 x30)])]⟩ ?_ ?_
            · cases hb : decide ((10#64).toNat ≤ x25.toNat)
              · skip
                refine AL_cons (LR_off (b := false) rfl rfl rfl rfl) (sS (sT1 rfl) sB0 sF0) ?_
                refine AL_cons (LR_off (b := false) rfl rfl rfl rfl) (sS (sT1 rfl) sB0 sF0) ?_
                refine AL_cons (LR_off (b := false) rfl rfl rfl rfl) (sS (sT1 rfl) sB0 sF0) ?_
                refine AL_cons (LR_off (b := false) rfl rfl rfl rfl) (sS (sT1 rfl) sB0 sF0) ?_
                refine AL_cons (LR_off (b := false) rfl rfl rfl rfl) (sS (sT1 rfl) sB0 sF0) ?_
                refine AL_cons (LR_off (b := false) rfl rfl rfl rfl) (sS (sT1 rfl) sB0 sF0) ?_
                refine AL_cons (LR_pick (b := false) (at_tmp 42 _) (at_tmp 48 _) (at_c (v' := Bl false) rfl) rfl) (sS (sA (sT1 rfl) (sA (sT1 rfl) sT0)) sB0 sF0) ?_
                exact AL_nil ⟨rfl, weakB ((sT rfl (sT rfl (sT rfl (sT rfl (sT rfl (sT rfl (sT rfl (sT rfl (sT rfl sT0)))))))))) (sub_keep sub_nil) rfl⟩
              · skip
                refine AL_cons (LR_on rfl rfl rfl (LR_move (at_tmp 0 _) rfl)) (sS (sT rfl (sT1 rfl)) sB0 sF0) ?_
                refine AL_cons (LR_on rfl rfl rfl (LR_nilCheck (at_tmp 43 _) rfl)) (sS (sT rfl (sT1 rfl)) sB0 sF0) ?_
                refine AL_cons (LR_on rfl rfl rfl (LR_fieldAddr (off := 0) (o := 0) (at_tmp 44 _) (fun b w => fa199_0 b 0 w) rfl)) (sS (sT rfl (sT1 rfl)) sB0 sF0) ?_
                refine AL_cons (LR_on rfl rfl rfl (LR_load (at_tmp 45 _) na30 rfl rfl)) (sS (sT rfl (sT1 rfl)) (sB1 rfl) sF0) ?_
                refine AL_cons (LR_on rfl rfl rfl (LR_bin (at_tmp 46 _) (at_c (v' := U64 (10#64)) rfl) (rem_U64 x24 (10#64) (by decide)) rfl)) (sS (sT rfl (sA (sT1 rfl) sT0)) sB0 sF0) ?_
                refine AL_cons (LR_on rfl rfl rfl (LR_bin (at_tmp 47 _) (at_c (v' := U64 (0#64)) rfl) (eql_U64 (x24 % (10#64)) (0#64)) rfl)) (sS (sT rfl (sA (sT1 rfl) sT0)) sB0 sF0) ?_
                refine AL_cons (LR_pick (b := true) (at_tmp 42 _) (at_tmp 48 _) (at_c (v' := Bl false) rfl) rfl) (sS (sA (sT1 rfl) (sA (sT1 rfl) sT0)) sB0 sF0) ?_
                exact AL_nil ⟨rfl, weakB ((sT rfl (sT rfl (sT rfl (sT rfl (sT rfl (sT rfl (sT rfl (sT rfl (sT rfl sT0)))))))))) (sub_keep sub_nil) rfl⟩
            refine AL_nil ?_
            exact thenN (cutLeaf (v := (decide ((10#64).toNat ≤ x25.toNat)) && ((x24 % (10#64)) == (0#64))) hr (weakB ((sT rfl (sT rfl (sT rfl sT0)))) (sub_keep sub_nil) rfl))
          · rintro x31 hr
            show AW Hfaa.prog _ _ _ ⟨[(0, .inr (.inl (0, 0))), (3, .inl (is (I16 x23))), (49, .inl (is (Bl x31)))], [(0, pb 199 [is (U64 x24), is (U64 x25), is (U64 x26), is (Bl x27), is (Bl x28), is (Bl x29), is (U64 x30)])]⟩
            have hr : some out3 = F169_10 N x23 x24 x25 x26 x27 x28 x29 x30 x31 := hr
            refine AW_condT (b := x31) rfl (fun h => ?_) (fun h => ?_)
            · have hr := hr.trans (cond_t h)
              clear h
              refine AW_skip ?_
              refine thenN ?_
              refine AW_block ?_
              refine AW_cut (σ := BitVec 64 × BitVec 64 × BitVec 64 × Bool × Bool × Bool × BitVec 64) (fun v => ⟨[(0, .inr (.inl (0, 0))), (3, .inl (is (I16 x23)))], [(0, pb 199 [is (U64 v.1), is (U64 v.2.1), is (U64 v.2.2.1), is (Bl v.2.2.2.1), is (Bl v.2.2.2.2.1), is (Bl v.2.2.2.2.2.1), is (U64 v.2.2.2.2.2.2)])]⟩) (fun v => some out3 = F169_11 N x23 v.1 v.2.1 v.2.2.1 v.2.2.2.1 v.2.2.2.2.1 v.2.2.2.2.2.1 v.2.2.2.2.2.2) ?_ ?_
              · skip
                refine AW_region ?_
                refine AL_cons (LR_move (at_tmp 0 _) rfl) (sS (sT1 rfl) sB0 sF0) ?_
                obtain ⟨y18, hy18, hr⟩ := lt_some hr
                refine AL_cons (LR_callB [(0, 0)] [(0, 0)] Hfaa.func270 rfl rfl (C270 x24 x25 x26 x27 x28 x29 x30 y18 hy18) (aTC (at_tmp 50 _) aT0) rfl rfl rfl rfl rfl) (sS (sA (sT1 rfl) sT0) (sB1 rfl) sF0) ?_
                refine AL_nil ?_
                exact thenN (cutLeaf (v := (y18.1, y18.2.1, y18.2.2.1, y18.2.2.2.1, y18.2.2.2.2.1, y18.2.2.2.2.2.1, y18.2.2.2.2.2.2)) hr (weakB ((sT rfl (sT rfl sT0))) (sub_keep sub_nil) rfl))
              · rintro ⟨x32, x33, x34, x35, x36, x37, x38⟩ hr
                show AW Hfaa.prog _ _ _ ⟨[(0, .inr (.inl (0, 0))), (3, .inl (is (I16 x23)))], [(0, pb 199 [is (U64 x32), is (U64 x33), is (U64 x34), is (Bl x35), is (Bl x36), is (Bl x37), is (U64 x38)])]⟩
                have hr : some out3 = F169_11 N x23 x32 x33 x34 x35 x36 x37 x38 := hr
                refine AW_region ?_
                refine AL_cons (LR_move (at_tmp 3 _) rfl) (sS (sT1 rfl) sB0 sF0) ?_
                refine AL_cons (LR_bin (at_tmp 52 _) (at_c (v' := I16 1) rfl) (add_I16 x23 1) rfl) (sS (sA (sT1 rfl) sT0) sB0 sF0) ?_
                refine AL_cons (LR_assign (at_tmp 53 _) rfl) (sS (sT1 rfl) sB0 sF0) ?_
                refine AL_nil ?_
                refine blN ?_
                exact thenN (loopNext (x' := (w16 (x23 + 1), x32, x33, x34, x35, x36, x37, x38)) hr (weakB ((sT rfl (sT rfl sT0))) (sub_keep sub_nil) rfl))
            · have hr := hr.trans (cond_f h)
              clear h
              refine AW_exit ?_
              refine thenX ?_
              obtain ⟨r', hro, hr⟩ := map_inr hr
              refine thenX (loopOut hro (fun he => ?_))
              rw [he] at hr
              refine blH ?_
              exact thenN (cutLeaf (v := (x23, x24, x25, x26, x27, x28, x29, x30)) hr (weakB ((sT rfl (sT rfl sT0))) (sub_keep sub_nil) rfl))
        · have hr := hr.trans (cond_f h)
          clear h
          refine AW_skip ?_
          exact thenN (cutLeaf (v := (x1, x2, x3, x4, x5, x6, x7, x8)) hr (weakB ((sT rfl (sT rfl sT0))) (sub_keep sub_nil) rfl))
    · rintro ⟨x9, x10, x11, x12, x13, x14, x15, x16⟩ hr
      show AW Hfaa.prog _ _ _ ⟨[(0, .inr (.inl (0, 0))), (3, .inl (is (I16 x9)))], [(0, pb 199 [is (U64 x10), is (U64 x11), is (U64 x12), is (Bl x13), is (Bl x14), is (Bl x15), is (U64 x16)])]⟩
      have hr : some r = F169_2 N x9 x10 x11 x12 x13 x14 x15 x16 := hr
      refine AW_cut (σ := Bool) (fun v => ⟨[(0, .inr (.inl (0, 0))), (3, .inl (is (I16 x9))), (4, .inl (is (Bl v)))], [(0, pb 199 [is (U64 x10), is (U64 x11), is (U64 x12), is (Bl x13), is (Bl x14), is (Bl x15), is (U64 x16)])]⟩) (fun v => some r = F169_3 N x9 x10 x11 x12 x13 x14 x15 x16 v) ?_ ?_
      · skip
        refine AW_region ?_
        refine AL_cons (LR_move (at_tmp 0 _) rfl) (sS (sT1 rfl) sB0 sF0) ?_
        refine AL_cons (LR_nilCheck (at_tmp 54 _) rfl) (sS (sT1 rfl) sB0 sF0) ?_
        refine AL_cons (LR_fieldAddr (off := 0) (o := 6) (at_tmp 55 _) (fun b w => fa199_6 b 0 w) rfl) (sS (sT1 rfl) sB0 sF0) ?_
        refine AL_cons (LR_load (at_tmp 56 _) na30 rfl rfl) (sS (sT1 rfl) (sB1 rfl) sF0) ?_
        refine AL_cons (LR_bin (at_tmp 57 _) (at_c (v' := U64 (5#64)) rfl) (geq_U64 x16 (5#64)) rfl) (sS (sA (sT1 rfl) sT0) sB0 sF0) ?_
        refine AL_cons (LR_assign (at_tmp 58 _) rfl) (sS (sT1 rfl) sB0 sF0) ?_
        refine AL_nil ?_
        exact thenN (cutLeaf (v := decide ((5#64).toNat ≤ x16.toNat)) hr (weakB ((sT rfl (sT rfl (sT rfl sT0)))) (sub_keep sub_nil) rfl))
      · rintro x17 hr
        show AW Hfaa.prog _ _ _ ⟨[(0, .inr (.inl (0, 0))), (3, .inl (is (I16 x9))), (4, .inl (is (Bl x17)))], [(0, pb 199 [is (U64 x10), is (U64 x11), is (U64 x12), is (Bl x13), is (Bl x14), is (Bl x15), is (U64 x16)])]⟩
        have hr : some r = F169_3 N x9 x10 x11 x12 x13 x14 x15 x16 x17 := hr
        refine AW_cut (σ := Bool) (fun v => ⟨[(0, .inr (.inl (0, 0))), (3, .inl (is (I16 x9))), (4, .inl (is (Bl v)))], [(0, pb 199 [is (U64 x10), is (U64 x11), is (U64 x12), is (Bl x13), is (Bl x14), is (Bl x15), is (U64 x16)])]⟩) (fun v => some r = F169_4 N x9 x10 x11 x12 x13 x14 x15 x16 v) ?_ ?_
        · skip
          refine AW_cut (σ := Bool) (fun v => ⟨[(0, .inr (.inl (0, 0))), (3, .inl (is (I16 x9))), (4, .inl (is (Bl x17))), (77, .inl (is (Bl v)))], [(0, pb 199 [is (U64 x10), is (U64 x11), is (U64 x12), is (Bl x13), is (Bl x14), is (Bl x15), is (U64 x16)])]⟩) (fun v => some r = F169_7 N x9 x10 x11 x12 x13 x14 x15 x16 x17 v) ?_ ?_
          · skip
            refine AW_region ?_
            refine AL_cons (LR_move (at_tmp 0 _) rfl) (sS (sT1 rfl) sB0 sF0) ?_
            refine AL_cons (LR_nilCheck (at_tmp 59 _) rfl) (sS (sT1 rfl) sB0 sF0) ?_
            refine AL_cons (LR_fieldAddr (off := 0) (o := 6) (at_tmp 60 _) (fun b w => fa199_6 b 0 w) rfl) (sS (sT1 rfl) sB0 sF0) ?_
            refine AL_cons (LR_load (at_tmp 61 _) na30 rfl rfl) (sS (sT1 rfl) (sB1 rfl) sF0) ?_
            refine AL_cons (LR_bin (at_tmp 62 _) (at_c (v' := U64 (5#64)) rfl) (eql_U64 x16 (5#64)) rfl) (sS (sA (sT1 rfl) sT0) sB0 sF0) ?_
            refine AL_cons (LR_move (at_tmp 63 _) rfl) (sS (sT1 rfl) sB0 sF0) ?_
            refine AL_cutAt 5 ⟨[(0, .inr (.inl (0, 0))), (3, .inl (is (I16 x9))), (4, .inl (is (Bl x17))), (59, .inr (.inl (0, 0))), (60, .inr (.inl (0, 0))), (61, .inr (.inl (0, 6))), (62, .inl (is (U64 x16))), (63, .inl (is (Bl (x16 == (5#64))))), (64, .inl (is (Bl (x16 == (5#64))))), (69, .inl (is (Bl ((x16 == (5#64)) && x14))))], [(0, pb 199 [is (U64 x10), is (U64 x11), is (U64 x12), is (Bl x13), is (Bl x14), is (Bl x15), is (U64 x16)])]⟩ ?_ ?_
            · cases hb : x16 == (5#64)
              · skip
                refine AL_cons (LR_off (b := false) rfl rfl rfl rfl) (sS (sT1 rfl) sB0 sF0) ?_
                refine AL_cons (LR_off (b := false) rfl rfl rfl rfl) (sS (sT1 rfl) sB0 sF0) ?_
                refine AL_cons (LR_off (b := false) rfl rfl rfl rfl) (sS (sT1 rfl) sB0 sF0) ?_
                refine AL_cons (LR_off (b := false) rfl rfl rfl rfl) (sS (sT1 rfl) sB0 sF0) ?_
                refine AL_cons (LR_pick (b := false) (at_tmp 64 _) (at_tmp 68 _) (at_c (v' := Bl false) rfl) rfl) (sS (sA (sT1 rfl) (sA (sT1 rfl) sT0)) sB0 sF0) ?_
                exact AL_nil ⟨rfl, weakB ((sT rfl (sT rfl (sT rfl (sT rfl (sT rfl (sT rfl (sT rfl (sT rfl (sT rfl (sT rfl sT0))))))))))) (sub_keep sub_nil) rfl⟩
              · skip
                refine AL_cons (LR_on rfl rfl rfl (LR_move (at_tmp 0 _) rfl)) (sS (sT rfl (sT1 rfl)) sB0 sF0) ?_
                refine AL_cons (LR_on rfl rfl rfl (LR_nilCheck (at_tmp 65 _) rfl)) (sS (sT rfl (sT1 rfl)) sB0 sF0) ?_
                refine AL_cons (LR_on rfl rfl rfl (LR_fieldAddr (off := 0) (o := 4) (at_tmp 66 _) (fun b w => fa199_4 b 0 w) rfl)) (sS (sT rfl (sT1 rfl)) sB0 sF0) ?_
                refine AL_cons (LR_on rfl rfl rfl (LR_load (at_tmp 67 _) na4 rfl rfl)) (sS (sT rfl (sT1 rfl)) (sB1 rfl) sF0) ?_
                refine AL_cons (LR_pick (b := true) (at_tmp 64 _) (at_tmp 68 _) (at_c (v' := Bl false) rfl) rfl) (sS (sA (sT1 rfl) (sA (sT1 rfl) sT0)) sB0 sF0) ?_
                exact AL_nil ⟨rfl, weakB ((sT rfl (sT rfl (sT rfl (sT rfl (sT rfl (sT rfl (sT rfl (sT rfl (sT rfl (sT rfl sT0))))))))))) (sub_keep sub_nil) rfl⟩
            refine AL_cons (LR_move (at_tmp 69 _) rfl) (sS (sT1 rfl) sB0 sF0) ?_
            refine AL_cutAt 7 ⟨[(0, .inr (.inl (0, 0))), (3, .inl (is (I16 x9))), (4, .inl (is (Bl x17))), (59, .inr (.inl (0, 0))), (60, .inr (.inl (0, 0))), (61, .inr (.inl (0, 6))), (62, .inl (is (U64 x16))), (63, .inl (is (Bl (x16 == (5#64))))), (64, .inl (is (Bl (x16 == (5#64))))), (69, .inl (is (Bl ((x16 == (5#64)) && x14)))), (70, .inl (is (Bl ((x16 == (5#64)) && x14)))), (77, .inl (is (Bl (((x16 == (5#64)) && x14) && ((x11 % (2#64)) == (0#64))))))], [(0, pb 199 [is (U64 x10), is (U64 x11), is (U64 x12), is (Bl x13), is (Bl x14), is (Bl x15), is (U64 x16)])]⟩ ?_ ?_
            · cases hb : (x16 == (5#64)) && x14
              · skip
                refine AL_cons (LR_off (b := false) rfl rfl rfl rfl) (sS (sT1 rfl) sB0 sF0) ?_
                refine AL_cons (LR_off (b := false) rfl rfl rfl rfl) (sS (sT1 rfl) sB0 sF0) ?_
                refine AL_cons (LR_off (b := false) rfl rfl rfl rfl) (sS (sT1 rfl) sB0 sF0) ?_
                refine AL_cons (LR_off (b := false) rfl rfl rfl rfl) (sS (sT1 rfl) sB0 sF0) ?_
                refine AL_cons (LR_off (b := false) rfl rfl rfl rfl) (sS (sT1 rfl) sB0 sF0) ?_
                refine AL_cons (LR_off (b := false) rfl rfl rfl rfl) (sS (sT1 rfl) sB0 sF0) ?_
                refine AL_cons (LR_pick (b := false) (at_tmp 70 _) (at_tmp 76 _) (at_c (v' := Bl false) rfl) rfl) (sS (sA (sT1 rfl) (sA (sT1 rfl) sT0)) sB0 sF0) ?_
                exact AL_nil ⟨rfl, weakB ((sT rfl (sT rfl (sT rfl (sT rfl (sT rfl (sT rfl (sT rfl (sT rfl (sT rfl (sT rfl (sT rfl (sT rfl sT0))))))))))))) (sub_keep sub_nil) rfl⟩
              · skip
                refine AL_cons (LR_on rfl rfl rfl (LR_move (at_tmp 0 _) rfl)) (sS (sT rfl (sT1 rfl)) sB0 sF0) ?_
                refine AL_cons (LR_on rfl rfl rfl (LR_nilCheck (at_tmp 71 _) rfl)) (sS (sT rfl (sT1 rfl)) sB0 sF0) ?_
                refine AL_cons (LR_on rfl rfl rfl (LR_fieldAddr (off := 0) (o := 1) (at_tmp 72 _) (fun b w => fa199_1 b 0 w) rfl)) (sS (sT rfl (sT1 rfl)) sB0 sF0) ?_
                refine AL_cons (LR_on rfl rfl rfl (LR_load (at_tmp 73 _) na30 rfl rfl)) (sS (sT rfl (sT1 rfl)) (sB1 rfl) sF0) ?_
                refine AL_cons (LR_on rfl rfl rfl (LR_bin (at_tmp 74 _) (at_c (v' := U64 (2#64)) rfl) (rem_U64 x11 (2#64) (by decide)) rfl)) (sS (sT rfl (sA (sT1 rfl) sT0)) sB0 sF0) ?_
                refine AL_cons (LR_on rfl rfl rfl (LR_bin (at_tmp 75 _) (at_c (v' := U64 (0#64)) rfl) (eql_U64 (x11 % (2#64)) (0#64)) rfl)) (sS (sT rfl (sA (sT1 rfl) sT0)) sB0 sF0) ?_
                refine AL_cons (LR_pick (b := true) (at_tmp 70 _) (at_tmp 76 _) (at_c (v' := Bl false) rfl) rfl) (sS (sA (sT1 rfl) (sA (sT1 rfl) sT0)) sB0 sF0) ?_
                exact AL_nil ⟨rfl, weakB ((sT rfl (sT rfl (sT rfl (sT rfl (sT rfl (sT rfl (sT rfl (sT rfl (sT rfl (sT rfl (sT rfl (sT rfl sT0))))))))))))) (sub_keep sub_nil) rfl⟩
            refine AL_nil ?_
            exact thenN (cutLeaf (v := ((x16 == (5#64)) && x14) && ((x11 % (2#64)) == (0#64))) hr (weakB ((sT rfl (sT rfl (sT rfl (sT rfl sT0))))) (sub_keep sub_nil) rfl))
          · rintro x21 hr
            show AW Hfaa.prog _ _ _ ⟨[(0, .inr (.inl (0, 0))), (3, .inl (is (I16 x9))), (4, .inl (is (Bl x17))), (77, .inl (is (Bl x21)))], [(0, pb 199 [is (U64 x10), is (U64 x11), is (U64 x12), is (Bl x13), is (Bl x14), is (Bl x15), is (U64 x16)])]⟩
            have hr : some r = F169_7 N x9 x10 x11 x12 x13 x14 x15 x16 x17 x21 := hr
            refine AW_condT (b := x21) rfl (fun h => ?_) (fun h => ?_)
            · have hr := hr.trans (cond_t h)
              clear h
              refine AW_region ?_
              refine AL_cons (LR_assign (at_c (v' := Bl false) rfl) rfl) (sS sT0 sB0 sF0) ?_
              refine AL_nil ?_
              exact thenN (cutLeaf (v := false) hr (weakB ((sT rfl (sT rfl (sT rfl sT0)))) (sub_keep sub_nil) rfl))
            · have hr := hr.trans (cond_f h)
              clear h
              refine AW_skip ?_
              exact thenN (cutLeaf (v := x17) hr (weakB ((sT rfl (sT rfl (sT rfl sT0)))) (sub_keep sub_nil) rfl))
        · rintro x18 hr
          show AW Hfaa.prog _ _ _ ⟨[(0, .inr (.inl (0, 0))), (3, .inl (is (I16 x9))), (4, .inl (is (Bl x18)))], [(0, pb 199 [is (U64 x10), is (U64 x11), is (U64 x12), is (Bl x13), is (Bl x14), is (Bl x15), is (U64 x16)])]⟩
          have hr : some r = F169_4 N x9 x10 x11 x12 x13 x14 x15 x16 x18 := hr
          refine AW_cut (σ := Bool) (fun v => ⟨[(0, .inr (.inl (0, 0))), (3, .inl (is (I16 x9))), (4, .inl (is (Bl v)))], [(0, pb 199 [is (U64 x10), is (U64 x11), is (U64 x12), is (Bl x13), is (Bl x14), is (Bl x15), is (U64 x16)])]⟩) (fun v => some r = F169_5 N x9 x10 x11 x12 x13 x14 x15 x16 v) ?_ ?_
          · skip
            refine AW_cut (σ := Bool) (fun v => ⟨[(0, .inr (.inl (0, 0))), (3, .inl (is (I16 x9))), (4, .inl (is (Bl x18))), (99, .inl (is (Bl v)))], [(0, pb 199 [is (U64 x10), is (U64 x11), is (U64 x12), is (Bl x13), is (Bl x14), is (Bl x15), is (U64 x16)])]⟩) (fun v => some r = F169_6 N x9 x10 x11 x12 x13 x14 x15 x16 x18 v) ?_ ?_
            · skip
              rcases bool_em (x11 == x10) with hb19 | hb19
              · have hr := hr.trans (cond_f hb19)
                refine AW_draw mixed
                  (lrC (LR_move (at_tmp 0 _) rfl)
                  (lrC (LR_nilCheck (at_tmp 78 _) rfl)
                  (lrC (LR_fieldAddr (off := 0) (o := 1) (at_tmp 79 _) (fun b w => fa199_1 b 0 w) rfl)
                  (lrC (LR_load (at_tmp 80 _) na30 rfl rfl)
                  (lrC (LR_move (at_tmp 0 _) rfl)
                  (lrC (LR_nilCheck (at_tmp 82 _) rfl)
                  (lrC (LR_fieldAddr (off := 0) (o := 0) (at_tmp 83 _) (fun b w => fa199_0 b 0 w) rfl)
                  (lrC (LR_load (at_tmp 84 _) na30 rfl rfl)
                  (lrC (LR_asB (LR_bin (at_tmp 81 _) (at_tmp 85 _) (eql_U64 x11 x10) rfl) hb19)
                  (lrC (LR_move (at_tmp 86 _) rfl)
                  (lrC (LR_off (b := false) rfl rfl rfl rfl)
                  (lrC (LR_off (b := false) rfl rfl rfl rfl)
                  (lrC (LR_off (b := false) rfl rfl rfl rfl)
                  (lrC (LR_off (b := false) rfl rfl rfl rfl)
                  (lrC (LR_off (b := false) rfl rfl rfl rfl)
                  (lrC (LR_offU rfl rfl rfl rfl)
                  (lrC (LR_offU rfl rfl rfl rfl)
                  (lrC (LR_offU rfl rfl rfl rfl)
                  (lrC (LR_offU rfl rfl rfl rfl)
                  (lrC (LR_off (b := false) rfl rfl rfl rfl)
                  (lrC (LR_off (b := false) rfl rfl rfl rfl)
                  (lrC (LR_pick (b := false) (at_tmp 87 _) (at_tmp 98 _) (at_c (v' := Bl false) rfl) rfl)
                  lrN))))))))))))))))))))))
                  (by kernel_rfl)
                  (saC (sS (sT1 rfl) sB0 sF0) (saC (sS (sT1 rfl) sB0 sF0) (saC (sS (sT1 rfl) sB0 sF0) (saC (sS (sT1 rfl) (sB1 rfl) sF0) (saC (sS (sT1 rfl) sB0 sF0) (saC (sS (sT1 rfl) sB0 sF0) (saC (sS (sT1 rfl) sB0 sF0) (saC (sS (sT1 rfl) (sB1 rfl) sF0) (saC (sS (sA (sT1 rfl) (sT1 rfl)) sB0 sF0) (saC (sS (sT1 rfl) sB0 sF0) (saC (sS (sT1 rfl) sB0 sF0) (saC (sS (sT1 rfl) sB0 sF0) (saC (sS (sT1 rfl) sB0 sF0) (saC (sS (sT1 rfl) sB0 sF0) (saC (sS (sT1 rfl) sB0 sF0) (saC (sS (sT1 rfl) sB0 sF0) (saC (sS (sT1 rfl) sB0 sF0) (saC (sS (sT1 rfl) sB0 sF0) (saC (sS (sT1 rfl) sB0 sF0) (saC (sS (sT1 rfl) sB0 sF0) (saC (sS (sT1 rfl) sB0 sF0) (saC (sS (sA (sT1 rfl) (sA (sT1 rfl) sT0)) sB0 sF0) saN)))))))))))))))))))))) ?_
                exact thenN (cutLeaf (v := false) hr (weakB ((sT rfl (sT rfl (sT rfl (sT rfl sT0))))) (sub_keep sub_nil) rfl))
              · have hr := hr.trans (cond_t hb19)
                rcases bool_em x15 with hb20 | hb20
                · have hr := hr.trans (cond_f hb20)
                  refine AW_draw mixed
                    (lrC (LR_move (at_tmp 0 _) rfl)
                    (lrC (LR_nilCheck (at_tmp 78 _) rfl)
                    (lrC (LR_fieldAddr (off := 0) (o := 1) (at_tmp 79 _) (fun b w => fa199_1 b 0 w) rfl)
                    (lrC (LR_load (at_tmp 80 _) na30 rfl rfl)
                    (lrC (LR_move (at_tmp 0 _) rfl)
                    (lrC (LR_nilCheck (at_tmp 82 _) rfl)
                    (lrC (LR_fieldAddr (off := 0) (o := 0) (at_tmp 83 _) (fun b w => fa199_0 b 0 w) rfl)
                    (lrC (LR_load (at_tmp 84 _) na30 rfl rfl)
                    (lrC (LR_asB (LR_bin (at_tmp 81 _) (at_tmp 85 _) (eql_U64 x11 x10) rfl) hb19)
                    (lrC (LR_move (at_tmp 86 _) rfl)
                    (lrC (LR_on rfl rfl rfl (LR_move (at_tmp 0 _) rfl))
                    (lrC (LR_on rfl rfl rfl (LR_nilCheck (at_tmp 88 _) rfl))
                    (lrC (LR_on rfl rfl rfl (LR_fieldAddr (off := 0) (o := 5) (at_tmp 89 _) (fun b w => fa199_5 b 0 w) rfl))
                    (lrC (LR_on rfl rfl rfl (LR_asB (LR_load (at_tmp 90 _) na4 rfl rfl) hb20))
                    (lrC (LR_on rfl rfl rfl (LR_move (at_tmp 91 _) rfl))
                    (lrC (LR_off (b := false) rfl rfl rfl rfl)
                    (lrC (LR_off (b := false) rfl rfl rfl rfl)
                    (lrC (LR_off (b := false) rfl rfl rfl rfl)
                    (lrC (LR_off (b := false) rfl rfl rfl rfl)
                    (lrC (LR_on rfl rfl rfl (LR_pick (b := false) (at_tmp 92 _) (at_tmp 96 _) (at_c (v' := Bl false) rfl) rfl))
                    (lrC (LR_on rfl rfl rfl (LR_un (at_tmp 97 _) (not_Bl false) rfl))
                    (lrC (LR_pick (b := true) (at_tmp 87 _) (at_tmp 98 _) (at_c (v' := Bl false) rfl) rfl)
                    lrN))))))))))))))))))))))
                    (by kernel_rfl)
                    (saC (sS (sT1 rfl) sB0 sF0) (saC (sS (sT1 rfl) sB0 sF0) (saC (sS (sT1 rfl) sB0 sF0) (saC (sS (sT1 rfl) (sB1 rfl) sF0) (saC (sS (sT1 rfl) sB0 sF0) (saC (sS (sT1 rfl) sB0 sF0) (saC (sS (sT1 rfl) sB0 sF0) (saC (sS (sT1 rfl) (sB1 rfl) sF0) (saC (sS (sA (sT1 rfl) (sT1 rfl)) sB0 sF0) (saC (sS (sT1 rfl) sB0 sF0) (saC (sS (sT rfl (sT1 rfl)) sB0 sF0) (saC (sS (sT rfl (sT1 rfl)) sB0 sF0) (saC (sS (sT rfl (sT1 rfl)) sB0 sF0) (saC (sS (sT rfl (sT1 rfl)) (sB1 rfl) sF0) (saC (sS (sT rfl (sT1 rfl)) sB0 sF0) (saC (sS (sT1 rfl) sB0 sF0) (saC (sS (sT1 rfl) sB0 sF0) (saC (sS (sT1 rfl) sB0 sF0) (saC (sS (sT1 rfl) sB0 sF0) (saC (sS (sT rfl (sA (sT1 rfl) (sA (sT1 rfl) sT0))) sB0 sF0) (saC (sS (sT rfl (sT1 rfl)) sB0 sF0) (saC (sS (sA (sT1 rfl) (sA (sT1 rfl) sT0)) sB0 sF0) saN)))))))))))))))))))))) ?_
                  exact thenN (cutLeaf (v := true) hr (weakB ((sT rfl (sT rfl (sT rfl (sT rfl sT0))))) (sub_keep sub_nil) rfl))
                · have hr := hr.trans (cond_t hb20)
                  refine AW_draw mixed
                    (lrC (LR_move (at_tmp 0 _) rfl)
                    (lrC (LR_nilCheck (at_tmp 78 _) rfl)
                    (lrC (LR_fieldAddr (off := 0) (o := 1) (at_tmp 79 _) (fun b w => fa199_1 b 0 w) rfl)
                    (lrC (LR_load (at_tmp 80 _) na30 rfl rfl)
                    (lrC (LR_move (at_tmp 0 _) rfl)
                    (lrC (LR_nilCheck (at_tmp 82 _) rfl)
                    (lrC (LR_fieldAddr (off := 0) (o := 0) (at_tmp 83 _) (fun b w => fa199_0 b 0 w) rfl)
                    (lrC (LR_load (at_tmp 84 _) na30 rfl rfl)
                    (lrC (LR_asB (LR_bin (at_tmp 81 _) (at_tmp 85 _) (eql_U64 x11 x10) rfl) hb19)
                    (lrC (LR_move (at_tmp 86 _) rfl)
                    (lrC (LR_on rfl rfl rfl (LR_move (at_tmp 0 _) rfl))
                    (lrC (LR_on rfl rfl rfl (LR_nilCheck (at_tmp 88 _) rfl))
                    (lrC (LR_on rfl rfl rfl (LR_fieldAddr (off := 0) (o := 5) (at_tmp 89 _) (fun b w => fa199_5 b 0 w) rfl))
                    (lrC (LR_on rfl rfl rfl (LR_asB (LR_load (at_tmp 90 _) na4 rfl rfl) hb20))
                    (lrC (LR_on rfl rfl rfl (LR_move (at_tmp 91 _) rfl))
                    (lrC (LR_on rfl rfl rfl (LR_move (at_tmp 0 _) rfl))
                    (lrC (LR_on rfl rfl rfl (LR_nilCheck (at_tmp 93 _) rfl))
                    (lrC (LR_on rfl rfl rfl (LR_fieldAddr (off := 0) (o := 3) (at_tmp 94 _) (fun b w => fa199_3 b 0 w) rfl))
                    (lrC (LR_on rfl rfl rfl (LR_load (at_tmp 95 _) na4 rfl rfl))
                    (lrC (LR_on rfl rfl rfl (LR_pick (b := true) (at_tmp 92 _) (at_tmp 96 _) (at_c (v' := Bl false) rfl) rfl))
                    (lrC (LR_on rfl rfl rfl (LR_un (at_tmp 97 _) (not_Bl x13) rfl))
                    (lrC (LR_pick (b := true) (at_tmp 87 _) (at_tmp 98 _) (at_c (v' := Bl false) rfl) rfl)
                    lrN))))))))))))))))))))))
                    (by kernel_rfl)
                    (saC (sS (sT1 rfl) sB0 sF0) (saC (sS (sT1 rfl) sB0 sF0) (saC (sS (sT1 rfl) sB0 sF0) (saC (sS (sT1 rfl) (sB1 rfl) sF0) (saC (sS (sT1 rfl) sB0 sF0) (saC (sS (sT1 rfl) sB0 sF0) (saC (sS (sT1 rfl) sB0 sF0) (saC (sS (sT1 rfl) (sB1 rfl) sF0) (saC (sS (sA (sT1 rfl) (sT1 rfl)) sB0 sF0) (saC (sS (sT1 rfl) sB0 sF0) (saC (sS (sT rfl (sT1 rfl)) sB0 sF0) (saC (sS (sT rfl (sT1 rfl)) sB0 sF0) (saC (sS (sT rfl (sT1 rfl)) sB0 sF0) (saC (sS (sT rfl (sT1 rfl)) (sB1 rfl) sF0) (saC (sS (sT rfl (sT1 rfl)) sB0 sF0) (saC (sS (sT rfl (sT1 rfl)) sB0 sF0) (saC (sS (sT rfl (sT1 rfl)) sB0 sF0) (saC (sS (sT rfl (sT1 rfl)) sB0 sF0) (saC (sS (sT rfl (sT1 rfl)) (sB1 rfl) sF0) (saC (sS (sT rfl (sA (sT1 rfl) (sA (sT1 rfl) sT0))) sB0 sF0) (saC (sS (sT rfl (sT1 rfl)) sB0 sF0) (saC (sS (sA (sT1 rfl) (sA (sT1 rfl) sT0)) sB0 sF0) saN)))))))))))))))))))))) ?_
                  exact thenN (cutLeaf (v := !x13) hr (weakB ((sT rfl (sT rfl (sT rfl (sT rfl sT0))))) (sub_keep sub_nil) rfl))
            · rintro x20 hr
              show AW Hfaa.prog _ _ _ ⟨[(0, .inr (.inl (0, 0))), (3, .inl (is (I16 x9))), (4, .inl (is (Bl x18))), (99, .inl (is (Bl x20)))], [(0, pb 199 [is (U64 x10), is (U64 x11), is (U64 x12), is (Bl x13), is (Bl x14), is (Bl x15), is (U64 x16)])]⟩
              have hr : some r = F169_6 N x9 x10 x11 x12 x13 x14 x15 x16 x18 x20 := hr
              refine AW_condT (b := x20) rfl (fun h => ?_) (fun h => ?_)
              · have hr := hr.trans (cond_t h)
                clear h
                refine AW_region ?_
                refine AL_cons (LR_assign (at_c (v' := Bl true) rfl) rfl) (sS sT0 sB0 sF0) ?_
                refine AL_nil ?_
                exact thenN (cutLeaf (v := true) hr (weakB ((sT rfl (sT rfl (sT rfl sT0)))) (sub_keep sub_nil) rfl))
              · have hr := hr.trans (cond_f h)
                clear h
                refine AW_skip ?_
                exact thenN (cutLeaf (v := x18) hr (weakB ((sT rfl (sT rfl (sT rfl sT0)))) (sub_keep sub_nil) rfl))
          · rintro x19 hr
            show AW Hfaa.prog _ _ _ ⟨[(0, .inr (.inl (0, 0))), (3, .inl (is (I16 x9))), (4, .inl (is (Bl x19)))], [(0, pb 199 [is (U64 x10), is (U64 x11), is (U64 x12), is (Bl x13), is (Bl x14), is (Bl x15), is (U64 x16)])]⟩
            have hr : some r = F169_5 N x9 x10 x11 x12 x13 x14 x15 x16 x19 := hr
            refine AW_seq1 ?_
            refine AW_seq1 ?_
            refine AW_region ?_
            refine AL_cons (LR_move (at_tmp 4 _) rfl) (sS (sT1 rfl) sB0 sF0) ?_
            refine AL_nil ?_
            refine thenN ?_
            refine AW_condT (b := x19) rfl (fun h => ?_) (fun h => ?_)
            · have hr := hr.trans (cond_t h)
              clear h
              refine AW_seq1 ?_
              refine AW_region ?_
              refine AL_cons (LR_move (at_tmp 0 _) rfl) (sS (sT1 rfl) sB0 sF0) ?_
              refine AL_cons (LR_nilCheck (at_tmp 101 _) rfl) (sS (sT1 rfl) sB0 sF0) ?_
              refine AL_cons (LR_fieldAddr (off := 0) (o := 1) (at_tmp 102 _) (fun b w => fa199_1 b 0 w) rfl) (sS (sT1 rfl) sB0 sF0) ?_
              refine AL_cons (LR_load (at_tmp 103 _) na30 rfl rfl) (sS (sT1 rfl) (sB1 rfl) sF0) ?_
              refine AL_cons (LR_bin (at_tmp 104 _) (at_c (v' := U64 (1#64)) rfl) (add_U64 x11 (1#64)) rfl) (sS (sA (sT1 rfl) sT0) sB0 sF0) ?_
              refine AL_cons (LR_move (at_tmp 3 _) rfl) (sS (sT1 rfl) sB0 sF0) ?_
              refine AL_cons (LR_assign (at_tmp 105 _) rfl) (sS (sT1 rfl) sB0 sF0) ?_
              refine AL_cons (LR_assign (at_tmp 106 _) rfl) (sS (sT1 rfl) sB0 sF0) ?_
              refine AL_nil ?_
              refine thenN ?_
              refine AW_ret ?_
              refine thenR ?_
              obtain rfl := Option.some.inj hr
              exact ⟨res2 rfl (rvT rfl) (rvT rfl), (sub_keep sub_nil)⟩
            · have hr := hr.trans (cond_f h)
              clear h
              refine AW_skip ?_
              refine thenN ?_
              refine AW_seq1 ?_
              refine AW_region ?_
              refine AL_cons (LR_move (at_tmp 0 _) rfl) (sS (sT1 rfl) sB0 sF0) ?_
              refine AL_cons (LR_nilCheck (at_tmp 107 _) rfl) (sS (sT1 rfl) sB0 sF0) ?_
              refine AL_cons (LR_fieldAddr (off := 0) (o := 1) (at_tmp 108 _) (fun b w => fa199_1 b 0 w) rfl) (sS (sT1 rfl) sB0 sF0) ?_
              refine AL_cons (LR_load (at_tmp 109 _) na30 rfl rfl) (sS (sT1 rfl) (sB1 rfl) sF0) ?_
              refine AL_cons (LR_move (at_tmp 3 _) rfl) (sS (sT1 rfl) sB0 sF0) ?_
              refine AL_cons (LR_assign (at_tmp 110 _) rfl) (sS (sT1 rfl) sB0 sF0) ?_
              refine AL_cons (LR_assign (at_tmp 111 _) rfl) (sS (sT1 rfl) sB0 sF0) ?_
              refine AL_nil ?_
              refine thenN ?_
              refine AW_ret ?_
              obtain rfl := Option.some.inj hr
              exact ⟨res2 rfl (rvT rfl) (rvT rfl), (sub_keep sub_nil)⟩
end Go.Proofs.YfwaawGreat
