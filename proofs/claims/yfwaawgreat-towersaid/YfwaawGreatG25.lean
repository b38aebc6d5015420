import Derived.Test.YfwaawGreatG1
import Derived.Test.YfwaawGreatG2
import Derived.Test.YfwaawGreatG3
namespace Go.Proofs.YfwaawGreat
open Go.Aw
set_option linter.unusedVariables false
set_option maxRecDepth 100000
set_option maxHeartbeats 1000000
/-- calc/so.clean -/
def F228_1 (a0_0 : BitVec 8) (a0_1 : BitVec 8) (a1 : BitVec 64) (x1 : Bool) : BitVec 64 := bif x1 then lt (F66 a0_0 a0_1) fun y7 => y7 else lt (F69 a0_0 a0_1) fun y9 => a1 &&& y9
def F228 (a0_0 : BitVec 8) (a0_1 : BitVec 8) (a1 : BitVec 64) : BitVec 64 := lt (F65 a0_0 a0_1 a1) fun y10 => F228_1 a0_0 a0_1 a1 (y10.2.1 == 4)
theorem C228 (a0_0 : BitVec 8) (a0_1 : BitVec 8) (a1 : BitVec 64) (r : BitVec 64) (hr : r = F228 a0_0 a0_1 a1) : Aw.Fn Hfaa.prog 228 [agg [is (U8 a0_0), is (U8 a0_1)], is (U64 a1)] (is (U64 r)) := by
  refine fn_intro Hfaa.func228 rfl rfl rfl ?_
  intro bn0 w0 H0
  refine AW_seq1 ?_
  refine AW_region ?_
  refine AL_cons (LR_box (at_tmp 0 _) (cells_agg _) rfl) (sS (sT1 rfl) sB0 (sF1 rfl)) ?_
  refine AL_cons (LR_assign (at_c (v' := U64 (0#64)) rfl) rfl) (sS sT0 sB0 sF0) ?_
  refine AL_nil ?_
  refine thenN ?_
  refine AW_seq1 ?_
  refine AW_cut (σ := Bool) (fun v => ⟨[(1, .inl (is (U64 a1))), (2, .inr (.inl (2, 0))), (9, .inl (is (Bl v)))], [(2, pb 23 [is (U8 a0_0), is (U8 a0_1)])]⟩) (fun v => r = F228_1 a0_0 a0_1 a1 v) ?_ ?_
  · skip
    refine AW_region ?_
    refine AL_cons (LR_loads (at_tmp 2 _) ag23 sz23 rfl rfl rfl) (sS (sT1 rfl) (sB1 rfl) sF0) ?_
    refine AL_cons (LR_move (at_tmp 1 _) rfl) (sS (sT1 rfl) sB0 sF0) ?_
    obtain ⟨y10, hy10, hr⟩ := lt_some hr
    refine AL_cons (LR_call Hfaa.func65 rfl rfl (C65 a0_0 a0_1 a1 y10 hy10) (all_cons (at_tmp 5 _) (all_cons (at_tmp 6 _) all_nil)) rfl) (sS (sA (sT1 rfl) (sA (sT1 rfl) sT0)) sB0 sF0) ?_
    refine AL_cons (LR_field (off := 1) (at_tmp 7 _) Hfaa.underlying112 rfl rfl na110 rfl rfl) (sS (sT1 rfl) sB0 sF0) ?_
    refine AL_cons (LR_bin (at_tmp 8 _) (at_c (v' := I8 4) rfl) (eql_I8 y10.2.1 4) rfl) (sS (sA (sT1 rfl) sT0) sB0 sF0) ?_
    refine AL_nil ?_
    exact thenN (cutLeaf (v := y10.2.1 == 4) hr (weak0 ((sT rfl (sT rfl (sT rfl sT0)))) (sub_keep sub_nil)))
  · rintro x1 hr
    show AW Hfaa.prog _ _ _ ⟨[(1, .inl (is (U64 a1))), (2, .inr (.inl (2, 0))), (9, .inl (is (Bl x1)))], [(2, pb 23 [is (U8 a0_0), is (U8 a0_1)])]⟩
    have hr : r = F228_1 a0_0 a0_1 a1 x1 := hr
    refine AW_condT (b := x1) rfl (fun h => ?_) (fun h => ?_)
    · have hr := hr.trans (cond_t h)
      clear h
      refine AW_seq1 ?_
      refine AW_region ?_
      refine AL_cons (LR_loads (at_tmp 2 _) ag23 sz23 rfl rfl rfl) (sS (sT1 rfl) (sB1 rfl) sF0) ?_
      obtain ⟨y7, hy7, hr⟩ := lt_some hr
      refine AL_cons (LR_call Hfaa.func66 rfl rfl (C66 a0_0 a0_1 y7 hy7) (all_cons (at_tmp 10 _) all_nil) rfl) (sS (sA (sT1 rfl) sT0) sB0 sF0) ?_
      refine AL_cons (LR_assign (at_tmp 11 _) rfl) (sS (sT1 rfl) sB0 sF0) ?_
      refine AL_nil ?_
      refine thenN ?_
      refine AW_ret ?_
      refine thenR ?_
      subst hr
      exact res1 rfl (rvT rfl)
    · have hr := hr.trans (cond_f h)
      clear h
      refine AW_skip ?_
      refine thenN ?_
      refine AW_seq1 ?_
      refine AW_region ?_
      refine AL_cons (LR_move (at_tmp 1 _) rfl) (sS (sT1 rfl) sB0 sF0) ?_
      refine AL_cons (LR_loads (at_tmp 2 _) ag23 sz23 rfl rfl rfl) (sS (sT1 rfl) (sB1 rfl) sF0) ?_
      obtain ⟨y9, hy9, hr⟩ := lt_some hr
      refine AL_cons (LR_call Hfaa.func69 rfl rfl (C69 a0_0 a0_1 y9 hy9) (all_cons (at_tmp 13 _) all_nil) rfl) (sS (sA (sT1 rfl) sT0) sB0 sF0) ?_
      refine AL_cons (LR_bin (at_tmp 12 _) (at_tmp 14 _) (and_U64 a1 y9) rfl) (sS (sA (sT1 rfl) (sT1 rfl)) sB0 sF0) ?_
      refine AL_cons (LR_assign (at_tmp 15 _) rfl) (sS (sT1 rfl) sB0 sF0) ?_
      refine AL_nil ?_
      refine thenN ?_
      refine AW_ret ?_
      subst hr
      exact res1 rfl (rvT rfl)
/-- soft.heard -/
def F214_1 (x1 : Bool) : BitVec 8 := bif x1 then 1#8 else 0#8
def F214 (a0_0 : BitVec 8) (a0_1 : BitVec 8) (a1 : BitVec 64) (a2 : BitVec 64) : BitVec 8 := lt (F107 a0_0 a0_1 a1) fun y4 => F214_1 (y4 || (F107 a0_0 a0_1 a2))
theorem C214 (a0_0 : BitVec 8) (a0_1 : BitVec 8) (a1 : BitVec 64) (a2 : BitVec 64) (r : BitVec 8) (hr : r = F214 a0_0 a0_1 a1 a2) : Aw.Fn Hfaa.prog 214 [agg [is (U8 a0_0), is (U8 a0_1)], is (U64 a1), is (U64 a2)] (is (U8 r)) := by
  refine fn_intro Hfaa.func214 rfl rfl rfl ?_
  intro bn0 w0 H0
  refine AW_seq1 ?_
  refine AW_region ?_
  refine AL_cons (LR_box (at_tmp 0 _) (cells_agg _) rfl) (sS (sT1 rfl) sB0 (sF1 rfl)) ?_
  refine AL_cons (LR_assign (at_c (v' := U8 (0#8)) rfl) rfl) (sS sT0 sB0 sF0) ?_
  refine AL_nil ?_
  refine thenN ?_
  refine AW_seq1 ?_
  refine AW_cut (σ := Bool) (fun v => ⟨[(14, .inl (is (Bl v)))], []⟩) (fun v => r = F214_1 v) ?_ ?_
  · skip
    refine AW_region ?_
    refine AL_cons (LR_loads (at_tmp 3 _) ag23 sz23 rfl rfl rfl) (sS (sT1 rfl) (sB1 rfl) sF0) ?_
    refine AL_cons (LR_move (at_tmp 1 _) rfl) (sS (sT1 rfl) sB0 sF0) ?_
    obtain ⟨y4, hy4, hr⟩ := lt_some hr
    refine AL_cons (LR_call Hfaa.func107 rfl rfl (C107 a0_0 a0_1 a1 y4 hy4) (all_cons (at_tmp 7 _) (all_cons (at_tmp 8 _) all_nil)) rfl) (sS (sA (sT1 rfl) (sA (sT1 rfl) sT0)) sB0 sF0) ?_
    refine AL_cons (LR_move (at_tmp 9 _) rfl) (sS (sT1 rfl) sB0 sF0) ?_
    refine AL_cutAt 4 ⟨[(0, .inl (agg [is (U8 a0_0), is (U8 a0_1)])), (1, .inl (is (U64 a1))), (2, .inl (is (U64 a2))), (3, .inr (.inl (3, 0))), (6, .inl (is (U8 (0#8)))), (7, .inl (agg [is (U8 a0_0), is (U8 a0_1)])), (8, .inl (is (U64 a1))), (9, .inl (is (Bl y4))), (10, .inl (is (Bl y4))), (14, .inl (is (Bl (y4 || (F107 a0_0 a0_1 a2)))))], [(3, pb 23 [is (U8 a0_0), is (U8 a0_1)])]⟩ ?_ ?_
    · cases hb : y4
      · skip
        refine AL_cons (LR_on rfl rfl rfl (LR_loads (at_tmp 3 _) ag23 sz23 rfl rfl rfl)) (sS (sT rfl (sT1 rfl)) (sB1 rfl) sF0) ?_
        refine AL_cons (LR_on rfl rfl rfl (LR_move (at_tmp 2 _) rfl)) (sS (sT rfl (sT1 rfl)) sB0 sF0) ?_
        refine AL_cons (LR_on rfl rfl rfl (LR_call Hfaa.func107 rfl rfl (C107 a0_0 a0_1 a2 _ rfl) (all_cons (at_tmp 11 _) (all_cons (at_tmp 12 _) all_nil)) rfl)) (sS (sT rfl (sA (sT1 rfl) (sA (sT1 rfl) sT0))) sB0 sF0) ?_
        refine AL_cons (LR_pick (b := false) (at_tmp 10 _) (at_c (v' := Bl true) rfl) (at_tmp 13 _) rfl) (sS (sA (sT1 rfl) (sA sT0 (sT1 rfl))) sB0 sF0) ?_
        exact AL_nil ⟨rfl, weak0 ((sT rfl (sT rfl (sT rfl (sT rfl (sT rfl (sT rfl (sT rfl (sT rfl (sT rfl (sT rfl sT0))))))))))) (sub_keep sub_nil)⟩
      · skip
        refine AL_cons (LR_off (b := true) rfl rfl rfl rfl) (sS (sT1 rfl) sB0 sF0) ?_
        refine AL_cons (LR_off (b := true) rfl rfl rfl rfl) (sS (sT1 rfl) sB0 sF0) ?_
        refine AL_cons (LR_off (b := true) rfl rfl rfl rfl) (sS (sT1 rfl) sB0 sF0) ?_
        refine AL_cons (LR_pick (b := true) (at_tmp 10 _) (at_c (v' := Bl true) rfl) (at_tmp 13 _) rfl) (sS (sA (sT1 rfl) (sA sT0 (sT1 rfl))) sB0 sF0) ?_
        exact AL_nil ⟨rfl, weak0 ((sT rfl (sT rfl (sT rfl (sT rfl (sT rfl (sT rfl (sT rfl (sT rfl (sT rfl (sT rfl sT0))))))))))) (sub_keep sub_nil)⟩
    refine AL_nil ?_
    exact thenN (cutLeaf (v := y4 || (F107 a0_0 a0_1 a2)) hr (weak0 ((sT rfl sT0)) (sub_drop sub_nil)))
  · rintro x1 hr
    show AW Hfaa.prog _ _ _ ⟨[(14, .inl (is (Bl x1)))], []⟩
    have hr : r = F214_1 x1 := hr
    refine AW_condT (b := x1) rfl (fun h => ?_) (fun h => ?_)
    · have hr := hr.trans (cond_t h)
      clear h
      refine AW_seq1 ?_
      refine AW_region ?_
      refine AL_cons (LR_assign (at_c (v' := U8 (1#8)) rfl) rfl) (sS sT0 sB0 sF0) ?_
      refine AL_nil ?_
      refine thenN ?_
      refine AW_ret ?_
      refine thenR ?_
      subst hr
      exact res1 rfl (rvT rfl)
    · have hr := hr.trans (cond_f h)
      clear h
      refine AW_skip ?_
      refine thenN ?_
      refine AW_seq1 ?_
      refine AW_region ?_
      refine AL_cons (LR_assign (at_c (v' := U8 (0#8)) rfl) rfl) (sS sT0 sB0 sF0) ?_
      refine AL_nil ?_
      refine thenN ?_
      refine AW_ret ?_
      subst hr
      exact res1 rfl (rvT rfl)
/-- soft.zero -/
def F259 (a0_0 : BitVec 8) (a0_1 : BitVec 8) (a1 : Bool) : BitVec 64 := bif a1 then lt (F70 a0_0 a0_1) fun y4 => y4 else 0#64
theorem C259 (a0_0 : BitVec 8) (a0_1 : BitVec 8) (a1 : Bool) (r : BitVec 64) (hr : r = F259 a0_0 a0_1 a1) : Aw.Fn Hfaa.prog 259 [agg [is (U8 a0_0), is (U8 a0_1)], is (Bl a1)] (is (U64 r)) := by
  refine fn_intro Hfaa.func259 rfl rfl rfl ?_
  intro bn0 w0 H0
  refine AW_seq1 ?_
  refine AW_region ?_
  refine AL_cons (LR_box (at_tmp 0 _) (cells_agg _) rfl) (sS (sT1 rfl) sB0 (sF1 rfl)) ?_
  refine AL_cons (LR_assign (at_c (v' := U64 (0#64)) rfl) rfl) (sS sT0 sB0 sF0) ?_
  refine AL_nil ?_
  refine thenN ?_
  refine AW_seq1 ?_
  refine AW_seq1 ?_
  refine AW_region ?_
  refine AL_cons (LR_move (at_tmp 1 _) rfl) (sS (sT1 rfl) sB0 sF0) ?_
  refine AL_nil ?_
  refine thenN ?_
  refine AW_condT (b := a1) rfl (fun h => ?_) (fun h => ?_)
  · have hr := hr.trans (cond_t h)
    clear h
    refine AW_seq1 ?_
    refine AW_region ?_
    refine AL_cons (LR_loads (at_tmp 2 _) ag23 sz23 rfl rfl rfl) (sS (sT1 rfl) (sB1 rfl) sF0) ?_
    obtain ⟨y4, hy4, hr⟩ := lt_some hr
    refine AL_cons (LR_call Hfaa.func70 rfl rfl (C70 a0_0 a0_1 y4 hy4) (all_cons (at_tmp 6 _) all_nil) rfl) (sS (sA (sT1 rfl) sT0) sB0 sF0) ?_
    refine AL_cons (LR_assign (at_tmp 7 _) rfl) (sS (sT1 rfl) sB0 sF0) ?_
    refine AL_nil ?_
    refine thenN ?_
    refine AW_ret ?_
    refine thenR ?_
    subst hr
    exact res1 rfl (rvT rfl)
  · have hr := hr.trans (cond_f h)
    clear h
    refine AW_skip ?_
    refine thenN ?_
    refine AW_seq1 ?_
    refine AW_region ?_
    refine AL_cons (LR_assign (at_c (v' := U64 (0#64)) rfl) rfl) (sS sT0 sB0 sF0) ?_
    refine AL_nil ?_
    refine thenN ?_
    refine AW_ret ?_
    subst hr
    exact res1 rfl (rvT rfl)
/-- wide.Clz -/
def F164_7 (N : Nat) (x7 : BitVec 64) : Option (BitVec 8) := bif (decide (0 ≤ ((((x7 ^^^ (x7 >>> 1)) * (285870213051386505#64)) >>> 58).toNat : Int)) && decide (((((x7 ^^^ (x7 >>> 1)) * (285870213051386505#64)) >>> 58).toNat : Int) < (str0.length : Int))) then some ((str0.getD (((((x7 ^^^ (x7 >>> 1)) * (285870213051386505#64)) >>> 58).toNat : Int)).toNat 0).toBitVec) else none
def F164_6 (N : Nat) (x6 : BitVec 64) : Option (BitVec 8) := F164_7 N (x6 ||| (x6 >>> 32))
def F164_5 (N : Nat) (x5 : BitVec 64) : Option (BitVec 8) := F164_6 N (x5 ||| (x5 >>> 16))
def F164_4 (N : Nat) (x4 : BitVec 64) : Option (BitVec 8) := F164_5 N (x4 ||| (x4 >>> 8))
def F164_3 (N : Nat) (x3 : BitVec 64) : Option (BitVec 8) := F164_4 N (x3 ||| (x3 >>> 4))
def F164_2 (N : Nat) (x2 : BitVec 64) : Option (BitVec 8) := F164_3 N (x2 ||| (x2 >>> 2))
def F164_1 (N : Nat) (a0 : BitVec 64) (x1 : Bool) : Option (BitVec 8) := bif x1 then some (64#8) else F164_2 N (a0 ||| (a0 >>> 1))
def F164 (N : Nat) (a0 : BitVec 64) : Option (BitVec 8) := F164_1 N a0 (a0 == (0#64))
theorem C164 (N : Nat) (a0 : BitVec 64) (r : BitVec 8) (hr : some r = F164 N a0) : Aw.Fn Hfaa.prog 164 [is (U64 a0)] (is (U8 r)) := by
  refine fn_intro Hfaa.func164 rfl rfl rfl ?_
  intro bn0 w0 H0
  refine AW_seq1 ?_
  refine AW_region ?_
  refine AL_cons (LR_assign (at_c (v' := U8 (0#8)) rfl) rfl) (sS sT0 sB0 sF0) ?_
  refine AL_nil ?_
  refine thenN ?_
  refine AW_seq1 ?_
  refine AW_cut (σ := Bool) (fun v => ⟨[(0, .inl (is (U64 a0))), (4, .inl (is (Bl v)))], []⟩) (fun v => some r = F164_1 N a0 v) ?_ ?_
  · skip
    refine AW_region ?_
    refine AL_cons (LR_move (at_tmp 0 _) rfl) (sS (sT1 rfl) sB0 sF0) ?_
    refine AL_cons (LR_bin (at_tmp 3 _) (at_c (v' := U64 (0#64)) rfl) (eql_U64 a0 (0#64)) rfl) (sS (sA (sT1 rfl) sT0) sB0 sF0) ?_
    refine AL_nil ?_
    exact thenN (cutLeaf (v := a0 == (0#64)) hr (weak0 ((sT rfl (sT rfl sT0))) sub_nil))
  · rintro x1 hr
    show AW Hfaa.prog _ _ _ ⟨[(0, .inl (is (U64 a0))), (4, .inl (is (Bl x1)))], []⟩
    have hr : some r = F164_1 N a0 x1 := hr
    refine AW_condT (b := x1) rfl (fun h => ?_) (fun h => ?_)
    · have hr := hr.trans (cond_t h)
      clear h
      refine AW_seq1 ?_
      refine AW_region ?_
      refine AL_cons (LR_assign (at_c (v' := U8 (64#8)) rfl) rfl) (sS sT0 sB0 sF0) ?_
      refine AL_nil ?_
      refine thenN ?_
      refine AW_ret ?_
      refine thenR ?_
      obtain rfl := Option.some.inj hr
      exact res1 rfl (rvT rfl)
    · have hr := hr.trans (cond_f h)
      clear h
      refine AW_skip ?_
      refine thenN ?_
      refine AW_cut (σ := BitVec 64) (fun v => ⟨[(0, .inl (is (U64 v)))], []⟩) (fun v => some r = F164_2 N v) ?_ ?_
      · skip
        refine AW_region ?_
        refine AL_cons (LR_move (at_tmp 0 _) rfl) (sS (sT1 rfl) sB0 sF0) ?_
        refine AL_cons (LR_move (at_tmp 0 _) rfl) (sS (sT1 rfl) sB0 sF0) ?_
        refine AL_cons (LR_bin (at_tmp 6 _) (at_c (v' := U64 (1#64)) rfl) (shr_U64 a0 ((1#64).toNat : Int) (Int.natCast_nonneg _)) rfl) (sS (sA (sT1 rfl) sT0) sB0 sF0) ?_
        refine AL_cons (LR_bin (at_tmp 5 _) (at_tmp 7 _) (or_U64 a0 (a0 >>> 1)) rfl) (sS (sA (sT1 rfl) (sT1 rfl)) sB0 sF0) ?_
        refine AL_cons (LR_assign (at_tmp 8 _) rfl) (sS (sT1 rfl) sB0 sF0) ?_
        refine AL_nil ?_
        exact thenN (cutLeaf (v := a0 ||| (a0 >>> 1)) hr (weak0 ((sT rfl sT0)) sub_nil))
      · rintro x2 hr
        show AW Hfaa.prog _ _ _ ⟨[(0, .inl (is (U64 x2)))], []⟩
        have hr : some r = F164_2 N x2 := hr
        refine AW_cut (σ := BitVec 64) (fun v => ⟨[(0, .inl (is (U64 v)))], []⟩) (fun v => some r = F164_3 N v) ?_ ?_
        · skip
          refine AW_region ?_
          refine AL_cons (LR_move (at_tmp 0 _) rfl) (sS (sT1 rfl) sB0 sF0) ?_
          refine AL_cons (LR_move (at_tmp 0 _) rfl) (sS (sT1 rfl) sB0 sF0) ?_
          refine AL_cons (LR_bin (at_tmp 10 _) (at_c (v' := U64 (2#64)) rfl) (shr_U64 x2 ((2#64).toNat : Int) (Int.natCast_nonneg _)) rfl) (sS (sA (sT1 rfl) sT0) sB0 sF0) ?_
          refine AL_cons (LR_bin (at_tmp 9 _) (at_tmp 11 _) (or_U64 x2 (x2 >>> 2)) rfl) (sS (sA (sT1 rfl) (sT1 rfl)) sB0 sF0) ?_
          refine AL_cons (LR_assign (at_tmp 12 _) rfl) (sS (sT1 rfl) sB0 sF0) ?_
          refine AL_nil ?_
          exact thenN (cutLeaf (v := x2 ||| (x2 >>> 2)) hr (weak0 ((sT rfl sT0)) sub_nil))
        · rintro x3 hr
          show AW Hfaa.prog _ _ _ ⟨[(0, .inl (is (U64 x3)))], []⟩
          have hr : some r = F164_3 N x3 := hr
          refine AW_cut (σ := BitVec 64) (fun v => ⟨[(0, .inl (is (U64 v)))], []⟩) (fun v => some r = F164_4 N v) ?_ ?_
          · skip
            refine AW_region ?_
            refine AL_cons (LR_move (at_tmp 0 _) rfl) (sS (sT1 rfl) sB0 sF0) ?_
            refine AL_cons (LR_move (at_tmp 0 _) rfl) (sS (sT1 rfl) sB0 sF0) ?_
            refine AL_cons (LR_bin (at_tmp 14 _) (at_c (v' := U64 (4#64)) rfl) (shr_U64 x3 ((4#64).toNat : Int) (Int.natCast_nonneg _)) rfl) (sS (sA (sT1 rfl) sT0) sB0 sF0) ?_
            refine AL_cons (LR_bin (at_tmp 13 _) (at_tmp 15 _) (or_U64 x3 (x3 >>> 4)) rfl) (sS (sA (sT1 rfl) (sT1 rfl)) sB0 sF0) ?_
            refine AL_cons (LR_assign (at_tmp 16 _) rfl) (sS (sT1 rfl) sB0 sF0) ?_
            refine AL_nil ?_
            exact thenN (cutLeaf (v := x3 ||| (x3 >>> 4)) hr (weak0 ((sT rfl sT0)) sub_nil))
          · rintro x4 hr
            show AW Hfaa.prog _ _ _ ⟨[(0, .inl (is (U64 x4)))], []⟩
            have hr : some r = F164_4 N x4 := hr
            refine AW_cut (σ := BitVec 64) (fun v => ⟨[(0, .inl (is (U64 v)))], []⟩) (fun v => some r = F164_5 N v) ?_ ?_
            · skip
              refine AW_region ?_
              refine AL_cons (LR_move (at_tmp 0 _) rfl) (sS (sT1 rfl) sB0 sF0) ?_
              refine AL_cons (LR_move (at_tmp 0 _) rfl) (sS (sT1 rfl) sB0 sF0) ?_
              refine AL_cons (LR_bin (at_tmp 18 _) (at_c (v' := U64 (8#64)) rfl) (shr_U64 x4 ((8#64).toNat : Int) (Int.natCast_nonneg _)) rfl) (sS (sA (sT1 rfl) sT0) sB0 sF0) ?_
              refine AL_cons (LR_bin (at_tmp 17 _) (at_tmp 19 _) (or_U64 x4 (x4 >>> 8)) rfl) (sS (sA (sT1 rfl) (sT1 rfl)) sB0 sF0) ?_
              refine AL_cons (LR_assign (at_tmp 20 _) rfl) (sS (sT1 rfl) sB0 sF0) ?_
              refine AL_nil ?_
              exact thenN (cutLeaf (v := x4 ||| (x4 >>> 8)) hr (weak0 ((sT rfl sT0)) sub_nil))
            · rintro x5 hr
              show AW Hfaa.prog _ _ _ ⟨[(0, .inl (is (U64 x5)))], []⟩
              have hr : some r = F164_5 N x5 := hr
              refine AW_cut (σ := BitVec 64) (fun v => ⟨[(0, .inl (is (U64 v)))], []⟩) (fun v => some r = F164_6 N v) ?_ ?_
              · skip
                refine AW_region ?_
                refine AL_cons (LR_move (at_tmp 0 _) rfl) (sS (sT1 rfl) sB0 sF0) ?_
                refine AL_cons (LR_move (at_tmp 0 _) rfl) (sS (sT1 rfl) sB0 sF0) ?_
                refine AL_cons (LR_bin (at_tmp 22 _) (at_c (v' := U64 (16#64)) rfl) (shr_U64 x5 ((16#64).toNat : Int) (Int.natCast_nonneg _)) rfl) (sS (sA (sT1 rfl) sT0) sB0 sF0) ?_
                refine AL_cons (LR_bin (at_tmp 21 _) (at_tmp 23 _) (or_U64 x5 (x5 >>> 16)) rfl) (sS (sA (sT1 rfl) (sT1 rfl)) sB0 sF0) ?_
                refine AL_cons (LR_assign (at_tmp 24 _) rfl) (sS (sT1 rfl) sB0 sF0) ?_
                refine AL_nil ?_
                exact thenN (cutLeaf (v := x5 ||| (x5 >>> 16)) hr (weak0 ((sT rfl sT0)) sub_nil))
              · rintro x6 hr
                show AW Hfaa.prog _ _ _ ⟨[(0, .inl (is (U64 x6)))], []⟩
                have hr : some r = F164_6 N x6 := hr
                refine AW_cut (σ := BitVec 64) (fun v => ⟨[(0, .inl (is (U64 v)))], []⟩) (fun v => some r = F164_7 N v) ?_ ?_
                · skip
                  refine AW_region ?_
                  refine AL_cons (LR_move (at_tmp 0 _) rfl) (sS (sT1 rfl) sB0 sF0) ?_
                  refine AL_cons (LR_move (at_tmp 0 _) rfl) (sS (sT1 rfl) sB0 sF0) ?_
                  refine AL_cons (LR_bin (at_tmp 26 _) (at_c (v' := U64 (32#64)) rfl) (shr_U64 x6 ((32#64).toNat : Int) (Int.natCast_nonneg _)) rfl) (sS (sA (sT1 rfl) sT0) sB0 sF0) ?_
                  refine AL_cons (LR_bin (at_tmp 25 _) (at_tmp 27 _) (or_U64 x6 (x6 >>> 32)) rfl) (sS (sA (sT1 rfl) (sT1 rfl)) sB0 sF0) ?_
                  refine AL_cons (LR_assign (at_tmp 28 _) rfl) (sS (sT1 rfl) sB0 sF0) ?_
                  refine AL_nil ?_
                  exact thenN (cutLeaf (v := x6 ||| (x6 >>> 32)) hr (weak0 ((sT rfl sT0)) sub_nil))
                · rintro x7 hr
                  show AW Hfaa.prog _ _ _ ⟨[(0, .inl (is (U64 x7)))], []⟩
                  have hr : some r = F164_7 N x7 := hr
                  refine AW_seq1 ?_
                  refine AW_region ?_
                  refine AL_cons (LR_move (at_tmp 0 _) rfl) (sS (sT1 rfl) sB0 sF0) ?_
                  refine AL_cons (LR_move (at_tmp 0 _) rfl) (sS (sT1 rfl) sB0 sF0) ?_
                  refine AL_cons (LR_bin (at_tmp 30 _) (at_c (v' := U64 (1#64)) rfl) (shr_U64 x7 ((1#64).toNat : Int) (Int.natCast_nonneg _)) rfl) (sS (sA (sT1 rfl) sT0) sB0 sF0) ?_
                  refine AL_cons (LR_bin (at_tmp 29 _) (at_tmp 31 _) (xor_U64 x7 (x7 >>> 1)) rfl) (sS (sA (sT1 rfl) (sT1 rfl)) sB0 sF0) ?_
                  refine AL_cons (LR_bin (at_tmp 32 _) (at_c (v' := U64 (285870213051386505#64)) rfl) (mul_U64 (x7 ^^^ (x7 >>> 1)) (285870213051386505#64)) rfl) (sS (sA (sT1 rfl) sT0) sB0 sF0) ?_
                  refine AL_cons (LR_bin (at_tmp 33 _) (at_c (v' := U64 (58#64)) rfl) (shr_U64 ((x7 ^^^ (x7 >>> 1)) * (285870213051386505#64)) ((58#64).toNat : Int) (Int.natCast_nonneg _)) rfl) (sS (sA (sT1 rfl) sT0) sB0 sF0) ?_
                  obtain ⟨hg2, hr⟩ := guard_some hr
                  refine AL_cons (LR_indexS (i := ((((x7 ^^^ (x7 >>> 1)) * (285870213051386505#64)) >>> 58).toNat : Int)) Hfaa.underlying9 (at_c (v' := Sv str0) rfl) (at_tmp 34 _) (dand hg2) rfl) (sS (sA sT0 (sT1 rfl)) sB0 sF0) ?_
                  refine AL_cons (LR_assign (at_tmp 35 _) rfl) (sS (sT1 rfl) sB0 sF0) ?_
                  refine AL_nil ?_
                  refine thenN ?_
                  refine AW_ret ?_
                  obtain rfl := Option.some.inj hr
                  exact res1 rfl (rvT rfl)
/-- soft.overflow -/
def F286_1 (a0_0 : BitVec 8) (a0_1 : BitVec 8) (a2 : Bool) (x1 : Bool) : BitVec 64 × BitVec 8 := bif x1 then lt (F68 a0_0 a0_1 a2) fun y4 => (y4, 20#8) else lt (F67 a0_0 a0_1 a2) fun y6 => (y6, 20#8)
def F286_3 (a0_0 : BitVec 8) (a0_1 : BitVec 8) (a1 : BitVec 8) (a2 : Bool) (x3 : Bool) : BitVec 64 × BitVec 8 := bif x3 then F286_1 a0_0 a0_1 a2 x3 else F286_1 a0_0 a0_1 a2 ((a1 == (4#8)) && (!a2))
def F286_2 (a0_0 : BitVec 8) (a0_1 : BitVec 8) (a1 : BitVec 8) (a2 : Bool) (x2 : Bool) : BitVec 64 × BitVec 8 := bif x2 then F286_1 a0_0 a0_1 a2 x2 else F286_3 a0_0 a0_1 a1 a2 ((a1 == (3#8)) && a2)
def F286 (a0_0 : BitVec 8) (a0_1 : BitVec 8) (a1 : BitVec 8) (a2 : Bool) : BitVec 64 × BitVec 8 := F286_2 a0_0 a0_1 a1 a2 (a1 == (2#8))
theorem C286 (a0_0 : BitVec 8) (a0_1 : BitVec 8) (a1 : BitVec 8) (a2 : Bool) (r : BitVec 64 × BitVec 8) (hr : r = F286 a0_0 a0_1 a1 a2) : Aw.Fn Hfaa.prog 286 [agg [is (U8 a0_0), is (U8 a0_1)], is (U8 a1), is (Bl a2)] (tup [is (U64 r.1), is (U8 r.2)]) := by
  refine fn_intro Hfaa.func286 rfl rfl rfl ?_
  intro bn0 w0 H0
  refine AW_seq1 ?_
  refine AW_region ?_
  refine AL_cons (LR_box (at_tmp 0 _) (cells_agg _) rfl) (sS (sT1 rfl) sB0 (sF1 rfl)) ?_
  refine AL_cons (LR_assign (at_c (v' := U64 (0#64)) rfl) rfl) (sS sT0 sB0 sF0) ?_
  refine AL_cons (LR_assign (at_c (v' := U8 (0#8)) rfl) rfl) (sS sT0 sB0 sF0) ?_
  refine AL_nil ?_
  refine thenN ?_
  refine AW_seq1 ?_
  refine AW_block ?_
  refine AW_cut (σ := Bool) (fun v => ⟨[(2, .inl (is (Bl a2))), (3, .inr (.inl (3, 0))), (8, .inl (is (Bl v)))], [(3, pb 23 [is (U8 a0_0), is (U8 a0_1)])]⟩) (fun v => r = F286_1 a0_0 a0_1 a2 v) ?_ ?_
  · skip
    refine AW_cut (σ := Bool) (fun v => ⟨[(1, .inl (is (U8 a1))), (2, .inl (is (Bl a2))), (3, .inr (.inl (3, 0))), (8, .inl (is (Bl v)))], [(3, pb 23 [is (U8 a0_0), is (U8 a0_1)])]⟩) (fun v => r = F286_2 a0_0 a0_1 a1 a2 v) ?_ ?_
    · skip
      refine AW_region ?_
      refine AL_cons (LR_move (at_tmp 1 _) rfl) (sS (sT1 rfl) sB0 sF0) ?_
      refine AL_cons (LR_bin (at_tmp 9 _) (at_c (v' := U8 (2#8)) rfl) (eql_U8 a1 (2#8)) rfl) (sS (sA (sT1 rfl) sT0) sB0 sF0) ?_
      refine AL_cons (LR_assign (at_tmp 10 _) rfl) (sS (sT1 rfl) sB0 sF0) ?_
      refine AL_nil ?_
      exact thenN (cutLeaf (v := a1 == (2#8)) hr (weak0 ((sT rfl (sT rfl (sT rfl (sT rfl sT0))))) (sub_keep sub_nil)))
    · rintro x2 hr
      show AW Hfaa.prog _ _ _ ⟨[(1, .inl (is (U8 a1))), (2, .inl (is (Bl a2))), (3, .inr (.inl (3, 0))), (8, .inl (is (Bl x2)))], [(3, pb 23 [is (U8 a0_0), is (U8 a0_1)])]⟩
      have hr : r = F286_2 a0_0 a0_1 a1 a2 x2 := hr
      refine AW_condT (b := x2) rfl (fun h => ?_) (fun h => ?_)
      · have hr := hr.trans (cond_t h)
        clear h
        refine AW_skip ?_
        exact thenN (cutLeaf (v := x2) hr (weak0 ((sT rfl (sT rfl (sT rfl sT0)))) (sub_keep sub_nil)))
      · have hr := hr.trans (cond_f h)
        clear h
        refine AW_cut (σ := Bool) (fun v => ⟨[(1, .inl (is (U8 a1))), (2, .inl (is (Bl a2))), (3, .inr (.inl (3, 0))), (8, .inl (is (Bl v)))], [(3, pb 23 [is (U8 a0_0), is (U8 a0_1)])]⟩) (fun v => r = F286_3 a0_0 a0_1 a1 a2 v) ?_ ?_
        · skip
          refine AW_region ?_
          refine AL_cons (LR_move (at_tmp 1 _) rfl) (sS (sT1 rfl) sB0 sF0) ?_
          refine AL_cons (LR_bin (at_tmp 11 _) (at_c (v' := U8 (3#8)) rfl) (eql_U8 a1 (3#8)) rfl) (sS (sA (sT1 rfl) sT0) sB0 sF0) ?_
          refine AL_cons (LR_move (at_tmp 12 _) rfl) (sS (sT1 rfl) sB0 sF0) ?_
          refine AL_cutAt 2 ⟨[(1, .inl (is (U8 a1))), (2, .inl (is (Bl a2))), (3, .inr (.inl (3, 0))), (8, .inl (is (Bl x2))), (11, .inl (is (U8 a1))), (12, .inl (is (Bl (a1 == (3#8))))), (13, .inl (is (Bl (a1 == (3#8))))), (15, .inl (is (Bl ((a1 == (3#8)) && a2))))], [(3, pb 23 [is (U8 a0_0), is (U8 a0_1)])]⟩ ?_ ?_
          · cases hb : a1 == (3#8)
            · skip
              refine AL_cons (LR_off (b := false) rfl rfl rfl rfl) (sS (sT1 rfl) sB0 sF0) ?_
              refine AL_cons (LR_pick (b := false) (at_tmp 13 _) (at_tmp 14 _) (at_c (v' := Bl false) rfl) rfl) (sS (sA (sT1 rfl) (sA (sT1 rfl) sT0)) sB0 sF0) ?_
              exact AL_nil ⟨rfl, weak0 ((sT rfl (sT rfl (sT rfl (sT rfl (sT rfl (sT rfl (sT rfl (sT rfl sT0))))))))) (sub_keep sub_nil)⟩
            · skip
              refine AL_cons (LR_on rfl rfl rfl (LR_move (at_tmp 2 _) rfl)) (sS (sT rfl (sT1 rfl)) sB0 sF0) ?_
              refine AL_cons (LR_pick (b := true) (at_tmp 13 _) (at_tmp 14 _) (at_c (v' := Bl false) rfl) rfl) (sS (sA (sT1 rfl) (sA (sT1 rfl) sT0)) sB0 sF0) ?_
              exact AL_nil ⟨rfl, weak0 ((sT rfl (sT rfl (sT rfl (sT rfl (sT rfl (sT rfl (sT rfl (sT rfl sT0))))))))) (sub_keep sub_nil)⟩
          refine AL_cons (LR_assign (at_tmp 15 _) rfl) (sS (sT1 rfl) sB0 sF0) ?_
          refine AL_nil ?_
          exact thenN (cutLeaf (v := (a1 == (3#8)) && a2) hr (weak0 ((sT rfl (sT rfl (sT rfl (sT rfl sT0))))) (sub_keep sub_nil)))
        · rintro x3 hr
          show AW Hfaa.prog _ _ _ ⟨[(1, .inl (is (U8 a1))), (2, .inl (is (Bl a2))), (3, .inr (.inl (3, 0))), (8, .inl (is (Bl x3)))], [(3, pb 23 [is (U8 a0_0), is (U8 a0_1)])]⟩
          have hr : r = F286_3 a0_0 a0_1 a1 a2 x3 := hr
          refine AW_condT (b := x3) rfl (fun h => ?_) (fun h => ?_)
          · have hr := hr.trans (cond_t h)
            clear h
            refine AW_skip ?_
            exact thenN (cutLeaf (v := x3) hr (weak0 ((sT rfl (sT rfl (sT rfl sT0)))) (sub_keep sub_nil)))
          · have hr := hr.trans (cond_f h)
            clear h
            refine AW_region ?_
            refine AL_cons (LR_move (at_tmp 1 _) rfl) (sS (sT1 rfl) sB0 sF0) ?_
            refine AL_cons (LR_bin (at_tmp 16 _) (at_c (v' := U8 (4#8)) rfl) (eql_U8 a1 (4#8)) rfl) (sS (sA (sT1 rfl) sT0) sB0 sF0) ?_
            refine AL_cons (LR_move (at_tmp 17 _) rfl) (sS (sT1 rfl) sB0 sF0) ?_
            refine AL_cutAt 3 ⟨[(1, .inl (is (U8 a1))), (2, .inl (is (Bl a2))), (3, .inr (.inl (3, 0))), (8, .inl (is (Bl x3))), (16, .inl (is (U8 a1))), (17, .inl (is (Bl (a1 == (4#8))))), (18, .inl (is (Bl (a1 == (4#8))))), (21, .inl (is (Bl ((a1 == (4#8)) && (!a2)))))], [(3, pb 23 [is (U8 a0_0), is (U8 a0_1)])]⟩ ?_ ?_
            · cases hb : a1 == (4#8)
              · skip
                refine AL_cons (LR_off (b := false) rfl rfl rfl rfl) (sS (sT1 rfl) sB0 sF0) ?_
                refine AL_cons (LR_off (b := false) rfl rfl rfl rfl) (sS (sT1 rfl) sB0 sF0) ?_
                refine AL_cons (LR_pick (b := false) (at_tmp 18 _) (at_tmp 20 _) (at_c (v' := Bl false) rfl) rfl) (sS (sA (sT1 rfl) (sA (sT1 rfl) sT0)) sB0 sF0) ?_
                exact AL_nil ⟨rfl, weak0 ((sT rfl (sT rfl (sT rfl (sT rfl (sT rfl (sT rfl (sT rfl (sT rfl sT0))))))))) (sub_keep sub_nil)⟩
              · skip
                refine AL_cons (LR_on rfl rfl rfl (LR_move (at_tmp 2 _) rfl)) (sS (sT rfl (sT1 rfl)) sB0 sF0) ?_
                refine AL_cons (LR_on rfl rfl rfl (LR_un (at_tmp 19 _) (not_Bl a2) rfl)) (sS (sT rfl (sT1 rfl)) sB0 sF0) ?_
                refine AL_cons (LR_pick (b := true) (at_tmp 18 _) (at_tmp 20 _) (at_c (v' := Bl false) rfl) rfl) (sS (sA (sT1 rfl) (sA (sT1 rfl) sT0)) sB0 sF0) ?_
                exact AL_nil ⟨rfl, weak0 ((sT rfl (sT rfl (sT rfl (sT rfl (sT rfl (sT rfl (sT rfl (sT rfl sT0))))))))) (sub_keep sub_nil)⟩
            refine AL_cons (LR_assign (at_tmp 21 _) rfl) (sS (sT1 rfl) sB0 sF0) ?_
            refine AL_nil ?_
            exact thenN (cutLeaf (v := (a1 == (4#8)) && (!a2)) hr (weak0 ((sT rfl (sT rfl (sT rfl sT0)))) (sub_keep sub_nil)))
  · rintro x1 hr
    show AW Hfaa.prog _ _ _ ⟨[(2, .inl (is (Bl a2))), (3, .inr (.inl (3, 0))), (8, .inl (is (Bl x1)))], [(3, pb 23 [is (U8 a0_0), is (U8 a0_1)])]⟩
    have hr : r = F286_1 a0_0 a0_1 a2 x1 := hr
    refine AW_condT (b := x1) rfl (fun h => ?_) (fun h => ?_)
    · have hr := hr.trans (cond_t h)
      clear h
      refine AW_seq1 ?_
      refine AW_region ?_
      refine AL_cons (LR_loads (at_tmp 3 _) ag23 sz23 rfl rfl rfl) (sS (sT1 rfl) (sB1 rfl) sF0) ?_
      refine AL_cons (LR_move (at_tmp 2 _) rfl) (sS (sT1 rfl) sB0 sF0) ?_
      obtain ⟨y4, hy4, hr⟩ := lt_some hr
      refine AL_cons (LR_call Hfaa.func68 rfl rfl (C68 a0_0 a0_1 a2 y4 hy4) (all_cons (at_tmp 22 _) (all_cons (at_tmp 23 _) all_nil)) rfl) (sS (sA (sT1 rfl) (sA (sT1 rfl) sT0)) sB0 sF0) ?_
      refine AL_cons (LR_assign (at_tmp 24 _) rfl) (sS (sT1 rfl) sB0 sF0) ?_
      refine AL_cons (LR_assign (at_c (v' := U8 (20#8)) rfl) rfl) (sS sT0 sB0 sF0) ?_
      refine AL_nil ?_
      refine thenN ?_
      refine AW_ret ?_
      refine blR ?_
      refine thenR ?_
      subst hr
      exact res2 rfl (rvT rfl) (rvT rfl)
    · have hr := hr.trans (cond_f h)
      clear h
      refine AW_skip ?_
      refine blN ?_
      refine thenN ?_
      refine AW_seq1 ?_
      refine AW_region ?_
      refine AL_cons (LR_loads (at_tmp 3 _) ag23 sz23 rfl rfl rfl) (sS (sT1 rfl) (sB1 rfl) sF0) ?_
      refine AL_cons (LR_move (at_tmp 2 _) rfl) (sS (sT1 rfl) sB0 sF0) ?_
      obtain ⟨y6, hy6, hr⟩ := lt_some hr
      refine AL_cons (LR_call Hfaa.func67 rfl rfl (C67 a0_0 a0_1 a2 y6 hy6) (all_cons (at_tmp 25 _) (all_cons (at_tmp 26 _) all_nil)) rfl) (sS (sA (sT1 rfl) (sA (sT1 rfl) sT0)) sB0 sF0) ?_
      refine AL_cons (LR_assign (at_tmp 27 _) rfl) (sS (sT1 rfl) sB0 sF0) ?_
      refine AL_cons (LR_assign (at_c (v' := U8 (20#8)) rfl) rfl) (sS sT0 sB0 sF0) ?_
      refine AL_nil ?_
      refine thenN ?_
      refine AW_ret ?_
      subst hr
      exact res2 rfl (rvT rfl) (rvT rfl)
/-- soft.cut -/
def F257_3 (N : Nat) (x3 : Bool) : Option (BitVec 64 × BitVec 64) := bif x3 then some (0#64, 0#64) else some (0#64, 1#64)
def F257_2 (N : Nat) (a0 : BitVec 64) (a1 : Int) (x2 : Bool) : Option (BitVec 64 × BitVec 64) := bif x2 then bif decide (0 ≤ a1) then bif decide (0 ≤ (w16 (64 - a1))) then some ((a0 >>> a1.toNat, a0 <<< (w16 (64 - a1)).toNat)) else none else none else F257_3 N (a0 == (0#64))
def F257_1 (N : Nat) (a0 : BitVec 64) (a1 : Int) (x1 : Bool) : Option (BitVec 64 × BitVec 64) := bif x1 then some (a0, 0#64) else F257_2 N a0 a1 (decide (a1 ≤ 64))
def F257 (N : Nat) (a0 : BitVec 64) (a1 : Int) : Option (BitVec 64 × BitVec 64) := F257_1 N a0 a1 (a1 == 0)
theorem C257 (N : Nat) (a0 : BitVec 64) (a1 : Int) (r : BitVec 64 × BitVec 64) (hr : some r = F257 N a0 a1) : Aw.Fn Hfaa.prog 257 [is (U64 a0), is (I16 a1)] (tup [is (U64 r.1), is (U64 r.2)]) := by
  refine fn_intro Hfaa.func257 rfl rfl rfl ?_
  intro bn0 w0 H0
  refine AW_seq1 ?_
  refine AW_region ?_
  refine AL_cons (LR_assign (at_c (v' := U64 (0#64)) rfl) rfl) (sS sT0 sB0 sF0) ?_
  refine AL_cons (LR_assign (at_c (v' := U64 (0#64)) rfl) rfl) (sS sT0 sB0 sF0) ?_
  refine AL_nil ?_
  refine thenN ?_
  refine AW_seq1 ?_
  refine AW_block ?_
  refine AW_cut (σ := Bool) (fun v => ⟨[(0, .inl (is (U64 a0))), (1, .inl (is (I16 a1))), (6, .inl (is (Bl v)))], []⟩) (fun v => some r = F257_1 N a0 a1 v) ?_ ?_
  · skip
    refine AW_region ?_
    refine AL_cons (LR_move (at_tmp 1 _) rfl) (sS (sT1 rfl) sB0 sF0) ?_
    refine AL_cons (LR_bin (at_tmp 7 _) (at_c (v' := I16 0) rfl) (eql_I16 a1 0) rfl) (sS (sA (sT1 rfl) sT0) sB0 sF0) ?_
    refine AL_cons (LR_assign (at_tmp 8 _) rfl) (sS (sT1 rfl) sB0 sF0) ?_
    refine AL_nil ?_
    exact thenN (cutLeaf (v := a1 == 0) hr (weak0 ((sT rfl (sT rfl (sT rfl sT0)))) sub_nil))
  · rintro x1 hr
    show AW Hfaa.prog _ _ _ ⟨[(0, .inl (is (U64 a0))), (1, .inl (is (I16 a1))), (6, .inl (is (Bl x1)))], []⟩
    have hr : some r = F257_1 N a0 a1 x1 := hr
    refine AW_condT (b := x1) rfl (fun h => ?_) (fun h => ?_)
    · have hr := hr.trans (cond_t h)
      clear h
      refine AW_seq1 ?_
      refine AW_region ?_
      refine AL_cons (LR_move (at_tmp 0 _) rfl) (sS (sT1 rfl) sB0 sF0) ?_
      refine AL_cons (LR_assign (at_tmp 9 _) rfl) (sS (sT1 rfl) sB0 sF0) ?_
      refine AL_cons (LR_assign (at_c (v' := U64 (0#64)) rfl) rfl) (sS sT0 sB0 sF0) ?_
      refine AL_nil ?_
      refine thenN ?_
      refine AW_ret ?_
      refine blR ?_
      refine thenR ?_
      obtain rfl := Option.some.inj hr
      exact res2 rfl (rvT rfl) (rvT rfl)
    · have hr := hr.trans (cond_f h)
      clear h
      refine AW_cut (σ := Bool) (fun v => ⟨[(0, .inl (is (U64 a0))), (1, .inl (is (I16 a1))), (10, .inl (is (Bl v)))], []⟩) (fun v => some r = F257_2 N a0 a1 v) ?_ ?_
      · skip
        refine AW_region ?_
        refine AL_cons (LR_move (at_tmp 1 _) rfl) (sS (sT1 rfl) sB0 sF0) ?_
        refine AL_cons (LR_bin (at_tmp 11 _) (at_c (v' := I16 64) rfl) (leq_I16 a1 64) rfl) (sS (sA (sT1 rfl) sT0) sB0 sF0) ?_
        refine AL_cons (LR_assign (at_tmp 12 _) rfl) (sS (sT1 rfl) sB0 sF0) ?_
        refine AL_nil ?_
        exact thenN (cutLeaf (v := decide (a1 ≤ 64)) hr (weak0 ((sT rfl (sT rfl (sT rfl sT0)))) sub_nil))
      · rintro x2 hr
        show AW Hfaa.prog _ _ _ ⟨[(0, .inl (is (U64 a0))), (1, .inl (is (I16 a1))), (10, .inl (is (Bl x2)))], []⟩
        have hr : some r = F257_2 N a0 a1 x2 := hr
        refine AW_condT (b := x2) rfl (fun h => ?_) (fun h => ?_)
        · have hr := hr.trans (cond_t h)
          clear h
          refine AW_seq1 ?_
          obtain ⟨hg7, hr⟩ := guard_some hr
          obtain ⟨hg8, hr⟩ := guard_some hr
          refine AW_draw mixed
            (lrC (LR_move (at_tmp 0 _) rfl)
            (lrC (LR_move (at_tmp 1 _) rfl)
            (lrC (LR_bin (at_tmp 13 _) (at_tmp 14 _) (shr_U64 a0 a1 (of_decide_eq_true hg7)) rfl)
            (lrC (LR_move (at_tmp 0 _) rfl)
            (lrC (LR_move (at_tmp 1 _) rfl)
            (lrC (LR_bin (at_c (v' := I16 64) rfl) (at_tmp 17 _) (sub_I16 64 a1) rfl)
            (lrC (LR_bin (at_tmp 16 _) (at_tmp 18 _) (shl_U64 a0 (w16 (64 - a1)) (of_decide_eq_true hg8)) rfl)
            (lrC (LR_assign (at_tmp 15 _) rfl)
            (lrC (LR_assign (at_tmp 19 _) rfl)
            lrN)))))))))
            (by kernel_rfl)
            (saC (sS (sT1 rfl) sB0 sF0) (saC (sS (sT1 rfl) sB0 sF0) (saC (sS (sA (sT1 rfl) (sT1 rfl)) sB0 sF0) (saC (sS (sT1 rfl) sB0 sF0) (saC (sS (sT1 rfl) sB0 sF0) (saC (sS (sA sT0 (sT1 rfl)) sB0 sF0) (saC (sS (sA (sT1 rfl) (sT1 rfl)) sB0 sF0) (saC (sS (sT1 rfl) sB0 sF0) (saC (sS (sT1 rfl) sB0 sF0) saN))))))))) ?_
          refine thenN ?_
          refine AW_ret ?_
          refine blR ?_
          refine thenR ?_
          obtain rfl := Option.some.inj hr
          exact res2 rfl (rvT rfl) (rvT rfl)
        · have hr := hr.trans (cond_f h)
          clear h
          refine AW_cut (σ := Bool) (fun v => ⟨[(20, .inl (is (Bl v)))], []⟩) (fun v => some r = F257_3 N v) ?_ ?_
          · skip
            refine AW_region ?_
            refine AL_cons (LR_move (at_tmp 0 _) rfl) (sS (sT1 rfl) sB0 sF0) ?_
            refine AL_cons (LR_bin (at_tmp 21 _) (at_c (v' := U64 (0#64)) rfl) (eql_U64 a0 (0#64)) rfl) (sS (sA (sT1 rfl) sT0) sB0 sF0) ?_
            refine AL_cons (LR_assign (at_tmp 22 _) rfl) (sS (sT1 rfl) sB0 sF0) ?_
            refine AL_nil ?_
            exact thenN (cutLeaf (v := a0 == (0#64)) hr (weak0 ((sT rfl sT0)) sub_nil))
          · rintro x3 hr
            show AW Hfaa.prog _ _ _ ⟨[(20, .inl (is (Bl x3)))], []⟩
            have hr : some r = F257_3 N x3 := hr
            refine AW_condT (b := x3) rfl (fun h => ?_) (fun h => ?_)
            · have hr := hr.trans (cond_t h)
              clear h
              refine AW_seq1 ?_
              refine AW_region ?_
              refine AL_cons (LR_assign (at_c (v' := U64 (0#64)) rfl) rfl) (sS sT0 sB0 sF0) ?_
              refine AL_cons (LR_assign (at_c (v' := U64 (0#64)) rfl) rfl) (sS sT0 sB0 sF0) ?_
              refine AL_nil ?_
              refine thenN ?_
              refine AW_ret ?_
              refine blR ?_
              refine thenR ?_
              obtain rfl := Option.some.inj hr
              exact res2 rfl (rvT rfl) (rvT rfl)
            · have hr := hr.trans (cond_f h)
              clear h
              refine AW_skip ?_
              refine blN ?_
              refine thenN ?_
              refine AW_seq1 ?_
              refine AW_region ?_
              refine AL_cons (LR_assign (at_c (v' := U64 (0#64)) rfl) rfl) (sS sT0 sB0 sF0) ?_
              refine AL_cons (LR_assign (at_c (v' := U64 (1#64)) rfl) rfl) (sS sT0 sB0 sF0) ?_
              refine AL_nil ?_
              refine thenN ?_
              refine AW_ret ?_
              obtain rfl := Option.some.inj hr
              exact res2 rfl (rvT rfl) (rvT rfl)
/-- soft.raises -/
def F258_4 (a1 : Bool) (a2 : BitVec 64) (a3 : BitVec 64) (x4 : Bool) : Bool := bif x4 then (a3 != (0#64)) && a1 else (decide ((9223372036854775808#64).toNat < a3.toNat)) || ((a3 == (9223372036854775808#64)) && ((a2 &&& (1#64)) == (1#64)))
def F258_3 (a0 : BitVec 8) (a1 : Bool) (a2 : BitVec 64) (a3 : BitVec 64) (x3 : Bool) : Bool := bif x3 then (a3 != (0#64)) && (!a1) else F258_4 a1 a2 a3 (a0 == (4#8))
def F258_2 (a0 : BitVec 8) (a1 : Bool) (a2 : BitVec 64) (a3 : BitVec 64) (x2 : Bool) : Bool := bif x2 then false else F258_3 a0 a1 a2 a3 (a0 == (3#8))
def F258_1 (a0 : BitVec 8) (a1 : Bool) (a2 : BitVec 64) (a3 : BitVec 64) (x1 : Bool) : Bool := bif x1 then decide ((9223372036854775808#64).toNat ≤ a3.toNat) else F258_2 a0 a1 a2 a3 (a0 == (2#8))
def F258 (a0 : BitVec 8) (a1 : Bool) (a2 : BitVec 64) (a3 : BitVec 64) : Bool := F258_1 a0 a1 a2 a3 (a0 == (1#8))
theorem C258 (a0 : BitVec 8) (a1 : Bool) (a2 : BitVec 64) (a3 : BitVec 64) (r : Bool) (hr : r = F258 a0 a1 a2 a3) : Aw.Fn Hfaa.prog 258 [is (U8 a0), is (Bl a1), is (U64 a2), is (U64 a3)] (is (Bl r)) := by
  refine fn_intro Hfaa.func258 rfl rfl rfl ?_
  intro bn0 w0 H0
  refine AW_seq1 ?_
  refine AW_region ?_
  refine AL_cons (LR_assign (at_c (v' := Bl false) rfl) rfl) (sS sT0 sB0 sF0) ?_
  refine AL_nil ?_
  refine thenN ?_
  refine AW_seq1 ?_
  refine AW_seq1 ?_
  refine AW_region ?_
  refine AL_cons (LR_move (at_tmp 0 _) rfl) (sS (sT1 rfl) sB0 sF0) ?_
  refine AL_nil ?_
  refine thenN ?_
  refine AW_block ?_
  refine AW_cut (σ := Bool) (fun v => ⟨[(1, .inl (is (Bl a1))), (2, .inl (is (U64 a2))), (3, .inl (is (U64 a3))), (9, .inl (is (U8 a0))), (10, .inl (is (Bl v)))], []⟩) (fun v => r = F258_1 a0 a1 a2 a3 v) ?_ ?_
  · skip
    refine AW_region ?_
    refine AL_cons (LR_bin (at_tmp 9 _) (at_c (v' := U8 (1#8)) rfl) (eql_U8 a0 (1#8)) rfl) (sS (sA (sT1 rfl) sT0) sB0 sF0) ?_
    refine AL_cons (LR_assign (at_tmp 11 _) rfl) (sS (sT1 rfl) sB0 sF0) ?_
    refine AL_nil ?_
    exact thenN (cutLeaf (v := a0 == (1#8)) hr (weak0 ((sT rfl (sT rfl (sT rfl (sT rfl (sT rfl sT0)))))) sub_nil))
  · rintro x1 hr
    show AW Hfaa.prog _ _ _ ⟨[(1, .inl (is (Bl a1))), (2, .inl (is (U64 a2))), (3, .inl (is (U64 a3))), (9, .inl (is (U8 a0))), (10, .inl (is (Bl x1)))], []⟩
    have hr : r = F258_1 a0 a1 a2 a3 x1 := hr
    refine AW_condT (b := x1) rfl (fun h => ?_) (fun h => ?_)
    · have hr := hr.trans (cond_t h)
      clear h
      refine AW_seq1 ?_
      refine AW_region ?_
      refine AL_cons (LR_move (at_tmp 3 _) rfl) (sS (sT1 rfl) sB0 sF0) ?_
      refine AL_cons (LR_bin (at_tmp 12 _) (at_c (v' := U64 (9223372036854775808#64)) rfl) (geq_U64 a3 (9223372036854775808#64)) rfl) (sS (sA (sT1 rfl) sT0) sB0 sF0) ?_
      refine AL_cons (LR_assign (at_tmp 13 _) rfl) (sS (sT1 rfl) sB0 sF0) ?_
      refine AL_nil ?_
      refine thenN ?_
      refine AW_ret ?_
      refine blR ?_
      refine thenR ?_
      subst hr
      exact res1 rfl (rvT rfl)
    · have hr := hr.trans (cond_f h)
      clear h
      refine AW_cut (σ := Bool) (fun v => ⟨[(1, .inl (is (Bl a1))), (2, .inl (is (U64 a2))), (3, .inl (is (U64 a3))), (9, .inl (is (U8 a0))), (14, .inl (is (Bl v)))], []⟩) (fun v => r = F258_2 a0 a1 a2 a3 v) ?_ ?_
      · skip
        refine AW_region ?_
        refine AL_cons (LR_bin (at_tmp 9 _) (at_c (v' := U8 (2#8)) rfl) (eql_U8 a0 (2#8)) rfl) (sS (sA (sT1 rfl) sT0) sB0 sF0) ?_
        refine AL_cons (LR_assign (at_tmp 15 _) rfl) (sS (sT1 rfl) sB0 sF0) ?_
        refine AL_nil ?_
        exact thenN (cutLeaf (v := a0 == (2#8)) hr (weak0 ((sT rfl (sT rfl (sT rfl (sT rfl (sT rfl sT0)))))) sub_nil))
      · rintro x2 hr
        show AW Hfaa.prog _ _ _ ⟨[(1, .inl (is (Bl a1))), (2, .inl (is (U64 a2))), (3, .inl (is (U64 a3))), (9, .inl (is (U8 a0))), (14, .inl (is (Bl x2)))], []⟩
        have hr : r = F258_2 a0 a1 a2 a3 x2 := hr
        refine AW_condT (b := x2) rfl (fun h => ?_) (fun h => ?_)
        · have hr := hr.trans (cond_t h)
          clear h
          refine AW_seq1 ?_
          refine AW_region ?_
          refine AL_cons (LR_assign (at_c (v' := Bl false) rfl) rfl) (sS sT0 sB0 sF0) ?_
          refine AL_nil ?_
          refine thenN ?_
          refine AW_ret ?_
          refine blR ?_
          refine thenR ?_
          subst hr
          exact res1 rfl (rvT rfl)
        · have hr := hr.trans (cond_f h)
          clear h
          refine AW_cut (σ := Bool) (fun v => ⟨[(1, .inl (is (Bl a1))), (2, .inl (is (U64 a2))), (3, .inl (is (U64 a3))), (9, .inl (is (U8 a0))), (16, .inl (is (Bl v)))], []⟩) (fun v => r = F258_3 a0 a1 a2 a3 v) ?_ ?_
          · skip
            refine AW_region ?_
            refine AL_cons (LR_bin (at_tmp 9 _) (at_c (v' := U8 (3#8)) rfl) (eql_U8 a0 (3#8)) rfl) (sS (sA (sT1 rfl) sT0) sB0 sF0) ?_
            refine AL_cons (LR_assign (at_tmp 17 _) rfl) (sS (sT1 rfl) sB0 sF0) ?_
            refine AL_nil ?_
            exact thenN (cutLeaf (v := a0 == (3#8)) hr (weak0 ((sT rfl (sT rfl (sT rfl (sT rfl (sT rfl sT0)))))) sub_nil))
          · rintro x3 hr
            show AW Hfaa.prog _ _ _ ⟨[(1, .inl (is (Bl a1))), (2, .inl (is (U64 a2))), (3, .inl (is (U64 a3))), (9, .inl (is (U8 a0))), (16, .inl (is (Bl x3)))], []⟩
            have hr : r = F258_3 a0 a1 a2 a3 x3 := hr
            refine AW_condT (b := x3) rfl (fun h => ?_) (fun h => ?_)
            · have hr := hr.trans (cond_t h)
              clear h
              refine AW_seq1 ?_
              refine AW_region ?_
              refine AL_cons (LR_move (at_tmp 3 _) rfl) (sS (sT1 rfl) sB0 sF0) ?_
              refine AL_cons (LR_bin (at_tmp 18 _) (at_c (v' := U64 (0#64)) rfl) (neq_U64 a3 (0#64)) rfl) (sS (sA (sT1 rfl) sT0) sB0 sF0) ?_
              refine AL_cons (LR_move (at_tmp 19 _) rfl) (sS (sT1 rfl) sB0 sF0) ?_
              refine AL_cutAt 3 ⟨[(1, .inl (is (Bl a1))), (2, .inl (is (U64 a2))), (3, .inl (is (U64 a3))), (9, .inl (is (U8 a0))), (16, .inl (is (Bl x3))), (18, .inl (is (U64 a3))), (19, .inl (is (Bl (a3 != (0#64))))), (20, .inl (is (Bl (a3 != (0#64))))), (23, .inl (is (Bl ((a3 != (0#64)) && (!a1)))))], []⟩ ?_ ?_
              · cases hb : a3 != (0#64)
                · skip
                  refine AL_cons (LR_off (b := false) rfl rfl rfl rfl) (sS (sT1 rfl) sB0 sF0) ?_
                  refine AL_cons (LR_off (b := false) rfl rfl rfl rfl) (sS (sT1 rfl) sB0 sF0) ?_
                  refine AL_cons (LR_pick (b := false) (at_tmp 20 _) (at_tmp 22 _) (at_c (v' := Bl false) rfl) rfl) (sS (sA (sT1 rfl) (sA (sT1 rfl) sT0)) sB0 sF0) ?_
                  exact AL_nil ⟨rfl, weak0 ((sT rfl (sT rfl (sT rfl (sT rfl (sT rfl (sT rfl (sT rfl (sT rfl (sT rfl sT0)))))))))) sub_nil⟩
                · skip
                  refine AL_cons (LR_on rfl rfl rfl (LR_move (at_tmp 1 _) rfl)) (sS (sT rfl (sT1 rfl)) sB0 sF0) ?_
                  refine AL_cons (LR_on rfl rfl rfl (LR_un (at_tmp 21 _) (not_Bl a1) rfl)) (sS (sT rfl (sT1 rfl)) sB0 sF0) ?_
                  refine AL_cons (LR_pick (b := true) (at_tmp 20 _) (at_tmp 22 _) (at_c (v' := Bl false) rfl) rfl) (sS (sA (sT1 rfl) (sA (sT1 rfl) sT0)) sB0 sF0) ?_
                  exact AL_nil ⟨rfl, weak0 ((sT rfl (sT rfl (sT rfl (sT rfl (sT rfl (sT rfl (sT rfl (sT rfl (sT rfl sT0)))))))))) sub_nil⟩
              refine AL_cons (LR_assign (at_tmp 23 _) rfl) (sS (sT1 rfl) sB0 sF0) ?_
              refine AL_nil ?_
              refine thenN ?_
              refine AW_ret ?_
              refine blR ?_
              refine thenR ?_
              subst hr
              exact res1 rfl (rvT rfl)
            · have hr := hr.trans (cond_f h)
              clear h
              refine AW_cut (σ := Bool) (fun v => ⟨[(1, .inl (is (Bl a1))), (2, .inl (is (U64 a2))), (3, .inl (is (U64 a3))), (24, .inl (is (Bl v)))], []⟩) (fun v => r = F258_4 a1 a2 a3 v) ?_ ?_
              · skip
                refine AW_region ?_
                refine AL_cons (LR_bin (at_tmp 9 _) (at_c (v' := U8 (4#8)) rfl) (eql_U8 a0 (4#8)) rfl) (sS (sA (sT1 rfl) sT0) sB0 sF0) ?_
                refine AL_cons (LR_assign (at_tmp 25 _) rfl) (sS (sT1 rfl) sB0 sF0) ?_
                refine AL_nil ?_
                exact thenN (cutLeaf (v := a0 == (4#8)) hr (weak0 ((sT rfl (sT rfl (sT rfl (sT rfl sT0))))) sub_nil))
              · rintro x4 hr
                show AW Hfaa.prog _ _ _ ⟨[(1, .inl (is (Bl a1))), (2, .inl (is (U64 a2))), (3, .inl (is (U64 a3))), (24, .inl (is (Bl x4)))], []⟩
                have hr : r = F258_4 a1 a2 a3 x4 := hr
                refine AW_condT (b := x4) rfl (fun h => ?_) (fun h => ?_)
                · have hr := hr.trans (cond_t h)
                  clear h
                  refine AW_seq1 ?_
                  refine AW_region ?_
                  refine AL_cons (LR_move (at_tmp 3 _) rfl) (sS (sT1 rfl) sB0 sF0) ?_
                  refine AL_cons (LR_bin (at_tmp 26 _) (at_c (v' := U64 (0#64)) rfl) (neq_U64 a3 (0#64)) rfl) (sS (sA (sT1 rfl) sT0) sB0 sF0) ?_
                  refine AL_cons (LR_move (at_tmp 27 _) rfl) (sS (sT1 rfl) sB0 sF0) ?_
                  refine AL_cutAt 2 ⟨[(1, .inl (is (Bl a1))), (2, .inl (is (U64 a2))), (3, .inl (is (U64 a3))), (24, .inl (is (Bl x4))), (26, .inl (is (U64 a3))), (27, .inl (is (Bl (a3 != (0#64))))), (28, .inl (is (Bl (a3 != (0#64))))), (30, .inl (is (Bl ((a3 != (0#64)) && a1))))], []⟩ ?_ ?_
                  · cases hb : a3 != (0#64)
                    · skip
                      refine AL_cons (LR_off (b := false) rfl rfl rfl rfl) (sS (sT1 rfl) sB0 sF0) ?_
                      refine AL_cons (LR_pick (b := false) (at_tmp 28 _) (at_tmp 29 _) (at_c (v' := Bl false) rfl) rfl) (sS (sA (sT1 rfl) (sA (sT1 rfl) sT0)) sB0 sF0) ?_
                      exact AL_nil ⟨rfl, weak0 ((sT rfl (sT rfl (sT rfl (sT rfl (sT rfl (sT rfl (sT rfl (sT rfl sT0))))))))) sub_nil⟩
                    · skip
                      refine AL_cons (LR_on rfl rfl rfl (LR_move (at_tmp 1 _) rfl)) (sS (sT rfl (sT1 rfl)) sB0 sF0) ?_
                      refine AL_cons (LR_pick (b := true) (at_tmp 28 _) (at_tmp 29 _) (at_c (v' := Bl false) rfl) rfl) (sS (sA (sT1 rfl) (sA (sT1 rfl) sT0)) sB0 sF0) ?_
                      exact AL_nil ⟨rfl, weak0 ((sT rfl (sT rfl (sT rfl (sT rfl (sT rfl (sT rfl (sT rfl (sT rfl sT0))))))))) sub_nil⟩
                  refine AL_cons (LR_assign (at_tmp 30 _) rfl) (sS (sT1 rfl) sB0 sF0) ?_
                  refine AL_nil ?_
                  refine thenN ?_
                  refine AW_ret ?_
                  refine blR ?_
                  refine thenR ?_
                  subst hr
                  exact res1 rfl (rvT rfl)
                · have hr := hr.trans (cond_f h)
                  clear h
                  refine AW_skip ?_
                  refine blN ?_
                  refine thenN ?_
                  refine AW_seq1 ?_
                  refine AW_region ?_
                  refine AL_cons (LR_move (at_tmp 3 _) rfl) (sS (sT1 rfl) sB0 sF0) ?_
                  refine AL_cons (LR_bin (at_tmp 31 _) (at_c (v' := U64 (9223372036854775808#64)) rfl) (gtr_U64 a3 (9223372036854775808#64)) rfl) (sS (sA (sT1 rfl) sT0) sB0 sF0) ?_
                  refine AL_cons (LR_move (at_tmp 32 _) rfl) (sS (sT1 rfl) sB0 sF0) ?_
                  refine AL_cutAt 8 ⟨[(1, .inl (is (Bl a1))), (2, .inl (is (U64 a2))), (3, .inl (is (U64 a3))), (24, .inl (is (Bl x4))), (31, .inl (is (U64 a3))), (32, .inl (is (Bl (decide ((9223372036854775808#64).toNat < a3.toNat))))), (33, .inl (is (Bl (decide ((9223372036854775808#64).toNat < a3.toNat))))), (41, .inl (is (Bl ((decide ((9223372036854775808#64).toNat < a3.toNat)) || ((a3 == (9223372036854775808#64)) && ((a2 &&& (1#64)) == (1#64)))))))], []⟩ ?_ ?_
                  · cases hb : decide ((9223372036854775808#64).toNat < a3.toNat)
                    · skip
                      refine AL_cons (LR_on rfl rfl rfl (LR_move (at_tmp 3 _) rfl)) (sS (sT rfl (sT1 rfl)) sB0 sF0) ?_
                      refine AL_cons (LR_on rfl rfl rfl (LR_bin (at_tmp 34 _) (at_c (v' := U64 (9223372036854775808#64)) rfl) (eql_U64 a3 (9223372036854775808#64)) rfl)) (sS (sT rfl (sA (sT1 rfl) sT0)) sB0 sF0) ?_
                      refine AL_cons (LR_on rfl rfl rfl (LR_move (at_tmp 35 _) rfl)) (sS (sT rfl (sT1 rfl)) sB0 sF0) ?_
                      refine AL_cutAt 4 ⟨[(1, .inl (is (Bl a1))), (2, .inl (is (U64 a2))), (3, .inl (is (U64 a3))), (24, .inl (is (Bl x4))), (31, .inl (is (U64 a3))), (32, .inl (is (Bl false))), (33, .inl (is (Bl false))), (34, .inl (is (U64 a3))), (35, .inl (is (Bl (a3 == (9223372036854775808#64))))), (36, .inl (is (Bl (a3 == (9223372036854775808#64))))), (40, .inl (is (Bl ((a3 == (9223372036854775808#64)) && ((a2 &&& (1#64)) == (1#64))))))], []⟩ ?_ ?_
                      · cases hb : a3 == (9223372036854775808#64)
                        · skip
                          refine AL_cons (LR_off (b := false) rfl rfl rfl rfl) (sS (sT1 rfl) sB0 sF0) ?_
                          refine AL_cons (LR_off (b := false) rfl rfl rfl rfl) (sS (sT1 rfl) sB0 sF0) ?_
                          refine AL_cons (LR_off (b := false) rfl rfl rfl rfl) (sS (sT1 rfl) sB0 sF0) ?_
                          refine AL_cons (LR_on rfl rfl rfl (LR_pick (b := false) (at_tmp 36 _) (at_tmp 39 _) (at_c (v' := Bl false) rfl) rfl)) (sS (sT rfl (sA (sT1 rfl) (sA (sT1 rfl) sT0))) sB0 sF0) ?_
                          exact AL_nil ⟨rfl, weak0 ((sT rfl (sT rfl (sT rfl (sT rfl (sT rfl (sT rfl (sT rfl (sT rfl (sT rfl (sT rfl (sT rfl sT0)))))))))))) sub_nil⟩
                        · skip
                          refine AL_cons (LR_on rfl rfl rfl (LR_move (at_tmp 2 _) rfl)) (sS (sT rfl (sT1 rfl)) sB0 sF0) ?_
                          refine AL_cons (LR_on rfl rfl rfl (LR_bin (at_tmp 37 _) (at_c (v' := U64 (1#64)) rfl) (and_U64 a2 (1#64)) rfl)) (sS (sT rfl (sA (sT1 rfl) sT0)) sB0 sF0) ?_
                          refine AL_cons (LR_on rfl rfl rfl (LR_bin (at_tmp 38 _) (at_c (v' := U64 (1#64)) rfl) (eql_U64 (a2 &&& (1#64)) (1#64)) rfl)) (sS (sT rfl (sA (sT1 rfl) sT0)) sB0 sF0) ?_
                          refine AL_cons (LR_on rfl rfl rfl (LR_pick (b := true) (at_tmp 36 _) (at_tmp 39 _) (at_c (v' := Bl false) rfl) rfl)) (sS (sT rfl (sA (sT1 rfl) (sA (sT1 rfl) sT0))) sB0 sF0) ?_
                          exact AL_nil ⟨rfl, weak0 ((sT rfl (sT rfl (sT rfl (sT rfl (sT rfl (sT rfl (sT rfl (sT rfl (sT rfl (sT rfl (sT rfl sT0)))))))))))) sub_nil⟩
                      refine AL_cons (LR_pick (b := false) (at_tmp 33 _) (at_c (v' := Bl true) rfl) (at_tmp 40 _) rfl) (sS (sA (sT1 rfl) (sA sT0 (sT1 rfl))) sB0 sF0) ?_
                      exact AL_nil ⟨rfl, weak0 ((sT rfl (sT rfl (sT rfl (sT rfl (sT rfl (sT rfl (sT rfl (sT rfl sT0))))))))) sub_nil⟩
                    · skip
                      refine AL_cons (LR_off (b := true) rfl rfl rfl rfl) (sS (sT1 rfl) sB0 sF0) ?_
                      refine AL_cons (LR_off (b := true) rfl rfl rfl rfl) (sS (sT1 rfl) sB0 sF0) ?_
                      refine AL_cons (LR_off (b := true) rfl rfl rfl rfl) (sS (sT1 rfl) sB0 sF0) ?_
                      refine AL_cons (LR_offU rfl rfl rfl rfl) (sS (sT1 rfl) sB0 sF0) ?_
                      refine AL_cons (LR_offU rfl rfl rfl rfl) (sS (sT1 rfl) sB0 sF0) ?_
                      refine AL_cons (LR_offU rfl rfl rfl rfl) (sS (sT1 rfl) sB0 sF0) ?_
                      refine AL_cons (LR_off (b := true) rfl rfl rfl rfl) (sS (sT1 rfl) sB0 sF0) ?_
                      refine AL_cons (LR_pick (b := true) (at_tmp 33 _) (at_c (v' := Bl true) rfl) (at_tmp 40 _) rfl) (sS (sA (sT1 rfl) (sA sT0 (sT1 rfl))) sB0 sF0) ?_
                      exact AL_nil ⟨rfl, weak0 ((sT rfl (sT rfl (sT rfl (sT rfl (sT rfl (sT rfl (sT rfl (sT rfl sT0))))))))) sub_nil⟩
                  refine AL_cons (LR_assign (at_tmp 41 _) rfl) (sS (sT1 rfl) sB0 sF0) ?_
                  refine AL_nil ?_
                  refine thenN ?_
                  refine AW_ret ?_
                  subst hr
                  exact res1 rfl (rvT rfl)
/-- soft.roundPack -/
def F215_15 (N : Nat) (a0_0 : BitVec 8) (a0_1 : BitVec 8) (a2 : Bool) (x10 : Bool) (x14 : BitVec 64) (x16 : Bool) : Option (BitVec 64 × BitVec 8) := bif x16 then lt (F259 a0_0 a0_1 a2) fun y32 => some (x14 ||| y32, 0#8) else bif x10 then lt (F259 a0_0 a0_1 a2) fun y34 => some (x14 ||| y34, 24#8) else lt (F259 a0_0 a0_1 a2) fun y36 => some (x14 ||| y36, 16#8)
def F215_14 (N : Nat) (a0_0 : BitVec 8) (a0_1 : BitVec 8) (a1 : BitVec 8) (a2 : Bool) (x10 : Bool) (x12 : BitVec 64) (x14 : BitVec 64) (x15 : Bool) : Option (BitVec 64 × BitVec 8) := bif x15 then lt (F286 a0_0 a0_1 a1 a2) fun y30 => some (y30.1, y30.2) else F215_15 N a0_0 a0_1 a2 x10 x14 (x12 == (0#64))
def F215_13 (N : Nat) (a0_0 : BitVec 8) (a0_1 : BitVec 8) (a1 : BitVec 8) (a2 : Bool) (x10 : Bool) (x12 : BitVec 64) (x14 : BitVec 64) : Option (BitVec 64 × BitVec 8) := lt (F67 a0_0 a0_1 false) fun y37 => F215_14 N a0_0 a0_1 a1 a2 x10 x12 x14 (decide (y37.toNat ≤ x14.toNat))
def F215_12 (N : Nat) (a0_0 : BitVec 8) (a0_1 : BitVec 8) (a1 : BitVec 8) (a2 : Bool) (x4 : Int) (x6 : Int) (x10 : Bool) (x12 : BitVec 64) (x13 : BitVec 64) : Option (BitVec 64 × BitVec 8) := F215_13 N a0_0 a0_1 a1 a2 x10 x12 (((BitVec.ofInt 64 (w16 (x6 - x4))) <<< a0_1.toNat) + x13)
def F215_16 (N : Nat) (a0_0 : BitVec 8) (a0_1 : BitVec 8) (a1 : BitVec 8) (a2 : Bool) (x4 : Int) (x6 : Int) (x10 : Bool) (x11 : BitVec 64) (x12 : BitVec 64) (x17 : Bool) : Option (BitVec 64 × BitVec 8) := bif x17 then F215_12 N a0_0 a0_1 a1 a2 x4 x6 x10 x12 (x11 + (1#64)) else F215_12 N a0_0 a0_1 a1 a2 x4 x6 x10 x12 x11
def F215_11 (N : Nat) (a0_0 : BitVec 8) (a0_1 : BitVec 8) (a1 : BitVec 8) (a2 : Bool) (x4 : Int) (x6 : Int) (x10 : Bool) (x11 : BitVec 64) (x12 : BitVec 64) : Option (BitVec 64 × BitVec 8) := lt (F258 a1 a2 x11 x12) fun y39 => F215_16 N a0_0 a0_1 a1 a2 x4 x6 x10 x11 x12 y39
def F215_10 (N : Nat) (a0_0 : BitVec 8) (a0_1 : BitVec 8) (a1 : BitVec 8) (a2 : Bool) (x3 : BitVec 64) (x4 : Int) (x5 : Int) (x6 : Int) (x8 : Int) (x10 : Bool) : Option (BitVec 64 × BitVec 8) := (F257 N x3 (w16 ((w16 (x8 + x6)) - x5))).bind fun y40 => F215_11 N a0_0 a0_1 a1 a2 x4 x6 x10 y40.1 y40.2
def F215_18 (N : Nat) (a0_0 : BitVec 8) (a0_1 : BitVec 8) (a1 : BitVec 8) (a2 : Bool) (x3 : BitVec 64) (x4 : Int) (x5 : Int) (x6 : Int) (x8 : Int) (x19 : BitVec 64) (x20 : BitVec 64) : Option (BitVec 64 × BitVec 8) := lt (F258 a1 a2 x19 x20) fun y42 => F215_10 N a0_0 a0_1 a1 a2 x3 x4 x5 x6 x8 ((!y42) || (x19 != (((1#64) <<< (a0_1 + (1#8)).toNat) - (1#64))))
def F215_17 (N : Nat) (a0_0 : BitVec 8) (a0_1 : BitVec 8) (a1 : BitVec 8) (a2 : Bool) (x3 : BitVec 64) (x4 : Int) (x5 : Int) (x6 : Int) (x8 : Int) (x9 : Bool) (x18 : Bool) : Option (BitVec 64 × BitVec 8) := bif x18 then (F257 N x3 x8).bind fun y43 => F215_18 N a0_0 a0_1 a1 a2 x3 x4 x5 x6 x8 y43.1 y43.2 else F215_10 N a0_0 a0_1 a1 a2 x3 x4 x5 x6 x8 x9
def F215_9 (N : Nat) (a0_0 : BitVec 8) (a0_1 : BitVec 8) (a1 : BitVec 8) (a2 : Bool) (x3 : BitVec 64) (x4 : Int) (x5 : Int) (x6 : Int) (x8 : Int) (x9 : Bool) : Option (BitVec 64 × BitVec 8) := F215_17 N a0_0 a0_1 a1 a2 x3 x4 x5 x6 x8 x9 (x5 == (w16 (x4 - 1)))
def F215_8 (N : Nat) (a0_0 : BitVec 8) (a0_1 : BitVec 8) (a1 : BitVec 8) (a2 : Bool) (x3 : BitVec 64) (x4 : Int) (x5 : Int) (x6 : Int) (x8 : Int) : Option (BitVec 64 × BitVec 8) := F215_9 N a0_0 a0_1 a1 a2 x3 x4 x5 x6 x8 (decide (x5 < x4))
def F215_7 (N : Nat) (a0_0 : BitVec 8) (a0_1 : BitVec 8) (a1 : BitVec 8) (a2 : Bool) (x3 : BitVec 64) (x4 : Int) (x5 : Int) (x6 : Int) (x7 : Bool) : Option (BitVec 64 × BitVec 8) := bif x7 then lt (F286 a0_0 a0_1 a1 a2) fun y13 => some (y13.1, y13.2) else F215_8 N a0_0 a0_1 a1 a2 x3 x4 x5 x6 (w16 (63 - (w16 (a0_1.toNat : Int))))
def F215_6 (N : Nat) (a0_0 : BitVec 8) (a0_1 : BitVec 8) (a1 : BitVec 8) (a2 : Bool) (x3 : BitVec 64) (x4 : Int) (x5 : Int) (x6 : Int) : Option (BitVec 64 × BitVec 8) := lt (F71 a0_0 a0_1) fun y44 => F215_7 N a0_0 a0_1 a1 a2 x3 x4 x5 x6 (decide (x6 > y44))
def F215_5 (N : Nat) (a0_0 : BitVec 8) (a0_1 : BitVec 8) (a1 : BitVec 8) (a2 : Bool) (x3 : BitVec 64) (x4 : Int) (x5 : Int) : Option (BitVec 64 × BitVec 8) := F215_6 N a0_0 a0_1 a1 a2 x3 x4 x5 (max x5 x4)
def F215_4 (N : Nat) (a0_0 : BitVec 8) (a0_1 : BitVec 8) (a1 : BitVec 8) (a2 : Bool) (a3 : Int) (x2 : BitVec 8) (x3 : BitVec 64) (x4 : Int) : Option (BitVec 64 × BitVec 8) := F215_5 N a0_0 a0_1 a1 a2 x3 x4 (w16 ((w16 (a3 - (w16 (x2.toNat : Int)))) + 63))
def F215_3 (N : Nat) (a0_0 : BitVec 8) (a0_1 : BitVec 8) (a1 : BitVec 8) (a2 : Bool) (a3 : Int) (x2 : BitVec 8) (x3 : BitVec 64) : Option (BitVec 64 × BitVec 8) := lt (F71 a0_0 a0_1) fun y45 => F215_4 N a0_0 a0_1 a1 a2 a3 x2 x3 (w16 (1 - y45))
def F215_2 (N : Nat) (a0_0 : BitVec 8) (a0_1 : BitVec 8) (a1 : BitVec 8) (a2 : Bool) (a3 : Int) (a4 : BitVec 64) (x2 : BitVec 8) : Option (BitVec 64 × BitVec 8) := F215_3 N a0_0 a0_1 a1 a2 a3 x2 (a4 <<< x2.toNat)
def F215_1 (N : Nat) (a0_0 : BitVec 8) (a0_1 : BitVec 8) (a1 : BitVec 8) (a2 : Bool) (a3 : Int) (a4 : BitVec 64) (x1 : Bool) : Option (BitVec 64 × BitVec 8) := bif x1 then lt (F259 a0_0 a0_1 a2) fun y4 => some (y4, 0#8) else (F164 N a4).bind fun y46 => F215_2 N a0_0 a0_1 a1 a2 a3 a4 y46
def F215 (N : Nat) (a0_0 : BitVec 8) (a0_1 : BitVec 8) (a1 : BitVec 8) (a2 : Bool) (a3 : Int) (a4 : BitVec 64) : Option (BitVec 64 × BitVec 8) := F215_1 N a0_0 a0_1 a1 a2 a3 a4 (a4 == (0#64))
theorem C215 (N : Nat) (a0_0 : BitVec 8) (a0_1 : BitVec 8) (a1 : BitVec 8) (a2 : Bool) (a3 : Int) (a4 : BitVec 64) (r : BitVec 64 × BitVec 8) (hr : some r = F215 N a0_0 a0_1 a1 a2 a3 a4) : Aw.Fn Hfaa.prog 215 [agg [is (U8 a0_0), is (U8 a0_1)], is (U8 a1), is (Bl a2), is (I16 a3), is (U64 a4)] (tup [is (U64 r.1), is (U8 r.2)]) := by
  refine fn_intro Hfaa.func215 rfl rfl rfl ?_
  intro bn0 w0 H0
  refine AW_seq1 ?_
  refine AW_region ?_
  refine AL_cons (LR_box (at_tmp 0 _) (cells_agg _) rfl) (sS (sT1 rfl) sB0 (sF1 rfl)) ?_
  refine AL_cons (LR_assign (at_c (v' := U64 (0#64)) rfl) rfl) (sS sT0 sB0 sF0) ?_
  refine AL_cons (LR_assign (at_c (v' := U8 (0#8)) rfl) rfl) (sS sT0 sB0 sF0) ?_
  refine AL_nil ?_
  refine thenN ?_
  refine AW_seq1 ?_
  refine AW_cut (σ := Bool) (fun v => ⟨[(1, .inl (is (U8 a1))), (2, .inl (is (Bl a2))), (3, .inl (is (I16 a3))), (4, .inl (is (U64 a4))), (5, .inr (.inl (5, 0))), (24, .inl (is (Bl v)))], [(5, pb 23 [is (U8 a0_0), is (U8 a0_1)])]⟩) (fun v => some r = F215_1 N a0_0 a0_1 a1 a2 a3 a4 v) ?_ ?_
  · skip
    refine AW_region ?_
    refine AL_cons (LR_move (at_tmp 4 _) rfl) (sS (sT1 rfl) sB0 sF0) ?_
    refine AL_cons (LR_bin (at_tmp 23 _) (at_c (v' := U64 (0#64)) rfl) (eql_U64 a4 (0#64)) rfl) (sS (sA (sT1 rfl) sT0) sB0 sF0) ?_
    refine AL_nil ?_
    exact thenN (cutLeaf (v := a4 == (0#64)) hr (weak0 ((sT rfl (sT rfl (sT rfl (sT rfl (sT rfl (sT rfl sT0))))))) (sub_keep sub_nil)))
  · rintro x1 hr
    show AW Hfaa.prog _ _ _ ⟨[(1, .inl (is (U8 a1))), (2, .inl (is (Bl a2))), (3, .inl (is (I16 a3))), (4, .inl (is (U64 a4))), (5, .inr (.inl (5, 0))), (24, .inl (is (Bl x1)))], [(5, pb 23 [is (U8 a0_0), is (U8 a0_1)])]⟩
    have hr : some r = F215_1 N a0_0 a0_1 a1 a2 a3 a4 x1 := hr
    refine AW_condT (b := x1) rfl (fun h => ?_) (fun h => ?_)
    · have hr := hr.trans (cond_t h)
      clear h
      refine AW_seq1 ?_
      refine AW_region ?_
      refine AL_cons (LR_loads (at_tmp 5 _) ag23 sz23 rfl rfl rfl) (sS (sT1 rfl) (sB1 rfl) sF0) ?_
      refine AL_cons (LR_move (at_tmp 2 _) rfl) (sS (sT1 rfl) sB0 sF0) ?_
      obtain ⟨y4, hy4, hr⟩ := lt_some hr
      refine AL_cons (LR_call Hfaa.func259 rfl rfl (C259 a0_0 a0_1 a2 y4 hy4) (all_cons (at_tmp 25 _) (all_cons (at_tmp 26 _) all_nil)) rfl) (sS (sA (sT1 rfl) (sA (sT1 rfl) sT0)) sB0 sF0) ?_
      refine AL_cons (LR_assign (at_tmp 27 _) rfl) (sS (sT1 rfl) sB0 sF0) ?_
      refine AL_cons (LR_assign (at_c (v' := U8 (0#8)) rfl) rfl) (sS sT0 sB0 sF0) ?_
      refine AL_nil ?_
      refine thenN ?_
      refine AW_ret ?_
      refine thenR ?_
      obtain rfl := Option.some.inj hr
      exact res2 rfl (rvT rfl) (rvT rfl)
    · have hr := hr.trans (cond_f h)
      clear h
      refine AW_skip ?_
      refine thenN ?_
      refine AW_cut (σ := BitVec 8) (fun v => ⟨[(1, .inl (is (U8 a1))), (2, .inl (is (Bl a2))), (3, .inl (is (I16 a3))), (4, .inl (is (U64 a4))), (5, .inr (.inl (5, 0))), (12, .inl (is (U8 v)))], [(5, pb 23 [is (U8 a0_0), is (U8 a0_1)])]⟩) (fun v => some r = F215_2 N a0_0 a0_1 a1 a2 a3 a4 v) ?_ ?_
      · skip
        refine AW_region ?_
        refine AL_cons (LR_move (at_tmp 4 _) rfl) (sS (sT1 rfl) sB0 sF0) ?_
        obtain ⟨y46, hy46, hr⟩ := bind_some hr
        refine AL_cons (LR_call Hfaa.func164 rfl rfl (C164 N a4 y46 hy46) (all_cons (at_tmp 28 _) all_nil) rfl) (sS (sA (sT1 rfl) sT0) sB0 sF0) ?_
        refine AL_cons (LR_assign (at_tmp 29 _) rfl) (sS (sT1 rfl) sB0 sF0) ?_
        refine AL_nil ?_
        exact thenN (cutLeaf (v := y46) hr (weak0 ((sT rfl (sT rfl (sT rfl (sT rfl (sT rfl (sT rfl sT0))))))) (sub_keep sub_nil)))
      · rintro x2 hr
        show AW Hfaa.prog _ _ _ ⟨[(1, .inl (is (U8 a1))), (2, .inl (is (Bl a2))), (3, .inl (is (I16 a3))), (4, .inl (is (U64 a4))), (5, .inr (.inl (5, 0))), (12, .inl (is (U8 x2)))], [(5, pb 23 [is (U8 a0_0), is (U8 a0_1)])]⟩
        have hr : some r = F215_2 N a0_0 a0_1 a1 a2 a3 a4 x2 := hr
        refine AW_cut (σ := BitVec 64) (fun v => ⟨[(1, .inl (is (U8 a1))), (2, .inl (is (Bl a2))), (3, .inl (is (I16 a3))), (4, .inl (is (U64 v))), (5, .inr (.inl (5, 0))), (12, .inl (is (U8 x2)))], [(5, pb 23 [is (U8 a0_0), is (U8 a0_1)])]⟩) (fun v => some r = F215_3 N a0_0 a0_1 a1 a2 a3 x2 v) ?_ ?_
        · skip
          refine AW_region ?_
          refine AL_cons (LR_move (at_tmp 4 _) rfl) (sS (sT1 rfl) sB0 sF0) ?_
          refine AL_cons (LR_move (at_tmp 12 _) rfl) (sS (sT1 rfl) sB0 sF0) ?_
          refine AL_cons (LR_bin (at_tmp 30 _) (at_tmp 31 _) (shl_U64 a4 (x2.toNat : Int) (Int.natCast_nonneg _)) rfl) (sS (sA (sT1 rfl) (sT1 rfl)) sB0 sF0) ?_
          refine AL_cons (LR_assign (at_tmp 32 _) rfl) (sS (sT1 rfl) sB0 sF0) ?_
          refine AL_nil ?_
          exact thenN (cutLeaf (v := a4 <<< x2.toNat) hr (weak0 ((sT rfl (sT rfl (sT rfl (sT rfl (sT rfl (sT rfl sT0))))))) (sub_keep sub_nil)))
        · rintro x3 hr
          show AW Hfaa.prog _ _ _ ⟨[(1, .inl (is (U8 a1))), (2, .inl (is (Bl a2))), (3, .inl (is (I16 a3))), (4, .inl (is (U64 x3))), (5, .inr (.inl (5, 0))), (12, .inl (is (U8 x2)))], [(5, pb 23 [is (U8 a0_0), is (U8 a0_1)])]⟩
          have hr : some r = F215_3 N a0_0 a0_1 a1 a2 a3 x2 x3 := hr
          refine AW_cut (σ := Int) (fun v => ⟨[(1, .inl (is (U8 a1))), (2, .inl (is (Bl a2))), (3, .inl (is (I16 a3))), (4, .inl (is (U64 x3))), (5, .inr (.inl (5, 0))), (12, .inl (is (U8 x2))), (13, .inl (is (I16 v)))], [(5, pb 23 [is (U8 a0_0), is (U8 a0_1)])]⟩) (fun v => some r = F215_4 N a0_0 a0_1 a1 a2 a3 x2 x3 v) ?_ ?_
          · skip
            refine AW_region ?_
            refine AL_cons (LR_loads (at_tmp 5 _) ag23 sz23 rfl rfl rfl) (sS (sT1 rfl) (sB1 rfl) sF0) ?_
            obtain ⟨y45, hy45, hr⟩ := lt_some hr
            refine AL_cons (LR_call Hfaa.func71 rfl rfl (C71 a0_0 a0_1 y45 hy45) (all_cons (at_tmp 33 _) all_nil) rfl) (sS (sA (sT1 rfl) sT0) sB0 sF0) ?_
            refine AL_cons (LR_bin (at_c (v' := I16 1) rfl) (at_tmp 34 _) (sub_I16 1 y45) rfl) (sS (sA sT0 (sT1 rfl)) sB0 sF0) ?_
            refine AL_cons (LR_assign (at_tmp 35 _) rfl) (sS (sT1 rfl) sB0 sF0) ?_
            refine AL_nil ?_
            exact thenN (cutLeaf (v := w16 (1 - y45)) hr (weak0 ((sT rfl (sT rfl (sT rfl (sT rfl (sT rfl (sT rfl (sT rfl sT0)))))))) (sub_keep sub_nil)))
          · rintro x4 hr
            show AW Hfaa.prog _ _ _ ⟨[(1, .inl (is (U8 a1))), (2, .inl (is (Bl a2))), (3, .inl (is (I16 a3))), (4, .inl (is (U64 x3))), (5, .inr (.inl (5, 0))), (12, .inl (is (U8 x2))), (13, .inl (is (I16 x4)))], [(5, pb 23 [is (U8 a0_0), is (U8 a0_1)])]⟩
            have hr : some r = F215_4 N a0_0 a0_1 a1 a2 a3 x2 x3 x4 := hr
            refine AW_cut (σ := Int) (fun v => ⟨[(1, .inl (is (U8 a1))), (2, .inl (is (Bl a2))), (4, .inl (is (U64 x3))), (5, .inr (.inl (5, 0))), (13, .inl (is (I16 x4))), (14, .inl (is (I16 v)))], [(5, pb 23 [is (U8 a0_0), is (U8 a0_1)])]⟩) (fun v => some r = F215_5 N a0_0 a0_1 a1 a2 x3 x4 v) ?_ ?_
            · skip
              refine AW_region ?_
              refine AL_cons (LR_move (at_tmp 3 _) rfl) (sS (sT1 rfl) sB0 sF0) ?_
              refine AL_cons (LR_move (at_tmp 12 _) rfl) (sS (sT1 rfl) sB0 sF0) ?_
              refine AL_cons (LR_conv (vx := U8 x2) (at_tmp 37 _) (conv_I16 Hfaa.underlying5 Hfaa.underlying44 (x2.toNat : Int)) rfl) (sS (sT1 rfl) sB0 sF0) ?_
              refine AL_cons (LR_bin (at_tmp 36 _) (at_tmp 38 _) (sub_I16 a3 (w16 (x2.toNat : Int))) rfl) (sS (sA (sT1 rfl) (sT1 rfl)) sB0 sF0) ?_
              refine AL_cons (LR_bin (at_tmp 39 _) (at_c (v' := I16 63) rfl) (add_I16 (w16 (a3 - (w16 (x2.toNat : Int)))) 63) rfl) (sS (sA (sT1 rfl) sT0) sB0 sF0) ?_
              refine AL_cons (LR_assign (at_tmp 40 _) rfl) (sS (sT1 rfl) sB0 sF0) ?_
              refine AL_nil ?_
              exact thenN (cutLeaf (v := w16 ((w16 (a3 - (w16 (x2.toNat : Int)))) + 63)) hr (weak0 ((sT rfl (sT rfl (sT rfl (sT rfl (sT rfl (sT rfl sT0))))))) (sub_keep sub_nil)))
            · rintro x5 hr
              show AW Hfaa.prog _ _ _ ⟨[(1, .inl (is (U8 a1))), (2, .inl (is (Bl a2))), (4, .inl (is (U64 x3))), (5, .inr (.inl (5, 0))), (13, .inl (is (I16 x4))), (14, .inl (is (I16 x5)))], [(5, pb 23 [is (U8 a0_0), is (U8 a0_1)])]⟩
              have hr : some r = F215_5 N a0_0 a0_1 a1 a2 x3 x4 x5 := hr
              refine AW_cut (σ := Int) (fun v => ⟨[(1, .inl (is (U8 a1))), (2, .inl (is (Bl a2))), (4, .inl (is (U64 x3))), (5, .inr (.inl (5, 0))), (13, .inl (is (I16 x4))), (14, .inl (is (I16 x5))), (15, .inl (is (I16 v)))], [(5, pb 23 [is (U8 a0_0), is (U8 a0_1)])]⟩) (fun v => some r = F215_6 N a0_0 a0_1 a1 a2 x3 x4 x5 v) ?_ ?_
              · skip
                refine AW_region ?_
                refine AL_cons (LR_move (at_tmp 14 _) rfl) (sS (sT1 rfl) sB0 sF0) ?_
                refine AL_cons (LR_move (at_tmp 13 _) rfl) (sS (sT1 rfl) sB0 sF0) ?_
                refine AL_cons (LR_bi2 (vx := I16 x5) (vy := I16 x4) (v := I16 (max x5 x4)) (at_tmp 41 _) (at_tmp 42 _) (fun cs w => max_I .i16 x5 x4 cs w) rfl) (sS (sA (sT1 rfl) (sT1 rfl)) sB0 sF0) ?_
                refine AL_cons (LR_assign (at_tmp 43 _) rfl) (sS (sT1 rfl) sB0 sF0) ?_
                refine AL_nil ?_
                exact thenN (cutLeaf (v := max x5 x4) hr (weak0 ((sT rfl (sT rfl (sT rfl (sT rfl (sT rfl (sT rfl (sT rfl sT0)))))))) (sub_keep sub_nil)))
              · rintro x6 hr
                show AW Hfaa.prog _ _ _ ⟨[(1, .inl (is (U8 a1))), (2, .inl (is (Bl a2))), (4, .inl (is (U64 x3))), (5, .inr (.inl (5, 0))), (13, .inl (is (I16 x4))), (14, .inl (is (I16 x5))), (15, .inl (is (I16 x6)))], [(5, pb 23 [is (U8 a0_0), is (U8 a0_1)])]⟩
                have hr : some r = F215_6 N a0_0 a0_1 a1 a2 x3 x4 x5 x6 := hr
                refine AW_seq1 ?_
                refine AW_cut (σ := Bool) (fun v => ⟨[(1, .inl (is (U8 a1))), (2, .inl (is (Bl a2))), (4, .inl (is (U64 x3))), (5, .inr (.inl (5, 0))), (13, .inl (is (I16 x4))), (14, .inl (is (I16 x5))), (15, .inl (is (I16 x6))), (47, .inl (is (Bl v)))], [(5, pb 23 [is (U8 a0_0), is (U8 a0_1)])]⟩) (fun v => some r = F215_7 N a0_0 a0_1 a1 a2 x3 x4 x5 x6 v) ?_ ?_
                · skip
                  refine AW_region ?_
                  refine AL_cons (LR_move (at_tmp 15 _) rfl) (sS (sT1 rfl) sB0 sF0) ?_
                  refine AL_cons (LR_loads (at_tmp 5 _) ag23 sz23 rfl rfl rfl) (sS (sT1 rfl) (sB1 rfl) sF0) ?_
                  obtain ⟨y44, hy44, hr⟩ := lt_some hr
                  refine AL_cons (LR_call Hfaa.func71 rfl rfl (C71 a0_0 a0_1 y44 hy44) (all_cons (at_tmp 45 _) all_nil) rfl) (sS (sA (sT1 rfl) sT0) sB0 sF0) ?_
                  refine AL_cons (LR_bin (at_tmp 44 _) (at_tmp 46 _) (gtr_I16 x6 y44) rfl) (sS (sA (sT1 rfl) (sT1 rfl)) sB0 sF0) ?_
                  refine AL_nil ?_
                  exact thenN (cutLeaf (v := decide (x6 > y44)) hr (weak0 ((sT rfl (sT rfl (sT rfl (sT rfl (sT rfl (sT rfl (sT rfl (sT rfl sT0))))))))) (sub_keep sub_nil)))
                · rintro x7 hr
                  show AW Hfaa.prog _ _ _ ⟨[(1, .inl (is (U8 a1))), (2, .inl (is (Bl a2))), (4, .inl (is (U64 x3))), (5, .inr (.inl (5, 0))), (13, .inl (is (I16 x4))), (14, .inl (is (I16 x5))), (15, .inl (is (I16 x6))), (47, .inl (is (Bl x7)))], [(5, pb 23 [is (U8 a0_0), is (U8 a0_1)])]⟩
                  have hr : some r = F215_7 N a0_0 a0_1 a1 a2 x3 x4 x5 x6 x7 := hr
                  refine AW_condT (b := x7) rfl (fun h => ?_) (fun h => ?_)
                  · have hr := hr.trans (cond_t h)
                    clear h
                    refine AW_seq1 ?_
                    refine AW_region ?_
                    refine AL_cons (LR_loads (at_tmp 5 _) ag23 sz23 rfl rfl rfl) (sS (sT1 rfl) (sB1 rfl) sF0) ?_
                    refine AL_cons (LR_move (at_tmp 1 _) rfl) (sS (sT1 rfl) sB0 sF0) ?_
                    refine AL_cons (LR_move (at_tmp 2 _) rfl) (sS (sT1 rfl) sB0 sF0) ?_
                    obtain ⟨y13, hy13, hr⟩ := lt_some hr
                    refine AL_cons (LR_call Hfaa.func286 rfl rfl (C286 a0_0 a0_1 a1 a2 y13 hy13) (all_cons (at_tmp 48 _) (all_cons (at_tmp 49 _) (all_cons (at_tmp 50 _) all_nil))) rfl) (sS (sA (sT1 rfl) (sA (sT1 rfl) (sA (sT1 rfl) sT0))) sB0 sF0) ?_
                    refine AL_cons (LR_extract (at_tmp 51 _) rfl rfl) (sS (sT1 rfl) sB0 sF0) ?_
                    refine AL_cons (LR_extract (at_tmp 51 _) rfl rfl) (sS (sT1 rfl) sB0 sF0) ?_
                    refine AL_cons (LR_assign (at_tmp 52 _) rfl) (sS (sT1 rfl) sB0 sF0) ?_
                    refine AL_cons (LR_assign (at_tmp 53 _) rfl) (sS (sT1 rfl) sB0 sF0) ?_
                    refine AL_nil ?_
                    refine thenN ?_
                    refine AW_ret ?_
                    refine thenR ?_
                    obtain rfl := Option.some.inj hr
                    exact res2 rfl (rvT rfl) (rvT rfl)
                  · have hr := hr.trans (cond_f h)
                    clear h
                    refine AW_skip ?_
                    refine thenN ?_
                    refine AW_cut (σ := Int) (fun v => ⟨[(1, .inl (is (U8 a1))), (2, .inl (is (Bl a2))), (4, .inl (is (U64 x3))), (5, .inr (.inl (5, 0))), (13, .inl (is (I16 x4))), (14, .inl (is (I16 x5))), (15, .inl (is (I16 x6))), (16, .inl (is (I16 v)))], [(5, pb 23 [is (U8 a0_0), is (U8 a0_1)])]⟩) (fun v => some r = F215_8 N a0_0 a0_1 a1 a2 x3 x4 x5 x6 v) ?_ ?_
                    · skip
                      refine AW_region ?_
                      refine AL_cons (LR_fieldAddr (off := 0) (o := 1) (at_tmp 5 _) (fun b w => fa23_1 b 0 w) rfl) (sS (sT1 rfl) sB0 sF0) ?_
                      refine AL_cons (LR_load (at_tmp 54 _) na5 rfl rfl) (sS (sT1 rfl) (sB1 rfl) sF0) ?_
                      refine AL_cons (LR_conv (vx := U8 a0_1) (at_tmp 55 _) (conv_I16 Hfaa.underlying5 Hfaa.underlying44 (a0_1.toNat : Int)) rfl) (sS (sT1 rfl) sB0 sF0) ?_
                      refine AL_cons (LR_bin (at_c (v' := I16 63) rfl) (at_tmp 56 _) (sub_I16 63 (w16 (a0_1.toNat : Int))) rfl) (sS (sA sT0 (sT1 rfl)) sB0 sF0) ?_
                      refine AL_cons (LR_assign (at_tmp 57 _) rfl) (sS (sT1 rfl) sB0 sF0) ?_
                      refine AL_nil ?_
                      exact thenN (cutLeaf (v := w16 (63 - (w16 (a0_1.toNat : Int)))) hr (weak0 ((sT rfl (sT rfl (sT rfl (sT rfl (sT rfl (sT rfl (sT rfl (sT rfl sT0))))))))) (sub_keep sub_nil)))
                    · rintro x8 hr
                      show AW Hfaa.prog _ _ _ ⟨[(1, .inl (is (U8 a1))), (2, .inl (is (Bl a2))), (4, .inl (is (U64 x3))), (5, .inr (.inl (5, 0))), (13, .inl (is (I16 x4))), (14, .inl (is (I16 x5))), (15, .inl (is (I16 x6))), (16, .inl (is (I16 x8)))], [(5, pb 23 [is (U8 a0_0), is (U8 a0_1)])]⟩
                      have hr : some r = F215_8 N a0_0 a0_1 a1 a2 x3 x4 x5 x6 x8 := hr
                      refine AW_cut (σ := Bool) (fun v => ⟨[(1, .inl (is (U8 a1))), (2, .inl (is (Bl a2))), (4, .inl (is (U64 x3))), (5, .inr (.inl (5, 0))), (13, .inl (is (I16 x4))), (14, .inl (is (I16 x5))), (15, .inl (is (I16 x6))), (16, .inl (is (I16 x8))), (17, .inl (is (Bl v)))], [(5, pb 23 [is (U8 a0_0), is (U8 a0_1)])]⟩) (fun v => some r = F215_9 N a0_0 a0_1 a1 a2 x3 x4 x5 x6 x8 v) ?_ ?_
                      · skip
                        refine AW_region ?_
                        refine AL_cons (LR_move (at_tmp 14 _) rfl) (sS (sT1 rfl) sB0 sF0) ?_
                        refine AL_cons (LR_move (at_tmp 13 _) rfl) (sS (sT1 rfl) sB0 sF0) ?_
                        refine AL_cons (LR_bin (at_tmp 58 _) (at_tmp 59 _) (lss_I16 x5 x4) rfl) (sS (sA (sT1 rfl) (sT1 rfl)) sB0 sF0) ?_
                        refine AL_cons (LR_assign (at_tmp 60 _) rfl) (sS (sT1 rfl) sB0 sF0) ?_
                        refine AL_nil ?_
                        exact thenN (cutLeaf (v := decide (x5 < x4)) hr (weak0 ((sT rfl (sT rfl (sT rfl (sT rfl (sT rfl (sT rfl (sT rfl (sT rfl (sT rfl sT0)))))))))) (sub_keep sub_nil)))
                      · rintro x9 hr
                        show AW Hfaa.prog _ _ _ ⟨[(1, .inl (is (U8 a1))), (2, .inl (is (Bl a2))), (4, .inl (is (U64 x3))), (5, .inr (.inl (5, 0))), (13, .inl (is (I16 x4))), (14, .inl (is (I16 x5))), (15, .inl (is (I16 x6))), (16, .inl (is (I16 x8))), (17, .inl (is (Bl x9)))], [(5, pb 23 [is (U8 a0_0), is (U8 a0_1)])]⟩
                        have hr : some r = F215_9 N a0_0 a0_1 a1 a2 x3 x4 x5 x6 x8 x9 := hr
                        refine AW_cut (σ := Bool) (fun v => ⟨[(1, .inl (is (U8 a1))), (2, .inl (is (Bl a2))), (4, .inl (is (U64 x3))), (5, .inr (.inl (5, 0))), (13, .inl (is (I16 x4))), (14, .inl (is (I16 x5))), (15, .inl (is (I16 x6))), (16, .inl (is (I16 x8))), (17, .inl (is (Bl v)))], [(5, pb 23 [is (U8 a0_0), is (U8 a0_1)])]⟩) (fun v => some r = F215_10 N a0_0 a0_1 a1 a2 x3 x4 x5 x6 x8 v) ?_ ?_
                        · skip
                          refine AW_cut (σ := Bool) (fun v => ⟨[(1, .inl (is (U8 a1))), (2, .inl (is (Bl a2))), (4, .inl (is (U64 x3))), (5, .inr (.inl (5, 0))), (13, .inl (is (I16 x4))), (14, .inl (is (I16 x5))), (15, .inl (is (I16 x6))), (16, .inl (is (I16 x8))), (17, .inl (is (Bl x9))), (64, .inl (is (Bl v)))], [(5, pb 23 [is (U8 a0_0), is (U8 a0_1)])]⟩) (fun v => some r = F215_17 N a0_0 a0_1 a1 a2 x3 x4 x5 x6 x8 x9 v) ?_ ?_
                          · skip
                            refine AW_region ?_
                            refine AL_cons (LR_move (at_tmp 14 _) rfl) (sS (sT1 rfl) sB0 sF0) ?_
                            refine AL_cons (LR_move (at_tmp 13 _) rfl) (sS (sT1 rfl) sB0 sF0) ?_
                            refine AL_cons (LR_bin (at_tmp 62 _) (at_c (v' := I16 1) rfl) (sub_I16 x4 1) rfl) (sS (sA (sT1 rfl) sT0) sB0 sF0) ?_
                            refine AL_cons (LR_bin (at_tmp 61 _) (at_tmp 63 _) (eql_I16 x5 (w16 (x4 - 1))) rfl) (sS (sA (sT1 rfl) (sT1 rfl)) sB0 sF0) ?_
                            refine AL_nil ?_
                            exact thenN (cutLeaf (v := x5 == (w16 (x4 - 1))) hr (weak0 ((sT rfl (sT rfl (sT rfl (sT rfl (sT rfl (sT rfl (sT rfl (sT rfl (sT rfl (sT rfl sT0))))))))))) (sub_keep sub_nil)))
                          · rintro x18 hr
                            show AW Hfaa.prog _ _ _ ⟨[(1, .inl (is (U8 a1))), (2, .inl (is (Bl a2))), (4, .inl (is (U64 x3))), (5, .inr (.inl (5, 0))), (13, .inl (is (I16 x4))), (14, .inl (is (I16 x5))), (15, .inl (is (I16 x6))), (16, .inl (is (I16 x8))), (17, .inl (is (Bl x9))), (64, .inl (is (Bl x18)))], [(5, pb 23 [is (U8 a0_0), is (U8 a0_1)])]⟩
                            have hr : some r = F215_17 N a0_0 a0_1 a1 a2 x3 x4 x5 x6 x8 x9 x18 := hr
                            refine AW_condT (b := x18) rfl (fun h => ?_) (fun h => ?_)
                            · have hr := hr.trans (cond_t h)
                              clear h
                              refine AW_cut (σ := BitVec 64 × BitVec 64) (fun v => ⟨[(1, .inl (is (U8 a1))), (2, .inl (is (Bl a2))), (4, .inl (is (U64 x3))), (5, .inr (.inl (5, 0))), (13, .inl (is (I16 x4))), (14, .inl (is (I16 x5))), (15, .inl (is (I16 x6))), (16, .inl (is (I16 x8))), (18, .inl (is (U64 v.1))), (19, .inl (is (U64 v.2)))], [(5, pb 23 [is (U8 a0_0), is (U8 a0_1)])]⟩) (fun v => some r = F215_18 N a0_0 a0_1 a1 a2 x3 x4 x5 x6 x8 v.1 v.2) ?_ ?_
                              · skip
                                refine AW_region ?_
                                refine AL_cons (LR_move (at_tmp 4 _) rfl) (sS (sT1 rfl) sB0 sF0) ?_
                                refine AL_cons (LR_move (at_tmp 16 _) rfl) (sS (sT1 rfl) sB0 sF0) ?_
                                obtain ⟨y43, hy43, hr⟩ := bind_some hr
                                refine AL_cons (LR_call Hfaa.func257 rfl rfl (C257 N x3 x8 y43 hy43) (all_cons (at_tmp 66 _) (all_cons (at_tmp 67 _) all_nil)) rfl) (sS (sA (sT1 rfl) (sA (sT1 rfl) sT0)) sB0 sF0) ?_
                                refine AL_cons (LR_move (at_tmp 68 _) rfl) (sS (sT1 rfl) sB0 sF0) ?_
                                refine AL_cons (LR_extract (at_tmp 65 _) rfl rfl) (sS (sT1 rfl) sB0 sF0) ?_
                                refine AL_cons (LR_extract (at_tmp 65 _) rfl rfl) (sS (sT1 rfl) sB0 sF0) ?_
                                refine AL_cons (LR_assign (at_tmp 69 _) rfl) (sS (sT1 rfl) sB0 sF0) ?_
                                refine AL_cons (LR_assign (at_tmp 70 _) rfl) (sS (sT1 rfl) sB0 sF0) ?_
                                refine AL_nil ?_
                                exact thenN (cutLeaf (v := (y43.1, y43.2)) hr (weak0 ((sT rfl (sT rfl (sT rfl (sT rfl (sT rfl (sT rfl (sT rfl (sT rfl (sT rfl (sT rfl sT0))))))))))) (sub_keep sub_nil)))
                              · rintro ⟨x19, x20⟩ hr
                                show AW Hfaa.prog _ _ _ ⟨[(1, .inl (is (U8 a1))), (2, .inl (is (Bl a2))), (4, .inl (is (U64 x3))), (5, .inr (.inl (5, 0))), (13, .inl (is (I16 x4))), (14, .inl (is (I16 x5))), (15, .inl (is (I16 x6))), (16, .inl (is (I16 x8))), (18, .inl (is (U64 x19))), (19, .inl (is (U64 x20)))], [(5, pb 23 [is (U8 a0_0), is (U8 a0_1)])]⟩
                                have hr : some r = F215_18 N a0_0 a0_1 a1 a2 x3 x4 x5 x6 x8 x19 x20 := hr
                                refine AW_region ?_
                                refine AL_cons (LR_move (at_tmp 1 _) rfl) (sS (sT1 rfl) sB0 sF0) ?_
                                refine AL_cons (LR_move (at_tmp 2 _) rfl) (sS (sT1 rfl) sB0 sF0) ?_
                                refine AL_cons (LR_move (at_tmp 18 _) rfl) (sS (sT1 rfl) sB0 sF0) ?_
                                refine AL_cons (LR_move (at_tmp 19 _) rfl) (sS (sT1 rfl) sB0 sF0) ?_
                                obtain ⟨y42, hy42, hr⟩ := lt_some hr
                                refine AL_cons (LR_call Hfaa.func258 rfl rfl (C258 a1 a2 x19 x20 y42 hy42) (all_cons (at_tmp 71 _) (all_cons (at_tmp 72 _) (all_cons (at_tmp 73 _) (all_cons (at_tmp 74 _) all_nil)))) rfl) (sS (sA (sT1 rfl) (sA (sT1 rfl) (sA (sT1 rfl) (sA (sT1 rfl) sT0)))) sB0 sF0) ?_
                                refine AL_cons (LR_un (at_tmp 75 _) (not_Bl y42) rfl) (sS (sT1 rfl) sB0 sF0) ?_
                                refine AL_cons (LR_move (at_tmp 76 _) rfl) (sS (sT1 rfl) sB0 sF0) ?_
                                refine AL_cutAt 8 ⟨[(1, .inl (is (U8 a1))), (2, .inl (is (Bl a2))), (4, .inl (is (U64 x3))), (5, .inr (.inl (5, 0))), (13, .inl (is (I16 x4))), (14, .inl (is (I16 x5))), (15, .inl (is (I16 x6))), (16, .inl (is (I16 x8))), (18, .inl (is (U64 x19))), (19, .inl (is (U64 x20))), (71, .inl (is (U8 a1))), (72, .inl (is (Bl a2))), (73, .inl (is (U64 x19))), (74, .inl (is (U64 x20))), (75, .inl (is (Bl y42))), (76, .inl (is (Bl (!y42)))), (77, .inl (is (Bl (!y42)))), (85, .inl (is (Bl ((!y42) || (x19 != (((1#64) <<< (a0_1 + (1#8)).toNat) - (1#64)))))))], [(5, pb 23 [is (U8 a0_0), is (U8 a0_1)])]⟩ ?_ ?_
                                · cases hb : !y42
                                  · skip
                                    refine AL_cons (LR_on rfl rfl rfl (LR_move (at_tmp 18 _) rfl)) (sS (sT rfl (sT1 rfl)) sB0 sF0) ?_
                                    refine AL_cons (LR_on rfl rfl rfl (LR_fieldAddr (off := 0) (o := 1) (at_tmp 5 _) (fun b w => fa23_1 b 0 w) rfl)) (sS (sT rfl (sT1 rfl)) sB0 sF0) ?_
                                    refine AL_cons (LR_on rfl rfl rfl (LR_load (at_tmp 79 _) na5 rfl rfl)) (sS (sT rfl (sT1 rfl)) (sB1 rfl) sF0) ?_
                                    refine AL_cons (LR_on rfl rfl rfl (LR_bin (at_tmp 80 _) (at_c (v' := U8 (1#8)) rfl) (add_U8 a0_1 (1#8)) rfl)) (sS (sT rfl (sA (sT1 rfl) sT0)) sB0 sF0) ?_
                                    refine AL_cons (LR_on rfl rfl rfl (LR_bin (at_c (v' := U64 (1#64)) rfl) (at_tmp 81 _) (shl_U64 (1#64) ((a0_1 + (1#8)).toNat : Int) (Int.natCast_nonneg _)) rfl)) (sS (sT rfl (sA sT0 (sT1 rfl))) sB0 sF0) ?_
                                    refine AL_cons (LR_on rfl rfl rfl (LR_bin (at_tmp 82 _) (at_c (v' := U64 (1#64)) rfl) (sub_U64 ((1#64) <<< (a0_1 + (1#8)).toNat) (1#64)) rfl)) (sS (sT rfl (sA (sT1 rfl) sT0)) sB0 sF0) ?_
                                    refine AL_cons (LR_on rfl rfl rfl (LR_bin (at_tmp 78 _) (at_tmp 83 _) (neq_U64 x19 (((1#64) <<< (a0_1 + (1#8)).toNat) - (1#64))) rfl)) (sS (sT rfl (sA (sT1 rfl) (sT1 rfl))) sB0 sF0) ?_
                                    refine AL_cons (LR_pick (b := false) (at_tmp 77 _) (at_c (v' := Bl true) rfl) (at_tmp 84 _) rfl) (sS (sA (sT1 rfl) (sA sT0 (sT1 rfl))) sB0 sF0) ?_
                                    exact AL_nil ⟨rfl, weak0 ((sT rfl (sT rfl (sT rfl (sT rfl (sT rfl (sT rfl (sT rfl (sT rfl (sT rfl (sT rfl (sT rfl (sT rfl (sT rfl (sT rfl (sT rfl (sT rfl (sT rfl (sT rfl sT0))))))))))))))))))) (sub_keep sub_nil)⟩
                                  · skip
                                    refine AL_cons (LR_off (b := true) rfl rfl rfl rfl) (sS (sT1 rfl) sB0 sF0) ?_
                                    refine AL_cons (LR_off (b := true) rfl rfl rfl rfl) (sS (sT1 rfl) sB0 sF0) ?_
                                    refine AL_cons (LR_off (b := true) rfl rfl rfl rfl) (sS (sT1 rfl) sB0 sF0) ?_
                                    refine AL_cons (LR_off (b := true) rfl rfl rfl rfl) (sS (sT1 rfl) sB0 sF0) ?_
                                    refine AL_cons (LR_off (b := true) rfl rfl rfl rfl) (sS (sT1 rfl) sB0 sF0) ?_
                                    refine AL_cons (LR_off (b := true) rfl rfl rfl rfl) (sS (sT1 rfl) sB0 sF0) ?_
                                    refine AL_cons (LR_off (b := true) rfl rfl rfl rfl) (sS (sT1 rfl) sB0 sF0) ?_
                                    refine AL_cons (LR_pick (b := true) (at_tmp 77 _) (at_c (v' := Bl true) rfl) (at_tmp 84 _) rfl) (sS (sA (sT1 rfl) (sA sT0 (sT1 rfl))) sB0 sF0) ?_
                                    exact AL_nil ⟨rfl, weak0 ((sT rfl (sT rfl (sT rfl (sT rfl (sT rfl (sT rfl (sT rfl (sT rfl (sT rfl (sT rfl (sT rfl (sT rfl (sT rfl (sT rfl (sT rfl (sT rfl (sT rfl (sT rfl sT0))))))))))))))))))) (sub_keep sub_nil)⟩
                                refine AL_cons (LR_assign (at_tmp 85 _) rfl) (sS (sT1 rfl) sB0 sF0) ?_
                                refine AL_nil ?_
                                exact thenN (cutLeaf (v := (!y42) || (x19 != (((1#64) <<< (a0_1 + (1#8)).toNat) - (1#64)))) hr (weak0 ((sT rfl (sT rfl (sT rfl (sT rfl (sT rfl (sT rfl (sT rfl (sT rfl (sT rfl sT0)))))))))) (sub_keep sub_nil)))
                            · have hr := hr.trans (cond_f h)
                              clear h
                              refine AW_skip ?_
                              exact thenN (cutLeaf (v := x9) hr (weak0 ((sT rfl (sT rfl (sT rfl (sT rfl (sT rfl (sT rfl (sT rfl (sT rfl (sT rfl sT0)))))))))) (sub_keep sub_nil)))
                        · rintro x10 hr
                          show AW Hfaa.prog _ _ _ ⟨[(1, .inl (is (U8 a1))), (2, .inl (is (Bl a2))), (4, .inl (is (U64 x3))), (5, .inr (.inl (5, 0))), (13, .inl (is (I16 x4))), (14, .inl (is (I16 x5))), (15, .inl (is (I16 x6))), (16, .inl (is (I16 x8))), (17, .inl (is (Bl x10)))], [(5, pb 23 [is (U8 a0_0), is (U8 a0_1)])]⟩
                          have hr : some r = F215_10 N a0_0 a0_1 a1 a2 x3 x4 x5 x6 x8 x10 := hr
                          refine AW_cut (σ := BitVec 64 × BitVec 64) (fun v => ⟨[(1, .inl (is (U8 a1))), (2, .inl (is (Bl a2))), (5, .inr (.inl (5, 0))), (13, .inl (is (I16 x4))), (15, .inl (is (I16 x6))), (17, .inl (is (Bl x10))), (20, .inl (is (U64 v.1))), (21, .inl (is (U64 v.2)))], [(5, pb 23 [is (U8 a0_0), is (U8 a0_1)])]⟩) (fun v => some r = F215_11 N a0_0 a0_1 a1 a2 x4 x6 x10 v.1 v.2) ?_ ?_
                          · skip
                            refine AW_region ?_
                            refine AL_cons (LR_move (at_tmp 4 _) rfl) (sS (sT1 rfl) sB0 sF0) ?_
                            refine AL_cons (LR_move (at_tmp 16 _) rfl) (sS (sT1 rfl) sB0 sF0) ?_
                            refine AL_cons (LR_move (at_tmp 15 _) rfl) (sS (sT1 rfl) sB0 sF0) ?_
                            refine AL_cons (LR_bin (at_tmp 88 _) (at_tmp 89 _) (add_I16 x8 x6) rfl) (sS (sA (sT1 rfl) (sT1 rfl)) sB0 sF0) ?_
                            refine AL_cons (LR_move (at_tmp 14 _) rfl) (sS (sT1 rfl) sB0 sF0) ?_
                            refine AL_cons (LR_bin (at_tmp 90 _) (at_tmp 91 _) (sub_I16 (w16 (x8 + x6)) x5) rfl) (sS (sA (sT1 rfl) (sT1 rfl)) sB0 sF0) ?_
                            obtain ⟨y40, hy40, hr⟩ := bind_some hr
                            refine AL_cons (LR_call Hfaa.func257 rfl rfl (C257 N x3 (w16 ((w16 (x8 + x6)) - x5)) y40 hy40) (all_cons (at_tmp 87 _) (all_cons (at_tmp 92 _) all_nil)) rfl) (sS (sA (sT1 rfl) (sA (sT1 rfl) sT0)) sB0 sF0) ?_
                            refine AL_cons (LR_move (at_tmp 93 _) rfl) (sS (sT1 rfl) sB0 sF0) ?_
                            refine AL_cons (LR_extract (at_tmp 86 _) rfl rfl) (sS (sT1 rfl) sB0 sF0) ?_
                            refine AL_cons (LR_extract (at_tmp 86 _) rfl rfl) (sS (sT1 rfl) sB0 sF0) ?_
                            refine AL_cons (LR_assign (at_tmp 94 _) rfl) (sS (sT1 rfl) sB0 sF0) ?_
                            refine AL_cons (LR_assign (at_tmp 95 _) rfl) (sS (sT1 rfl) sB0 sF0) ?_
                            refine AL_nil ?_
                            exact thenN (cutLeaf (v := (y40.1, y40.2)) hr (weak0 ((sT rfl (sT rfl (sT rfl (sT rfl (sT rfl (sT rfl (sT rfl (sT rfl sT0))))))))) (sub_keep sub_nil)))
                          · rintro ⟨x11, x12⟩ hr
                            show AW Hfaa.prog _ _ _ ⟨[(1, .inl (is (U8 a1))), (2, .inl (is (Bl a2))), (5, .inr (.inl (5, 0))), (13, .inl (is (I16 x4))), (15, .inl (is (I16 x6))), (17, .inl (is (Bl x10))), (20, .inl (is (U64 x11))), (21, .inl (is (U64 x12)))], [(5, pb 23 [is (U8 a0_0), is (U8 a0_1)])]⟩
                            have hr : some r = F215_11 N a0_0 a0_1 a1 a2 x4 x6 x10 x11 x12 := hr
                            refine AW_cut (σ := BitVec 64) (fun v => ⟨[(1, .inl (is (U8 a1))), (2, .inl (is (Bl a2))), (5, .inr (.inl (5, 0))), (13, .inl (is (I16 x4))), (15, .inl (is (I16 x6))), (17, .inl (is (Bl x10))), (20, .inl (is (U64 v))), (21, .inl (is (U64 x12)))], [(5, pb 23 [is (U8 a0_0), is (U8 a0_1)])]⟩) (fun v => some r = F215_12 N a0_0 a0_1 a1 a2 x4 x6 x10 x12 v) ?_ ?_
                            · skip
                              refine AW_cut (σ := Bool) (fun v => ⟨[(1, .inl (is (U8 a1))), (2, .inl (is (Bl a2))), (5, .inr (.inl (5, 0))), (13, .inl (is (I16 x4))), (15, .inl (is (I16 x6))), (17, .inl (is (Bl x10))), (20, .inl (is (U64 x11))), (21, .inl (is (U64 x12))), (100, .inl (is (Bl v)))], [(5, pb 23 [is (U8 a0_0), is (U8 a0_1)])]⟩) (fun v => some r = F215_16 N a0_0 a0_1 a1 a2 x4 x6 x10 x11 x12 v) ?_ ?_
                              · skip
                                refine AW_region ?_
                                refine AL_cons (LR_move (at_tmp 1 _) rfl) (sS (sT1 rfl) sB0 sF0) ?_
                                refine AL_cons (LR_move (at_tmp 2 _) rfl) (sS (sT1 rfl) sB0 sF0) ?_
                                refine AL_cons (LR_move (at_tmp 20 _) rfl) (sS (sT1 rfl) sB0 sF0) ?_
                                refine AL_cons (LR_move (at_tmp 21 _) rfl) (sS (sT1 rfl) sB0 sF0) ?_
                                obtain ⟨y39, hy39, hr⟩ := lt_some hr
                                refine AL_cons (LR_call Hfaa.func258 rfl rfl (C258 a1 a2 x11 x12 y39 hy39) (all_cons (at_tmp 96 _) (all_cons (at_tmp 97 _) (all_cons (at_tmp 98 _) (all_cons (at_tmp 99 _) all_nil)))) rfl) (sS (sA (sT1 rfl) (sA (sT1 rfl) (sA (sT1 rfl) (sA (sT1 rfl) sT0)))) sB0 sF0) ?_
                                refine AL_nil ?_
                                exact thenN (cutLeaf (v := y39) hr (weak0 ((sT rfl (sT rfl (sT rfl (sT rfl (sT rfl (sT rfl (sT rfl (sT rfl (sT rfl sT0)))))))))) (sub_keep sub_nil)))
                              · rintro x17 hr
                                show AW Hfaa.prog _ _ _ ⟨[(1, .inl (is (U8 a1))), (2, .inl (is (Bl a2))), (5, .inr (.inl (5, 0))), (13, .inl (is (I16 x4))), (15, .inl (is (I16 x6))), (17, .inl (is (Bl x10))), (20, .inl (is (U64 x11))), (21, .inl (is (U64 x12))), (100, .inl (is (Bl x17)))], [(5, pb 23 [is (U8 a0_0), is (U8 a0_1)])]⟩
                                have hr : some r = F215_16 N a0_0 a0_1 a1 a2 x4 x6 x10 x11 x12 x17 := hr
                                refine AW_condT (b := x17) rfl (fun h => ?_) (fun h => ?_)
                                · have hr := hr.trans (cond_t h)
                                  clear h
                                  refine AW_region ?_
                                  refine AL_cons (LR_move (at_tmp 20 _) rfl) (sS (sT1 rfl) sB0 sF0) ?_
                                  refine AL_cons (LR_bin (at_tmp 101 _) (at_c (v' := U64 (1#64)) rfl) (add_U64 x11 (1#64)) rfl) (sS (sA (sT1 rfl) sT0) sB0 sF0) ?_
                                  refine AL_cons (LR_assign (at_tmp 102 _) rfl) (sS (sT1 rfl) sB0 sF0) ?_
                                  refine AL_nil ?_
                                  exact thenN (cutLeaf (v := x11 + (1#64)) hr (weak0 ((sT rfl (sT rfl (sT rfl (sT rfl (sT rfl (sT rfl (sT rfl (sT rfl sT0))))))))) (sub_keep sub_nil)))
                                · have hr := hr.trans (cond_f h)
                                  clear h
                                  refine AW_skip ?_
                                  exact thenN (cutLeaf (v := x11) hr (weak0 ((sT rfl (sT rfl (sT rfl (sT rfl (sT rfl (sT rfl (sT rfl (sT rfl sT0))))))))) (sub_keep sub_nil)))
                            · rintro x13 hr
                              show AW Hfaa.prog _ _ _ ⟨[(1, .inl (is (U8 a1))), (2, .inl (is (Bl a2))), (5, .inr (.inl (5, 0))), (13, .inl (is (I16 x4))), (15, .inl (is (I16 x6))), (17, .inl (is (Bl x10))), (20, .inl (is (U64 x13))), (21, .inl (is (U64 x12)))], [(5, pb 23 [is (U8 a0_0), is (U8 a0_1)])]⟩
                              have hr : some r = F215_12 N a0_0 a0_1 a1 a2 x4 x6 x10 x12 x13 := hr
                              refine AW_cut (σ := BitVec 64) (fun v => ⟨[(1, .inl (is (U8 a1))), (2, .inl (is (Bl a2))), (5, .inr (.inl (5, 0))), (17, .inl (is (Bl x10))), (21, .inl (is (U64 x12))), (22, .inl (is (U64 v)))], [(5, pb 23 [is (U8 a0_0), is (U8 a0_1)])]⟩) (fun v => some r = F215_13 N a0_0 a0_1 a1 a2 x10 x12 v) ?_ ?_
                              · skip
                                refine AW_region ?_
                                refine AL_cons (LR_move (at_tmp 15 _) rfl) (sS (sT1 rfl) sB0 sF0) ?_
                                refine AL_cons (LR_move (at_tmp 13 _) rfl) (sS (sT1 rfl) sB0 sF0) ?_
                                refine AL_cons (LR_bin (at_tmp 103 _) (at_tmp 104 _) (sub_I16 x6 x4) rfl) (sS (sA (sT1 rfl) (sT1 rfl)) sB0 sF0) ?_
                                refine AL_cons (LR_conv (vx := I16 (w16 (x6 - x4))) (at_tmp 105 _) (conv_U64 Hfaa.underlying44 Hfaa.underlying30 (w16 (x6 - x4))) rfl) (sS (sT1 rfl) sB0 sF0) ?_
                                refine AL_cons (LR_fieldAddr (off := 0) (o := 1) (at_tmp 5 _) (fun b w => fa23_1 b 0 w) rfl) (sS (sT1 rfl) sB0 sF0) ?_
                                refine AL_cons (LR_load (at_tmp 107 _) na5 rfl rfl) (sS (sT1 rfl) (sB1 rfl) sF0) ?_
                                refine AL_cons (LR_bin (at_tmp 106 _) (at_tmp 108 _) (shl_U64 (BitVec.ofInt 64 (w16 (x6 - x4))) (a0_1.toNat : Int) (Int.natCast_nonneg _)) rfl) (sS (sA (sT1 rfl) (sT1 rfl)) sB0 sF0) ?_
                                refine AL_cons (LR_move (at_tmp 20 _) rfl) (sS (sT1 rfl) sB0 sF0) ?_
                                refine AL_cons (LR_bin (at_tmp 109 _) (at_tmp 110 _) (add_U64 ((BitVec.ofInt 64 (w16 (x6 - x4))) <<< a0_1.toNat) x13) rfl) (sS (sA (sT1 rfl) (sT1 rfl)) sB0 sF0) ?_
                                refine AL_cons (LR_assign (at_tmp 111 _) rfl) (sS (sT1 rfl) sB0 sF0) ?_
                                refine AL_nil ?_
                                exact thenN (cutLeaf (v := ((BitVec.ofInt 64 (w16 (x6 - x4))) <<< a0_1.toNat) + x13) hr (weak0 ((sT rfl (sT rfl (sT rfl (sT rfl (sT rfl (sT rfl sT0))))))) (sub_keep sub_nil)))
                              · rintro x14 hr
                                show AW Hfaa.prog _ _ _ ⟨[(1, .inl (is (U8 a1))), (2, .inl (is (Bl a2))), (5, .inr (.inl (5, 0))), (17, .inl (is (Bl x10))), (21, .inl (is (U64 x12))), (22, .inl (is (U64 x14)))], [(5, pb 23 [is (U8 a0_0), is (U8 a0_1)])]⟩
                                have hr : some r = F215_13 N a0_0 a0_1 a1 a2 x10 x12 x14 := hr
                                refine AW_seq1 ?_
                                refine AW_block ?_
                                refine AW_cut (σ := Bool) (fun v => ⟨[(1, .inl (is (U8 a1))), (2, .inl (is (Bl a2))), (5, .inr (.inl (5, 0))), (17, .inl (is (Bl x10))), (21, .inl (is (U64 x12))), (22, .inl (is (U64 x14))), (112, .inl (is (Bl v)))], [(5, pb 23 [is (U8 a0_0), is (U8 a0_1)])]⟩) (fun v => some r = F215_14 N a0_0 a0_1 a1 a2 x10 x12 x14 v) ?_ ?_
                                · skip
                                  refine AW_region ?_
                                  refine AL_cons (LR_move (at_tmp 22 _) rfl) (sS (sT1 rfl) sB0 sF0) ?_
                                  refine AL_cons (LR_loads (at_tmp 5 _) ag23 sz23 rfl rfl rfl) (sS (sT1 rfl) (sB1 rfl) sF0) ?_
                                  obtain ⟨y37, hy37, hr⟩ := lt_some hr
                                  refine AL_cons (LR_call Hfaa.func67 rfl rfl (C67 a0_0 a0_1 false y37 hy37) (all_cons (at_tmp 114 _) (all_cons (at_c (v' := Bl false) rfl) all_nil)) rfl) (sS (sA (sT1 rfl) (sA sT0 sT0)) sB0 sF0) ?_
                                  refine AL_cons (LR_bin (at_tmp 113 _) (at_tmp 115 _) (geq_U64 x14 y37) rfl) (sS (sA (sT1 rfl) (sT1 rfl)) sB0 sF0) ?_
                                  refine AL_cons (LR_assign (at_tmp 116 _) rfl) (sS (sT1 rfl) sB0 sF0) ?_
                                  refine AL_nil ?_
                                  exact thenN (cutLeaf (v := decide (y37.toNat ≤ x14.toNat)) hr (weak0 ((sT rfl (sT rfl (sT rfl (sT rfl (sT rfl (sT rfl (sT rfl sT0)))))))) (sub_keep sub_nil)))
                                · rintro x15 hr
                                  show AW Hfaa.prog _ _ _ ⟨[(1, .inl (is (U8 a1))), (2, .inl (is (Bl a2))), (5, .inr (.inl (5, 0))), (17, .inl (is (Bl x10))), (21, .inl (is (U64 x12))), (22, .inl (is (U64 x14))), (112, .inl (is (Bl x15)))], [(5, pb 23 [is (U8 a0_0), is (U8 a0_1)])]⟩
                                  have hr : some r = F215_14 N a0_0 a0_1 a1 a2 x10 x12 x14 x15 := hr
                                  refine AW_condT (b := x15) rfl (fun h => ?_) (fun h => ?_)
                                  · have hr := hr.trans (cond_t h)
                                    clear h
                                    refine AW_seq1 ?_
                                    refine AW_region ?_
                                    refine AL_cons (LR_loads (at_tmp 5 _) ag23 sz23 rfl rfl rfl) (sS (sT1 rfl) (sB1 rfl) sF0) ?_
                                    refine AL_cons (LR_move (at_tmp 1 _) rfl) (sS (sT1 rfl) sB0 sF0) ?_
                                    refine AL_cons (LR_move (at_tmp 2 _) rfl) (sS (sT1 rfl) sB0 sF0) ?_
                                    obtain ⟨y30, hy30, hr⟩ := lt_some hr
                                    refine AL_cons (LR_call Hfaa.func286 rfl rfl (C286 a0_0 a0_1 a1 a2 y30 hy30) (all_cons (at_tmp 117 _) (all_cons (at_tmp 118 _) (all_cons (at_tmp 119 _) all_nil))) rfl) (sS (sA (sT1 rfl) (sA (sT1 rfl) (sA (sT1 rfl) sT0))) sB0 sF0) ?_
                                    refine AL_cons (LR_extract (at_tmp 120 _) rfl rfl) (sS (sT1 rfl) sB0 sF0) ?_
                                    refine AL_cons (LR_extract (at_tmp 120 _) rfl rfl) (sS (sT1 rfl) sB0 sF0) ?_
                                    refine AL_cons (LR_assign (at_tmp 121 _) rfl) (sS (sT1 rfl) sB0 sF0) ?_
                                    refine AL_cons (LR_assign (at_tmp 122 _) rfl) (sS (sT1 rfl) sB0 sF0) ?_
                                    refine AL_nil ?_
                                    refine thenN ?_
                                    refine AW_ret ?_
                                    refine blR ?_
                                    refine thenR ?_
                                    obtain rfl := Option.some.inj hr
                                    exact res2 rfl (rvT rfl) (rvT rfl)
                                  · have hr := hr.trans (cond_f h)
                                    clear h
                                    refine AW_cut (σ := Bool) (fun v => ⟨[(2, .inl (is (Bl a2))), (5, .inr (.inl (5, 0))), (17, .inl (is (Bl x10))), (22, .inl (is (U64 x14))), (123, .inl (is (Bl v)))], [(5, pb 23 [is (U8 a0_0), is (U8 a0_1)])]⟩) (fun v => some r = F215_15 N a0_0 a0_1 a2 x10 x14 v) ?_ ?_
                                    · skip
                                      refine AW_region ?_
                                      refine AL_cons (LR_move (at_tmp 21 _) rfl) (sS (sT1 rfl) sB0 sF0) ?_
                                      refine AL_cons (LR_bin (at_tmp 124 _) (at_c (v' := U64 (0#64)) rfl) (eql_U64 x12 (0#64)) rfl) (sS (sA (sT1 rfl) sT0) sB0 sF0) ?_
                                      refine AL_cons (LR_assign (at_tmp 125 _) rfl) (sS (sT1 rfl) sB0 sF0) ?_
                                      refine AL_nil ?_
                                      exact thenN (cutLeaf (v := x12 == (0#64)) hr (weak0 ((sT rfl (sT rfl (sT rfl (sT rfl (sT rfl sT0)))))) (sub_keep sub_nil)))
                                    · rintro x16 hr
                                      show AW Hfaa.prog _ _ _ ⟨[(2, .inl (is (Bl a2))), (5, .inr (.inl (5, 0))), (17, .inl (is (Bl x10))), (22, .inl (is (U64 x14))), (123, .inl (is (Bl x16)))], [(5, pb 23 [is (U8 a0_0), is (U8 a0_1)])]⟩
                                      have hr : some r = F215_15 N a0_0 a0_1 a2 x10 x14 x16 := hr
                                      refine AW_condT (b := x16) rfl (fun h => ?_) (fun h => ?_)
                                      · have hr := hr.trans (cond_t h)
                                        clear h
                                        refine AW_seq1 ?_
                                        refine AW_region ?_
                                        refine AL_cons (LR_move (at_tmp 22 _) rfl) (sS (sT1 rfl) sB0 sF0) ?_
                                        refine AL_cons (LR_loads (at_tmp 5 _) ag23 sz23 rfl rfl rfl) (sS (sT1 rfl) (sB1 rfl) sF0) ?_
                                        refine AL_cons (LR_move (at_tmp 2 _) rfl) (sS (sT1 rfl) sB0 sF0) ?_
                                        obtain ⟨y32, hy32, hr⟩ := lt_some hr
                                        refine AL_cons (LR_call Hfaa.func259 rfl rfl (C259 a0_0 a0_1 a2 y32 hy32) (all_cons (at_tmp 127 _) (all_cons (at_tmp 128 _) all_nil)) rfl) (sS (sA (sT1 rfl) (sA (sT1 rfl) sT0)) sB0 sF0) ?_
                                        refine AL_cons (LR_bin (at_tmp 126 _) (at_tmp 129 _) (or_U64 x14 y32) rfl) (sS (sA (sT1 rfl) (sT1 rfl)) sB0 sF0) ?_
                                        refine AL_cons (LR_assign (at_tmp 130 _) rfl) (sS (sT1 rfl) sB0 sF0) ?_
                                        refine AL_cons (LR_assign (at_c (v' := U8 (0#8)) rfl) rfl) (sS sT0 sB0 sF0) ?_
                                        refine AL_nil ?_
                                        refine thenN ?_
                                        refine AW_ret ?_
                                        refine blR ?_
                                        refine thenR ?_
                                        obtain rfl := Option.some.inj hr
                                        exact res2 rfl (rvT rfl) (rvT rfl)
                                      · have hr := hr.trans (cond_f h)
                                        clear h
                                        refine AW_seq1 ?_
                                        refine AW_region ?_
                                        refine AL_cons (LR_move (at_tmp 17 _) rfl) (sS (sT1 rfl) sB0 sF0) ?_
                                        refine AL_cons (LR_assign (at_tmp 132 _) rfl) (sS (sT1 rfl) sB0 sF0) ?_
                                        refine AL_nil ?_
                                        refine thenN ?_
                                        refine AW_condT (b := x10) rfl (fun h => ?_) (fun h => ?_)
                                        · have hr := hr.trans (cond_t h)
                                          clear h
                                          refine AW_seq1 ?_
                                          refine AW_region ?_
                                          refine AL_cons (LR_move (at_tmp 22 _) rfl) (sS (sT1 rfl) sB0 sF0) ?_
                                          refine AL_cons (LR_loads (at_tmp 5 _) ag23 sz23 rfl rfl rfl) (sS (sT1 rfl) (sB1 rfl) sF0) ?_
                                          refine AL_cons (LR_move (at_tmp 2 _) rfl) (sS (sT1 rfl) sB0 sF0) ?_
                                          obtain ⟨y34, hy34, hr⟩ := lt_some hr
                                          refine AL_cons (LR_call Hfaa.func259 rfl rfl (C259 a0_0 a0_1 a2 y34 hy34) (all_cons (at_tmp 134 _) (all_cons (at_tmp 135 _) all_nil)) rfl) (sS (sA (sT1 rfl) (sA (sT1 rfl) sT0)) sB0 sF0) ?_
                                          refine AL_cons (LR_bin (at_tmp 133 _) (at_tmp 136 _) (or_U64 x14 y34) rfl) (sS (sA (sT1 rfl) (sT1 rfl)) sB0 sF0) ?_
                                          refine AL_cons (LR_assign (at_tmp 137 _) rfl) (sS (sT1 rfl) sB0 sF0) ?_
                                          refine AL_cons (LR_assign (at_c (v' := U8 (24#8)) rfl) rfl) (sS sT0 sB0 sF0) ?_
                                          refine AL_nil ?_
                                          refine thenN ?_
                                          refine AW_ret ?_
                                          refine blR ?_
                                          refine thenR ?_
                                          obtain rfl := Option.some.inj hr
                                          exact res2 rfl (rvT rfl) (rvT rfl)
                                        · have hr := hr.trans (cond_f h)
                                          clear h
                                          refine AW_skip ?_
                                          refine blN ?_
                                          refine thenN ?_
                                          refine AW_seq1 ?_
                                          refine AW_region ?_
                                          refine AL_cons (LR_move (at_tmp 22 _) rfl) (sS (sT1 rfl) sB0 sF0) ?_
                                          refine AL_cons (LR_loads (at_tmp 5 _) ag23 sz23 rfl rfl rfl) (sS (sT1 rfl) (sB1 rfl) sF0) ?_
                                          refine AL_cons (LR_move (at_tmp 2 _) rfl) (sS (sT1 rfl) sB0 sF0) ?_
                                          obtain ⟨y36, hy36, hr⟩ := lt_some hr
                                          refine AL_cons (LR_call Hfaa.func259 rfl rfl (C259 a0_0 a0_1 a2 y36 hy36) (all_cons (at_tmp 139 _) (all_cons (at_tmp 140 _) all_nil)) rfl) (sS (sA (sT1 rfl) (sA (sT1 rfl) sT0)) sB0 sF0) ?_
                                          refine AL_cons (LR_bin (at_tmp 138 _) (at_tmp 141 _) (or_U64 x14 y36) rfl) (sS (sA (sT1 rfl) (sT1 rfl)) sB0 sF0) ?_
                                          refine AL_cons (LR_assign (at_tmp 142 _) rfl) (sS (sT1 rfl) sB0 sF0) ?_
                                          refine AL_cons (LR_assign (at_c (v' := U8 (16#8)) rfl) rfl) (sS sT0 sB0 sF0) ?_
                                          refine AL_nil ?_
                                          refine thenN ?_
                                          refine AW_ret ?_
                                          obtain rfl := Option.some.inj hr
                                          exact res2 rfl (rvT rfl) (rvT rfl)
end Go.Proofs.YfwaawGreat
