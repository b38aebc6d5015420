import Derived.Test.YfwaawGreatG1
import Derived.Test.YfwaawGreatG2
namespace Go.Proofs.YfwaawGreat
open Go.Aw
set_option linter.unusedVariables false
set_option maxRecDepth 100000
set_option maxHeartbeats 1000000
/-- calc/na.clean -/
def F234_1 (a0_0 : BitVec 8) (a0_1 : BitVec 8) (a1 : BitVec 64) (x1 : Bool) : BitVec 64 := bif x1 then lt (F66 a0_0 a0_1) fun y7 => y7 else lt (F69 a0_0 a0_1) fun y9 => a1 &&& y9
def F234 (a0_0 : BitVec 8) (a0_1 : BitVec 8) (a1 : BitVec 64) : BitVec 64 := lt (F65 a0_0 a0_1 a1) fun y10 => F234_1 a0_0 a0_1 a1 (y10.2.1 == 4)
theorem C234 (a0_0 : BitVec 8) (a0_1 : BitVec 8) (a1 : BitVec 64) (r : BitVec 64) (hr : r = F234 a0_0 a0_1 a1) : Aw.Fn Hfaa.prog 234 [agg [is (U8 a0_0), is (U8 a0_1)], is (U64 a1)] (is (U64 r)) := by
  refine fn_intro Hfaa.func234 rfl rfl rfl ?_
  intro bn0 w0 H0
  refine AW_seq1 ?_
  refine AW_region ?_
  refine AL_cons (LR_box (at_tmp 0 _) (cells_agg _) rfl) (sS (sT1 rfl) sB0 (sF1 rfl)) ?_
  refine AL_cons (LR_assign (at_c (v' := U64 (0#64)) rfl) rfl) (sS sT0 sB0 sF0) ?_
  refine AL_nil ?_
  refine thenN ?_
  refine AW_seq1 ?_
  refine AW_cut (σ := Bool) (fun v => ⟨[(1, .inl (is (U64 a1))), (2, .inr (.inl (2, 0))), (9, .inl (is (Bl v)))], [(2, pb 23 [is (U8 a0_0), is (U8 a0_1)])]⟩) (fun v => r = F234_1 a0_0 a0_1 a1 v) ?_ ?_
  · skip
    refine AW_region ?_
    refine AL_cons (LR_loads (at_tmp 2 _) ag23 sz23 rfl rfl rfl) (sS (sT1 rfl) (sB1 rfl) sF0) ?_
    refine AL_cons (LR_move (at_tmp 1 _) rfl) (sS (sT1 rfl) sB0 sF0) ?_
    obtain ⟨y10, hy10, hr⟩ := lt_some hr
    refine AL_cons (LR_call Hfaa.func65 rfl rfl (C65 a0_0 a0_1 a1 y10 hy10) (all_cons (at_tmp 5 _) (all_cons (at_tmp 6 _) all_nil)) rfl) (sS (sA (sT1 rfl) (sA (sT1 rfl) sT0)) sB0 sF0) ?_
    refine AL_cons (LR_field (off := 1) (at_tmp 7 _) Hfaa.underlying112 rfl rfl na110 rfl rfl) (sS (sT1 rfl) sB0 sF0) ?_
    refine AL_cons (LR_bin (at_tmp 8 _) (at_c (v' := I8 4) rfl) (eql_I8 y10.2.1 4) rfl) (sS (sA (sT1 rfl) sT0) sB0 sF0) ?_
    refine AL_nil ?_
    exact thenN (cutLeaf (v := y10.2.1 == 4) hr (weak0 ((sT rfl (sT rfl (sT rfl sT0)))) (sub_keep sub_nil)))
  · rintro x1 hr
    show AW Hfaa.prog _ _ _ ⟨[(1, .inl (is (U64 a1))), (2, .inr (.inl (2, 0))), (9, .inl (is (Bl x1)))], [(2, pb 23 [is (U8 a0_0), is (U8 a0_1)])]⟩
    have hr : r = F234_1 a0_0 a0_1 a1 x1 := hr
    refine AW_condT (b := x1) rfl (fun h => ?_) (fun h => ?_)
    · have hr := hr.trans (cond_t h)
      clear h
      refine AW_seq1 ?_
      refine AW_region ?_
      refine AL_cons (LR_loads (at_tmp 2 _) ag23 sz23 rfl rfl rfl) (sS (sT1 rfl) (sB1 rfl) sF0) ?_
      obtain ⟨y7, hy7, hr⟩ := lt_some hr
      refine AL_cons (LR_call Hfaa.func66 rfl rfl (C66 a0_0 a0_1 y7 hy7) (all_cons (at_tmp 10 _) all_nil) rfl) (sS (sA (sT1 rfl) sT0) sB0 sF0) ?_
      refine AL_cons (LR_assign (at_tmp 11 _) rfl) (sS (sT1 rfl) sB0 sF0) ?_
      refine AL_nil ?_
      refine thenN ?_
      refine AW_ret ?_
      refine thenR ?_
      subst hr
      exact res1 rfl (rvT rfl)
    · have hr := hr.trans (cond_f h)
      clear h
      refine AW_skip ?_
      refine thenN ?_
      refine AW_seq1 ?_
      refine AW_region ?_
      refine AL_cons (LR_move (at_tmp 1 _) rfl) (sS (sT1 rfl) sB0 sF0) ?_
      refine AL_cons (LR_loads (at_tmp 2 _) ag23 sz23 rfl rfl rfl) (sS (sT1 rfl) (sB1 rfl) sF0) ?_
      obtain ⟨y9, hy9, hr⟩ := lt_some hr
      refine AL_cons (LR_call Hfaa.func69 rfl rfl (C69 a0_0 a0_1 y9 hy9) (all_cons (at_tmp 13 _) all_nil) rfl) (sS (sA (sT1 rfl) sT0) sB0 sF0) ?_
      refine AL_cons (LR_bin (at_tmp 12 _) (at_tmp 14 _) (and_U64 a1 y9) rfl) (sS (sA (sT1 rfl) (sT1 rfl)) sB0 sF0) ?_
      refine AL_cons (LR_assign (at_tmp 15 _) rfl) (sS (sT1 rfl) sB0 sF0) ?_
      refine AL_nil ?_
      refine thenN ?_
      refine AW_ret ?_
      subst hr
      exact res1 rfl (rvT rfl)
/-- native.from64 -/
def F384 (a0 : BitVec 64) : Option Nat := some a0.toNat
theorem C384 (a0 : BitVec 64) (r : Option Nat) (hr : r = F384 a0) : Aw.Fn Hfaa.prog 384 [is (U64 a0)] (fl .f64 r) := by
  refine fn_intro Hfaa.func384 rfl rfl rfl ?_
  intro bn0 w0 H0
  refine AW_seq1 ?_
  refine AW_region ?_
  refine AL_cons (LR_assign (at_f rfl) rfl) (sS sT0 sB0 sF0) ?_
  refine AL_nil ?_
  refine thenN ?_
  refine AW_seq1 ?_
  refine AW_region ?_
  refine AL_cons (LR_move (at_tmp 0 _) rfl) (sS (sT1 rfl) sB0 sF0) ?_
  refine AL_cons (LR_ext (ex404 a0) (all_cons (at_tmp 3 _) all_nil) rfl) (sS (sA (sT1 rfl) sT0) sB0 sF0) ?_
  refine AL_cons (LR_assign (at_tmp 4 _) rfl) (sS (sT1 rfl) sB0 sF0) ?_
  refine AL_nil ?_
  refine thenN ?_
  refine AW_ret ?_
  subst hr
  exact res1 rfl (rvT rfl)
/-- native.bits64 -/
def F405 (N : Nat) (a0 : Option Nat) : Option (BitVec 64) := bif a0.isSome then some (BitVec.ofNat 64 (a0.getD 0)) else none
theorem C405 (N : Nat) (a0 : Option Nat) (r : BitVec 64) (hr : some r = F405 N a0) : Aw.Fn Hfaa.prog 405 [fl .f64 a0] (is (U64 r)) := by
  refine fn_intro Hfaa.func405 rfl rfl rfl ?_
  intro bn0 w0 H0
  refine AW_seq1 ?_
  refine AW_region ?_
  refine AL_cons (LR_assign (at_c (v' := U64 (0#64)) rfl) rfl) (sS sT0 sB0 sF0) ?_
  refine AL_nil ?_
  refine thenN ?_
  refine AW_seq1 ?_
  refine AW_region ?_
  refine AL_cons (LR_move (at_tmp 0 _) rfl) (sS (sT1 rfl) sB0 sF0) ?_
  obtain ⟨hg2, hr⟩ := guard_some hr
  refine AL_cons (LR_ext (ex262 a0 hg2) (all_cons (at_tmp 3 _) all_nil) rfl) (sS (sA (sT1 rfl) sT0) sB0 sF0) ?_
  refine AL_cons (LR_assign (at_tmp 4 _) rfl) (sS (sT1 rfl) sB0 sF0) ?_
  refine AL_nil ?_
  refine thenN ?_
  refine AW_ret ?_
  obtain rfl := Option.some.inj hr
  exact res1 rfl (rvT rfl)
/-- native.put64 -/
def F385_1 (N : Nat) (a0 : Option Nat) (x1 : Bool) : Option (BitVec 64) := bif x1 then some (9221120237041090560#64) else (F405 N a0).bind fun y2 => some y2
def F385 (N : Nat) (a0 : Option Nat) : Option (BitVec 64) := F385_1 N a0 (fcmp .neq .f64 a0 a0)
theorem C385 (N : Nat) (a0 : Option Nat) (r : BitVec 64) (hr : some r = F385 N a0) : Aw.Fn Hfaa.prog 385 [fl .f64 a0] (is (U64 r)) := by
  refine fn_intro Hfaa.func385 rfl rfl rfl ?_
  intro bn0 w0 H0
  refine AW_seq1 ?_
  refine AW_region ?_
  refine AL_cons (LR_assign (at_c (v' := U64 (0#64)) rfl) rfl) (sS sT0 sB0 sF0) ?_
  refine AL_nil ?_
  refine thenN ?_
  refine AW_seq1 ?_
  refine AW_cut (σ := Bool) (fun v => ⟨[(0, .inl (fl .f64 a0)), (5, .inl (is (Bl v)))], []⟩) (fun v => some r = F385_1 N a0 v) ?_ ?_
  · skip
    refine AW_region ?_
    refine AL_cons (LR_move (at_tmp 0 _) rfl) (sS (sT1 rfl) sB0 sF0) ?_
    refine AL_cons (LR_move (at_tmp 0 _) rfl) (sS (sT1 rfl) sB0 sF0) ?_
    refine AL_cons (LR_fcmp rfl (at_tmp 3 _) (at_tmp 4 _) rfl) (sS (sA (sT1 rfl) (sT1 rfl)) sB0 sF0) ?_
    refine AL_nil ?_
    exact thenN (cutLeaf (v := fcmp .neq .f64 a0 a0) hr (weak0 ((sT rfl (sT rfl sT0))) sub_nil))
  · rintro x1 hr
    show AW Hfaa.prog _ _ _ ⟨[(0, .inl (fl .f64 a0)), (5, .inl (is (Bl x1)))], []⟩
    have hr : some r = F385_1 N a0 x1 := hr
    refine AW_condT (b := x1) rfl (fun h => ?_) (fun h => ?_)
    · have hr := hr.trans (cond_t h)
      clear h
      refine AW_seq1 ?_
      refine AW_region ?_
      refine AL_cons (LR_assign (at_c (v' := U64 (9221120237041090560#64)) rfl) rfl) (sS sT0 sB0 sF0) ?_
      refine AL_nil ?_
      refine thenN ?_
      refine AW_ret ?_
      refine thenR ?_
      obtain rfl := Option.some.inj hr
      exact res1 rfl (rvT rfl)
    · have hr := hr.trans (cond_f h)
      clear h
      refine AW_skip ?_
      refine thenN ?_
      refine AW_seq1 ?_
      refine AW_region ?_
      refine AL_cons (LR_move (at_tmp 0 _) rfl) (sS (sT1 rfl) sB0 sF0) ?_
      obtain ⟨y2, hy2, hr⟩ := bind_some hr
      refine AL_cons (LR_call Hfaa.func405 rfl rfl (C405 N a0 y2 hy2) (all_cons (at_tmp 6 _) all_nil) rfl) (sS (sA (sT1 rfl) sT0) sB0 sF0) ?_
      refine AL_cons (LR_assign (at_tmp 7 _) rfl) (sS (sT1 rfl) sB0 sF0) ?_
      refine AL_nil ?_
      refine thenN ?_
      refine AW_ret ?_
      obtain rfl := Option.some.inj hr
      exact res1 rfl (rvT rfl)
/-- native.Op64 -/
def F330_5 (N : Nat) (x1 : Option Nat) (x2 : Option Nat) (x6 : Bool) : Option (BitVec 64) := bif x6 then (F385 N (fbits .quo .f64 x1 x2)).bind fun y18 => some y18 else some (9221120237041090560#64)
def F330_4 (N : Nat) (a0 : BitVec 8) (x1 : Option Nat) (x2 : Option Nat) (x5 : Bool) : Option (BitVec 64) := bif x5 then (F385 N (fbits .mul .f64 x1 x2)).bind fun y16 => some y16 else F330_5 N x1 x2 (a0 == (3#8))
def F330_3 (N : Nat) (a0 : BitVec 8) (x1 : Option Nat) (x2 : Option Nat) (x4 : Bool) : Option (BitVec 64) := bif x4 then (F385 N (fbits .sub .f64 x1 x2)).bind fun y14 => some y14 else F330_4 N a0 x1 x2 (a0 == (2#8))
def F330_2 (N : Nat) (a0 : BitVec 8) (x1 : Option Nat) (x2 : Option Nat) (x3 : Bool) : Option (BitVec 64) := bif x3 then (F385 N (fbits .add .f64 x1 x2)).bind fun y12 => some y12 else F330_3 N a0 x1 x2 (a0 == (1#8))
def F330_1 (N : Nat) (a0 : BitVec 8) (x1 : Option Nat) (x2 : Option Nat) : Option (BitVec 64) := F330_2 N a0 x1 x2 (a0 == (0#8))
def F330 (N : Nat) (a0 : BitVec 8) (a1 : BitVec 64) (a2 : BitVec 64) : Option (BitVec 64) := lt (F384 a1) fun y19 => lt (F384 a2) fun y20 => F330_1 N a0 y19 y20
theorem C330 (N : Nat) (a0 : BitVec 8) (a1 : BitVec 64) (a2 : BitVec 64) (r : BitVec 64) (hr : some r = F330 N a0 a1 a2) : Aw.Fn Hfaa.prog 330 [is (U8 a0), is (U64 a1), is (U64 a2)] (is (U64 r)) := by
  refine fn_intro Hfaa.func330 rfl rfl rfl ?_
  intro bn0 w0 H0
  refine AW_seq1 ?_
  refine AW_region ?_
  refine AL_cons (LR_assign (at_c (v' := U64 (0#64)) rfl) rfl) (sS sT0 sB0 sF0) ?_
  refine AL_nil ?_
  refine thenN ?_
  refine AW_cut (σ := Option Nat × Option Nat) (fun v => ⟨[(0, .inl (is (U8 a0))), (7, .inl (fl .f64 v.1)), (8, .inl (fl .f64 v.2))], []⟩) (fun v => some r = F330_1 N a0 v.1 v.2) ?_ ?_
  · skip
    refine AW_region ?_
    refine AL_cons (LR_move (at_tmp 1 _) rfl) (sS (sT1 rfl) sB0 sF0) ?_
    obtain ⟨y19, hy19, hr⟩ := lt_some hr
    refine AL_cons (LR_call Hfaa.func384 rfl rfl (C384 a1 y19 hy19) (all_cons (at_tmp 9 _) all_nil) rfl) (sS (sA (sT1 rfl) sT0) sB0 sF0) ?_
    refine AL_cons (LR_move (at_tmp 2 _) rfl) (sS (sT1 rfl) sB0 sF0) ?_
    obtain ⟨y20, hy20, hr⟩ := lt_some hr
    refine AL_cons (LR_call Hfaa.func384 rfl rfl (C384 a2 y20 hy20) (all_cons (at_tmp 11 _) all_nil) rfl) (sS (sA (sT1 rfl) sT0) sB0 sF0) ?_
    refine AL_cons (LR_assign (at_tmp 10 _) rfl) (sS (sT1 rfl) sB0 sF0) ?_
    refine AL_cons (LR_assign (at_tmp 12 _) rfl) (sS (sT1 rfl) sB0 sF0) ?_
    refine AL_nil ?_
    exact thenN (cutLeaf (v := (y19, y20)) hr (weak0 ((sT rfl (sT rfl (sT rfl sT0)))) sub_nil))
  · rintro ⟨x1, x2⟩ hr
    show AW Hfaa.prog _ _ _ ⟨[(0, .inl (is (U8 a0))), (7, .inl (fl .f64 x1)), (8, .inl (fl .f64 x2))], []⟩
    have hr : some r = F330_1 N a0 x1 x2 := hr
    refine AW_seq1 ?_
    refine AW_seq1 ?_
    refine AW_region ?_
    refine AL_cons (LR_move (at_tmp 0 _) rfl) (sS (sT1 rfl) sB0 sF0) ?_
    refine AL_nil ?_
    refine thenN ?_
    refine AW_block ?_
    refine AW_cut (σ := Bool) (fun v => ⟨[(7, .inl (fl .f64 x1)), (8, .inl (fl .f64 x2)), (13, .inl (is (U8 a0))), (14, .inl (is (Bl v)))], []⟩) (fun v => some r = F330_2 N a0 x1 x2 v) ?_ ?_
    · skip
      refine AW_region ?_
      refine AL_cons (LR_bin (at_tmp 13 _) (at_c (v' := U8 (0#8)) rfl) (eql_U8 a0 (0#8)) rfl) (sS (sA (sT1 rfl) sT0) sB0 sF0) ?_
      refine AL_cons (LR_assign (at_tmp 15 _) rfl) (sS (sT1 rfl) sB0 sF0) ?_
      refine AL_nil ?_
      exact thenN (cutLeaf (v := a0 == (0#8)) hr (weak0 ((sT rfl (sT rfl (sT rfl (sT rfl sT0))))) sub_nil))
    · rintro x3 hr
      show AW Hfaa.prog _ _ _ ⟨[(7, .inl (fl .f64 x1)), (8, .inl (fl .f64 x2)), (13, .inl (is (U8 a0))), (14, .inl (is (Bl x3)))], []⟩
      have hr : some r = F330_2 N a0 x1 x2 x3 := hr
      refine AW_condT (b := x3) rfl (fun h => ?_) (fun h => ?_)
      · have hr := hr.trans (cond_t h)
        clear h
        refine AW_seq1 ?_
        refine AW_region ?_
        refine AL_cons (LR_move (at_tmp 7 _) rfl) (sS (sT1 rfl) sB0 sF0) ?_
        refine AL_cons (LR_move (at_tmp 8 _) rfl) (sS (sT1 rfl) sB0 sF0) ?_
        refine AL_cons (LR_fbin rfl (at_tmp 16 _) (at_tmp 17 _) rfl) (sS (sA (sT1 rfl) (sT1 rfl)) sB0 sF0) ?_
        obtain ⟨y12, hy12, hr⟩ := bind_some hr
        refine AL_cons (LR_call Hfaa.func385 rfl rfl (C385 N (fbits .add .f64 x1 x2) y12 hy12) (all_cons (at_tmp 18 _) all_nil) rfl) (sS (sA (sT1 rfl) sT0) sB0 sF0) ?_
        refine AL_cons (LR_assign (at_tmp 19 _) rfl) (sS (sT1 rfl) sB0 sF0) ?_
        refine AL_nil ?_
        refine thenN ?_
        refine AW_ret ?_
        refine blR ?_
        refine thenR ?_
        obtain rfl := Option.some.inj hr
        exact res1 rfl (rvT rfl)
      · have hr := hr.trans (cond_f h)
        clear h
        refine AW_cut (σ := Bool) (fun v => ⟨[(7, .inl (fl .f64 x1)), (8, .inl (fl .f64 x2)), (13, .inl (is (U8 a0))), (20, .inl (is (Bl v)))], []⟩) (fun v => some r = F330_3 N a0 x1 x2 v) ?_ ?_
        · skip
          refine AW_region ?_
          refine AL_cons (LR_bin (at_tmp 13 _) (at_c (v' := U8 (1#8)) rfl) (eql_U8 a0 (1#8)) rfl) (sS (sA (sT1 rfl) sT0) sB0 sF0) ?_
          refine AL_cons (LR_assign (at_tmp 21 _) rfl) (sS (sT1 rfl) sB0 sF0) ?_
          refine AL_nil ?_
          exact thenN (cutLeaf (v := a0 == (1#8)) hr (weak0 ((sT rfl (sT rfl (sT rfl (sT rfl sT0))))) sub_nil))
        · rintro x4 hr
          show AW Hfaa.prog _ _ _ ⟨[(7, .inl (fl .f64 x1)), (8, .inl (fl .f64 x2)), (13, .inl (is (U8 a0))), (20, .inl (is (Bl x4)))], []⟩
          have hr : some r = F330_3 N a0 x1 x2 x4 := hr
          refine AW_condT (b := x4) rfl (fun h => ?_) (fun h => ?_)
          · have hr := hr.trans (cond_t h)
            clear h
            refine AW_seq1 ?_
            refine AW_region ?_
            refine AL_cons (LR_move (at_tmp 7 _) rfl) (sS (sT1 rfl) sB0 sF0) ?_
            refine AL_cons (LR_move (at_tmp 8 _) rfl) (sS (sT1 rfl) sB0 sF0) ?_
            refine AL_cons (LR_fbin rfl (at_tmp 22 _) (at_tmp 23 _) rfl) (sS (sA (sT1 rfl) (sT1 rfl)) sB0 sF0) ?_
            obtain ⟨y14, hy14, hr⟩ := bind_some hr
            refine AL_cons (LR_call Hfaa.func385 rfl rfl (C385 N (fbits .sub .f64 x1 x2) y14 hy14) (all_cons (at_tmp 24 _) all_nil) rfl) (sS (sA (sT1 rfl) sT0) sB0 sF0) ?_
            refine AL_cons (LR_assign (at_tmp 25 _) rfl) (sS (sT1 rfl) sB0 sF0) ?_
            refine AL_nil ?_
            refine thenN ?_
            refine AW_ret ?_
            refine blR ?_
            refine thenR ?_
            obtain rfl := Option.some.inj hr
            exact res1 rfl (rvT rfl)
          · have hr := hr.trans (cond_f h)
            clear h
            refine AW_cut (σ := Bool) (fun v => ⟨[(7, .inl (fl .f64 x1)), (8, .inl (fl .f64 x2)), (13, .inl (is (U8 a0))), (26, .inl (is (Bl v)))], []⟩) (fun v => some r = F330_4 N a0 x1 x2 v) ?_ ?_
            · skip
              refine AW_region ?_
              refine AL_cons (LR_bin (at_tmp 13 _) (at_c (v' := U8 (2#8)) rfl) (eql_U8 a0 (2#8)) rfl) (sS (sA (sT1 rfl) sT0) sB0 sF0) ?_
              refine AL_cons (LR_assign (at_tmp 27 _) rfl) (sS (sT1 rfl) sB0 sF0) ?_
              refine AL_nil ?_
              exact thenN (cutLeaf (v := a0 == (2#8)) hr (weak0 ((sT rfl (sT rfl (sT rfl (sT rfl sT0))))) sub_nil))
            · rintro x5 hr
              show AW Hfaa.prog _ _ _ ⟨[(7, .inl (fl .f64 x1)), (8, .inl (fl .f64 x2)), (13, .inl (is (U8 a0))), (26, .inl (is (Bl x5)))], []⟩
              have hr : some r = F330_4 N a0 x1 x2 x5 := hr
              refine AW_condT (b := x5) rfl (fun h => ?_) (fun h => ?_)
              · have hr := hr.trans (cond_t h)
                clear h
                refine AW_seq1 ?_
                refine AW_region ?_
                refine AL_cons (LR_move (at_tmp 7 _) rfl) (sS (sT1 rfl) sB0 sF0) ?_
                refine AL_cons (LR_move (at_tmp 8 _) rfl) (sS (sT1 rfl) sB0 sF0) ?_
                refine AL_cons (LR_fbin rfl (at_tmp 28 _) (at_tmp 29 _) rfl) (sS (sA (sT1 rfl) (sT1 rfl)) sB0 sF0) ?_
                obtain ⟨y16, hy16, hr⟩ := bind_some hr
                refine AL_cons (LR_call Hfaa.func385 rfl rfl (C385 N (fbits .mul .f64 x1 x2) y16 hy16) (all_cons (at_tmp 30 _) all_nil) rfl) (sS (sA (sT1 rfl) sT0) sB0 sF0) ?_
                refine AL_cons (LR_assign (at_tmp 31 _) rfl) (sS (sT1 rfl) sB0 sF0) ?_
                refine AL_nil ?_
                refine thenN ?_
                refine AW_ret ?_
                refine blR ?_
                refine thenR ?_
                obtain rfl := Option.some.inj hr
                exact res1 rfl (rvT rfl)
              · have hr := hr.trans (cond_f h)
                clear h
                refine AW_cut (σ := Bool) (fun v => ⟨[(7, .inl (fl .f64 x1)), (8, .inl (fl .f64 x2)), (32, .inl (is (Bl v)))], []⟩) (fun v => some r = F330_5 N x1 x2 v) ?_ ?_
                · skip
                  refine AW_region ?_
                  refine AL_cons (LR_bin (at_tmp 13 _) (at_c (v' := U8 (3#8)) rfl) (eql_U8 a0 (3#8)) rfl) (sS (sA (sT1 rfl) sT0) sB0 sF0) ?_
                  refine AL_cons (LR_assign (at_tmp 33 _) rfl) (sS (sT1 rfl) sB0 sF0) ?_
                  refine AL_nil ?_
                  exact thenN (cutLeaf (v := a0 == (3#8)) hr (weak0 ((sT rfl (sT rfl (sT rfl sT0)))) sub_nil))
                · rintro x6 hr
                  show AW Hfaa.prog _ _ _ ⟨[(7, .inl (fl .f64 x1)), (8, .inl (fl .f64 x2)), (32, .inl (is (Bl x6)))], []⟩
                  have hr : some r = F330_5 N x1 x2 x6 := hr
                  refine AW_condT (b := x6) rfl (fun h => ?_) (fun h => ?_)
                  · have hr := hr.trans (cond_t h)
                    clear h
                    refine AW_seq1 ?_
                    refine AW_region ?_
                    refine AL_cons (LR_move (at_tmp 7 _) rfl) (sS (sT1 rfl) sB0 sF0) ?_
                    refine AL_cons (LR_move (at_tmp 8 _) rfl) (sS (sT1 rfl) sB0 sF0) ?_
                    refine AL_cons (LR_fbin rfl (at_tmp 34 _) (at_tmp 35 _) rfl) (sS (sA (sT1 rfl) (sT1 rfl)) sB0 sF0) ?_
                    obtain ⟨y18, hy18, hr⟩ := bind_some hr
                    refine AL_cons (LR_call Hfaa.func385 rfl rfl (C385 N (fbits .quo .f64 x1 x2) y18 hy18) (all_cons (at_tmp 36 _) all_nil) rfl) (sS (sA (sT1 rfl) sT0) sB0 sF0) ?_
                    refine AL_cons (LR_assign (at_tmp 37 _) rfl) (sS (sT1 rfl) sB0 sF0) ?_
                    refine AL_nil ?_
                    refine thenN ?_
                    refine AW_ret ?_
                    refine blR ?_
                    refine thenR ?_
                    obtain rfl := Option.some.inj hr
                    exact res1 rfl (rvT rfl)
                  · have hr := hr.trans (cond_f h)
                    clear h
                    refine AW_skip ?_
                    refine blN ?_
                    refine thenN ?_
                    refine AW_seq1 ?_
                    refine AW_region ?_
                    refine AL_cons (LR_assign (at_c (v' := U64 (9221120237041090560#64)) rfl) rfl) (sS sT0 sB0 sF0) ?_
                    refine AL_nil ?_
                    refine thenN ?_
                    refine AW_ret ?_
                    obtain rfl := Option.some.inj hr
                    exact res1 rfl (rvT rfl)
/-- native.from32 -/
def F386 (a0 : BitVec 32) : Option Nat := some a0.toNat
theorem C386 (a0 : BitVec 32) (r : Option Nat) (hr : r = F386 a0) : Aw.Fn Hfaa.prog 386 [is (U32 a0)] (fl .f32 r) := by
  refine fn_intro Hfaa.func386 rfl rfl rfl ?_
  intro bn0 w0 H0
  refine AW_seq1 ?_
  refine AW_region ?_
  refine AL_cons (LR_assign (at_f rfl) rfl) (sS sT0 sB0 sF0) ?_
  refine AL_nil ?_
  refine thenN ?_
  refine AW_seq1 ?_
  refine AW_region ?_
  refine AL_cons (LR_move (at_tmp 0 _) rfl) (sS (sT1 rfl) sB0 sF0) ?_
  refine AL_cons (LR_ext (ex406 a0) (all_cons (at_tmp 3 _) all_nil) rfl) (sS (sA (sT1 rfl) sT0) sB0 sF0) ?_
  refine AL_cons (LR_assign (at_tmp 4 _) rfl) (sS (sT1 rfl) sB0 sF0) ?_
  refine AL_nil ?_
  refine thenN ?_
  refine AW_ret ?_
  subst hr
  exact res1 rfl (rvT rfl)
/-- native.bits32 -/
def F407 (N : Nat) (a0 : Option Nat) : Option (BitVec 32) := bif a0.isSome then some (BitVec.ofNat 32 (a0.getD 0)) else none
theorem C407 (N : Nat) (a0 : Option Nat) (r : BitVec 32) (hr : some r = F407 N a0) : Aw.Fn Hfaa.prog 407 [fl .f32 a0] (is (U32 r)) := by
  refine fn_intro Hfaa.func407 rfl rfl rfl ?_
  intro bn0 w0 H0
  refine AW_seq1 ?_
  refine AW_region ?_
  refine AL_cons (LR_assign (at_c (v' := U32 (0#32)) rfl) rfl) (sS sT0 sB0 sF0) ?_
  refine AL_nil ?_
  refine thenN ?_
  refine AW_seq1 ?_
  refine AW_region ?_
  refine AL_cons (LR_move (at_tmp 0 _) rfl) (sS (sT1 rfl) sB0 sF0) ?_
  obtain ⟨hg2, hr⟩ := guard_some hr
  refine AL_cons (LR_ext (ex263 a0 hg2) (all_cons (at_tmp 3 _) all_nil) rfl) (sS (sA (sT1 rfl) sT0) sB0 sF0) ?_
  refine AL_cons (LR_assign (at_tmp 4 _) rfl) (sS (sT1 rfl) sB0 sF0) ?_
  refine AL_nil ?_
  refine thenN ?_
  refine AW_ret ?_
  obtain rfl := Option.some.inj hr
  exact res1 rfl (rvT rfl)
/-- native.put32 -/
def F387_1 (N : Nat) (a0 : Option Nat) (x1 : Bool) : Option (BitVec 32) := bif x1 then some (2143289344#32) else (F407 N a0).bind fun y2 => some y2
def F387 (N : Nat) (a0 : Option Nat) : Option (BitVec 32) := F387_1 N a0 (fcmp .neq .f32 a0 a0)
theorem C387 (N : Nat) (a0 : Option Nat) (r : BitVec 32) (hr : some r = F387 N a0) : Aw.Fn Hfaa.prog 387 [fl .f32 a0] (is (U32 r)) := by
  refine fn_intro Hfaa.func387 rfl rfl rfl ?_
  intro bn0 w0 H0
  refine AW_seq1 ?_
  refine AW_region ?_
  refine AL_cons (LR_assign (at_c (v' := U32 (0#32)) rfl) rfl) (sS sT0 sB0 sF0) ?_
  refine AL_nil ?_
  refine thenN ?_
  refine AW_seq1 ?_
  refine AW_cut (σ := Bool) (fun v => ⟨[(0, .inl (fl .f32 a0)), (5, .inl (is (Bl v)))], []⟩) (fun v => some r = F387_1 N a0 v) ?_ ?_
  · skip
    refine AW_region ?_
    refine AL_cons (LR_move (at_tmp 0 _) rfl) (sS (sT1 rfl) sB0 sF0) ?_
    refine AL_cons (LR_move (at_tmp 0 _) rfl) (sS (sT1 rfl) sB0 sF0) ?_
    refine AL_cons (LR_fcmp rfl (at_tmp 3 _) (at_tmp 4 _) rfl) (sS (sA (sT1 rfl) (sT1 rfl)) sB0 sF0) ?_
    refine AL_nil ?_
    exact thenN (cutLeaf (v := fcmp .neq .f32 a0 a0) hr (weak0 ((sT rfl (sT rfl sT0))) sub_nil))
  · rintro x1 hr
    show AW Hfaa.prog _ _ _ ⟨[(0, .inl (fl .f32 a0)), (5, .inl (is (Bl x1)))], []⟩
    have hr : some r = F387_1 N a0 x1 := hr
    refine AW_condT (b := x1) rfl (fun h => ?_) (fun h => ?_)
    · have hr := hr.trans (cond_t h)
      clear h
      refine AW_seq1 ?_
      refine AW_region ?_
      refine AL_cons (LR_assign (at_c (v' := U32 (2143289344#32)) rfl) rfl) (sS sT0 sB0 sF0) ?_
      refine AL_nil ?_
      refine thenN ?_
      refine AW_ret ?_
      refine thenR ?_
      obtain rfl := Option.some.inj hr
      exact res1 rfl (rvT rfl)
    · have hr := hr.trans (cond_f h)
      clear h
      refine AW_skip ?_
      refine thenN ?_
      refine AW_seq1 ?_
      refine AW_region ?_
      refine AL_cons (LR_move (at_tmp 0 _) rfl) (sS (sT1 rfl) sB0 sF0) ?_
      obtain ⟨y2, hy2, hr⟩ := bind_some hr
      refine AL_cons (LR_call Hfaa.func407 rfl rfl (C407 N a0 y2 hy2) (all_cons (at_tmp 6 _) all_nil) rfl) (sS (sA (sT1 rfl) sT0) sB0 sF0) ?_
      refine AL_cons (LR_assign (at_tmp 7 _) rfl) (sS (sT1 rfl) sB0 sF0) ?_
      refine AL_nil ?_
      refine thenN ?_
      refine AW_ret ?_
      obtain rfl := Option.some.inj hr
      exact res1 rfl (rvT rfl)
/-- native.Op32 -/
def F331_5 (N : Nat) (x1 : Option Nat) (x2 : Option Nat) (x6 : Bool) : Option (BitVec 32) := bif x6 then (F387 N (fbits .quo .f32 x1 x2)).bind fun y18 => some y18 else some (2143289344#32)
def F331_4 (N : Nat) (a0 : BitVec 8) (x1 : Option Nat) (x2 : Option Nat) (x5 : Bool) : Option (BitVec 32) := bif x5 then (F387 N (fbits .mul .f32 x1 x2)).bind fun y16 => some y16 else F331_5 N x1 x2 (a0 == (3#8))
def F331_3 (N : Nat) (a0 : BitVec 8) (x1 : Option Nat) (x2 : Option Nat) (x4 : Bool) : Option (BitVec 32) := bif x4 then (F387 N (fbits .sub .f32 x1 x2)).bind fun y14 => some y14 else F331_4 N a0 x1 x2 (a0 == (2#8))
def F331_2 (N : Nat) (a0 : BitVec 8) (x1 : Option Nat) (x2 : Option Nat) (x3 : Bool) : Option (BitVec 32) := bif x3 then (F387 N (fbits .add .f32 x1 x2)).bind fun y12 => some y12 else F331_3 N a0 x1 x2 (a0 == (1#8))
def F331_1 (N : Nat) (a0 : BitVec 8) (x1 : Option Nat) (x2 : Option Nat) : Option (BitVec 32) := F331_2 N a0 x1 x2 (a0 == (0#8))
def F331 (N : Nat) (a0 : BitVec 8) (a1 : BitVec 32) (a2 : BitVec 32) : Option (BitVec 32) := lt (F386 a1) fun y19 => lt (F386 a2) fun y20 => F331_1 N a0 y19 y20
theorem C331 (N : Nat) (a0 : BitVec 8) (a1 : BitVec 32) (a2 : BitVec 32) (r : BitVec 32) (hr : some r = F331 N a0 a1 a2) : Aw.Fn Hfaa.prog 331 [is (U8 a0), is (U32 a1), is (U32 a2)] (is (U32 r)) := by
  refine fn_intro Hfaa.func331 rfl rfl rfl ?_
  intro bn0 w0 H0
  refine AW_seq1 ?_
  refine AW_region ?_
  refine AL_cons (LR_assign (at_c (v' := U32 (0#32)) rfl) rfl) (sS sT0 sB0 sF0) ?_
  refine AL_nil ?_
  refine thenN ?_
  refine AW_cut (σ := Option Nat × Option Nat) (fun v => ⟨[(0, .inl (is (U8 a0))), (7, .inl (fl .f32 v.1)), (8, .inl (fl .f32 v.2))], []⟩) (fun v => some r = F331_1 N a0 v.1 v.2) ?_ ?_
  · skip
    refine AW_region ?_
    refine AL_cons (LR_move (at_tmp 1 _) rfl) (sS (sT1 rfl) sB0 sF0) ?_
    obtain ⟨y19, hy19, hr⟩ := lt_some hr
    refine AL_cons (LR_call Hfaa.func386 rfl rfl (C386 a1 y19 hy19) (all_cons (at_tmp 9 _) all_nil) rfl) (sS (sA (sT1 rfl) sT0) sB0 sF0) ?_
    refine AL_cons (LR_move (at_tmp 2 _) rfl) (sS (sT1 rfl) sB0 sF0) ?_
    obtain ⟨y20, hy20, hr⟩ := lt_some hr
    refine AL_cons (LR_call Hfaa.func386 rfl rfl (C386 a2 y20 hy20) (all_cons (at_tmp 11 _) all_nil) rfl) (sS (sA (sT1 rfl) sT0) sB0 sF0) ?_
    refine AL_cons (LR_assign (at_tmp 10 _) rfl) (sS (sT1 rfl) sB0 sF0) ?_
    refine AL_cons (LR_assign (at_tmp 12 _) rfl) (sS (sT1 rfl) sB0 sF0) ?_
    refine AL_nil ?_
    exact thenN (cutLeaf (v := (y19, y20)) hr (weak0 ((sT rfl (sT rfl (sT rfl sT0)))) sub_nil))
  · rintro ⟨x1, x2⟩ hr
    show AW Hfaa.prog _ _ _ ⟨[(0, .inl (is (U8 a0))), (7, .inl (fl .f32 x1)), (8, .inl (fl .f32 x2))], []⟩
    have hr : some r = F331_1 N a0 x1 x2 := hr
    refine AW_seq1 ?_
    refine AW_seq1 ?_
    refine AW_region ?_
    refine AL_cons (LR_move (at_tmp 0 _) rfl) (sS (sT1 rfl) sB0 sF0) ?_
    refine AL_nil ?_
    refine thenN ?_
    refine AW_block ?_
    refine AW_cut (σ := Bool) (fun v => ⟨[(7, .inl (fl .f32 x1)), (8, .inl (fl .f32 x2)), (13, .inl (is (U8 a0))), (14, .inl (is (Bl v)))], []⟩) (fun v => some r = F331_2 N a0 x1 x2 v) ?_ ?_
    · skip
      refine AW_region ?_
      refine AL_cons (LR_bin (at_tmp 13 _) (at_c (v' := U8 (0#8)) rfl) (eql_U8 a0 (0#8)) rfl) (sS (sA (sT1 rfl) sT0) sB0 sF0) ?_
      refine AL_cons (LR_assign (at_tmp 15 _) rfl) (sS (sT1 rfl) sB0 sF0) ?_
      refine AL_nil ?_
      exact thenN (cutLeaf (v := a0 == (0#8)) hr (weak0 ((sT rfl (sT rfl (sT rfl (sT rfl sT0))))) sub_nil))
    · rintro x3 hr
      show AW Hfaa.prog _ _ _ ⟨[(7, .inl (fl .f32 x1)), (8, .inl (fl .f32 x2)), (13, .inl (is (U8 a0))), (14, .inl (is (Bl x3)))], []⟩
      have hr : some r = F331_2 N a0 x1 x2 x3 := hr
      refine AW_condT (b := x3) rfl (fun h => ?_) (fun h => ?_)
      · have hr := hr.trans (cond_t h)
        clear h
        refine AW_seq1 ?_
        refine AW_region ?_
        refine AL_cons (LR_move (at_tmp 7 _) rfl) (sS (sT1 rfl) sB0 sF0) ?_
        refine AL_cons (LR_move (at_tmp 8 _) rfl) (sS (sT1 rfl) sB0 sF0) ?_
        refine AL_cons (LR_fbin rfl (at_tmp 16 _) (at_tmp 17 _) rfl) (sS (sA (sT1 rfl) (sT1 rfl)) sB0 sF0) ?_
        obtain ⟨y12, hy12, hr⟩ := bind_some hr
        refine AL_cons (LR_call Hfaa.func387 rfl rfl (C387 N (fbits .add .f32 x1 x2) y12 hy12) (all_cons (at_tmp 18 _) all_nil) rfl) (sS (sA (sT1 rfl) sT0) sB0 sF0) ?_
        refine AL_cons (LR_assign (at_tmp 19 _) rfl) (sS (sT1 rfl) sB0 sF0) ?_
        refine AL_nil ?_
        refine thenN ?_
        refine AW_ret ?_
        refine blR ?_
        refine thenR ?_
        obtain rfl := Option.some.inj hr
        exact res1 rfl (rvT rfl)
      · have hr := hr.trans (cond_f h)
        clear h
        refine AW_cut (σ := Bool) (fun v => ⟨[(7, .inl (fl .f32 x1)), (8, .inl (fl .f32 x2)), (13, .inl (is (U8 a0))), (20, .inl (is (Bl v)))], []⟩) (fun v => some r = F331_3 N a0 x1 x2 v) ?_ ?_
        · skip
          refine AW_region ?_
          refine AL_cons (LR_bin (at_tmp 13 _) (at_c (v' := U8 (1#8)) rfl) (eql_U8 a0 (1#8)) rfl) (sS (sA (sT1 rfl) sT0) sB0 sF0) ?_
          refine AL_cons (LR_assign (at_tmp 21 _) rfl) (sS (sT1 rfl) sB0 sF0) ?_
          refine AL_nil ?_
          exact thenN (cutLeaf (v := a0 == (1#8)) hr (weak0 ((sT rfl (sT rfl (sT rfl (sT rfl sT0))))) sub_nil))
        · rintro x4 hr
          show AW Hfaa.prog _ _ _ ⟨[(7, .inl (fl .f32 x1)), (8, .inl (fl .f32 x2)), (13, .inl (is (U8 a0))), (20, .inl (is (Bl x4)))], []⟩
          have hr : some r = F331_3 N a0 x1 x2 x4 := hr
          refine AW_condT (b := x4) rfl (fun h => ?_) (fun h => ?_)
          · have hr := hr.trans (cond_t h)
            clear h
            refine AW_seq1 ?_
            refine AW_region ?_
            refine AL_cons (LR_move (at_tmp 7 _) rfl) (sS (sT1 rfl) sB0 sF0) ?_
            refine AL_cons (LR_move (at_tmp 8 _) rfl) (sS (sT1 rfl) sB0 sF0) ?_
            refine AL_cons (LR_fbin rfl (at_tmp 22 _) (at_tmp 23 _) rfl) (sS (sA (sT1 rfl) (sT1 rfl)) sB0 sF0) ?_
            obtain ⟨y14, hy14, hr⟩ := bind_some hr
            refine AL_cons (LR_call Hfaa.func387 rfl rfl (C387 N (fbits .sub .f32 x1 x2) y14 hy14) (all_cons (at_tmp 24 _) all_nil) rfl) (sS (sA (sT1 rfl) sT0) sB0 sF0) ?_
            refine AL_cons (LR_assign (at_tmp 25 _) rfl) (sS (sT1 rfl) sB0 sF0) ?_
            refine AL_nil ?_
            refine thenN ?_
            refine AW_ret ?_
            refine blR ?_
            refine thenR ?_
            obtain rfl := Option.some.inj hr
            exact res1 rfl (rvT rfl)
          · have hr := hr.trans (cond_f h)
            clear h
            refine AW_cut (σ := Bool) (fun v => ⟨[(7, .inl (fl .f32 x1)), (8, .inl (fl .f32 x2)), (13, .inl (is (U8 a0))), (26, .inl (is (Bl v)))], []⟩) (fun v => some r = F331_4 N a0 x1 x2 v) ?_ ?_
            · skip
              refine AW_region ?_
              refine AL_cons (LR_bin (at_tmp 13 _) (at_c (v' := U8 (2#8)) rfl) (eql_U8 a0 (2#8)) rfl) (sS (sA (sT1 rfl) sT0) sB0 sF0) ?_
              refine AL_cons (LR_assign (at_tmp 27 _) rfl) (sS (sT1 rfl) sB0 sF0) ?_
              refine AL_nil ?_
              exact thenN (cutLeaf (v := a0 == (2#8)) hr (weak0 ((sT rfl (sT rfl (sT rfl (sT rfl sT0))))) sub_nil))
            · rintro x5 hr
              show AW Hfaa.prog _ _ _ ⟨[(7, .inl (fl .f32 x1)), (8, .inl (fl .f32 x2)), (13, .inl (is (U8 a0))), (26, .inl (is (Bl x5)))], []⟩
              have hr : some r = F331_4 N a0 x1 x2 x5 := hr
              refine AW_condT (b := x5) rfl (fun h => ?_) (fun h => ?_)
              · have hr := hr.trans (cond_t h)
                clear h
                refine AW_seq1 ?_
                refine AW_region ?_
                refine AL_cons (LR_move (at_tmp 7 _) rfl) (sS (sT1 rfl) sB0 sF0) ?_
                refine AL_cons (LR_move (at_tmp 8 _) rfl) (sS (sT1 rfl) sB0 sF0) ?_
                refine AL_cons (LR_fbin rfl (at_tmp 28 _) (at_tmp 29 _) rfl) (sS (sA (sT1 rfl) (sT1 rfl)) sB0 sF0) ?_
                obtain ⟨y16, hy16, hr⟩ := bind_some hr
                refine AL_cons (LR_call Hfaa.func387 rfl rfl (C387 N (fbits .mul .f32 x1 x2) y16 hy16) (all_cons (at_tmp 30 _) all_nil) rfl) (sS (sA (sT1 rfl) sT0) sB0 sF0) ?_
                refine AL_cons (LR_assign (at_tmp 31 _) rfl) (sS (sT1 rfl) sB0 sF0) ?_
                refine AL_nil ?_
                refine thenN ?_
                refine AW_ret ?_
                refine blR ?_
                refine thenR ?_
                obtain rfl := Option.some.inj hr
                exact res1 rfl (rvT rfl)
              · have hr := hr.trans (cond_f h)
                clear h
                refine AW_cut (σ := Bool) (fun v => ⟨[(7, .inl (fl .f32 x1)), (8, .inl (fl .f32 x2)), (32, .inl (is (Bl v)))], []⟩) (fun v => some r = F331_5 N x1 x2 v) ?_ ?_
                · skip
                  refine AW_region ?_
                  refine AL_cons (LR_bin (at_tmp 13 _) (at_c (v' := U8 (3#8)) rfl) (eql_U8 a0 (3#8)) rfl) (sS (sA (sT1 rfl) sT0) sB0 sF0) ?_
                  refine AL_cons (LR_assign (at_tmp 33 _) rfl) (sS (sT1 rfl) sB0 sF0) ?_
                  refine AL_nil ?_
                  exact thenN (cutLeaf (v := a0 == (3#8)) hr (weak0 ((sT rfl (sT rfl (sT rfl sT0)))) sub_nil))
                · rintro x6 hr
                  show AW Hfaa.prog _ _ _ ⟨[(7, .inl (fl .f32 x1)), (8, .inl (fl .f32 x2)), (32, .inl (is (Bl x6)))], []⟩
                  have hr : some r = F331_5 N x1 x2 x6 := hr
                  refine AW_condT (b := x6) rfl (fun h => ?_) (fun h => ?_)
                  · have hr := hr.trans (cond_t h)
                    clear h
                    refine AW_seq1 ?_
                    refine AW_region ?_
                    refine AL_cons (LR_move (at_tmp 7 _) rfl) (sS (sT1 rfl) sB0 sF0) ?_
                    refine AL_cons (LR_move (at_tmp 8 _) rfl) (sS (sT1 rfl) sB0 sF0) ?_
                    refine AL_cons (LR_fbin rfl (at_tmp 34 _) (at_tmp 35 _) rfl) (sS (sA (sT1 rfl) (sT1 rfl)) sB0 sF0) ?_
                    obtain ⟨y18, hy18, hr⟩ := bind_some hr
                    refine AL_cons (LR_call Hfaa.func387 rfl rfl (C387 N (fbits .quo .f32 x1 x2) y18 hy18) (all_cons (at_tmp 36 _) all_nil) rfl) (sS (sA (sT1 rfl) sT0) sB0 sF0) ?_
                    refine AL_cons (LR_assign (at_tmp 37 _) rfl) (sS (sT1 rfl) sB0 sF0) ?_
                    refine AL_nil ?_
                    refine thenN ?_
                    refine AW_ret ?_
                    refine blR ?_
                    refine thenR ?_
                    obtain rfl := Option.some.inj hr
                    exact res1 rfl (rvT rfl)
                  · have hr := hr.trans (cond_f h)
                    clear h
                    refine AW_skip ?_
                    refine blN ?_
                    refine thenN ?_
                    refine AW_seq1 ?_
                    refine AW_region ?_
                    refine AL_cons (LR_assign (at_c (v' := U32 (2143289344#32)) rfl) rfl) (sS sT0 sB0 sF0) ?_
                    refine AL_nil ?_
                    refine thenN ?_
                    refine AW_ret ?_
                    obtain rfl := Option.some.inj hr
                    exact res1 rfl (rvT rfl)
/-- calc/na.bin -/
def F235 (N : Nat) (a0 : Bool) (a1 : BitVec 8) (a2 : BitVec 64) (a3 : BitVec 64) : Option (BitVec 64) := bif a0 then (F330 N a1 a2 a3).bind fun y4 => some y4 else (F331 N a1 (BitVec.ofInt 32 (a2.toNat : Int)) (BitVec.ofInt 32 (a3.toNat : Int))).bind fun y6 => some (BitVec.ofInt 64 (y6.toNat : Int))
theorem C235 (N : Nat) (a0 : Bool) (a1 : BitVec 8) (a2 : BitVec 64) (a3 : BitVec 64) (r : BitVec 64) (hr : some r = F235 N a0 a1 a2 a3) : Aw.Fn Hfaa.prog 235 [is (Bl a0), is (U8 a1), is (U64 a2), is (U64 a3)] (is (U64 r)) := by
  refine fn_intro Hfaa.func235 rfl rfl rfl ?_
  intro bn0 w0 H0
  refine AW_seq1 ?_
  refine AW_region ?_
  refine AL_cons (LR_assign (at_c (v' := U64 (0#64)) rfl) rfl) (sS sT0 sB0 sF0) ?_
  refine AL_nil ?_
  refine thenN ?_
  refine AW_seq1 ?_
  refine AW_seq1 ?_
  refine AW_region ?_
  refine AL_cons (LR_move (at_tmp 0 _) rfl) (sS (sT1 rfl) sB0 sF0) ?_
  refine AL_nil ?_
  refine thenN ?_
  refine AW_condT (b := a0) rfl (fun h => ?_) (fun h => ?_)
  · have hr := hr.trans (cond_t h)
    clear h
    refine AW_seq1 ?_
    refine AW_region ?_
    refine AL_cons (LR_move (at_tmp 1 _) rfl) (sS (sT1 rfl) sB0 sF0) ?_
    refine AL_cons (LR_move (at_tmp 2 _) rfl) (sS (sT1 rfl) sB0 sF0) ?_
    refine AL_cons (LR_move (at_tmp 3 _) rfl) (sS (sT1 rfl) sB0 sF0) ?_
    obtain ⟨y4, hy4, hr⟩ := bind_some hr
    refine AL_cons (LR_call Hfaa.func330 rfl rfl (C330 N a1 a2 a3 y4 hy4) (all_cons (at_tmp 10 _) (all_cons (at_tmp 11 _) (all_cons (at_tmp 12 _) all_nil))) rfl) (sS (sA (sT1 rfl) (sA (sT1 rfl) (sA (sT1 rfl) sT0))) sB0 sF0) ?_
    refine AL_cons (LR_assign (at_tmp 13 _) rfl) (sS (sT1 rfl) sB0 sF0) ?_
    refine AL_nil ?_
    refine thenN ?_
    refine AW_ret ?_
    refine thenR ?_
    obtain rfl := Option.some.inj hr
    exact res1 rfl (rvT rfl)
  · have hr := hr.trans (cond_f h)
    clear h
    refine AW_skip ?_
    refine thenN ?_
    refine AW_seq1 ?_
    refine AW_region ?_
    refine AL_cons (LR_move (at_tmp 1 _) rfl) (sS (sT1 rfl) sB0 sF0) ?_
    refine AL_cons (LR_move (at_tmp 2 _) rfl) (sS (sT1 rfl) sB0 sF0) ?_
    refine AL_cons (LR_conv (vx := U64 a2) (at_tmp 15 _) (conv_U32 Hfaa.underlying30 Hfaa.underlying65 (a2.toNat : Int)) rfl) (sS (sT1 rfl) sB0 sF0) ?_
    refine AL_cons (LR_move (at_tmp 3 _) rfl) (sS (sT1 rfl) sB0 sF0) ?_
    refine AL_cons (LR_conv (vx := U64 a3) (at_tmp 17 _) (conv_U32 Hfaa.underlying30 Hfaa.underlying65 (a3.toNat : Int)) rfl) (sS (sT1 rfl) sB0 sF0) ?_
    obtain ⟨y6, hy6, hr⟩ := bind_some hr
    refine AL_cons (LR_call Hfaa.func331 rfl rfl (C331 N a1 (BitVec.ofInt 32 (a2.toNat : Int)) (BitVec.ofInt 32 (a3.toNat : Int)) y6 hy6) (all_cons (at_tmp 14 _) (all_cons (at_tmp 16 _) (all_cons (at_tmp 18 _) all_nil))) rfl) (sS (sA (sT1 rfl) (sA (sT1 rfl) (sA (sT1 rfl) sT0))) sB0 sF0) ?_
    refine AL_cons (LR_conv (vx := U32 y6) (at_tmp 19 _) (conv_U64 Hfaa.underlying65 Hfaa.underlying30 (y6.toNat : Int)) rfl) (sS (sT1 rfl) sB0 sF0) ?_
    refine AL_cons (LR_assign (at_tmp 20 _) rfl) (sS (sT1 rfl) sB0 sF0) ?_
    refine AL_nil ?_
    refine thenN ?_
    refine AW_ret ?_
    obtain rfl := Option.some.inj hr
    exact res1 rfl (rvT rfl)
/-- math.Sqrt -/
def F408 (a0 : Option Nat) : Option Nat := fsqrt a0
theorem C408 (a0 : Option Nat) (r : Option Nat) (hr : r = F408 a0) : Aw.Fn Hfaa.prog 408 [fl .f64 a0] (fl .f64 r) := by
  refine fn_intro Hfaa.func408 rfl rfl rfl ?_
  intro bn0 w0 H0
  refine AW_seq1 ?_
  refine AW_region ?_
  refine AL_cons (LR_assign (at_f rfl) rfl) (sS sT0 sB0 sF0) ?_
  refine AL_nil ?_
  refine thenN ?_
  refine AW_seq1 ?_
  refine AW_region ?_
  refine AL_cons (LR_move (at_tmp 0 _) rfl) (sS (sT1 rfl) sB0 sF0) ?_
  refine AL_cons (LR_ext (ex420 a0) (all_cons (at_tmp 3 _) all_nil) rfl) (sS (sA (sT1 rfl) sT0) sB0 sF0) ?_
  refine AL_cons (LR_assign (at_tmp 4 _) rfl) (sS (sT1 rfl) sB0 sF0) ?_
  refine AL_nil ?_
  refine thenN ?_
  refine AW_ret ?_
  subst hr
  exact res1 rfl (rvT rfl)
/-- native.sqrt -/
def F388 (a0 : Option Nat) : Option Nat := lt (F408 a0) fun y2 => y2
theorem C388 (a0 : Option Nat) (r : Option Nat) (hr : r = F388 a0) : Aw.Fn Hfaa.prog 388 [fl .f64 a0] (fl .f64 r) := by
  refine fn_intro Hfaa.func388 rfl rfl rfl ?_
  intro bn0 w0 H0
  refine AW_seq1 ?_
  refine AW_region ?_
  refine AL_cons (LR_assign (at_f rfl) rfl) (sS sT0 sB0 sF0) ?_
  refine AL_nil ?_
  refine thenN ?_
  refine AW_seq1 ?_
  refine AW_region ?_
  refine AL_cons (LR_move (at_tmp 0 _) rfl) (sS (sT1 rfl) sB0 sF0) ?_
  obtain ⟨y2, hy2, hr⟩ := lt_some hr
  refine AL_cons (LR_call Hfaa.func408 rfl rfl (C408 a0 y2 hy2) (all_cons (at_tmp 3 _) all_nil) rfl) (sS (sA (sT1 rfl) sT0) sB0 sF0) ?_
  refine AL_cons (LR_assign (at_tmp 4 _) rfl) (sS (sT1 rfl) sB0 sF0) ?_
  refine AL_nil ?_
  refine thenN ?_
  refine AW_ret ?_
  subst hr
  exact res1 rfl (rvT rfl)
/-- native.Sqrt64 -/
def F332 (N : Nat) (a0 : BitVec 64) : Option (BitVec 64) := lt (F384 a0) fun y4 => lt (F388 y4) fun y5 => (F385 N y5).bind fun y6 => some y6
theorem C332 (N : Nat) (a0 : BitVec 64) (r : BitVec 64) (hr : some r = F332 N a0) : Aw.Fn Hfaa.prog 332 [is (U64 a0)] (is (U64 r)) := by
  refine fn_intro Hfaa.func332 rfl rfl rfl ?_
  intro bn0 w0 H0
  refine AW_seq1 ?_
  refine AW_region ?_
  refine AL_cons (LR_assign (at_c (v' := U64 (0#64)) rfl) rfl) (sS sT0 sB0 sF0) ?_
  refine AL_nil ?_
  refine thenN ?_
  refine AW_seq1 ?_
  refine AW_region ?_
  refine AL_cons (LR_move (at_tmp 0 _) rfl) (sS (sT1 rfl) sB0 sF0) ?_
  obtain ⟨y4, hy4, hr⟩ := lt_some hr
  refine AL_cons (LR_call Hfaa.func384 rfl rfl (C384 a0 y4 hy4) (all_cons (at_tmp 3 _) all_nil) rfl) (sS (sA (sT1 rfl) sT0) sB0 sF0) ?_
  obtain ⟨y5, hy5, hr⟩ := lt_some hr
  refine AL_cons (LR_call Hfaa.func388 rfl rfl (C388 y4 y5 hy5) (all_cons (at_tmp 4 _) all_nil) rfl) (sS (sA (sT1 rfl) sT0) sB0 sF0) ?_
  obtain ⟨y6, hy6, hr⟩ := bind_some hr
  refine AL_cons (LR_call Hfaa.func385 rfl rfl (C385 N y5 y6 hy6) (all_cons (at_tmp 5 _) all_nil) rfl) (sS (sA (sT1 rfl) sT0) sB0 sF0) ?_
  refine AL_cons (LR_assign (at_tmp 6 _) rfl) (sS (sT1 rfl) sB0 sF0) ?_
  refine AL_nil ?_
  refine thenN ?_
  refine AW_ret ?_
  obtain rfl := Option.some.inj hr
  exact res1 rfl (rvT rfl)
/-- native.Sqrt32 -/
def F333 (N : Nat) (a0 : BitVec 32) : Option (BitVec 32) := lt (F386 a0) fun y4 => bif fcOk .f32 .f64 y4 then lt (F388 (fcVal .f32 .f64 y4)) fun y5 => bif fcOk .f64 .f32 y5 then (F387 N (fcVal .f64 .f32 y5)).bind fun y6 => some y6 else none else none
theorem C333 (N : Nat) (a0 : BitVec 32) (r : BitVec 32) (hr : some r = F333 N a0) : Aw.Fn Hfaa.prog 333 [is (U32 a0)] (is (U32 r)) := by
  refine fn_intro Hfaa.func333 rfl rfl rfl ?_
  intro bn0 w0 H0
  refine AW_seq1 ?_
  refine AW_region ?_
  refine AL_cons (LR_assign (at_c (v' := U32 (0#32)) rfl) rfl) (sS sT0 sB0 sF0) ?_
  refine AL_nil ?_
  refine thenN ?_
  refine AW_seq1 ?_
  refine AW_region ?_
  refine AL_cons (LR_move (at_tmp 0 _) rfl) (sS (sT1 rfl) sB0 sF0) ?_
  obtain ⟨y4, hy4, hr⟩ := lt_some hr
  refine AL_cons (LR_call Hfaa.func386 rfl rfl (C386 a0 y4 hy4) (all_cons (at_tmp 3 _) all_nil) rfl) (sS (sA (sT1 rfl) sT0) sB0 sF0) ?_
  obtain ⟨hg3, hr⟩ := guard_some hr
  refine AL_cons (LR_convFF Hfaa.underlying191 Hfaa.underlying188 (at_tmp 4 _) hg3 rfl) (sS (sT1 rfl) sB0 sF0) ?_
  obtain ⟨y5, hy5, hr⟩ := lt_some hr
  refine AL_cons (LR_call Hfaa.func388 rfl rfl (C388 (fcVal .f32 .f64 y4) y5 hy5) (all_cons (at_tmp 5 _) all_nil) rfl) (sS (sA (sT1 rfl) sT0) sB0 sF0) ?_
  obtain ⟨hg4, hr⟩ := guard_some hr
  refine AL_cons (LR_convFF Hfaa.underlying188 Hfaa.underlying191 (at_tmp 6 _) hg4 rfl) (sS (sT1 rfl) sB0 sF0) ?_
  obtain ⟨y6, hy6, hr⟩ := bind_some hr
  refine AL_cons (LR_call Hfaa.func387 rfl rfl (C387 N (fcVal .f64 .f32 y5) y6 hy6) (all_cons (at_tmp 7 _) all_nil) rfl) (sS (sA (sT1 rfl) sT0) sB0 sF0) ?_
  refine AL_cons (LR_assign (at_tmp 8 _) rfl) (sS (sT1 rfl) sB0 sF0) ?_
  refine AL_nil ?_
  refine thenN ?_
  refine AW_ret ?_
  obtain rfl := Option.some.inj hr
  exact res1 rfl (rvT rfl)
/-- native.Neg64 -/
def F334 (N : Nat) (a0 : BitVec 64) : Option (BitVec 64) := lt (F384 a0) fun y3 => (F385 N (fneg .f64 y3)).bind fun y4 => some y4
theorem C334 (N : Nat) (a0 : BitVec 64) (r : BitVec 64) (hr : some r = F334 N a0) : Aw.Fn Hfaa.prog 334 [is (U64 a0)] (is (U64 r)) := by
  refine fn_intro Hfaa.func334 rfl rfl rfl ?_
  intro bn0 w0 H0
  refine AW_seq1 ?_
  refine AW_region ?_
  refine AL_cons (LR_assign (at_c (v' := U64 (0#64)) rfl) rfl) (sS sT0 sB0 sF0) ?_
  refine AL_nil ?_
  refine thenN ?_
  refine AW_seq1 ?_
  refine AW_region ?_
  refine AL_cons (LR_move (at_tmp 0 _) rfl) (sS (sT1 rfl) sB0 sF0) ?_
  obtain ⟨y3, hy3, hr⟩ := lt_some hr
  refine AL_cons (LR_call Hfaa.func384 rfl rfl (C384 a0 y3 hy3) (all_cons (at_tmp 3 _) all_nil) rfl) (sS (sA (sT1 rfl) sT0) sB0 sF0) ?_
  refine AL_cons (LR_fneg (at_tmp 4 _) rfl) (sS (sT1 rfl) sB0 sF0) ?_
  obtain ⟨y4, hy4, hr⟩ := bind_some hr
  refine AL_cons (LR_call Hfaa.func385 rfl rfl (C385 N (fneg .f64 y3) y4 hy4) (all_cons (at_tmp 5 _) all_nil) rfl) (sS (sA (sT1 rfl) sT0) sB0 sF0) ?_
  refine AL_cons (LR_assign (at_tmp 6 _) rfl) (sS (sT1 rfl) sB0 sF0) ?_
  refine AL_nil ?_
  refine thenN ?_
  refine AW_ret ?_
  obtain rfl := Option.some.inj hr
  exact res1 rfl (rvT rfl)
/-- native.Neg32 -/
def F335 (N : Nat) (a0 : BitVec 32) : Option (BitVec 32) := lt (F386 a0) fun y3 => (F387 N (fneg .f32 y3)).bind fun y4 => some y4
theorem C335 (N : Nat) (a0 : BitVec 32) (r : BitVec 32) (hr : some r = F335 N a0) : Aw.Fn Hfaa.prog 335 [is (U32 a0)] (is (U32 r)) := by
  refine fn_intro Hfaa.func335 rfl rfl rfl ?_
  intro bn0 w0 H0
  refine AW_seq1 ?_
  refine AW_region ?_
  refine AL_cons (LR_assign (at_c (v' := U32 (0#32)) rfl) rfl) (sS sT0 sB0 sF0) ?_
  refine AL_nil ?_
  refine thenN ?_
  refine AW_seq1 ?_
  refine AW_region ?_
  refine AL_cons (LR_move (at_tmp 0 _) rfl) (sS (sT1 rfl) sB0 sF0) ?_
  obtain ⟨y3, hy3, hr⟩ := lt_some hr
  refine AL_cons (LR_call Hfaa.func386 rfl rfl (C386 a0 y3 hy3) (all_cons (at_tmp 3 _) all_nil) rfl) (sS (sA (sT1 rfl) sT0) sB0 sF0) ?_
  refine AL_cons (LR_fneg (at_tmp 4 _) rfl) (sS (sT1 rfl) sB0 sF0) ?_
  obtain ⟨y4, hy4, hr⟩ := bind_some hr
  refine AL_cons (LR_call Hfaa.func387 rfl rfl (C387 N (fneg .f32 y3) y4 hy4) (all_cons (at_tmp 5 _) all_nil) rfl) (sS (sA (sT1 rfl) sT0) sB0 sF0) ?_
  refine AL_cons (LR_assign (at_tmp 6 _) rfl) (sS (sT1 rfl) sB0 sF0) ?_
  refine AL_nil ?_
  refine thenN ?_
  refine AW_ret ?_
  obtain rfl := Option.some.inj hr
  exact res1 rfl (rvT rfl)
/-- native.Abs64 -/
def F336_2 (N : Nat) (x2 : Option Nat) : Option (BitVec 64) := (F385 N x2).bind fun y3 => some y3
def F336_4 (N : Nat) (x1 : Option Nat) (x4 : Bool) : Option (BitVec 64) := bif x4 then F336_2 N (some 0) else F336_2 N x1
def F336_3 (N : Nat) (x1 : Option Nat) (x3 : Bool) : Option (BitVec 64) := bif x3 then F336_2 N (fneg .f64 x1) else F336_4 N x1 (fcmp .eql .f64 x1 (some 0))
def F336_1 (N : Nat) (x1 : Option Nat) : Option (BitVec 64) := F336_3 N x1 (fcmp .lss .f64 x1 (some 0))
def F336 (N : Nat) (a0 : BitVec 64) : Option (BitVec 64) := lt (F384 a0) fun y4 => F336_1 N y4
theorem C336 (N : Nat) (a0 : BitVec 64) (r : BitVec 64) (hr : some r = F336 N a0) : Aw.Fn Hfaa.prog 336 [is (U64 a0)] (is (U64 r)) := by
  refine fn_intro Hfaa.func336 rfl rfl rfl ?_
  intro bn0 w0 H0
  refine AW_seq1 ?_
  refine AW_region ?_
  refine AL_cons (LR_assign (at_c (v' := U64 (0#64)) rfl) rfl) (sS sT0 sB0 sF0) ?_
  refine AL_nil ?_
  refine thenN ?_
  refine AW_cut (σ := Option Nat) (fun v => ⟨[(3, .inl (fl .f64 v))], []⟩) (fun v => some r = F336_1 N v) ?_ ?_
  · skip
    refine AW_region ?_
    refine AL_cons (LR_move (at_tmp 0 _) rfl) (sS (sT1 rfl) sB0 sF0) ?_
    obtain ⟨y4, hy4, hr⟩ := lt_some hr
    refine AL_cons (LR_call Hfaa.func384 rfl rfl (C384 a0 y4 hy4) (all_cons (at_tmp 4 _) all_nil) rfl) (sS (sA (sT1 rfl) sT0) sB0 sF0) ?_
    refine AL_cons (LR_assign (at_tmp 5 _) rfl) (sS (sT1 rfl) sB0 sF0) ?_
    refine AL_nil ?_
    exact thenN (cutLeaf (v := y4) hr (weak0 ((sT rfl sT0)) sub_nil))
  · rintro x1 hr
    show AW Hfaa.prog _ _ _ ⟨[(3, .inl (fl .f64 x1))], []⟩
    have hr : some r = F336_1 N x1 := hr
    refine AW_cut (σ := Option Nat) (fun v => ⟨[(3, .inl (fl .f64 v))], []⟩) (fun v => some r = F336_2 N v) ?_ ?_
    · skip
      refine AW_block ?_
      refine AW_cut (σ := Bool) (fun v => ⟨[(3, .inl (fl .f64 x1)), (6, .inl (is (Bl v)))], []⟩) (fun v => some r = F336_3 N x1 v) ?_ ?_
      · skip
        refine AW_region ?_
        refine AL_cons (LR_move (at_tmp 3 _) rfl) (sS (sT1 rfl) sB0 sF0) ?_
        refine AL_cons (LR_fcmp rfl (at_tmp 7 _) (at_f rfl) rfl) (sS (sA (sT1 rfl) sT0) sB0 sF0) ?_
        refine AL_cons (LR_assign (at_tmp 8 _) rfl) (sS (sT1 rfl) sB0 sF0) ?_
        refine AL_nil ?_
        exact thenN (cutLeaf (v := fcmp .lss .f64 x1 (some 0)) hr (weak0 ((sT rfl (sT rfl sT0))) sub_nil))
      · rintro x3 hr
        show AW Hfaa.prog _ _ _ ⟨[(3, .inl (fl .f64 x1)), (6, .inl (is (Bl x3)))], []⟩
        have hr : some r = F336_3 N x1 x3 := hr
        refine AW_condT (b := x3) rfl (fun h => ?_) (fun h => ?_)
        · have hr := hr.trans (cond_t h)
          clear h
          refine AW_region ?_
          refine AL_cons (LR_move (at_tmp 3 _) rfl) (sS (sT1 rfl) sB0 sF0) ?_
          refine AL_cons (LR_fneg (at_tmp 9 _) rfl) (sS (sT1 rfl) sB0 sF0) ?_
          refine AL_cons (LR_assign (at_tmp 10 _) rfl) (sS (sT1 rfl) sB0 sF0) ?_
          refine AL_nil ?_
          refine blN ?_
          exact thenN (cutLeaf (v := fneg .f64 x1) hr (weak0 ((sT rfl sT0)) sub_nil))
        · have hr := hr.trans (cond_f h)
          clear h
          refine AW_cut (σ := Bool) (fun v => ⟨[(3, .inl (fl .f64 x1)), (11, .inl (is (Bl v)))], []⟩) (fun v => some r = F336_4 N x1 v) ?_ ?_
          · skip
            refine AW_region ?_
            refine AL_cons (LR_move (at_tmp 3 _) rfl) (sS (sT1 rfl) sB0 sF0) ?_
            refine AL_cons (LR_fcmp rfl (at_tmp 12 _) (at_f rfl) rfl) (sS (sA (sT1 rfl) sT0) sB0 sF0) ?_
            refine AL_cons (LR_assign (at_tmp 13 _) rfl) (sS (sT1 rfl) sB0 sF0) ?_
            refine AL_nil ?_
            exact thenN (cutLeaf (v := fcmp .eql .f64 x1 (some 0)) hr (weak0 ((sT rfl (sT rfl sT0))) sub_nil))
          · rintro x4 hr
            show AW Hfaa.prog _ _ _ ⟨[(3, .inl (fl .f64 x1)), (11, .inl (is (Bl x4)))], []⟩
            have hr : some r = F336_4 N x1 x4 := hr
            refine AW_condT (b := x4) rfl (fun h => ?_) (fun h => ?_)
            · have hr := hr.trans (cond_t h)
              clear h
              refine AW_region ?_
              refine AL_cons (LR_assign (at_f rfl) rfl) (sS sT0 sB0 sF0) ?_
              refine AL_nil ?_
              refine blN ?_
              exact thenN (cutLeaf (v := (some 0)) hr (weak0 ((sT rfl sT0)) sub_nil))
            · have hr := hr.trans (cond_f h)
              clear h
              refine AW_skip ?_
              refine blN ?_
              exact thenN (cutLeaf (v := x1) hr (weak0 ((sT rfl sT0)) sub_nil))
    · rintro x2 hr
      show AW Hfaa.prog _ _ _ ⟨[(3, .inl (fl .f64 x2))], []⟩
      have hr : some r = F336_2 N x2 := hr
      refine AW_seq1 ?_
      refine AW_region ?_
      refine AL_cons (LR_move (at_tmp 3 _) rfl) (sS (sT1 rfl) sB0 sF0) ?_
      obtain ⟨y3, hy3, hr⟩ := bind_some hr
      refine AL_cons (LR_call Hfaa.func385 rfl rfl (C385 N x2 y3 hy3) (all_cons (at_tmp 14 _) all_nil) rfl) (sS (sA (sT1 rfl) sT0) sB0 sF0) ?_
      refine AL_cons (LR_assign (at_tmp 15 _) rfl) (sS (sT1 rfl) sB0 sF0) ?_
      refine AL_nil ?_
      refine thenN ?_
      refine AW_ret ?_
      obtain rfl := Option.some.inj hr
      exact res1 rfl (rvT rfl)
/-- native.Abs32 -/
def F337_2 (N : Nat) (x2 : Option Nat) : Option (BitVec 32) := (F387 N x2).bind fun y3 => some y3
def F337_4 (N : Nat) (x1 : Option Nat) (x4 : Bool) : Option (BitVec 32) := bif x4 then F337_2 N (some 0) else F337_2 N x1
def F337_3 (N : Nat) (x1 : Option Nat) (x3 : Bool) : Option (BitVec 32) := bif x3 then F337_2 N (fneg .f32 x1) else F337_4 N x1 (fcmp .eql .f32 x1 (some 0))
def F337_1 (N : Nat) (x1 : Option Nat) : Option (BitVec 32) := F337_3 N x1 (fcmp .lss .f32 x1 (some 0))
def F337 (N : Nat) (a0 : BitVec 32) : Option (BitVec 32) := lt (F386 a0) fun y4 => F337_1 N y4
theorem C337 (N : Nat) (a0 : BitVec 32) (r : BitVec 32) (hr : some r = F337 N a0) : Aw.Fn Hfaa.prog 337 [is (U32 a0)] (is (U32 r)) := by
  refine fn_intro Hfaa.func337 rfl rfl rfl ?_
  intro bn0 w0 H0
  refine AW_seq1 ?_
  refine AW_region ?_
  refine AL_cons (LR_assign (at_c (v' := U32 (0#32)) rfl) rfl) (sS sT0 sB0 sF0) ?_
  refine AL_nil ?_
  refine thenN ?_
  refine AW_cut (σ := Option Nat) (fun v => ⟨[(3, .inl (fl .f32 v))], []⟩) (fun v => some r = F337_1 N v) ?_ ?_
  · skip
    refine AW_region ?_
    refine AL_cons (LR_move (at_tmp 0 _) rfl) (sS (sT1 rfl) sB0 sF0) ?_
    obtain ⟨y4, hy4, hr⟩ := lt_some hr
    refine AL_cons (LR_call Hfaa.func386 rfl rfl (C386 a0 y4 hy4) (all_cons (at_tmp 4 _) all_nil) rfl) (sS (sA (sT1 rfl) sT0) sB0 sF0) ?_
    refine AL_cons (LR_assign (at_tmp 5 _) rfl) (sS (sT1 rfl) sB0 sF0) ?_
    refine AL_nil ?_
    exact thenN (cutLeaf (v := y4) hr (weak0 ((sT rfl sT0)) sub_nil))
  · rintro x1 hr
    show AW Hfaa.prog _ _ _ ⟨[(3, .inl (fl .f32 x1))], []⟩
    have hr : some r = F337_1 N x1 := hr
    refine AW_cut (σ := Option Nat) (fun v => ⟨[(3, .inl (fl .f32 v))], []⟩) (fun v => some r = F337_2 N v) ?_ ?_
    · skip
      refine AW_block ?_
      refine AW_cut (σ := Bool) (fun v => ⟨[(3, .inl (fl .f32 x1)), (6, .inl (is (Bl v)))], []⟩) (fun v => some r = F337_3 N x1 v) ?_ ?_
      · skip
        refine AW_region ?_
        refine AL_cons (LR_move (at_tmp 3 _) rfl) (sS (sT1 rfl) sB0 sF0) ?_
        refine AL_cons (LR_fcmp rfl (at_tmp 7 _) (at_f rfl) rfl) (sS (sA (sT1 rfl) sT0) sB0 sF0) ?_
        refine AL_cons (LR_assign (at_tmp 8 _) rfl) (sS (sT1 rfl) sB0 sF0) ?_
        refine AL_nil ?_
        exact thenN (cutLeaf (v := fcmp .lss .f32 x1 (some 0)) hr (weak0 ((sT rfl (sT rfl sT0))) sub_nil))
      · rintro x3 hr
        show AW Hfaa.prog _ _ _ ⟨[(3, .inl (fl .f32 x1)), (6, .inl (is (Bl x3)))], []⟩
        have hr : some r = F337_3 N x1 x3 := hr
        refine AW_condT (b := x3) rfl (fun h => ?_) (fun h => ?_)
        · have hr := hr.trans (cond_t h)
          clear h
          refine AW_region ?_
          refine AL_cons (LR_move (at_tmp 3 _) rfl) (sS (sT1 rfl) sB0 sF0) ?_
          refine AL_cons (LR_fneg (at_tmp 9 _) rfl) (sS (sT1 rfl) sB0 sF0) ?_
          refine AL_cons (LR_assign (at_tmp 10 _) rfl) (sS (sT1 rfl) sB0 sF0) ?_
          refine AL_nil ?_
          refine blN ?_
          exact thenN (cutLeaf (v := fneg .f32 x1) hr (weak0 ((sT rfl sT0)) sub_nil))
        · have hr := hr.trans (cond_f h)
          clear h
          refine AW_cut (σ := Bool) (fun v => ⟨[(3, .inl (fl .f32 x1)), (11, .inl (is (Bl v)))], []⟩) (fun v => some r = F337_4 N x1 v) ?_ ?_
          · skip
            refine AW_region ?_
            refine AL_cons (LR_move (at_tmp 3 _) rfl) (sS (sT1 rfl) sB0 sF0) ?_
            refine AL_cons (LR_fcmp rfl (at_tmp 12 _) (at_f rfl) rfl) (sS (sA (sT1 rfl) sT0) sB0 sF0) ?_
            refine AL_cons (LR_assign (at_tmp 13 _) rfl) (sS (sT1 rfl) sB0 sF0) ?_
            refine AL_nil ?_
            exact thenN (cutLeaf (v := fcmp .eql .f32 x1 (some 0)) hr (weak0 ((sT rfl (sT rfl sT0))) sub_nil))
          · rintro x4 hr
            show AW Hfaa.prog _ _ _ ⟨[(3, .inl (fl .f32 x1)), (11, .inl (is (Bl x4)))], []⟩
            have hr : some r = F337_4 N x1 x4 := hr
            refine AW_condT (b := x4) rfl (fun h => ?_) (fun h => ?_)
            · have hr := hr.trans (cond_t h)
              clear h
              refine AW_region ?_
              refine AL_cons (LR_assign (at_f rfl) rfl) (sS sT0 sB0 sF0) ?_
              refine AL_nil ?_
              refine blN ?_
              exact thenN (cutLeaf (v := (some 0)) hr (weak0 ((sT rfl sT0)) sub_nil))
            · have hr := hr.trans (cond_f h)
              clear h
              refine AW_skip ?_
              refine blN ?_
              exact thenN (cutLeaf (v := x1) hr (weak0 ((sT rfl sT0)) sub_nil))
    · rintro x2 hr
      show AW Hfaa.prog _ _ _ ⟨[(3, .inl (fl .f32 x2))], []⟩
      have hr : some r = F337_2 N x2 := hr
      refine AW_seq1 ?_
      refine AW_region ?_
      refine AL_cons (LR_move (at_tmp 3 _) rfl) (sS (sT1 rfl) sB0 sF0) ?_
      obtain ⟨y3, hy3, hr⟩ := bind_some hr
      refine AL_cons (LR_call Hfaa.func387 rfl rfl (C387 N x2 y3 hy3) (all_cons (at_tmp 14 _) all_nil) rfl) (sS (sA (sT1 rfl) sT0) sB0 sF0) ?_
      refine AL_cons (LR_assign (at_tmp 15 _) rfl) (sS (sT1 rfl) sB0 sF0) ?_
      refine AL_nil ?_
      refine thenN ?_
      refine AW_ret ?_
      obtain rfl := Option.some.inj hr
      exact res1 rfl (rvT rfl)
/-- calc/na.unary -/
def F236_5 (N : Nat) (a0 : Bool) (a2 : BitVec 64) (x1 : BitVec 32) (x5 : Bool) : Option (BitVec 64) := bif x5 then (F335 N x1).bind fun y18 => some (BitVec.ofInt 64 (y18.toNat : Int)) else bif a0 then (F336 N a2).bind fun y20 => some y20 else (F337 N x1).bind fun y22 => some (BitVec.ofInt 64 (y22.toNat : Int))
def F236_4 (N : Nat) (a0 : Bool) (a1 : BitVec 8) (a2 : BitVec 64) (x1 : BitVec 32) (x4 : Bool) : Option (BitVec 64) := bif x4 then (F334 N a2).bind fun y16 => some y16 else F236_5 N a0 a2 x1 (a1 == (6#8))
def F236_3 (N : Nat) (a0 : Bool) (a1 : BitVec 8) (a2 : BitVec 64) (x1 : BitVec 32) (x3 : Bool) : Option (BitVec 64) := bif x3 then (F333 N x1).bind fun y14 => some (BitVec.ofInt 64 (y14.toNat : Int)) else F236_4 N a0 a1 a2 x1 ((a1 == (6#8)) && a0)
def F236_2 (N : Nat) (a0 : Bool) (a1 : BitVec 8) (a2 : BitVec 64) (x1 : BitVec 32) (x2 : Bool) : Option (BitVec 64) := bif x2 then (F332 N a2).bind fun y12 => some y12 else F236_3 N a0 a1 a2 x1 (a1 == (5#8))
def F236_1 (N : Nat) (a0 : Bool) (a1 : BitVec 8) (a2 : BitVec 64) (x1 : BitVec 32) : Option (BitVec 64) := F236_2 N a0 a1 a2 x1 ((a1 == (5#8)) && a0)
def F236 (N : Nat) (a0 : Bool) (a1 : BitVec 8) (a2 : BitVec 64) : Option (BitVec 64) := F236_1 N a0 a1 a2 (BitVec.ofInt 32 (a2.toNat : Int))
theorem C236 (N : Nat) (a0 : Bool) (a1 : BitVec 8) (a2 : BitVec 64) (r : BitVec 64) (hr : some r = F236 N a0 a1 a2) : Aw.Fn Hfaa.prog 236 [is (Bl a0), is (U8 a1), is (U64 a2)] (is (U64 r)) := by
  refine fn_intro Hfaa.func236 rfl rfl rfl ?_
  intro bn0 w0 H0
  refine AW_seq1 ?_
  refine AW_region ?_
  refine AL_cons (LR_assign (at_c (v' := U64 (0#64)) rfl) rfl) (sS sT0 sB0 sF0) ?_
  refine AL_nil ?_
  refine thenN ?_
  refine AW_cut (σ := BitVec 32) (fun v => ⟨[(0, .inl (is (Bl a0))), (1, .inl (is (U8 a1))), (2, .inl (is (U64 a2))), (7, .inl (is (U32 v)))], []⟩) (fun v => some r = F236_1 N a0 a1 a2 v) ?_ ?_
  · skip
    refine AW_region ?_
    refine AL_cons (LR_move (at_tmp 2 _) rfl) (sS (sT1 rfl) sB0 sF0) ?_
    refine AL_cons (LR_conv (vx := U64 a2) (at_tmp 8 _) (conv_U32 Hfaa.underlying30 Hfaa.underlying65 (a2.toNat : Int)) rfl) (sS (sT1 rfl) sB0 sF0) ?_
    refine AL_cons (LR_assign (at_tmp 9 _) rfl) (sS (sT1 rfl) sB0 sF0) ?_
    refine AL_nil ?_
    exact thenN (cutLeaf (v := BitVec.ofInt 32 (a2.toNat : Int)) hr (weak0 ((sT rfl (sT rfl (sT rfl (sT rfl sT0))))) sub_nil))
  · rintro x1 hr
    show AW Hfaa.prog _ _ _ ⟨[(0, .inl (is (Bl a0))), (1, .inl (is (U8 a1))), (2, .inl (is (U64 a2))), (7, .inl (is (U32 x1)))], []⟩
    have hr : some r = F236_1 N a0 a1 a2 x1 := hr
    refine AW_seq1 ?_
    refine AW_block ?_
    refine AW_cut (σ := Bool) (fun v => ⟨[(0, .inl (is (Bl a0))), (1, .inl (is (U8 a1))), (2, .inl (is (U64 a2))), (7, .inl (is (U32 x1))), (10, .inl (is (Bl v)))], []⟩) (fun v => some r = F236_2 N a0 a1 a2 x1 v) ?_ ?_
    · skip
      refine AW_region ?_
      refine AL_cons (LR_move (at_tmp 1 _) rfl) (sS (sT1 rfl) sB0 sF0) ?_
      refine AL_cons (LR_bin (at_tmp 11 _) (at_c (v' := U8 (5#8)) rfl) (eql_U8 a1 (5#8)) rfl) (sS (sA (sT1 rfl) sT0) sB0 sF0) ?_
      refine AL_cons (LR_move (at_tmp 12 _) rfl) (sS (sT1 rfl) sB0 sF0) ?_
      refine AL_cutAt 2 ⟨[(0, .inl (is (Bl a0))), (1, .inl (is (U8 a1))), (2, .inl (is (U64 a2))), (7, .inl (is (U32 x1))), (11, .inl (is (U8 a1))), (12, .inl (is (Bl (a1 == (5#8))))), (13, .inl (is (Bl (a1 == (5#8))))), (15, .inl (is (Bl ((a1 == (5#8)) && a0))))], []⟩ ?_ ?_
      · cases hb : a1 == (5#8)
        · skip
          refine AL_cons (LR_off (b := false) rfl rfl rfl rfl) (sS (sT1 rfl) sB0 sF0) ?_
          refine AL_cons (LR_pick (b := false) (at_tmp 13 _) (at_tmp 14 _) (at_c (v' := Bl false) rfl) rfl) (sS (sA (sT1 rfl) (sA (sT1 rfl) sT0)) sB0 sF0) ?_
          exact AL_nil ⟨rfl, weak0 ((sT rfl (sT rfl (sT rfl (sT rfl (sT rfl (sT rfl (sT rfl (sT rfl sT0))))))))) sub_nil⟩
        · skip
          refine AL_cons (LR_on rfl rfl rfl (LR_move (at_tmp 0 _) rfl)) (sS (sT rfl (sT1 rfl)) sB0 sF0) ?_
          refine AL_cons (LR_pick (b := true) (at_tmp 13 _) (at_tmp 14 _) (at_c (v' := Bl false) rfl) rfl) (sS (sA (sT1 rfl) (sA (sT1 rfl) sT0)) sB0 sF0) ?_
          exact AL_nil ⟨rfl, weak0 ((sT rfl (sT rfl (sT rfl (sT rfl (sT rfl (sT rfl (sT rfl (sT rfl sT0))))))))) sub_nil⟩
      refine AL_cons (LR_assign (at_tmp 15 _) rfl) (sS (sT1 rfl) sB0 sF0) ?_
      refine AL_nil ?_
      exact thenN (cutLeaf (v := (a1 == (5#8)) && a0) hr (weak0 ((sT rfl (sT rfl (sT rfl (sT rfl (sT rfl sT0)))))) sub_nil))
    · rintro x2 hr
      show AW Hfaa.prog _ _ _ ⟨[(0, .inl (is (Bl a0))), (1, .inl (is (U8 a1))), (2, .inl (is (U64 a2))), (7, .inl (is (U32 x1))), (10, .inl (is (Bl x2)))], []⟩
      have hr : some r = F236_2 N a0 a1 a2 x1 x2 := hr
      refine AW_condT (b := x2) rfl (fun h => ?_) (fun h => ?_)
      · have hr := hr.trans (cond_t h)
        clear h
        refine AW_seq1 ?_
        refine AW_region ?_
        refine AL_cons (LR_move (at_tmp 2 _) rfl) (sS (sT1 rfl) sB0 sF0) ?_
        obtain ⟨y12, hy12, hr⟩ := bind_some hr
        refine AL_cons (LR_call Hfaa.func332 rfl rfl (C332 N a2 y12 hy12) (all_cons (at_tmp 16 _) all_nil) rfl) (sS (sA (sT1 rfl) sT0) sB0 sF0) ?_
        refine AL_cons (LR_assign (at_tmp 17 _) rfl) (sS (sT1 rfl) sB0 sF0) ?_
        refine AL_nil ?_
        refine thenN ?_
        refine AW_ret ?_
        refine blR ?_
        refine thenR ?_
        obtain rfl := Option.some.inj hr
        exact res1 rfl (rvT rfl)
      · have hr := hr.trans (cond_f h)
        clear h
        refine AW_cut (σ := Bool) (fun v => ⟨[(0, .inl (is (Bl a0))), (1, .inl (is (U8 a1))), (2, .inl (is (U64 a2))), (7, .inl (is (U32 x1))), (18, .inl (is (Bl v)))], []⟩) (fun v => some r = F236_3 N a0 a1 a2 x1 v) ?_ ?_
        · skip
          refine AW_region ?_
          refine AL_cons (LR_move (at_tmp 1 _) rfl) (sS (sT1 rfl) sB0 sF0) ?_
          refine AL_cons (LR_bin (at_tmp 19 _) (at_c (v' := U8 (5#8)) rfl) (eql_U8 a1 (5#8)) rfl) (sS (sA (sT1 rfl) sT0) sB0 sF0) ?_
          refine AL_cons (LR_assign (at_tmp 20 _) rfl) (sS (sT1 rfl) sB0 sF0) ?_
          refine AL_nil ?_
          exact thenN (cutLeaf (v := a1 == (5#8)) hr (weak0 ((sT rfl (sT rfl (sT rfl (sT rfl (sT rfl sT0)))))) sub_nil))
        · rintro x3 hr
          show AW Hfaa.prog _ _ _ ⟨[(0, .inl (is (Bl a0))), (1, .inl (is (U8 a1))), (2, .inl (is (U64 a2))), (7, .inl (is (U32 x1))), (18, .inl (is (Bl x3)))], []⟩
          have hr : some r = F236_3 N a0 a1 a2 x1 x3 := hr
          refine AW_condT (b := x3) rfl (fun h => ?_) (fun h => ?_)
          · have hr := hr.trans (cond_t h)
            clear h
            refine AW_seq1 ?_
            refine AW_region ?_
            refine AL_cons (LR_move (at_tmp 7 _) rfl) (sS (sT1 rfl) sB0 sF0) ?_
            obtain ⟨y14, hy14, hr⟩ := bind_some hr
            refine AL_cons (LR_call Hfaa.func333 rfl rfl (C333 N x1 y14 hy14) (all_cons (at_tmp 21 _) all_nil) rfl) (sS (sA (sT1 rfl) sT0) sB0 sF0) ?_
            refine AL_cons (LR_conv (vx := U32 y14) (at_tmp 22 _) (conv_U64 Hfaa.underlying65 Hfaa.underlying30 (y14.toNat : Int)) rfl) (sS (sT1 rfl) sB0 sF0) ?_
            refine AL_cons (LR_assign (at_tmp 23 _) rfl) (sS (sT1 rfl) sB0 sF0) ?_
            refine AL_nil ?_
            refine thenN ?_
            refine AW_ret ?_
            refine blR ?_
            refine thenR ?_
            obtain rfl := Option.some.inj hr
            exact res1 rfl (rvT rfl)
          · have hr := hr.trans (cond_f h)
            clear h
            refine AW_cut (σ := Bool) (fun v => ⟨[(0, .inl (is (Bl a0))), (1, .inl (is (U8 a1))), (2, .inl (is (U64 a2))), (7, .inl (is (U32 x1))), (24, .inl (is (Bl v)))], []⟩) (fun v => some r = F236_4 N a0 a1 a2 x1 v) ?_ ?_
            · skip
              refine AW_region ?_
              refine AL_cons (LR_move (at_tmp 1 _) rfl) (sS (sT1 rfl) sB0 sF0) ?_
              refine AL_cons (LR_bin (at_tmp 25 _) (at_c (v' := U8 (6#8)) rfl) (eql_U8 a1 (6#8)) rfl) (sS (sA (sT1 rfl) sT0) sB0 sF0) ?_
              refine AL_cons (LR_move (at_tmp 26 _) rfl) (sS (sT1 rfl) sB0 sF0) ?_
              refine AL_cutAt 2 ⟨[(0, .inl (is (Bl a0))), (1, .inl (is (U8 a1))), (2, .inl (is (U64 a2))), (7, .inl (is (U32 x1))), (18, .inl (is (Bl x3))), (25, .inl (is (U8 a1))), (26, .inl (is (Bl (a1 == (6#8))))), (27, .inl (is (Bl (a1 == (6#8))))), (29, .inl (is (Bl ((a1 == (6#8)) && a0))))], []⟩ ?_ ?_
              · cases hb : a1 == (6#8)
                · skip
                  refine AL_cons (LR_off (b := false) rfl rfl rfl rfl) (sS (sT1 rfl) sB0 sF0) ?_
                  refine AL_cons (LR_pick (b := false) (at_tmp 27 _) (at_tmp 28 _) (at_c (v' := Bl false) rfl) rfl) (sS (sA (sT1 rfl) (sA (sT1 rfl) sT0)) sB0 sF0) ?_
                  exact AL_nil ⟨rfl, weak0 ((sT rfl (sT rfl (sT rfl (sT rfl (sT rfl (sT rfl (sT rfl (sT rfl (sT rfl sT0)))))))))) sub_nil⟩
                · skip
                  refine AL_cons (LR_on rfl rfl rfl (LR_move (at_tmp 0 _) rfl)) (sS (sT rfl (sT1 rfl)) sB0 sF0) ?_
                  refine AL_cons (LR_pick (b := true) (at_tmp 27 _) (at_tmp 28 _) (at_c (v' := Bl false) rfl) rfl) (sS (sA (sT1 rfl) (sA (sT1 rfl) sT0)) sB0 sF0) ?_
                  exact AL_nil ⟨rfl, weak0 ((sT rfl (sT rfl (sT rfl (sT rfl (sT rfl (sT rfl (sT rfl (sT rfl (sT rfl sT0)))))))))) sub_nil⟩
              refine AL_cons (LR_assign (at_tmp 29 _) rfl) (sS (sT1 rfl) sB0 sF0) ?_
              refine AL_nil ?_
              exact thenN (cutLeaf (v := (a1 == (6#8)) && a0) hr (weak0 ((sT rfl (sT rfl (sT rfl (sT rfl (sT rfl sT0)))))) sub_nil))
            · rintro x4 hr
              show AW Hfaa.prog _ _ _ ⟨[(0, .inl (is (Bl a0))), (1, .inl (is (U8 a1))), (2, .inl (is (U64 a2))), (7, .inl (is (U32 x1))), (24, .inl (is (Bl x4)))], []⟩
              have hr : some r = F236_4 N a0 a1 a2 x1 x4 := hr
              refine AW_condT (b := x4) rfl (fun h => ?_) (fun h => ?_)
              · have hr := hr.trans (cond_t h)
                clear h
                refine AW_seq1 ?_
                refine AW_region ?_
                refine AL_cons (LR_move (at_tmp 2 _) rfl) (sS (sT1 rfl) sB0 sF0) ?_
                obtain ⟨y16, hy16, hr⟩ := bind_some hr
                refine AL_cons (LR_call Hfaa.func334 rfl rfl (C334 N a2 y16 hy16) (all_cons (at_tmp 30 _) all_nil) rfl) (sS (sA (sT1 rfl) sT0) sB0 sF0) ?_
                refine AL_cons (LR_assign (at_tmp 31 _) rfl) (sS (sT1 rfl) sB0 sF0) ?_
                refine AL_nil ?_
                refine thenN ?_
                refine AW_ret ?_
                refine blR ?_
                refine thenR ?_
                obtain rfl := Option.some.inj hr
                exact res1 rfl (rvT rfl)
              · have hr := hr.trans (cond_f h)
                clear h
                refine AW_cut (σ := Bool) (fun v => ⟨[(0, .inl (is (Bl a0))), (2, .inl (is (U64 a2))), (7, .inl (is (U32 x1))), (32, .inl (is (Bl v)))], []⟩) (fun v => some r = F236_5 N a0 a2 x1 v) ?_ ?_
                · skip
                  refine AW_region ?_
                  refine AL_cons (LR_move (at_tmp 1 _) rfl) (sS (sT1 rfl) sB0 sF0) ?_
                  refine AL_cons (LR_bin (at_tmp 33 _) (at_c (v' := U8 (6#8)) rfl) (eql_U8 a1 (6#8)) rfl) (sS (sA (sT1 rfl) sT0) sB0 sF0) ?_
                  refine AL_cons (LR_assign (at_tmp 34 _) rfl) (sS (sT1 rfl) sB0 sF0) ?_
                  refine AL_nil ?_
                  exact thenN (cutLeaf (v := a1 == (6#8)) hr (weak0 ((sT rfl (sT rfl (sT rfl (sT rfl sT0))))) sub_nil))
                · rintro x5 hr
                  show AW Hfaa.prog _ _ _ ⟨[(0, .inl (is (Bl a0))), (2, .inl (is (U64 a2))), (7, .inl (is (U32 x1))), (32, .inl (is (Bl x5)))], []⟩
                  have hr : some r = F236_5 N a0 a2 x1 x5 := hr
                  refine AW_condT (b := x5) rfl (fun h => ?_) (fun h => ?_)
                  · have hr := hr.trans (cond_t h)
                    clear h
                    refine AW_seq1 ?_
                    refine AW_region ?_
                    refine AL_cons (LR_move (at_tmp 7 _) rfl) (sS (sT1 rfl) sB0 sF0) ?_
                    obtain ⟨y18, hy18, hr⟩ := bind_some hr
                    refine AL_cons (LR_call Hfaa.func335 rfl rfl (C335 N x1 y18 hy18) (all_cons (at_tmp 35 _) all_nil) rfl) (sS (sA (sT1 rfl) sT0) sB0 sF0) ?_
                    refine AL_cons (LR_conv (vx := U32 y18) (at_tmp 36 _) (conv_U64 Hfaa.underlying65 Hfaa.underlying30 (y18.toNat : Int)) rfl) (sS (sT1 rfl) sB0 sF0) ?_
                    refine AL_cons (LR_assign (at_tmp 37 _) rfl) (sS (sT1 rfl) sB0 sF0) ?_
                    refine AL_nil ?_
                    refine thenN ?_
                    refine AW_ret ?_
                    refine blR ?_
                    refine thenR ?_
                    obtain rfl := Option.some.inj hr
                    exact res1 rfl (rvT rfl)
                  · have hr := hr.trans (cond_f h)
                    clear h
                    refine AW_seq1 ?_
                    refine AW_region ?_
                    refine AL_cons (LR_move (at_tmp 0 _) rfl) (sS (sT1 rfl) sB0 sF0) ?_
                    refine AL_cons (LR_assign (at_tmp 39 _) rfl) (sS (sT1 rfl) sB0 sF0) ?_
                    refine AL_nil ?_
                    refine thenN ?_
                    refine AW_condT (b := a0) rfl (fun h => ?_) (fun h => ?_)
                    · have hr := hr.trans (cond_t h)
                      clear h
                      refine AW_seq1 ?_
                      refine AW_region ?_
                      refine AL_cons (LR_move (at_tmp 2 _) rfl) (sS (sT1 rfl) sB0 sF0) ?_
                      obtain ⟨y20, hy20, hr⟩ := bind_some hr
                      refine AL_cons (LR_call Hfaa.func336 rfl rfl (C336 N a2 y20 hy20) (all_cons (at_tmp 40 _) all_nil) rfl) (sS (sA (sT1 rfl) sT0) sB0 sF0) ?_
                      refine AL_cons (LR_assign (at_tmp 41 _) rfl) (sS (sT1 rfl) sB0 sF0) ?_
                      refine AL_nil ?_
                      refine thenN ?_
                      refine AW_ret ?_
                      refine blR ?_
                      refine thenR ?_
                      obtain rfl := Option.some.inj hr
                      exact res1 rfl (rvT rfl)
                    · have hr := hr.trans (cond_f h)
                      clear h
                      refine AW_skip ?_
                      refine blN ?_
                      refine thenN ?_
                      refine AW_seq1 ?_
                      refine AW_region ?_
                      refine AL_cons (LR_move (at_tmp 7 _) rfl) (sS (sT1 rfl) sB0 sF0) ?_
                      obtain ⟨y22, hy22, hr⟩ := bind_some hr
                      refine AL_cons (LR_call Hfaa.func337 rfl rfl (C337 N x1 y22 hy22) (all_cons (at_tmp 42 _) all_nil) rfl) (sS (sA (sT1 rfl) sT0) sB0 sF0) ?_
                      refine AL_cons (LR_conv (vx := U32 y22) (at_tmp 43 _) (conv_U64 Hfaa.underlying65 Hfaa.underlying30 (y22.toNat : Int)) rfl) (sS (sT1 rfl) sB0 sF0) ?_
                      refine AL_cons (LR_assign (at_tmp 44 _) rfl) (sS (sT1 rfl) sB0 sF0) ?_
                      refine AL_nil ?_
                      refine thenN ?_
                      refine AW_ret ?_
                      obtain rfl := Option.some.inj hr
                      exact res1 rfl (rvT rfl)
end Go.Proofs.YfwaawGreat
