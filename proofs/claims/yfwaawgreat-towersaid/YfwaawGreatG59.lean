import Derived.Test.YfwaawGreatG58
namespace Go.Proofs.YfwaawGreat
open Go.Aw
set_option linter.unusedVariables false
set_option maxRecDepth 100000
set_option maxHeartbeats 1000000
/-- native.Test64 -/
def F389_7 (x1 : Option Nat) (x2 : Option Nat) (x8 : Bool) : Bool := bif x8 then fcmp .geq .f64 x1 x2 else false
def F389_6 (a0 : BitVec 8) (x1 : Option Nat) (x2 : Option Nat) (x7 : Bool) : Bool := bif x7 then fcmp .gtr .f64 x1 x2 else F389_7 x1 x2 (a0 == (5#8))
def F389_5 (a0 : BitVec 8) (x1 : Option Nat) (x2 : Option Nat) (x6 : Bool) : Bool := bif x6 then fcmp .leq .f64 x1 x2 else F389_6 a0 x1 x2 (a0 == (4#8))
def F389_4 (a0 : BitVec 8) (x1 : Option Nat) (x2 : Option Nat) (x5 : Bool) : Bool := bif x5 then fcmp .lss .f64 x1 x2 else F389_5 a0 x1 x2 (a0 == (3#8))
def F389_3 (a0 : BitVec 8) (x1 : Option Nat) (x2 : Option Nat) (x4 : Bool) : Bool := bif x4 then fcmp .neq .f64 x1 x2 else F389_4 a0 x1 x2 (a0 == (2#8))
def F389_2 (a0 : BitVec 8) (x1 : Option Nat) (x2 : Option Nat) (x3 : Bool) : Bool := bif x3 then fcmp .eql .f64 x1 x2 else F389_3 a0 x1 x2 (a0 == (1#8))
def F389_1 (a0 : BitVec 8) (x1 : Option Nat) (x2 : Option Nat) : Bool := F389_2 a0 x1 x2 (a0 == (0#8))
def F389 (a0 : BitVec 8) (a1 : BitVec 64) (a2 : BitVec 64) : Bool := lt (F384 a1) fun y3 => lt (F384 a2) fun y4 => F389_1 a0 y3 y4
theorem C389 (a0 : BitVec 8) (a1 : BitVec 64) (a2 : BitVec 64) (r : Bool) (hr : r = F389 a0 a1 a2) : Aw.Fn Hfaa.prog 389 [is (U8 a0), is (U64 a1), is (U64 a2)] (is (Bl r)) := by
  refine fn_intro Hfaa.func389 rfl rfl rfl ?_
  intro bn0 w0 H0
  refine AW_seq1 ?_
  refine AW_region ?_
  refine AL_cons (LR_assign (at_c (v' := Bl false) rfl) rfl) (sS sT0 sB0 sF0) ?_
  refine AL_nil ?_
  refine thenN ?_
  refine AW_cut (σ := Option Nat × Option Nat) (fun v => ⟨[(0, .inl (is (U8 a0))), (7, .inl (fl .f64 v.1)), (8, .inl (fl .f64 v.2))], []⟩) (fun v => r = F389_1 a0 v.1 v.2) ?_ ?_
  · skip
    refine AW_region ?_
    refine AL_cons (LR_move (at_tmp 1 _) rfl) (sS (sT1 rfl) sB0 sF0) ?_
    obtain ⟨y3, hy3, hr⟩ := lt_some hr
    refine AL_cons (LR_call Hfaa.func384 rfl rfl (C384 a1 y3 hy3) (all_cons (at_tmp 9 _) all_nil) rfl) (sS (sA (sT1 rfl) sT0) sB0 sF0) ?_
    refine AL_cons (LR_move (at_tmp 2 _) rfl) (sS (sT1 rfl) sB0 sF0) ?_
    obtain ⟨y4, hy4, hr⟩ := lt_some hr
    refine AL_cons (LR_call Hfaa.func384 rfl rfl (C384 a2 y4 hy4) (all_cons (at_tmp 11 _) all_nil) rfl) (sS (sA (sT1 rfl) sT0) sB0 sF0) ?_
    refine AL_cons (LR_assign (at_tmp 10 _) rfl) (sS (sT1 rfl) sB0 sF0) ?_
    refine AL_cons (LR_assign (at_tmp 12 _) rfl) (sS (sT1 rfl) sB0 sF0) ?_
    refine AL_nil ?_
    exact thenN (cutLeaf (v := (y3, y4)) hr (weak0 ((sT rfl (sT rfl (sT rfl sT0)))) sub_nil))
  · rintro ⟨x1, x2⟩ hr
    show AW Hfaa.prog _ _ _ ⟨[(0, .inl (is (U8 a0))), (7, .inl (fl .f64 x1)), (8, .inl (fl .f64 x2))], []⟩
    have hr : r = F389_1 a0 x1 x2 := hr
    refine AW_seq1 ?_
    refine AW_seq1 ?_
    refine AW_region ?_
    refine AL_cons (LR_move (at_tmp 0 _) rfl) (sS (sT1 rfl) sB0 sF0) ?_
    refine AL_nil ?_
    refine thenN ?_
    refine AW_block ?_
    refine AW_cut (σ := Bool) (fun v => ⟨[(7, .inl (fl .f64 x1)), (8, .inl (fl .f64 x2)), (13, .inl (is (U8 a0))), (14, .inl (is (Bl v)))], []⟩) (fun v => r = F389_2 a0 x1 x2 v) ?_ ?_
    · skip
      refine AW_region ?_
      refine AL_cons (LR_bin (at_tmp 13 _) (at_c (v' := U8 (0#8)) rfl) (eql_U8 a0 (0#8)) rfl) (sS (sA (sT1 rfl) sT0) sB0 sF0) ?_
      refine AL_cons (LR_assign (at_tmp 15 _) rfl) (sS (sT1 rfl) sB0 sF0) ?_
      refine AL_nil ?_
      exact thenN (cutLeaf (v := a0 == (0#8)) hr (weak0 ((sT rfl (sT rfl (sT rfl (sT rfl sT0))))) sub_nil))
    · rintro x3 hr
      show AW Hfaa.prog _ _ _ ⟨[(7, .inl (fl .f64 x1)), (8, .inl (fl .f64 x2)), (13, .inl (is (U8 a0))), (14, .inl (is (Bl x3)))], []⟩
      have hr : r = F389_2 a0 x1 x2 x3 := hr
      refine AW_condT (b := x3) rfl (fun h => ?_) (fun h => ?_)
      · have hr := hr.trans (cond_t h)
        clear h
        refine AW_seq1 ?_
        refine AW_region ?_
        refine AL_cons (LR_move (at_tmp 7 _) rfl) (sS (sT1 rfl) sB0 sF0) ?_
        refine AL_cons (LR_move (at_tmp 8 _) rfl) (sS (sT1 rfl) sB0 sF0) ?_
        refine AL_cons (LR_fcmp rfl (at_tmp 16 _) (at_tmp 17 _) rfl) (sS (sA (sT1 rfl) (sT1 rfl)) sB0 sF0) ?_
        refine AL_cons (LR_assign (at_tmp 18 _) rfl) (sS (sT1 rfl) sB0 sF0) ?_
        refine AL_nil ?_
        refine thenN ?_
        refine AW_ret ?_
        refine blR ?_
        refine thenR ?_
        subst hr
        exact res1 rfl (rvT rfl)
      · have hr := hr.trans (cond_f h)
        clear h
        refine AW_cut (σ := Bool) (fun v => ⟨[(7, .inl (fl .f64 x1)), (8, .inl (fl .f64 x2)), (13, .inl (is (U8 a0))), (19, .inl (is (Bl v)))], []⟩) (fun v => r = F389_3 a0 x1 x2 v) ?_ ?_
        · skip
          refine AW_region ?_
          refine AL_cons (LR_bin (at_tmp 13 _) (at_c (v' := U8 (1#8)) rfl) (eql_U8 a0 (1#8)) rfl) (sS (sA (sT1 rfl) sT0) sB0 sF0) ?_
          refine AL_cons (LR_assign (at_tmp 20 _) rfl) (sS (sT1 rfl) sB0 sF0) ?_
          refine AL_nil ?_
          exact thenN (cutLeaf (v := a0 == (1#8)) hr (weak0 ((sT rfl (sT rfl (sT rfl (sT rfl sT0))))) sub_nil))
        · rintro x4 hr
          show AW Hfaa.prog _ _ _ ⟨[(7, .inl (fl .f64 x1)), (8, .inl (fl .f64 x2)), (13, .inl (is (U8 a0))), (19, .inl (is (Bl x4)))], []⟩
          have hr : r = F389_3 a0 x1 x2 x4 := hr
          refine AW_condT (b := x4) rfl (fun h => ?_) (fun h => ?_)
          · have hr := hr.trans (cond_t h)
            clear h
            refine AW_seq1 ?_
            refine AW_region ?_
            refine AL_cons (LR_move (at_tmp 7 _) rfl) (sS (sT1 rfl) sB0 sF0) ?_
            refine AL_cons (LR_move (at_tmp 8 _) rfl) (sS (sT1 rfl) sB0 sF0) ?_
            refine AL_cons (LR_fcmp rfl (at_tmp 21 _) (at_tmp 22 _) rfl) (sS (sA (sT1 rfl) (sT1 rfl)) sB0 sF0) ?_
            refine AL_cons (LR_assign (at_tmp 23 _) rfl) (sS (sT1 rfl) sB0 sF0) ?_
            refine AL_nil ?_
            refine thenN ?_
            refine AW_ret ?_
            refine blR ?_
            refine thenR ?_
            subst hr
            exact res1 rfl (rvT rfl)
          · have hr := hr.trans (cond_f h)
            clear h
            refine AW_cut (σ := Bool) (fun v => ⟨[(7, .inl (fl .f64 x1)), (8, .inl (fl .f64 x2)), (13, .inl (is (U8 a0))), (24, .inl (is (Bl v)))], []⟩) (fun v => r = F389_4 a0 x1 x2 v) ?_ ?_
            · skip
              refine AW_region ?_
              refine AL_cons (LR_bin (at_tmp 13 _) (at_c (v' := U8 (2#8)) rfl) (eql_U8 a0 (2#8)) rfl) (sS (sA (sT1 rfl) sT0) sB0 sF0) ?_
              refine AL_cons (LR_assign (at_tmp 25 _) rfl) (sS (sT1 rfl) sB0 sF0) ?_
              refine AL_nil ?_
              exact thenN (cutLeaf (v := a0 == (2#8)) hr (weak0 ((sT rfl (sT rfl (sT rfl (sT rfl sT0))))) sub_nil))
            · rintro x5 hr
              show AW Hfaa.prog _ _ _ ⟨[(7, .inl (fl .f64 x1)), (8, .inl (fl .f64 x2)), (13, .inl (is (U8 a0))), (24, .inl (is (Bl x5)))], []⟩
              have hr : r = F389_4 a0 x1 x2 x5 := hr
              refine AW_condT (b := x5) rfl (fun h => ?_) (fun h => ?_)
              · have hr := hr.trans (cond_t h)
                clear h
                refine AW_seq1 ?_
                refine AW_region ?_
                refine AL_cons (LR_move (at_tmp 7 _) rfl) (sS (sT1 rfl) sB0 sF0) ?_
                refine AL_cons (LR_move (at_tmp 8 _) rfl) (sS (sT1 rfl) sB0 sF0) ?_
                refine AL_cons (LR_fcmp rfl (at_tmp 26 _) (at_tmp 27 _) rfl) (sS (sA (sT1 rfl) (sT1 rfl)) sB0 sF0) ?_
                refine AL_cons (LR_assign (at_tmp 28 _) rfl) (sS (sT1 rfl) sB0 sF0) ?_
                refine AL_nil ?_
                refine thenN ?_
                refine AW_ret ?_
                refine blR ?_
                refine thenR ?_
                subst hr
                exact res1 rfl (rvT rfl)
              · have hr := hr.trans (cond_f h)
                clear h
                refine AW_cut (σ := Bool) (fun v => ⟨[(7, .inl (fl .f64 x1)), (8, .inl (fl .f64 x2)), (13, .inl (is (U8 a0))), (29, .inl (is (Bl v)))], []⟩) (fun v => r = F389_5 a0 x1 x2 v) ?_ ?_
                · skip
                  refine AW_region ?_
                  refine AL_cons (LR_bin (at_tmp 13 _) (at_c (v' := U8 (3#8)) rfl) (eql_U8 a0 (3#8)) rfl) (sS (sA (sT1 rfl) sT0) sB0 sF0) ?_
                  refine AL_cons (LR_assign (at_tmp 30 _) rfl) (sS (sT1 rfl) sB0 sF0) ?_
                  refine AL_nil ?_
                  exact thenN (cutLeaf (v := a0 == (3#8)) hr (weak0 ((sT rfl (sT rfl (sT rfl (sT rfl sT0))))) sub_nil))
                · rintro x6 hr
                  show AW Hfaa.prog _ _ _ ⟨[(7, .inl (fl .f64 x1)), (8, .inl (fl .f64 x2)), (13, .inl (is (U8 a0))), (29, .inl (is (Bl x6)))], []⟩
                  have hr : r = F389_5 a0 x1 x2 x6 := hr
                  refine AW_condT (b := x6) rfl (fun h => ?_) (fun h => ?_)
                  · have hr := hr.trans (cond_t h)
                    clear h
                    refine AW_seq1 ?_
                    refine AW_region ?_
                    refine AL_cons (LR_move (at_tmp 7 _) rfl) (sS (sT1 rfl) sB0 sF0) ?_
                    refine AL_cons (LR_move (at_tmp 8 _) rfl) (sS (sT1 rfl) sB0 sF0) ?_
                    refine AL_cons (LR_fcmp rfl (at_tmp 31 _) (at_tmp 32 _) rfl) (sS (sA (sT1 rfl) (sT1 rfl)) sB0 sF0) ?_
                    refine AL_cons (LR_assign (at_tmp 33 _) rfl) (sS (sT1 rfl) sB0 sF0) ?_
                    refine AL_nil ?_
                    refine thenN ?_
                    refine AW_ret ?_
                    refine blR ?_
                    refine thenR ?_
                    subst hr
                    exact res1 rfl (rvT rfl)
                  · have hr := hr.trans (cond_f h)
                    clear h
                    refine AW_cut (σ := Bool) (fun v => ⟨[(7, .inl (fl .f64 x1)), (8, .inl (fl .f64 x2)), (13, .inl (is (U8 a0))), (34, .inl (is (Bl v)))], []⟩) (fun v => r = F389_6 a0 x1 x2 v) ?_ ?_
                    · skip
                      refine AW_region ?_
                      refine AL_cons (LR_bin (at_tmp 13 _) (at_c (v' := U8 (4#8)) rfl) (eql_U8 a0 (4#8)) rfl) (sS (sA (sT1 rfl) sT0) sB0 sF0) ?_
                      refine AL_cons (LR_assign (at_tmp 35 _) rfl) (sS (sT1 rfl) sB0 sF0) ?_
                      refine AL_nil ?_
                      exact thenN (cutLeaf (v := a0 == (4#8)) hr (weak0 ((sT rfl (sT rfl (sT rfl (sT rfl sT0))))) sub_nil))
                    · rintro x7 hr
                      show AW Hfaa.prog _ _ _ ⟨[(7, .inl (fl .f64 x1)), (8, .inl (fl .f64 x2)), (13, .inl (is (U8 a0))), (34, .inl (is (Bl x7)))], []⟩
                      have hr : r = F389_6 a0 x1 x2 x7 := hr
                      refine AW_condT (b := x7) rfl (fun h => ?_) (fun h => ?_)
                      · have hr := hr.trans (cond_t h)
                        clear h
                        refine AW_seq1 ?_
                        refine AW_region ?_
                        refine AL_cons (LR_move (at_tmp 7 _) rfl) (sS (sT1 rfl) sB0 sF0) ?_
                        refine AL_cons (LR_move (at_tmp 8 _) rfl) (sS (sT1 rfl) sB0 sF0) ?_
                        refine AL_cons (LR_fcmp rfl (at_tmp 36 _) (at_tmp 37 _) rfl) (sS (sA (sT1 rfl) (sT1 rfl)) sB0 sF0) ?_
                        refine AL_cons (LR_assign (at_tmp 38 _) rfl) (sS (sT1 rfl) sB0 sF0) ?_
                        refine AL_nil ?_
                        refine thenN ?_
                        refine AW_ret ?_
                        refine blR ?_
                        refine thenR ?_
                        subst hr
                        exact res1 rfl (rvT rfl)
                      · have hr := hr.trans (cond_f h)
                        clear h
                        refine AW_cut (σ := Bool) (fun v => ⟨[(7, .inl (fl .f64 x1)), (8, .inl (fl .f64 x2)), (39, .inl (is (Bl v)))], []⟩) (fun v => r = F389_7 x1 x2 v) ?_ ?_
                        · skip
                          refine AW_region ?_
                          refine AL_cons (LR_bin (at_tmp 13 _) (at_c (v' := U8 (5#8)) rfl) (eql_U8 a0 (5#8)) rfl) (sS (sA (sT1 rfl) sT0) sB0 sF0) ?_
                          refine AL_cons (LR_assign (at_tmp 40 _) rfl) (sS (sT1 rfl) sB0 sF0) ?_
                          refine AL_nil ?_
                          exact thenN (cutLeaf (v := a0 == (5#8)) hr (weak0 ((sT rfl (sT rfl (sT rfl sT0)))) sub_nil))
                        · rintro x8 hr
                          show AW Hfaa.prog _ _ _ ⟨[(7, .inl (fl .f64 x1)), (8, .inl (fl .f64 x2)), (39, .inl (is (Bl x8)))], []⟩
                          have hr : r = F389_7 x1 x2 x8 := hr
                          refine AW_condT (b := x8) rfl (fun h => ?_) (fun h => ?_)
                          · have hr := hr.trans (cond_t h)
                            clear h
                            refine AW_seq1 ?_
                            refine AW_region ?_
                            refine AL_cons (LR_move (at_tmp 7 _) rfl) (sS (sT1 rfl) sB0 sF0) ?_
                            refine AL_cons (LR_move (at_tmp 8 _) rfl) (sS (sT1 rfl) sB0 sF0) ?_
                            refine AL_cons (LR_fcmp rfl (at_tmp 41 _) (at_tmp 42 _) rfl) (sS (sA (sT1 rfl) (sT1 rfl)) sB0 sF0) ?_
                            refine AL_cons (LR_assign (at_tmp 43 _) rfl) (sS (sT1 rfl) sB0 sF0) ?_
                            refine AL_nil ?_
                            refine thenN ?_
                            refine AW_ret ?_
                            refine blR ?_
                            refine thenR ?_
                            subst hr
                            exact res1 rfl (rvT rfl)
                          · have hr := hr.trans (cond_f h)
                            clear h
                            refine AW_skip ?_
                            refine blN ?_
                            refine thenN ?_
                            refine AW_seq1 ?_
                            refine AW_region ?_
                            refine AL_cons (LR_assign (at_c (v' := Bl false) rfl) rfl) (sS sT0 sB0 sF0) ?_
                            refine AL_nil ?_
                            refine thenN ?_
                            refine AW_ret ?_
                            subst hr
                            exact res1 rfl (rvT rfl)
/-- native.Test32 -/
def F390_7 (x1 : Option Nat) (x2 : Option Nat) (x8 : Bool) : Bool := bif x8 then fcmp .geq .f32 x1 x2 else false
def F390_6 (a0 : BitVec 8) (x1 : Option Nat) (x2 : Option Nat) (x7 : Bool) : Bool := bif x7 then fcmp .gtr .f32 x1 x2 else F390_7 x1 x2 (a0 == (5#8))
def F390_5 (a0 : BitVec 8) (x1 : Option Nat) (x2 : Option Nat) (x6 : Bool) : Bool := bif x6 then fcmp .leq .f32 x1 x2 else F390_6 a0 x1 x2 (a0 == (4#8))
def F390_4 (a0 : BitVec 8) (x1 : Option Nat) (x2 : Option Nat) (x5 : Bool) : Bool := bif x5 then fcmp .lss .f32 x1 x2 else F390_5 a0 x1 x2 (a0 == (3#8))
def F390_3 (a0 : BitVec 8) (x1 : Option Nat) (x2 : Option Nat) (x4 : Bool) : Bool := bif x4 then fcmp .neq .f32 x1 x2 else F390_4 a0 x1 x2 (a0 == (2#8))
def F390_2 (a0 : BitVec 8) (x1 : Option Nat) (x2 : Option Nat) (x3 : Bool) : Bool := bif x3 then fcmp .eql .f32 x1 x2 else F390_3 a0 x1 x2 (a0 == (1#8))
def F390_1 (a0 : BitVec 8) (x1 : Option Nat) (x2 : Option Nat) : Bool := F390_2 a0 x1 x2 (a0 == (0#8))
def F390 (a0 : BitVec 8) (a1 : BitVec 32) (a2 : BitVec 32) : Bool := lt (F386 a1) fun y3 => lt (F386 a2) fun y4 => F390_1 a0 y3 y4
theorem C390 (a0 : BitVec 8) (a1 : BitVec 32) (a2 : BitVec 32) (r : Bool) (hr : r = F390 a0 a1 a2) : Aw.Fn Hfaa.prog 390 [is (U8 a0), is (U32 a1), is (U32 a2)] (is (Bl r)) := by
  refine fn_intro Hfaa.func390 rfl rfl rfl ?_
  intro bn0 w0 H0
  refine AW_seq1 ?_
  refine AW_region ?_
  refine AL_cons (LR_assign (at_c (v' := Bl false) rfl) rfl) (sS sT0 sB0 sF0) ?_
  refine AL_nil ?_
  refine thenN ?_
  refine AW_cut (σ := Option Nat × Option Nat) (fun v => ⟨[(0, .inl (is (U8 a0))), (7, .inl (fl .f32 v.1)), (8, .inl (fl .f32 v.2))], []⟩) (fun v => r = F390_1 a0 v.1 v.2) ?_ ?_
  · skip
    refine AW_region ?_
    refine AL_cons (LR_move (at_tmp 1 _) rfl) (sS (sT1 rfl) sB0 sF0) ?_
    obtain ⟨y3, hy3, hr⟩ := lt_some hr
    refine AL_cons (LR_call Hfaa.func386 rfl rfl (C386 a1 y3 hy3) (all_cons (at_tmp 9 _) all_nil) rfl) (sS (sA (sT1 rfl) sT0) sB0 sF0) ?_
    refine AL_cons (LR_move (at_tmp 2 _) rfl) (sS (sT1 rfl) sB0 sF0) ?_
    obtain ⟨y4, hy4, hr⟩ := lt_some hr
    refine AL_cons (LR_call Hfaa.func386 rfl rfl (C386 a2 y4 hy4) (all_cons (at_tmp 11 _) all_nil) rfl) (sS (sA (sT1 rfl) sT0) sB0 sF0) ?_
    refine AL_cons (LR_assign (at_tmp 10 _) rfl) (sS (sT1 rfl) sB0 sF0) ?_
    refine AL_cons (LR_assign (at_tmp 12 _) rfl) (sS (sT1 rfl) sB0 sF0) ?_
    refine AL_nil ?_
    exact thenN (cutLeaf (v := (y3, y4)) hr (weak0 ((sT rfl (sT rfl (sT rfl sT0)))) sub_nil))
  · rintro ⟨x1, x2⟩ hr
    show AW Hfaa.prog _ _ _ ⟨[(0, .inl (is (U8 a0))), (7, .inl (fl .f32 x1)), (8, .inl (fl .f32 x2))], []⟩
    have hr : r = F390_1 a0 x1 x2 := hr
    refine AW_seq1 ?_
    refine AW_seq1 ?_
    refine AW_region ?_
    refine AL_cons (LR_move (at_tmp 0 _) rfl) (sS (sT1 rfl) sB0 sF0) ?_
    refine AL_nil ?_
    refine thenN ?_
    refine AW_block ?_
    refine AW_cut (σ := Bool) (fun v => ⟨[(7, .inl (fl .f32 x1)), (8, .inl (fl .f32 x2)), (13, .inl (is (U8 a0))), (14, .inl (is (Bl v)))], []⟩) (fun v => r = F390_2 a0 x1 x2 v) ?_ ?_
    · skip
      refine AW_region ?_
      refine AL_cons (LR_bin (at_tmp 13 _) (at_c (v' := U8 (0#8)) rfl) (eql_U8 a0 (0#8)) rfl) (sS (sA (sT1 rfl) sT0) sB0 sF0) ?_
      refine AL_cons (LR_assign (at_tmp 15 _) rfl) (sS (sT1 rfl) sB0 sF0) ?_
      refine AL_nil ?_
      exact thenN (cutLeaf (v := a0 == (0#8)) hr (weak0 ((sT rfl (sT rfl (sT rfl (sT rfl sT0))))) sub_nil))
    · rintro x3 hr
      show AW Hfaa.prog _ _ _ ⟨[(7, .inl (fl .f32 x1)), (8, .inl (fl .f32 x2)), (13, .inl (is (U8 a0))), (14, .inl (is (Bl x3)))], []⟩
      have hr : r = F390_2 a0 x1 x2 x3 := hr
      refine AW_condT (b := x3) rfl (fun h => ?_) (fun h => ?_)
      · have hr := hr.trans (cond_t h)
        clear h
        refine AW_seq1 ?_
        refine AW_region ?_
        refine AL_cons (LR_move (at_tmp 7 _) rfl) (sS (sT1 rfl) sB0 sF0) ?_
        refine AL_cons (LR_move (at_tmp 8 _) rfl) (sS (sT1 rfl) sB0 sF0) ?_
        refine AL_cons (LR_fcmp rfl (at_tmp 16 _) (at_tmp 17 _) rfl) (sS (sA (sT1 rfl) (sT1 rfl)) sB0 sF0) ?_
        refine AL_cons (LR_assign (at_tmp 18 _) rfl) (sS (sT1 rfl) sB0 sF0) ?_
        refine AL_nil ?_
        refine thenN ?_
        refine AW_ret ?_
        refine blR ?_
        refine thenR ?_
        subst hr
        exact res1 rfl (rvT rfl)
      · have hr := hr.trans (cond_f h)
        clear h
        refine AW_cut (σ := Bool) (fun v => ⟨[(7, .inl (fl .f32 x1)), (8, .inl (fl .f32 x2)), (13, .inl (is (U8 a0))), (19, .inl (is (Bl v)))], []⟩) (fun v => r = F390_3 a0 x1 x2 v) ?_ ?_
        · skip
          refine AW_region ?_
          refine AL_cons (LR_bin (at_tmp 13 _) (at_c (v' := U8 (1#8)) rfl) (eql_U8 a0 (1#8)) rfl) (sS (sA (sT1 rfl) sT0) sB0 sF0) ?_
          refine AL_cons (LR_assign (at_tmp 20 _) rfl) (sS (sT1 rfl) sB0 sF0) ?_
          refine AL_nil ?_
          exact thenN (cutLeaf (v := a0 == (1#8)) hr (weak0 ((sT rfl (sT rfl (sT rfl (sT rfl sT0))))) sub_nil))
        · rintro x4 hr
          show AW Hfaa.prog _ _ _ ⟨[(7, .inl (fl .f32 x1)), (8, .inl (fl .f32 x2)), (13, .inl (is (U8 a0))), (19, .inl (is (Bl x4)))], []⟩
          have hr : r = F390_3 a0 x1 x2 x4 := hr
          refine AW_condT (b := x4) rfl (fun h => ?_) (fun h => ?_)
          · have hr := hr.trans (cond_t h)
            clear h
            refine AW_seq1 ?_
            refine AW_region ?_
            refine AL_cons (LR_move (at_tmp 7 _) rfl) (sS (sT1 rfl) sB0 sF0) ?_
            refine AL_cons (LR_move (at_tmp 8 _) rfl) (sS (sT1 rfl) sB0 sF0) ?_
            refine AL_cons (LR_fcmp rfl (at_tmp 21 _) (at_tmp 22 _) rfl) (sS (sA (sT1 rfl) (sT1 rfl)) sB0 sF0) ?_
            refine AL_cons (LR_assign (at_tmp 23 _) rfl) (sS (sT1 rfl) sB0 sF0) ?_
            refine AL_nil ?_
            refine thenN ?_
            refine AW_ret ?_
            refine blR ?_
            refine thenR ?_
            subst hr
            exact res1 rfl (rvT rfl)
          · have hr := hr.trans (cond_f h)
            clear h
            refine AW_cut (σ := Bool) (fun v => ⟨[(7, .inl (fl .f32 x1)), (8, .inl (fl .f32 x2)), (13, .inl (is (U8 a0))), (24, .inl (is (Bl v)))], []⟩) (fun v => r = F390_4 a0 x1 x2 v) ?_ ?_
            · skip
              refine AW_region ?_
              refine AL_cons (LR_bin (at_tmp 13 _) (at_c (v' := U8 (2#8)) rfl) (eql_U8 a0 (2#8)) rfl) (sS (sA (sT1 rfl) sT0) sB0 sF0) ?_
              refine AL_cons (LR_assign (at_tmp 25 _) rfl) (sS (sT1 rfl) sB0 sF0) ?_
              refine AL_nil ?_
              exact thenN (cutLeaf (v := a0 == (2#8)) hr (weak0 ((sT rfl (sT rfl (sT rfl (sT rfl sT0))))) sub_nil))
            · rintro x5 hr
              show AW Hfaa.prog _ _ _ ⟨[(7, .inl (fl .f32 x1)), (8, .inl (fl .f32 x2)), (13, .inl (is (U8 a0))), (24, .inl (is (Bl x5)))], []⟩
              have hr : r = F390_4 a0 x1 x2 x5 := hr
              refine AW_condT (b := x5) rfl (fun h => ?_) (fun h => ?_)
              · have hr := hr.trans (cond_t h)
                clear h
                refine AW_seq1 ?_
                refine AW_region ?_
                refine AL_cons (LR_move (at_tmp 7 _) rfl) (sS (sT1 rfl) sB0 sF0) ?_
                refine AL_cons (LR_move (at_tmp 8 _) rfl) (sS (sT1 rfl) sB0 sF0) ?_
                refine AL_cons (LR_fcmp rfl (at_tmp 26 _) (at_tmp 27 _) rfl) (sS (sA (sT1 rfl) (sT1 rfl)) sB0 sF0) ?_
                refine AL_cons (LR_assign (at_tmp 28 _) rfl) (sS (sT1 rfl) sB0 sF0) ?_
                refine AL_nil ?_
                refine thenN ?_
                refine AW_ret ?_
                refine blR ?_
                refine thenR ?_
                subst hr
                exact res1 rfl (rvT rfl)
              · have hr := hr.trans (cond_f h)
                clear h
                refine AW_cut (σ := Bool) (fun v => ⟨[(7, .inl (fl .f32 x1)), (8, .inl (fl .f32 x2)), (13, .inl (is (U8 a0))), (29, .inl (is (Bl v)))], []⟩) (fun v => r = F390_5 a0 x1 x2 v) ?_ ?_
                · skip
                  refine AW_region ?_
                  refine AL_cons (LR_bin (at_tmp 13 _) (at_c (v' := U8 (3#8)) rfl) (eql_U8 a0 (3#8)) rfl) (sS (sA (sT1 rfl) sT0) sB0 sF0) ?_
                  refine AL_cons (LR_assign (at_tmp 30 _) rfl) (sS (sT1 rfl) sB0 sF0) ?_
                  refine AL_nil ?_
                  exact thenN (cutLeaf (v := a0 == (3#8)) hr (weak0 ((sT rfl (sT rfl (sT rfl (sT rfl sT0))))) sub_nil))
                · rintro x6 hr
                  show AW Hfaa.prog _ _ _ ⟨[(7, .inl (fl .f32 x1)), (8, .inl (fl .f32 x2)), (13, .inl (is (U8 a0))), (29, .inl (is (Bl x6)))], []⟩
                  have hr : r = F390_5 a0 x1 x2 x6 := hr
                  refine AW_condT (b := x6) rfl (fun h => ?_) (fun h => ?_)
                  · have hr := hr.trans (cond_t h)
                    clear h
                    refine AW_seq1 ?_
                    refine AW_region ?_
                    refine AL_cons (LR_move (at_tmp 7 _) rfl) (sS (sT1 rfl) sB0 sF0) ?_
                    refine AL_cons (LR_move (at_tmp 8 _) rfl) (sS (sT1 rfl) sB0 sF0) ?_
                    refine AL_cons (LR_fcmp rfl (at_tmp 31 _) (at_tmp 32 _) rfl) (sS (sA (sT1 rfl) (sT1 rfl)) sB0 sF0) ?_
                    refine AL_cons (LR_assign (at_tmp 33 _) rfl) (sS (sT1 rfl) sB0 sF0) ?_
                    refine AL_nil ?_
                    refine thenN ?_
                    refine AW_ret ?_
                    refine blR ?_
                    refine thenR ?_
                    subst hr
                    exact res1 rfl (rvT rfl)
                  · have hr := hr.trans (cond_f h)
                    clear h
                    refine AW_cut (σ := Bool) (fun v => ⟨[(7, .inl (fl .f32 x1)), (8, .inl (fl .f32 x2)), (13, .inl (is (U8 a0))), (34, .inl (is (Bl v)))], []⟩) (fun v => r = F390_6 a0 x1 x2 v) ?_ ?_
                    · skip
                      refine AW_region ?_
                      refine AL_cons (LR_bin (at_tmp 13 _) (at_c (v' := U8 (4#8)) rfl) (eql_U8 a0 (4#8)) rfl) (sS (sA (sT1 rfl) sT0) sB0 sF0) ?_
                      refine AL_cons (LR_assign (at_tmp 35 _) rfl) (sS (sT1 rfl) sB0 sF0) ?_
                      refine AL_nil ?_
                      exact thenN (cutLeaf (v := a0 == (4#8)) hr (weak0 ((sT rfl (sT rfl (sT rfl (sT rfl sT0))))) sub_nil))
                    · rintro x7 hr
                      show AW Hfaa.prog _ _ _ ⟨[(7, .inl (fl .f32 x1)), (8, .inl (fl .f32 x2)), (13, .inl (is (U8 a0))), (34, .inl (is (Bl x7)))], []⟩
                      have hr : r = F390_6 a0 x1 x2 x7 := hr
                      refine AW_condT (b := x7) rfl (fun h => ?_) (fun h => ?_)
                      · have hr := hr.trans (cond_t h)
                        clear h
                        refine AW_seq1 ?_
                        refine AW_region ?_
                        refine AL_cons (LR_move (at_tmp 7 _) rfl) (sS (sT1 rfl) sB0 sF0) ?_
                        refine AL_cons (LR_move (at_tmp 8 _) rfl) (sS (sT1 rfl) sB0 sF0) ?_
                        refine AL_cons (LR_fcmp rfl (at_tmp 36 _) (at_tmp 37 _) rfl) (sS (sA (sT1 rfl) (sT1 rfl)) sB0 sF0) ?_
                        refine AL_cons (LR_assign (at_tmp 38 _) rfl) (sS (sT1 rfl) sB0 sF0) ?_
                        refine AL_nil ?_
                        refine thenN ?_
                        refine AW_ret ?_
                        refine blR ?_
                        refine thenR ?_
                        subst hr
                        exact res1 rfl (rvT rfl)
                      · have hr := hr.trans (cond_f h)
                        clear h
                        refine AW_cut (σ := Bool) (fun v => ⟨[(7, .inl (fl .f32 x1)), (8, .inl (fl .f32 x2)), (39, .inl (is (Bl v)))], []⟩) (fun v => r = F390_7 x1 x2 v) ?_ ?_
                        · skip
                          refine AW_region ?_
                          refine AL_cons (LR_bin (at_tmp 13 _) (at_c (v' := U8 (5#8)) rfl) (eql_U8 a0 (5#8)) rfl) (sS (sA (sT1 rfl) sT0) sB0 sF0) ?_
                          refine AL_cons (LR_assign (at_tmp 40 _) rfl) (sS (sT1 rfl) sB0 sF0) ?_
                          refine AL_nil ?_
                          exact thenN (cutLeaf (v := a0 == (5#8)) hr (weak0 ((sT rfl (sT rfl (sT rfl sT0)))) sub_nil))
                        · rintro x8 hr
                          show AW Hfaa.prog _ _ _ ⟨[(7, .inl (fl .f32 x1)), (8, .inl (fl .f32 x2)), (39, .inl (is (Bl x8)))], []⟩
                          have hr : r = F390_7 x1 x2 x8 := hr
                          refine AW_condT (b := x8) rfl (fun h => ?_) (fun h => ?_)
                          · have hr := hr.trans (cond_t h)
                            clear h
                            refine AW_seq1 ?_
                            refine AW_region ?_
                            refine AL_cons (LR_move (at_tmp 7 _) rfl) (sS (sT1 rfl) sB0 sF0) ?_
                            refine AL_cons (LR_move (at_tmp 8 _) rfl) (sS (sT1 rfl) sB0 sF0) ?_
                            refine AL_cons (LR_fcmp rfl (at_tmp 41 _) (at_tmp 42 _) rfl) (sS (sA (sT1 rfl) (sT1 rfl)) sB0 sF0) ?_
                            refine AL_cons (LR_assign (at_tmp 43 _) rfl) (sS (sT1 rfl) sB0 sF0) ?_
                            refine AL_nil ?_
                            refine thenN ?_
                            refine AW_ret ?_
                            refine blR ?_
                            refine thenR ?_
                            subst hr
                            exact res1 rfl (rvT rfl)
                          · have hr := hr.trans (cond_f h)
                            clear h
                            refine AW_skip ?_
                            refine blN ?_
                            refine thenN ?_
                            refine AW_seq1 ?_
                            refine AW_region ?_
                            refine AL_cons (LR_assign (at_c (v' := Bl false) rfl) rfl) (sS sT0 sB0 sF0) ?_
                            refine AL_nil ?_
                            refine thenN ?_
                            refine AW_ret ?_
                            subst hr
                            exact res1 rfl (rvT rfl)
/-- calc/na.test -/
def F338 (a0 : Bool) (a1 : BitVec 8) (a2 : BitVec 64) (a3 : BitVec 64) : Bool := bif a0 then lt (F389 a1 a2 a3) fun y4 => y4 else lt (F390 a1 (BitVec.ofInt 32 (a2.toNat : Int)) (BitVec.ofInt 32 (a3.toNat : Int))) fun y6 => y6
theorem C338 (a0 : Bool) (a1 : BitVec 8) (a2 : BitVec 64) (a3 : BitVec 64) (r : Bool) (hr : r = F338 a0 a1 a2 a3) : Aw.Fn Hfaa.prog 338 [is (Bl a0), is (U8 a1), is (U64 a2), is (U64 a3)] (is (Bl r)) := by
  refine fn_intro Hfaa.func338 rfl rfl rfl ?_
  intro bn0 w0 H0
  refine AW_seq1 ?_
  refine AW_region ?_
  refine AL_cons (LR_assign (at_c (v' := Bl false) rfl) rfl) (sS sT0 sB0 sF0) ?_
  refine AL_nil ?_
  refine thenN ?_
  refine AW_seq1 ?_
  refine AW_seq1 ?_
  refine AW_region ?_
  refine AL_cons (LR_move (at_tmp 0 _) rfl) (sS (sT1 rfl) sB0 sF0) ?_
  refine AL_nil ?_
  refine thenN ?_
  refine AW_condT (b := a0) rfl (fun h => ?_) (fun h => ?_)
  · have hr := hr.trans (cond_t h)
    clear h
    refine AW_seq1 ?_
    refine AW_region ?_
    refine AL_cons (LR_move (at_tmp 1 _) rfl) (sS (sT1 rfl) sB0 sF0) ?_
    refine AL_cons (LR_move (at_tmp 2 _) rfl) (sS (sT1 rfl) sB0 sF0) ?_
    refine AL_cons (LR_move (at_tmp 3 _) rfl) (sS (sT1 rfl) sB0 sF0) ?_
    obtain ⟨y4, hy4, hr⟩ := lt_some hr
    refine AL_cons (LR_call Hfaa.func389 rfl rfl (C389 a1 a2 a3 y4 hy4) (all_cons (at_tmp 10 _) (all_cons (at_tmp 11 _) (all_cons (at_tmp 12 _) all_nil))) rfl) (sS (sA (sT1 rfl) (sA (sT1 rfl) (sA (sT1 rfl) sT0))) sB0 sF0) ?_
    refine AL_cons (LR_assign (at_tmp 13 _) rfl) (sS (sT1 rfl) sB0 sF0) ?_
    refine AL_nil ?_
    refine thenN ?_
    refine AW_ret ?_
    refine thenR ?_
    subst hr
    exact res1 rfl (rvT rfl)
  · have hr := hr.trans (cond_f h)
    clear h
    refine AW_skip ?_
    refine thenN ?_
    refine AW_seq1 ?_
    refine AW_region ?_
    refine AL_cons (LR_move (at_tmp 1 _) rfl) (sS (sT1 rfl) sB0 sF0) ?_
    refine AL_cons (LR_move (at_tmp 2 _) rfl) (sS (sT1 rfl) sB0 sF0) ?_
    refine AL_cons (LR_conv (vx := U64 a2) (at_tmp 15 _) (conv_U32 Hfaa.underlying30 Hfaa.underlying65 (a2.toNat : Int)) rfl) (sS (sT1 rfl) sB0 sF0) ?_
    refine AL_cons (LR_move (at_tmp 3 _) rfl) (sS (sT1 rfl) sB0 sF0) ?_
    refine AL_cons (LR_conv (vx := U64 a3) (at_tmp 17 _) (conv_U32 Hfaa.underlying30 Hfaa.underlying65 (a3.toNat : Int)) rfl) (sS (sT1 rfl) sB0 sF0) ?_
    obtain ⟨y6, hy6, hr⟩ := lt_some hr
    refine AL_cons (LR_call Hfaa.func390 rfl rfl (C390 a1 (BitVec.ofInt 32 (a2.toNat : Int)) (BitVec.ofInt 32 (a3.toNat : Int)) y6 hy6) (all_cons (at_tmp 14 _) (all_cons (at_tmp 16 _) (all_cons (at_tmp 18 _) all_nil))) rfl) (sS (sA (sT1 rfl) (sA (sT1 rfl) (sA (sT1 rfl) sT0))) sB0 sF0) ?_
    refine AL_cons (LR_assign (at_tmp 19 _) rfl) (sS (sT1 rfl) sB0 sF0) ?_
    refine AL_nil ?_
    refine thenN ?_
    refine AW_ret ?_
    subst hr
    exact res1 rfl (rvT rfl)
/-- calc/na.order -/
def F237_6 (x9 : Bool) : List UInt8 := bif x9 then ([62] : List UInt8) else ([63] : List UInt8)
def F237_5 (x1 : Bool) (x2 : Bool) (x3 : Bool) (x4 : Bool) (x5 : Bool) (x6 : Bool) (x8 : Bool) : List UInt8 := bif x8 then ([61] : List UInt8) else F237_6 (((((x5 && x6) && x2) && (!x1)) && (!x3)) && (!x4))
def F237_4 (x1 : Bool) (x2 : Bool) (x3 : Bool) (x4 : Bool) (x5 : Bool) (x6 : Bool) (x7 : Bool) : List UInt8 := bif x7 then ([60] : List UInt8) else F237_5 x1 x2 x3 x4 x5 x6 (((((x1 && x4) && x6) && (!x2)) && (!x3)) && (!x5))
def F237_3 (x1 : Bool) (x2 : Bool) (x3 : Bool) (x4 : Bool) (x5 : Bool) (x6 : Bool) : List UInt8 := F237_4 x1 x2 x3 x4 x5 x6 (((((x3 && x4) && x2) && (!x1)) && (!x5)) && (!x6))
def F237_2 (a0 : Bool) (a1 : BitVec 64) (a2 : BitVec 64) (x1 : Bool) (x2 : Bool) (x3 : Bool) (x4 : Bool) : List UInt8 := lt (F338 a0 (4#8) a1 a2) fun y7 => lt (F338 a0 (5#8) a1 a2) fun y8 => F237_3 x1 x2 x3 x4 y7 y8
def F237_1 (a0 : Bool) (a1 : BitVec 64) (a2 : BitVec 64) (x1 : Bool) (x2 : Bool) : List UInt8 := lt (F338 a0 (2#8) a1 a2) fun y9 => lt (F338 a0 (3#8) a1 a2) fun y10 => F237_2 a0 a1 a2 x1 x2 y9 y10
def F237 (a0 : Bool) (a1 : BitVec 64) (a2 : BitVec 64) : List UInt8 := lt (F338 a0 (0#8) a1 a2) fun y11 => lt (F338 a0 (1#8) a1 a2) fun y12 => F237_1 a0 a1 a2 y11 y12
theorem C237 (a0 : Bool) (a1 : BitVec 64) (a2 : BitVec 64) (r : List UInt8) (hr : r = F237 a0 a1 a2) : Aw.Fn Hfaa.prog 237 [is (Bl a0), is (U64 a1), is (U64 a2)] (is (Sv r)) := by
  refine fn_intro Hfaa.func237 rfl rfl rfl ?_
  intro bn0 w0 H0
  refine AW_seq1 ?_
  refine AW_region ?_
  refine AL_cons (LR_assign (at_c (v' := Sv ([] : List UInt8)) rfl) rfl) (sS sT0 sB0 sF0) ?_
  refine AL_nil ?_
  refine thenN ?_
  refine AW_cut (σ := Bool × Bool) (fun v => ⟨[(0, .inl (is (Bl a0))), (1, .inl (is (U64 a1))), (2, .inl (is (U64 a2))), (7, .inl (is (Bl v.1))), (8, .inl (is (Bl v.2)))], []⟩) (fun v => r = F237_1 a0 a1 a2 v.1 v.2) ?_ ?_
  · skip
    refine AW_region ?_
    refine AL_cons (LR_move (at_tmp 0 _) rfl) (sS (sT1 rfl) sB0 sF0) ?_
    refine AL_cons (LR_move (at_tmp 1 _) rfl) (sS (sT1 rfl) sB0 sF0) ?_
    refine AL_cons (LR_move (at_tmp 2 _) rfl) (sS (sT1 rfl) sB0 sF0) ?_
    obtain ⟨y11, hy11, hr⟩ := lt_some hr
    refine AL_cons (LR_call Hfaa.func338 rfl rfl (C338 a0 (0#8) a1 a2 y11 hy11) (all_cons (at_tmp 13 _) (all_cons (at_c (v' := U8 (0#8)) rfl) (all_cons (at_tmp 14 _) (all_cons (at_tmp 15 _) all_nil)))) rfl) (sS (sA (sT1 rfl) (sA sT0 (sA (sT1 rfl) (sA (sT1 rfl) sT0)))) sB0 sF0) ?_
    refine AL_cons (LR_move (at_tmp 0 _) rfl) (sS (sT1 rfl) sB0 sF0) ?_
    refine AL_cons (LR_move (at_tmp 1 _) rfl) (sS (sT1 rfl) sB0 sF0) ?_
    refine AL_cons (LR_move (at_tmp 2 _) rfl) (sS (sT1 rfl) sB0 sF0) ?_
    obtain ⟨y12, hy12, hr⟩ := lt_some hr
    refine AL_cons (LR_call Hfaa.func338 rfl rfl (C338 a0 (1#8) a1 a2 y12 hy12) (all_cons (at_tmp 17 _) (all_cons (at_c (v' := U8 (1#8)) rfl) (all_cons (at_tmp 18 _) (all_cons (at_tmp 19 _) all_nil)))) rfl) (sS (sA (sT1 rfl) (sA sT0 (sA (sT1 rfl) (sA (sT1 rfl) sT0)))) sB0 sF0) ?_
    refine AL_cons (LR_assign (at_tmp 16 _) rfl) (sS (sT1 rfl) sB0 sF0) ?_
    refine AL_cons (LR_assign (at_tmp 20 _) rfl) (sS (sT1 rfl) sB0 sF0) ?_
    refine AL_nil ?_
    exact thenN (cutLeaf (v := (y11, y12)) hr (weak0 ((sT rfl (sT rfl (sT rfl (sT rfl (sT rfl sT0)))))) sub_nil))
  · rintro ⟨x1, x2⟩ hr
    show AW Hfaa.prog _ _ _ ⟨[(0, .inl (is (Bl a0))), (1, .inl (is (U64 a1))), (2, .inl (is (U64 a2))), (7, .inl (is (Bl x1))), (8, .inl (is (Bl x2)))], []⟩
    have hr : r = F237_1 a0 a1 a2 x1 x2 := hr
    refine AW_cut (σ := Bool × Bool) (fun v => ⟨[(0, .inl (is (Bl a0))), (1, .inl (is (U64 a1))), (2, .inl (is (U64 a2))), (7, .inl (is (Bl x1))), (8, .inl (is (Bl x2))), (9, .inl (is (Bl v.1))), (10, .inl (is (Bl v.2)))], []⟩) (fun v => r = F237_2 a0 a1 a2 x1 x2 v.1 v.2) ?_ ?_
    · skip
      refine AW_region ?_
      refine AL_cons (LR_move (at_tmp 0 _) rfl) (sS (sT1 rfl) sB0 sF0) ?_
      refine AL_cons (LR_move (at_tmp 1 _) rfl) (sS (sT1 rfl) sB0 sF0) ?_
      refine AL_cons (LR_move (at_tmp 2 _) rfl) (sS (sT1 rfl) sB0 sF0) ?_
      obtain ⟨y9, hy9, hr⟩ := lt_some hr
      refine AL_cons (LR_call Hfaa.func338 rfl rfl (C338 a0 (2#8) a1 a2 y9 hy9) (all_cons (at_tmp 21 _) (all_cons (at_c (v' := U8 (2#8)) rfl) (all_cons (at_tmp 22 _) (all_cons (at_tmp 23 _) all_nil)))) rfl) (sS (sA (sT1 rfl) (sA sT0 (sA (sT1 rfl) (sA (sT1 rfl) sT0)))) sB0 sF0) ?_
      refine AL_cons (LR_move (at_tmp 0 _) rfl) (sS (sT1 rfl) sB0 sF0) ?_
      refine AL_cons (LR_move (at_tmp 1 _) rfl) (sS (sT1 rfl) sB0 sF0) ?_
      refine AL_cons (LR_move (at_tmp 2 _) rfl) (sS (sT1 rfl) sB0 sF0) ?_
      obtain ⟨y10, hy10, hr⟩ := lt_some hr
      refine AL_cons (LR_call Hfaa.func338 rfl rfl (C338 a0 (3#8) a1 a2 y10 hy10) (all_cons (at_tmp 25 _) (all_cons (at_c (v' := U8 (3#8)) rfl) (all_cons (at_tmp 26 _) (all_cons (at_tmp 27 _) all_nil)))) rfl) (sS (sA (sT1 rfl) (sA sT0 (sA (sT1 rfl) (sA (sT1 rfl) sT0)))) sB0 sF0) ?_
      refine AL_cons (LR_assign (at_tmp 24 _) rfl) (sS (sT1 rfl) sB0 sF0) ?_
      refine AL_cons (LR_assign (at_tmp 28 _) rfl) (sS (sT1 rfl) sB0 sF0) ?_
      refine AL_nil ?_
      exact thenN (cutLeaf (v := (y9, y10)) hr (weak0 ((sT rfl (sT rfl (sT rfl (sT rfl (sT rfl (sT rfl (sT rfl sT0)))))))) sub_nil))
    · rintro ⟨x3, x4⟩ hr
      show AW Hfaa.prog _ _ _ ⟨[(0, .inl (is (Bl a0))), (1, .inl (is (U64 a1))), (2, .inl (is (U64 a2))), (7, .inl (is (Bl x1))), (8, .inl (is (Bl x2))), (9, .inl (is (Bl x3))), (10, .inl (is (Bl x4)))], []⟩
      have hr : r = F237_2 a0 a1 a2 x1 x2 x3 x4 := hr
      refine AW_cut (σ := Bool × Bool) (fun v => ⟨[(7, .inl (is (Bl x1))), (8, .inl (is (Bl x2))), (9, .inl (is (Bl x3))), (10, .inl (is (Bl x4))), (11, .inl (is (Bl v.1))), (12, .inl (is (Bl v.2)))], []⟩) (fun v => r = F237_3 x1 x2 x3 x4 v.1 v.2) ?_ ?_
      · skip
        refine AW_region ?_
        refine AL_cons (LR_move (at_tmp 0 _) rfl) (sS (sT1 rfl) sB0 sF0) ?_
        refine AL_cons (LR_move (at_tmp 1 _) rfl) (sS (sT1 rfl) sB0 sF0) ?_
        refine AL_cons (LR_move (at_tmp 2 _) rfl) (sS (sT1 rfl) sB0 sF0) ?_
        obtain ⟨y7, hy7, hr⟩ := lt_some hr
        refine AL_cons (LR_call Hfaa.func338 rfl rfl (C338 a0 (4#8) a1 a2 y7 hy7) (all_cons (at_tmp 29 _) (all_cons (at_c (v' := U8 (4#8)) rfl) (all_cons (at_tmp 30 _) (all_cons (at_tmp 31 _) all_nil)))) rfl) (sS (sA (sT1 rfl) (sA sT0 (sA (sT1 rfl) (sA (sT1 rfl) sT0)))) sB0 sF0) ?_
        refine AL_cons (LR_move (at_tmp 0 _) rfl) (sS (sT1 rfl) sB0 sF0) ?_
        refine AL_cons (LR_move (at_tmp 1 _) rfl) (sS (sT1 rfl) sB0 sF0) ?_
        refine AL_cons (LR_move (at_tmp 2 _) rfl) (sS (sT1 rfl) sB0 sF0) ?_
        obtain ⟨y8, hy8, hr⟩ := lt_some hr
        refine AL_cons (LR_call Hfaa.func338 rfl rfl (C338 a0 (5#8) a1 a2 y8 hy8) (all_cons (at_tmp 33 _) (all_cons (at_c (v' := U8 (5#8)) rfl) (all_cons (at_tmp 34 _) (all_cons (at_tmp 35 _) all_nil)))) rfl) (sS (sA (sT1 rfl) (sA sT0 (sA (sT1 rfl) (sA (sT1 rfl) sT0)))) sB0 sF0) ?_
        refine AL_cons (LR_assign (at_tmp 32 _) rfl) (sS (sT1 rfl) sB0 sF0) ?_
        refine AL_cons (LR_assign (at_tmp 36 _) rfl) (sS (sT1 rfl) sB0 sF0) ?_
        refine AL_nil ?_
        exact thenN (cutLeaf (v := (y7, y8)) hr (weak0 ((sT rfl (sT rfl (sT rfl (sT rfl (sT rfl (sT rfl sT0))))))) sub_nil))
      · rintro ⟨x5, x6⟩ hr
        show AW Hfaa.prog _ _ _ ⟨[(7, .inl (is (Bl x1))), (8, .inl (is (Bl x2))), (9, .inl (is (Bl x3))), (10, .inl (is (Bl x4))), (11, .inl (is (Bl x5))), (12, .inl (is (Bl x6)))], []⟩
        have hr : r = F237_3 x1 x2 x3 x4 x5 x6 := hr
        refine AW_seq1 ?_
        refine AW_block ?_
        refine AW_cut (σ := Bool) (fun v => ⟨[(7, .inl (is (Bl x1))), (8, .inl (is (Bl x2))), (9, .inl (is (Bl x3))), (10, .inl (is (Bl x4))), (11, .inl (is (Bl x5))), (12, .inl (is (Bl x6))), (37, .inl (is (Bl v)))], []⟩) (fun v => r = F237_4 x1 x2 x3 x4 x5 x6 v) ?_ ?_
        · skip
          refine AW_region ?_
          refine AL_cons (LR_move (at_tmp 9 _) rfl) (sS (sT1 rfl) sB0 sF0) ?_
          refine AL_cons (LR_move (at_tmp 38 _) rfl) (sS (sT1 rfl) sB0 sF0) ?_
          refine AL_cutAt 2 ⟨[(7, .inl (is (Bl x1))), (8, .inl (is (Bl x2))), (9, .inl (is (Bl x3))), (10, .inl (is (Bl x4))), (11, .inl (is (Bl x5))), (12, .inl (is (Bl x6))), (38, .inl (is (Bl x3))), (39, .inl (is (Bl x3))), (41, .inl (is (Bl (x3 && x4))))], []⟩ ?_ ?_
          · cases hb : x3
            · skip
              refine AL_cons (LR_off (b := false) rfl rfl rfl rfl) (sS (sT1 rfl) sB0 sF0) ?_
              refine AL_cons (LR_pick (b := false) (at_tmp 39 _) (at_tmp 40 _) (at_c (v' := Bl false) rfl) rfl) (sS (sA (sT1 rfl) (sA (sT1 rfl) sT0)) sB0 sF0) ?_
              exact AL_nil ⟨rfl, weak0 ((sT rfl (sT rfl (sT rfl (sT rfl (sT rfl (sT rfl (sT rfl (sT rfl (sT rfl sT0)))))))))) sub_nil⟩
            · skip
              refine AL_cons (LR_on rfl rfl rfl (LR_move (at_tmp 10 _) rfl)) (sS (sT rfl (sT1 rfl)) sB0 sF0) ?_
              refine AL_cons (LR_pick (b := true) (at_tmp 39 _) (at_tmp 40 _) (at_c (v' := Bl false) rfl) rfl) (sS (sA (sT1 rfl) (sA (sT1 rfl) sT0)) sB0 sF0) ?_
              exact AL_nil ⟨rfl, weak0 ((sT rfl (sT rfl (sT rfl (sT rfl (sT rfl (sT rfl (sT rfl (sT rfl (sT rfl sT0)))))))))) sub_nil⟩
          refine AL_cons (LR_move (at_tmp 41 _) rfl) (sS (sT1 rfl) sB0 sF0) ?_
          refine AL_cutAt 2 ⟨[(7, .inl (is (Bl x1))), (8, .inl (is (Bl x2))), (9, .inl (is (Bl x3))), (10, .inl (is (Bl x4))), (11, .inl (is (Bl x5))), (12, .inl (is (Bl x6))), (38, .inl (is (Bl x3))), (39, .inl (is (Bl x3))), (41, .inl (is (Bl (x3 && x4)))), (42, .inl (is (Bl (x3 && x4)))), (44, .inl (is (Bl ((x3 && x4) && x2))))], []⟩ ?_ ?_
          · cases hb : x3 && x4
            · skip
              refine AL_cons (LR_off (b := false) rfl rfl rfl rfl) (sS (sT1 rfl) sB0 sF0) ?_
              refine AL_cons (LR_pick (b := false) (at_tmp 42 _) (at_tmp 43 _) (at_c (v' := Bl false) rfl) rfl) (sS (sA (sT1 rfl) (sA (sT1 rfl) sT0)) sB0 sF0) ?_
              exact AL_nil ⟨rfl, weak0 ((sT rfl (sT rfl (sT rfl (sT rfl (sT rfl (sT rfl (sT rfl (sT rfl (sT rfl (sT rfl (sT rfl sT0)))))))))))) sub_nil⟩
            · skip
              refine AL_cons (LR_on rfl rfl rfl (LR_move (at_tmp 8 _) rfl)) (sS (sT rfl (sT1 rfl)) sB0 sF0) ?_
              refine AL_cons (LR_pick (b := true) (at_tmp 42 _) (at_tmp 43 _) (at_c (v' := Bl false) rfl) rfl) (sS (sA (sT1 rfl) (sA (sT1 rfl) sT0)) sB0 sF0) ?_
              exact AL_nil ⟨rfl, weak0 ((sT rfl (sT rfl (sT rfl (sT rfl (sT rfl (sT rfl (sT rfl (sT rfl (sT rfl (sT rfl (sT rfl sT0)))))))))))) sub_nil⟩
          refine AL_cons (LR_move (at_tmp 44 _) rfl) (sS (sT1 rfl) sB0 sF0) ?_
          refine AL_cutAt 3 ⟨[(7, .inl (is (Bl x1))), (8, .inl (is (Bl x2))), (9, .inl (is (Bl x3))), (10, .inl (is (Bl x4))), (11, .inl (is (Bl x5))), (12, .inl (is (Bl x6))), (38, .inl (is (Bl x3))), (39, .inl (is (Bl x3))), (41, .inl (is (Bl (x3 && x4)))), (42, .inl (is (Bl (x3 && x4)))), (44, .inl (is (Bl ((x3 && x4) && x2)))), (45, .inl (is (Bl ((x3 && x4) && x2)))), (48, .inl (is (Bl (((x3 && x4) && x2) && (!x1)))))], []⟩ ?_ ?_
          · cases hb : (x3 && x4) && x2
            · skip
              refine AL_cons (LR_off (b := false) rfl rfl rfl rfl) (sS (sT1 rfl) sB0 sF0) ?_
              refine AL_cons (LR_off (b := false) rfl rfl rfl rfl) (sS (sT1 rfl) sB0 sF0) ?_
              refine AL_cons (LR_pick (b := false) (at_tmp 45 _) (at_tmp 47 _) (at_c (v' := Bl false) rfl) rfl) (sS (sA (sT1 rfl) (sA (sT1 rfl) sT0)) sB0 sF0) ?_
              exact AL_nil ⟨rfl, weak0 ((sT rfl (sT rfl (sT rfl (sT rfl (sT rfl (sT rfl (sT rfl (sT rfl (sT rfl (sT rfl (sT rfl (sT rfl (sT rfl sT0)))))))))))))) sub_nil⟩
            · skip
              refine AL_cons (LR_on rfl rfl rfl (LR_move (at_tmp 7 _) rfl)) (sS (sT rfl (sT1 rfl)) sB0 sF0) ?_
              refine AL_cons (LR_on rfl rfl rfl (LR_un (at_tmp 46 _) (not_Bl x1) rfl)) (sS (sT rfl (sT1 rfl)) sB0 sF0) ?_
              refine AL_cons (LR_pick (b := true) (at_tmp 45 _) (at_tmp 47 _) (at_c (v' := Bl false) rfl) rfl) (sS (sA (sT1 rfl) (sA (sT1 rfl) sT0)) sB0 sF0) ?_
              exact AL_nil ⟨rfl, weak0 ((sT rfl (sT rfl (sT rfl (sT rfl (sT rfl (sT rfl (sT rfl (sT rfl (sT rfl (sT rfl (sT rfl (sT rfl (sT rfl sT0)))))))))))))) sub_nil⟩
          refine AL_cons (LR_move (at_tmp 48 _) rfl) (sS (sT1 rfl) sB0 sF0) ?_
          refine AL_cutAt 3 ⟨[(7, .inl (is (Bl x1))), (8, .inl (is (Bl x2))), (9, .inl (is (Bl x3))), (10, .inl (is (Bl x4))), (11, .inl (is (Bl x5))), (12, .inl (is (Bl x6))), (38, .inl (is (Bl x3))), (39, .inl (is (Bl x3))), (41, .inl (is (Bl (x3 && x4)))), (42, .inl (is (Bl (x3 && x4)))), (44, .inl (is (Bl ((x3 && x4) && x2)))), (45, .inl (is (Bl ((x3 && x4) && x2)))), (48, .inl (is (Bl (((x3 && x4) && x2) && (!x1))))), (49, .inl (is (Bl (((x3 && x4) && x2) && (!x1))))), (52, .inl (is (Bl ((((x3 && x4) && x2) && (!x1)) && (!x5)))))], []⟩ ?_ ?_
          · cases hb : ((x3 && x4) && x2) && (!x1)
            · skip
              refine AL_cons (LR_off (b := false) rfl rfl rfl rfl) (sS (sT1 rfl) sB0 sF0) ?_
              refine AL_cons (LR_off (b := false) rfl rfl rfl rfl) (sS (sT1 rfl) sB0 sF0) ?_
              refine AL_cons (LR_pick (b := false) (at_tmp 49 _) (at_tmp 51 _) (at_c (v' := Bl false) rfl) rfl) (sS (sA (sT1 rfl) (sA (sT1 rfl) sT0)) sB0 sF0) ?_
              exact AL_nil ⟨rfl, weak0 ((sT rfl (sT rfl (sT rfl (sT rfl (sT rfl (sT rfl (sT rfl (sT rfl (sT rfl (sT rfl (sT rfl (sT rfl (sT rfl (sT rfl (sT rfl sT0)))))))))))))))) sub_nil⟩
            · skip
              refine AL_cons (LR_on rfl rfl rfl (LR_move (at_tmp 11 _) rfl)) (sS (sT rfl (sT1 rfl)) sB0 sF0) ?_
              refine AL_cons (LR_on rfl rfl rfl (LR_un (at_tmp 50 _) (not_Bl x5) rfl)) (sS (sT rfl (sT1 rfl)) sB0 sF0) ?_
              refine AL_cons (LR_pick (b := true) (at_tmp 49 _) (at_tmp 51 _) (at_c (v' := Bl false) rfl) rfl) (sS (sA (sT1 rfl) (sA (sT1 rfl) sT0)) sB0 sF0) ?_
              exact AL_nil ⟨rfl, weak0 ((sT rfl (sT rfl (sT rfl (sT rfl (sT rfl (sT rfl (sT rfl (sT rfl (sT rfl (sT rfl (sT rfl (sT rfl (sT rfl (sT rfl (sT rfl sT0)))))))))))))))) sub_nil⟩
          refine AL_cons (LR_move (at_tmp 52 _) rfl) (sS (sT1 rfl) sB0 sF0) ?_
          refine AL_cutAt 3 ⟨[(7, .inl (is (Bl x1))), (8, .inl (is (Bl x2))), (9, .inl (is (Bl x3))), (10, .inl (is (Bl x4))), (11, .inl (is (Bl x5))), (12, .inl (is (Bl x6))), (38, .inl (is (Bl x3))), (39, .inl (is (Bl x3))), (41, .inl (is (Bl (x3 && x4)))), (42, .inl (is (Bl (x3 && x4)))), (44, .inl (is (Bl ((x3 && x4) && x2)))), (45, .inl (is (Bl ((x3 && x4) && x2)))), (48, .inl (is (Bl (((x3 && x4) && x2) && (!x1))))), (49, .inl (is (Bl (((x3 && x4) && x2) && (!x1))))), (52, .inl (is (Bl ((((x3 && x4) && x2) && (!x1)) && (!x5))))), (53, .inl (is (Bl ((((x3 && x4) && x2) && (!x1)) && (!x5))))), (56, .inl (is (Bl (((((x3 && x4) && x2) && (!x1)) && (!x5)) && (!x6)))))], []⟩ ?_ ?_
          · cases hb : (((x3 && x4) && x2) && (!x1)) && (!x5)
            · skip
              refine AL_cons (LR_off (b := false) rfl rfl rfl rfl) (sS (sT1 rfl) sB0 sF0) ?_
              refine AL_cons (LR_off (b := false) rfl rfl rfl rfl) (sS (sT1 rfl) sB0 sF0) ?_
              refine AL_cons (LR_pick (b := false) (at_tmp 53 _) (at_tmp 55 _) (at_c (v' := Bl false) rfl) rfl) (sS (sA (sT1 rfl) (sA (sT1 rfl) sT0)) sB0 sF0) ?_
              exact AL_nil ⟨rfl, weak0 ((sT rfl (sT rfl (sT rfl (sT rfl (sT rfl (sT rfl (sT rfl (sT rfl (sT rfl (sT rfl (sT rfl (sT rfl (sT rfl (sT rfl (sT rfl (sT rfl (sT rfl sT0)))))))))))))))))) sub_nil⟩
            · skip
              refine AL_cons (LR_on rfl rfl rfl (LR_move (at_tmp 12 _) rfl)) (sS (sT rfl (sT1 rfl)) sB0 sF0) ?_
              refine AL_cons (LR_on rfl rfl rfl (LR_un (at_tmp 54 _) (not_Bl x6) rfl)) (sS (sT rfl (sT1 rfl)) sB0 sF0) ?_
              refine AL_cons (LR_pick (b := true) (at_tmp 53 _) (at_tmp 55 _) (at_c (v' := Bl false) rfl) rfl) (sS (sA (sT1 rfl) (sA (sT1 rfl) sT0)) sB0 sF0) ?_
              exact AL_nil ⟨rfl, weak0 ((sT rfl (sT rfl (sT rfl (sT rfl (sT rfl (sT rfl (sT rfl (sT rfl (sT rfl (sT rfl (sT rfl (sT rfl (sT rfl (sT rfl (sT rfl (sT rfl (sT rfl sT0)))))))))))))))))) sub_nil⟩
          refine AL_cons (LR_assign (at_tmp 56 _) rfl) (sS (sT1 rfl) sB0 sF0) ?_
          refine AL_nil ?_
          exact thenN (cutLeaf (v := ((((x3 && x4) && x2) && (!x1)) && (!x5)) && (!x6)) hr (weak0 ((sT rfl (sT rfl (sT rfl (sT rfl (sT rfl (sT rfl (sT rfl sT0)))))))) sub_nil))
        · rintro x7 hr
          show AW Hfaa.prog _ _ _ ⟨[(7, .inl (is (Bl x1))), (8, .inl (is (Bl x2))), (9, .inl (is (Bl x3))), (10, .inl (is (Bl x4))), (11, .inl (is (Bl x5))), (12, .inl (is (Bl x6))), (37, .inl (is (Bl x7)))], []⟩
          have hr : r = F237_4 x1 x2 x3 x4 x5 x6 x7 := hr
          refine AW_condT (b := x7) rfl (fun h => ?_) (fun h => ?_)
          · have hr := hr.trans (cond_t h)
            clear h
            refine AW_seq1 ?_
            refine AW_region ?_
            refine AL_cons (LR_assign (at_c (v' := Sv ([60] : List UInt8)) rfl) rfl) (sS sT0 sB0 sF0) ?_
            refine AL_nil ?_
            refine thenN ?_
            refine AW_ret ?_
            refine blR ?_
            refine thenR ?_
            subst hr
            exact res1 rfl (rvT rfl)
          · have hr := hr.trans (cond_f h)
            clear h
            refine AW_cut (σ := Bool) (fun v => ⟨[(7, .inl (is (Bl x1))), (8, .inl (is (Bl x2))), (9, .inl (is (Bl x3))), (10, .inl (is (Bl x4))), (11, .inl (is (Bl x5))), (12, .inl (is (Bl x6))), (57, .inl (is (Bl v)))], []⟩) (fun v => r = F237_5 x1 x2 x3 x4 x5 x6 v) ?_ ?_
            · skip
              refine AW_region ?_
              refine AL_cons (LR_move (at_tmp 7 _) rfl) (sS (sT1 rfl) sB0 sF0) ?_
              refine AL_cons (LR_move (at_tmp 58 _) rfl) (sS (sT1 rfl) sB0 sF0) ?_
              refine AL_cutAt 2 ⟨[(7, .inl (is (Bl x1))), (8, .inl (is (Bl x2))), (9, .inl (is (Bl x3))), (10, .inl (is (Bl x4))), (11, .inl (is (Bl x5))), (12, .inl (is (Bl x6))), (37, .inl (is (Bl x7))), (58, .inl (is (Bl x1))), (59, .inl (is (Bl x1))), (61, .inl (is (Bl (x1 && x4))))], []⟩ ?_ ?_
              · cases hb : x1
                · skip
                  refine AL_cons (LR_off (b := false) rfl rfl rfl rfl) (sS (sT1 rfl) sB0 sF0) ?_
                  refine AL_cons (LR_pick (b := false) (at_tmp 59 _) (at_tmp 60 _) (at_c (v' := Bl false) rfl) rfl) (sS (sA (sT1 rfl) (sA (sT1 rfl) sT0)) sB0 sF0) ?_
                  exact AL_nil ⟨rfl, weak0 ((sT rfl (sT rfl (sT rfl (sT rfl (sT rfl (sT rfl (sT rfl (sT rfl (sT rfl (sT rfl sT0))))))))))) sub_nil⟩
                · skip
                  refine AL_cons (LR_on rfl rfl rfl (LR_move (at_tmp 10 _) rfl)) (sS (sT rfl (sT1 rfl)) sB0 sF0) ?_
                  refine AL_cons (LR_pick (b := true) (at_tmp 59 _) (at_tmp 60 _) (at_c (v' := Bl false) rfl) rfl) (sS (sA (sT1 rfl) (sA (sT1 rfl) sT0)) sB0 sF0) ?_
                  exact AL_nil ⟨rfl, weak0 ((sT rfl (sT rfl (sT rfl (sT rfl (sT rfl (sT rfl (sT rfl (sT rfl (sT rfl (sT rfl sT0))))))))))) sub_nil⟩
              refine AL_cons (LR_move (at_tmp 61 _) rfl) (sS (sT1 rfl) sB0 sF0) ?_
              refine AL_cutAt 2 ⟨[(7, .inl (is (Bl x1))), (8, .inl (is (Bl x2))), (9, .inl (is (Bl x3))), (10, .inl (is (Bl x4))), (11, .inl (is (Bl x5))), (12, .inl (is (Bl x6))), (37, .inl (is (Bl x7))), (58, .inl (is (Bl x1))), (59, .inl (is (Bl x1))), (61, .inl (is (Bl (x1 && x4)))), (62, .inl (is (Bl (x1 && x4)))), (64, .inl (is (Bl ((x1 && x4) && x6))))], []⟩ ?_ ?_
              · cases hb : x1 && x4
                · skip
                  refine AL_cons (LR_off (b := false) rfl rfl rfl rfl) (sS (sT1 rfl) sB0 sF0) ?_
                  refine AL_cons (LR_pick (b := false) (at_tmp 62 _) (at_tmp 63 _) (at_c (v' := Bl false) rfl) rfl) (sS (sA (sT1 rfl) (sA (sT1 rfl) sT0)) sB0 sF0) ?_
                  exact AL_nil ⟨rfl, weak0 ((sT rfl (sT rfl (sT rfl (sT rfl (sT rfl (sT rfl (sT rfl (sT rfl (sT rfl (sT rfl (sT rfl (sT rfl sT0))))))))))))) sub_nil⟩
                · skip
                  refine AL_cons (LR_on rfl rfl rfl (LR_move (at_tmp 12 _) rfl)) (sS (sT rfl (sT1 rfl)) sB0 sF0) ?_
                  refine AL_cons (LR_pick (b := true) (at_tmp 62 _) (at_tmp 63 _) (at_c (v' := Bl false) rfl) rfl) (sS (sA (sT1 rfl) (sA (sT1 rfl) sT0)) sB0 sF0) ?_
                  exact AL_nil ⟨rfl, weak0 ((sT rfl (sT rfl (sT rfl (sT rfl (sT rfl (sT rfl (sT rfl (sT rfl (sT rfl (sT rfl (sT rfl (sT rfl sT0))))))))))))) sub_nil⟩
              refine AL_cons (LR_move (at_tmp 64 _) rfl) (sS (sT1 rfl) sB0 sF0) ?_
              refine AL_cutAt 3 ⟨[(7, .inl (is (Bl x1))), (8, .inl (is (Bl x2))), (9, .inl (is (Bl x3))), (10, .inl (is (Bl x4))), (11, .inl (is (Bl x5))), (12, .inl (is (Bl x6))), (37, .inl (is (Bl x7))), (58, .inl (is (Bl x1))), (59, .inl (is (Bl x1))), (61, .inl (is (Bl (x1 && x4)))), (62, .inl (is (Bl (x1 && x4)))), (64, .inl (is (Bl ((x1 && x4) && x6)))), (65, .inl (is (Bl ((x1 && x4) && x6)))), (68, .inl (is (Bl (((x1 && x4) && x6) && (!x2)))))], []⟩ ?_ ?_
              · cases hb : (x1 && x4) && x6
                · skip
                  refine AL_cons (LR_off (b := false) rfl rfl rfl rfl) (sS (sT1 rfl) sB0 sF0) ?_
                  refine AL_cons (LR_off (b := false) rfl rfl rfl rfl) (sS (sT1 rfl) sB0 sF0) ?_
                  refine AL_cons (LR_pick (b := false) (at_tmp 65 _) (at_tmp 67 _) (at_c (v' := Bl false) rfl) rfl) (sS (sA (sT1 rfl) (sA (sT1 rfl) sT0)) sB0 sF0) ?_
                  exact AL_nil ⟨rfl, weak0 ((sT rfl (sT rfl (sT rfl (sT rfl (sT rfl (sT rfl (sT rfl (sT rfl (sT rfl (sT rfl (sT rfl (sT rfl (sT rfl (sT rfl sT0))))))))))))))) sub_nil⟩
                · skip
                  refine AL_cons (LR_on rfl rfl rfl (LR_move (at_tmp 8 _) rfl)) (sS (sT rfl (sT1 rfl)) sB0 sF0) ?_
                  refine AL_cons (LR_on rfl rfl rfl (LR_un (at_tmp 66 _) (not_Bl x2) rfl)) (sS (sT rfl (sT1 rfl)) sB0 sF0) ?_
                  refine AL_cons (LR_pick (b := true) (at_tmp 65 _) (at_tmp 67 _) (at_c (v' := Bl false) rfl) rfl) (sS (sA (sT1 rfl) (sA (sT1 rfl) sT0)) sB0 sF0) ?_
                  exact AL_nil ⟨rfl, weak0 ((sT rfl (sT rfl (sT rfl (sT rfl (sT rfl (sT rfl (sT rfl (sT rfl (sT rfl (sT rfl (sT rfl (sT rfl (sT rfl (sT rfl sT0))))))))))))))) sub_nil⟩
              refine AL_cons (LR_move (at_tmp 68 _) rfl) (sS (sT1 rfl) sB0 sF0) ?_
              refine AL_cutAt 3 ⟨[(7, .inl (is (Bl x1))), (8, .inl (is (Bl x2))), (9, .inl (is (Bl x3))), (10, .inl (is (Bl x4))), (11, .inl (is (Bl x5))), (12, .inl (is (Bl x6))), (37, .inl (is (Bl x7))), (58, .inl (is (Bl x1))), (59, .inl (is (Bl x1))), (61, .inl (is (Bl (x1 && x4)))), (62, .inl (is (Bl (x1 && x4)))), (64, .inl (is (Bl ((x1 && x4) && x6)))), (65, .inl (is (Bl ((x1 && x4) && x6)))), (68, .inl (is (Bl (((x1 && x4) && x6) && (!x2))))), (69, .inl (is (Bl (((x1 && x4) && x6) && (!x2))))), (72, .inl (is (Bl ((((x1 && x4) && x6) && (!x2)) && (!x3)))))], []⟩ ?_ ?_
              · cases hb : ((x1 && x4) && x6) && (!x2)
                · skip
                  refine AL_cons (LR_off (b := false) rfl rfl rfl rfl) (sS (sT1 rfl) sB0 sF0) ?_
                  refine AL_cons (LR_off (b := false) rfl rfl rfl rfl) (sS (sT1 rfl) sB0 sF0) ?_
                  refine AL_cons (LR_pick (b := false) (at_tmp 69 _) (at_tmp 71 _) (at_c (v' := Bl false) rfl) rfl) (sS (sA (sT1 rfl) (sA (sT1 rfl) sT0)) sB0 sF0) ?_
                  exact AL_nil ⟨rfl, weak0 ((sT rfl (sT rfl (sT rfl (sT rfl (sT rfl (sT rfl (sT rfl (sT rfl (sT rfl (sT rfl (sT rfl (sT rfl (sT rfl (sT rfl (sT rfl (sT rfl sT0))))))))))))))))) sub_nil⟩
                · skip
                  refine AL_cons (LR_on rfl rfl rfl (LR_move (at_tmp 9 _) rfl)) (sS (sT rfl (sT1 rfl)) sB0 sF0) ?_
                  refine AL_cons (LR_on rfl rfl rfl (LR_un (at_tmp 70 _) (not_Bl x3) rfl)) (sS (sT rfl (sT1 rfl)) sB0 sF0) ?_
                  refine AL_cons (LR_pick (b := true) (at_tmp 69 _) (at_tmp 71 _) (at_c (v' := Bl false) rfl) rfl) (sS (sA (sT1 rfl) (sA (sT1 rfl) sT0)) sB0 sF0) ?_
                  exact AL_nil ⟨rfl, weak0 ((sT rfl (sT rfl (sT rfl (sT rfl (sT rfl (sT rfl (sT rfl (sT rfl (sT rfl (sT rfl (sT rfl (sT rfl (sT rfl (sT rfl (sT rfl (sT rfl sT0))))))))))))))))) sub_nil⟩
              refine AL_cons (LR_move (at_tmp 72 _) rfl) (sS (sT1 rfl) sB0 sF0) ?_
              refine AL_cutAt 3 ⟨[(7, .inl (is (Bl x1))), (8, .inl (is (Bl x2))), (9, .inl (is (Bl x3))), (10, .inl (is (Bl x4))), (11, .inl (is (Bl x5))), (12, .inl (is (Bl x6))), (37, .inl (is (Bl x7))), (58, .inl (is (Bl x1))), (59, .inl (is (Bl x1))), (61, .inl (is (Bl (x1 && x4)))), (62, .inl (is (Bl (x1 && x4)))), (64, .inl (is (Bl ((x1 && x4) && x6)))), (65, .inl (is (Bl ((x1 && x4) && x6)))), (68, .inl (is (Bl (((x1 && x4) && x6) && (!x2))))), (69, .inl (is (Bl (((x1 && x4) && x6) && (!x2))))), (72, .inl (is (Bl ((((x1 && x4) && x6) && (!x2)) && (!x3))))), (73, .inl (is (Bl ((((x1 && x4) && x6) && (!x2)) && (!x3))))), (76, .inl (is (Bl (((((x1 && x4) && x6) && (!x2)) && (!x3)) && (!x5)))))], []⟩ ?_ ?_
              · cases hb : (((x1 && x4) && x6) && (!x2)) && (!x3)
                · skip
                  refine AL_cons (LR_off (b := false) rfl rfl rfl rfl) (sS (sT1 rfl) sB0 sF0) ?_
                  refine AL_cons (LR_off (b := false) rfl rfl rfl rfl) (sS (sT1 rfl) sB0 sF0) ?_
                  refine AL_cons (LR_pick (b := false) (at_tmp 73 _) (at_tmp 75 _) (at_c (v' := Bl false) rfl) rfl) (sS (sA (sT1 rfl) (sA (sT1 rfl) sT0)) sB0 sF0) ?_
                  exact AL_nil ⟨rfl, weak0 ((sT rfl (sT rfl (sT rfl (sT rfl (sT rfl (sT rfl (sT rfl (sT rfl (sT rfl (sT rfl (sT rfl (sT rfl (sT rfl (sT rfl (sT rfl (sT rfl (sT rfl (sT rfl sT0))))))))))))))))))) sub_nil⟩
                · skip
                  refine AL_cons (LR_on rfl rfl rfl (LR_move (at_tmp 11 _) rfl)) (sS (sT rfl (sT1 rfl)) sB0 sF0) ?_
                  refine AL_cons (LR_on rfl rfl rfl (LR_un (at_tmp 74 _) (not_Bl x5) rfl)) (sS (sT rfl (sT1 rfl)) sB0 sF0) ?_
                  refine AL_cons (LR_pick (b := true) (at_tmp 73 _) (at_tmp 75 _) (at_c (v' := Bl false) rfl) rfl) (sS (sA (sT1 rfl) (sA (sT1 rfl) sT0)) sB0 sF0) ?_
                  exact AL_nil ⟨rfl, weak0 ((sT rfl (sT rfl (sT rfl (sT rfl (sT rfl (sT rfl (sT rfl (sT rfl (sT rfl (sT rfl (sT rfl (sT rfl (sT rfl (sT rfl (sT rfl (sT rfl (sT rfl (sT rfl sT0))))))))))))))))))) sub_nil⟩
              refine AL_cons (LR_assign (at_tmp 76 _) rfl) (sS (sT1 rfl) sB0 sF0) ?_
              refine AL_nil ?_
              exact thenN (cutLeaf (v := ((((x1 && x4) && x6) && (!x2)) && (!x3)) && (!x5)) hr (weak0 ((sT rfl (sT rfl (sT rfl (sT rfl (sT rfl (sT rfl (sT rfl sT0)))))))) sub_nil))
            · rintro x8 hr
              show AW Hfaa.prog _ _ _ ⟨[(7, .inl (is (Bl x1))), (8, .inl (is (Bl x2))), (9, .inl (is (Bl x3))), (10, .inl (is (Bl x4))), (11, .inl (is (Bl x5))), (12, .inl (is (Bl x6))), (57, .inl (is (Bl x8)))], []⟩
              have hr : r = F237_5 x1 x2 x3 x4 x5 x6 x8 := hr
              refine AW_condT (b := x8) rfl (fun h => ?_) (fun h => ?_)
              · have hr := hr.trans (cond_t h)
                clear h
                refine AW_seq1 ?_
                refine AW_region ?_
                refine AL_cons (LR_assign (at_c (v' := Sv ([61] : List UInt8)) rfl) rfl) (sS sT0 sB0 sF0) ?_
                refine AL_nil ?_
                refine thenN ?_
                refine AW_ret ?_
                refine blR ?_
                refine thenR ?_
                subst hr
                exact res1 rfl (rvT rfl)
              · have hr := hr.trans (cond_f h)
                clear h
                refine AW_cut (σ := Bool) (fun v => ⟨[(77, .inl (is (Bl v)))], []⟩) (fun v => r = F237_6 v) ?_ ?_
                · skip
                  refine AW_region ?_
                  refine AL_cons (LR_move (at_tmp 11 _) rfl) (sS (sT1 rfl) sB0 sF0) ?_
                  refine AL_cons (LR_move (at_tmp 78 _) rfl) (sS (sT1 rfl) sB0 sF0) ?_
                  refine AL_cutAt 2 ⟨[(7, .inl (is (Bl x1))), (8, .inl (is (Bl x2))), (9, .inl (is (Bl x3))), (10, .inl (is (Bl x4))), (11, .inl (is (Bl x5))), (12, .inl (is (Bl x6))), (57, .inl (is (Bl x8))), (78, .inl (is (Bl x5))), (79, .inl (is (Bl x5))), (81, .inl (is (Bl (x5 && x6))))], []⟩ ?_ ?_
                  · cases hb : x5
                    · skip
                      refine AL_cons (LR_off (b := false) rfl rfl rfl rfl) (sS (sT1 rfl) sB0 sF0) ?_
                      refine AL_cons (LR_pick (b := false) (at_tmp 79 _) (at_tmp 80 _) (at_c (v' := Bl false) rfl) rfl) (sS (sA (sT1 rfl) (sA (sT1 rfl) sT0)) sB0 sF0) ?_
                      exact AL_nil ⟨rfl, weak0 ((sT rfl (sT rfl (sT rfl (sT rfl (sT rfl (sT rfl (sT rfl (sT rfl (sT rfl (sT rfl sT0))))))))))) sub_nil⟩
                    · skip
                      refine AL_cons (LR_on rfl rfl rfl (LR_move (at_tmp 12 _) rfl)) (sS (sT rfl (sT1 rfl)) sB0 sF0) ?_
                      refine AL_cons (LR_pick (b := true) (at_tmp 79 _) (at_tmp 80 _) (at_c (v' := Bl false) rfl) rfl) (sS (sA (sT1 rfl) (sA (sT1 rfl) sT0)) sB0 sF0) ?_
                      exact AL_nil ⟨rfl, weak0 ((sT rfl (sT rfl (sT rfl (sT rfl (sT rfl (sT rfl (sT rfl (sT rfl (sT rfl (sT rfl sT0))))))))))) sub_nil⟩
                  refine AL_cons (LR_move (at_tmp 81 _) rfl) (sS (sT1 rfl) sB0 sF0) ?_
                  refine AL_cutAt 2 ⟨[(7, .inl (is (Bl x1))), (8, .inl (is (Bl x2))), (9, .inl (is (Bl x3))), (10, .inl (is (Bl x4))), (11, .inl (is (Bl x5))), (12, .inl (is (Bl x6))), (57, .inl (is (Bl x8))), (78, .inl (is (Bl x5))), (79, .inl (is (Bl x5))), (81, .inl (is (Bl (x5 && x6)))), (82, .inl (is (Bl (x5 && x6)))), (84, .inl (is (Bl ((x5 && x6) && x2))))], []⟩ ?_ ?_
                  · cases hb : x5 && x6
                    · skip
                      refine AL_cons (LR_off (b := false) rfl rfl rfl rfl) (sS (sT1 rfl) sB0 sF0) ?_
                      refine AL_cons (LR_pick (b := false) (at_tmp 82 _) (at_tmp 83 _) (at_c (v' := Bl false) rfl) rfl) (sS (sA (sT1 rfl) (sA (sT1 rfl) sT0)) sB0 sF0) ?_
                      exact AL_nil ⟨rfl, weak0 ((sT rfl (sT rfl (sT rfl (sT rfl (sT rfl (sT rfl (sT rfl (sT rfl (sT rfl (sT rfl (sT rfl (sT rfl sT0))))))))))))) sub_nil⟩
                    · skip
                      refine AL_cons (LR_on rfl rfl rfl (LR_move (at_tmp 8 _) rfl)) (sS (sT rfl (sT1 rfl)) sB0 sF0) ?_
                      refine AL_cons (LR_pick (b := true) (at_tmp 82 _) (at_tmp 83 _) (at_c (v' := Bl false) rfl) rfl) (sS (sA (sT1 rfl) (sA (sT1 rfl) sT0)) sB0 sF0) ?_
                      exact AL_nil ⟨rfl, weak0 ((sT rfl (sT rfl (sT rfl (sT rfl (sT rfl (sT rfl (sT rfl (sT rfl (sT rfl (sT rfl (sT rfl (sT rfl sT0))))))))))))) sub_nil⟩
                  refine AL_cons (LR_move (at_tmp 84 _) rfl) (sS (sT1 rfl) sB0 sF0) ?_
                  refine AL_cutAt 3 ⟨[(7, .inl (is (Bl x1))), (8, .inl (is (Bl x2))), (9, .inl (is (Bl x3))), (10, .inl (is (Bl x4))), (11, .inl (is (Bl x5))), (12, .inl (is (Bl x6))), (57, .inl (is (Bl x8))), (78, .inl (is (Bl x5))), (79, .inl (is (Bl x5))), (81, .inl (is (Bl (x5 && x6)))), (82, .inl (is (Bl (x5 && x6)))), (84, .inl (is (Bl ((x5 && x6) && x2)))), (85, .inl (is (Bl ((x5 && x6) && x2)))), (88, .inl (is (Bl (((x5 && x6) && x2) && (!x1)))))], []⟩ ?_ ?_
                  · cases hb : (x5 && x6) && x2
                    · skip
                      refine AL_cons (LR_off (b := false) rfl rfl rfl rfl) (sS (sT1 rfl) sB0 sF0) ?_
                      refine AL_cons (LR_off (b := false) rfl rfl rfl rfl) (sS (sT1 rfl) sB0 sF0) ?_
                      refine AL_cons (LR_pick (b := false) (at_tmp 85 _) (at_tmp 87 _) (at_c (v' := Bl false) rfl) rfl) (sS (sA (sT1 rfl) (sA (sT1 rfl) sT0)) sB0 sF0) ?_
                      exact AL_nil ⟨rfl, weak0 ((sT rfl (sT rfl (sT rfl (sT rfl (sT rfl (sT rfl (sT rfl (sT rfl (sT rfl (sT rfl (sT rfl (sT rfl (sT rfl (sT rfl sT0))))))))))))))) sub_nil⟩
                    · skip
                      refine AL_cons (LR_on rfl rfl rfl (LR_move (at_tmp 7 _) rfl)) (sS (sT rfl (sT1 rfl)) sB0 sF0) ?_
                      refine AL_cons (LR_on rfl rfl rfl (LR_un (at_tmp 86 _) (not_Bl x1) rfl)) (sS (sT rfl (sT1 rfl)) sB0 sF0) ?_
                      refine AL_cons (LR_pick (b := true) (at_tmp 85 _) (at_tmp 87 _) (at_c (v' := Bl false) rfl) rfl) (sS (sA (sT1 rfl) (sA (sT1 rfl) sT0)) sB0 sF0) ?_
                      exact AL_nil ⟨rfl, weak0 ((sT rfl (sT rfl (sT rfl (sT rfl (sT rfl (sT rfl (sT rfl (sT rfl (sT rfl (sT rfl (sT rfl (sT rfl (sT rfl (sT rfl sT0))))))))))))))) sub_nil⟩
                  refine AL_cons (LR_move (at_tmp 88 _) rfl) (sS (sT1 rfl) sB0 sF0) ?_
                  refine AL_cutAt 3 ⟨[(7, .inl (is (Bl x1))), (8, .inl (is (Bl x2))), (9, .inl (is (Bl x3))), (10, .inl (is (Bl x4))), (11, .inl (is (Bl x5))), (12, .inl (is (Bl x6))), (57, .inl (is (Bl x8))), (78, .inl (is (Bl x5))), (79, .inl (is (Bl x5))), (81, .inl (is (Bl (x5 && x6)))), (82, .inl (is (Bl (x5 && x6)))), (84, .inl (is (Bl ((x5 && x6) && x2)))), (85, .inl (is (Bl ((x5 && x6) && x2)))), (88, .inl (is (Bl (((x5 && x6) && x2) && (!x1))))), (89, .inl (is (Bl (((x5 && x6) && x2) && (!x1))))), (92, .inl (is (Bl ((((x5 && x6) && x2) && (!x1)) && (!x3)))))], []⟩ ?_ ?_
                  · cases hb : ((x5 && x6) && x2) && (!x1)
                    · skip
                      refine AL_cons (LR_off (b := false) rfl rfl rfl rfl) (sS (sT1 rfl) sB0 sF0) ?_
                      refine AL_cons (LR_off (b := false) rfl rfl rfl rfl) (sS (sT1 rfl) sB0 sF0) ?_
                      refine AL_cons (LR_pick (b := false) (at_tmp 89 _) (at_tmp 91 _) (at_c (v' := Bl false) rfl) rfl) (sS (sA (sT1 rfl) (sA (sT1 rfl) sT0)) sB0 sF0) ?_
                      exact AL_nil ⟨rfl, weak0 ((sT rfl (sT rfl (sT rfl (sT rfl (sT rfl (sT rfl (sT rfl (sT rfl (sT rfl (sT rfl (sT rfl (sT rfl (sT rfl (sT rfl (sT rfl (sT rfl sT0))))))))))))))))) sub_nil⟩
                    · skip
                      refine AL_cons (LR_on rfl rfl rfl (LR_move (at_tmp 9 _) rfl)) (sS (sT rfl (sT1 rfl)) sB0 sF0) ?_
                      refine AL_cons (LR_on rfl rfl rfl (LR_un (at_tmp 90 _) (not_Bl x3) rfl)) (sS (sT rfl (sT1 rfl)) sB0 sF0) ?_
                      refine AL_cons (LR_pick (b := true) (at_tmp 89 _) (at_tmp 91 _) (at_c (v' := Bl false) rfl) rfl) (sS (sA (sT1 rfl) (sA (sT1 rfl) sT0)) sB0 sF0) ?_
                      exact AL_nil ⟨rfl, weak0 ((sT rfl (sT rfl (sT rfl (sT rfl (sT rfl (sT rfl (sT rfl (sT rfl (sT rfl (sT rfl (sT rfl (sT rfl (sT rfl (sT rfl (sT rfl (sT rfl sT0))))))))))))))))) sub_nil⟩
                  refine AL_cons (LR_move (at_tmp 92 _) rfl) (sS (sT1 rfl) sB0 sF0) ?_
                  refine AL_cutAt 3 ⟨[(7, .inl (is (Bl x1))), (8, .inl (is (Bl x2))), (9, .inl (is (Bl x3))), (10, .inl (is (Bl x4))), (11, .inl (is (Bl x5))), (12, .inl (is (Bl x6))), (57, .inl (is (Bl x8))), (78, .inl (is (Bl x5))), (79, .inl (is (Bl x5))), (81, .inl (is (Bl (x5 && x6)))), (82, .inl (is (Bl (x5 && x6)))), (84, .inl (is (Bl ((x5 && x6) && x2)))), (85, .inl (is (Bl ((x5 && x6) && x2)))), (88, .inl (is (Bl (((x5 && x6) && x2) && (!x1))))), (89, .inl (is (Bl (((x5 && x6) && x2) && (!x1))))), (92, .inl (is (Bl ((((x5 && x6) && x2) && (!x1)) && (!x3))))), (93, .inl (is (Bl ((((x5 && x6) && x2) && (!x1)) && (!x3))))), (96, .inl (is (Bl (((((x5 && x6) && x2) && (!x1)) && (!x3)) && (!x4)))))], []⟩ ?_ ?_
                  · cases hb : (((x5 && x6) && x2) && (!x1)) && (!x3)
                    · skip
                      refine AL_cons (LR_off (b := false) rfl rfl rfl rfl) (sS (sT1 rfl) sB0 sF0) ?_
                      refine AL_cons (LR_off (b := false) rfl rfl rfl rfl) (sS (sT1 rfl) sB0 sF0) ?_
                      refine AL_cons (LR_pick (b := false) (at_tmp 93 _) (at_tmp 95 _) (at_c (v' := Bl false) rfl) rfl) (sS (sA (sT1 rfl) (sA (sT1 rfl) sT0)) sB0 sF0) ?_
                      exact AL_nil ⟨rfl, weak0 ((sT rfl (sT rfl (sT rfl (sT rfl (sT rfl (sT rfl (sT rfl (sT rfl (sT rfl (sT rfl (sT rfl (sT rfl (sT rfl (sT rfl (sT rfl (sT rfl (sT rfl (sT rfl sT0))))))))))))))))))) sub_nil⟩
                    · skip
                      refine AL_cons (LR_on rfl rfl rfl (LR_move (at_tmp 10 _) rfl)) (sS (sT rfl (sT1 rfl)) sB0 sF0) ?_
                      refine AL_cons (LR_on rfl rfl rfl (LR_un (at_tmp 94 _) (not_Bl x4) rfl)) (sS (sT rfl (sT1 rfl)) sB0 sF0) ?_
                      refine AL_cons (LR_pick (b := true) (at_tmp 93 _) (at_tmp 95 _) (at_c (v' := Bl false) rfl) rfl) (sS (sA (sT1 rfl) (sA (sT1 rfl) sT0)) sB0 sF0) ?_
                      exact AL_nil ⟨rfl, weak0 ((sT rfl (sT rfl (sT rfl (sT rfl (sT rfl (sT rfl (sT rfl (sT rfl (sT rfl (sT rfl (sT rfl (sT rfl (sT rfl (sT rfl (sT rfl (sT rfl (sT rfl (sT rfl sT0))))))))))))))))))) sub_nil⟩
                  refine AL_cons (LR_assign (at_tmp 96 _) rfl) (sS (sT1 rfl) sB0 sF0) ?_
                  refine AL_nil ?_
                  exact thenN (cutLeaf (v := ((((x5 && x6) && x2) && (!x1)) && (!x3)) && (!x4)) hr (weak0 ((sT rfl sT0)) sub_nil))
                · rintro x9 hr
                  show AW Hfaa.prog _ _ _ ⟨[(77, .inl (is (Bl x9)))], []⟩
                  have hr : r = F237_6 x9 := hr
                  refine AW_condT (b := x9) rfl (fun h => ?_) (fun h => ?_)
                  · have hr := hr.trans (cond_t h)
                    clear h
                    refine AW_seq1 ?_
                    refine AW_region ?_
                    refine AL_cons (LR_assign (at_c (v' := Sv ([62] : List UInt8)) rfl) rfl) (sS sT0 sB0 sF0) ?_
                    refine AL_nil ?_
                    refine thenN ?_
                    refine AW_ret ?_
                    refine blR ?_
                    refine thenR ?_
                    subst hr
                    exact res1 rfl (rvT rfl)
                  · have hr := hr.trans (cond_f h)
                    clear h
                    refine AW_skip ?_
                    refine blN ?_
                    refine thenN ?_
                    refine AW_seq1 ?_
                    refine AW_region ?_
                    refine AL_cons (LR_assign (at_c (v' := Sv ([63] : List UInt8)) rfl) rfl) (sS sT0 sB0 sF0) ?_
                    refine AL_nil ?_
                    refine thenN ?_
                    refine AW_ret ?_
                    subst hr
                    exact res1 rfl (rvT rfl)
end Go.Proofs.YfwaawGreat
