import Derived.Test.YfwaawGreatBig
namespace Go.Proofs.YfwaawGreat
open Go.Aw
set_option linter.unusedVariables false
set_option maxRecDepth 100000
set_option maxHeartbeats 1000000
/-- parse/clinger.ten64 -/
def F161_22 (x22 : Bool) : Option Nat := bif x22 then (some 4936209963552724370) else (some 4607182418800017408)
def F161_21 (a0 : Int) (x21 : Bool) : Option Nat := bif x21 then (some 4921056587992461136) else F161_22 (a0 == 22)
def F161_20 (a0 : Int) (x20 : Bool) : Option Nat := bif x20 then (some 4906019910204099648) else F161_21 a0 (a0 == 21)
def F161_19 (a0 : Int) (x19 : Bool) : Option Nat := bif x19 then (some 4891288408196988160) else F161_20 a0 (a0 == 20)
def F161_18 (a0 : Int) (x18 : Bool) : Option Nat := bif x18 then (some 4876203697187506176) else F161_19 a0 (a0 == 19)
def F161_17 (a0 : Int) (x17 : Bool) : Option Nat := bif x17 then (some 4861130398305394688) else F161_18 a0 (a0 == 18)
def F161_16 (a0 : Int) (x16 : Bool) : Option Nat := bif x16 then (some 4846369599423283200) else F161_17 a0 (a0 == 17)
def F161_15 (a0 : Int) (x15 : Bool) : Option Nat := bif x15 then (some 4831355200913801216) else F161_16 a0 (a0 == 16)
def F161_14 (a0 : Int) (x14 : Bool) : Option Nat := bif x14 then (some 4816244402031689728) else F161_15 a0 (a0 == 15)
def F161_13 (a0 : Int) (x13 : Bool) : Option Nat := bif x13 then (some 4801453603149578240) else F161_14 a0 (a0 == 14)
def F161_12 (a0 : Int) (x12 : Bool) : Option Nat := bif x12 then (some 4786511204640096256) else F161_13 a0 (a0 == 13)
def F161_11 (a0 : Int) (x11 : Bool) : Option Nat := bif x11 then (some 4771362005757984768) else F161_12 a0 (a0 == 12)
def F161_10 (a0 : Int) (x10 : Bool) : Option Nat := bif x10 then (some 4756540486875873280) else F161_11 a0 (a0 == 11)
def F161_9 (a0 : Int) (x9 : Bool) : Option Nat := bif x9 then (some 4741671816366391296) else F161_10 a0 (a0 == 10)
def F161_8 (a0 : Int) (x8 : Bool) : Option Nat := bif x8 then (some 4726483295884279808) else F161_9 a0 (a0 == 9)
def F161_7 (a0 : Int) (x7 : Bool) : Option Nat := bif x7 then (some 4711630319722168320) else F161_8 a0 (a0 == 8)
def F161_6 (a0 : Int) (x6 : Bool) : Option Nat := bif x6 then (some 4696837146684686336) else F161_7 a0 (a0 == 7)
def F161_5 (a0 : Int) (x5 : Bool) : Option Nat := bif x5 then (some 4681608360884174848) else F161_6 a0 (a0 == 6)
def F161_4 (a0 : Int) (x4 : Bool) : Option Nat := bif x4 then (some 4666723172467343360) else F161_5 a0 (a0 == 5)
def F161_3 (a0 : Int) (x3 : Bool) : Option Nat := bif x3 then (some 4652007308841189376) else F161_4 a0 (a0 == 4)
def F161_2 (a0 : Int) (x2 : Bool) : Option Nat := bif x2 then (some 4636737291354636288) else F161_3 a0 (a0 == 3)
def F161_1 (a0 : Int) (x1 : Bool) : Option Nat := bif x1 then (some 4621819117588971520) else F161_2 a0 (a0 == 2)
def F161 (a0 : Int) : Option Nat := F161_1 a0 (a0 == 1)
theorem C161 (a0 : Int) (r : Option Nat) (hr : r = F161 a0) : Aw.Fn Hfaa.prog 161 [is (I16 a0)] (fl .f64 r) := by
  refine fn_intro Hfaa.func161 rfl rfl rfl ?_
  intro bn0 w0 H0
  refine AW_seq1 ?_
  refine AW_region ?_
  refine AL_cons (LR_assign (at_f rfl) rfl) (sS sT0 sB0 sF0) ?_
  refine AL_nil ?_
  refine thenN ?_
  refine AW_seq1 ?_
  refine AW_seq1 ?_
  refine AW_region ?_
  refine AL_cons (LR_move (at_tmp 0 _) rfl) (sS (sT1 rfl) sB0 sF0) ?_
  refine AL_nil ?_
  refine thenN ?_
  refine AW_block ?_
  refine AW_cut (σ := Bool) (fun v => ⟨[(3, .inl (is (I16 a0))), (4, .inl (is (Bl v)))], []⟩) (fun v => r = F161_1 a0 v) ?_ ?_
  · skip
    refine AW_region ?_
    refine AL_cons (LR_bin (at_tmp 3 _) (at_c (v' := I16 1) rfl) (eql_I16 a0 1) rfl) (sS (sA (sT1 rfl) sT0) sB0 sF0) ?_
    refine AL_cons (LR_assign (at_tmp 5 _) rfl) (sS (sT1 rfl) sB0 sF0) ?_
    refine AL_nil ?_
    exact thenN (cutLeaf (v := a0 == 1) hr (weak0 ((sT rfl (sT rfl sT0))) sub_nil))
  · rintro x1 hr
    show AW Hfaa.prog _ _ _ ⟨[(3, .inl (is (I16 a0))), (4, .inl (is (Bl x1)))], []⟩
    have hr : r = F161_1 a0 x1 := hr
    refine AW_condT (b := x1) rfl (fun h => ?_) (fun h => ?_)
    · have hr := hr.trans (cond_t h)
      clear h
      refine AW_seq1 ?_
      refine AW_region ?_
      refine AL_cons (LR_assign (at_f rfl) rfl) (sS sT0 sB0 sF0) ?_
      refine AL_nil ?_
      refine thenN ?_
      refine AW_ret ?_
      refine blR ?_
      refine thenR ?_
      subst hr
      exact res1 rfl (rvT rfl)
    · have hr := hr.trans (cond_f h)
      clear h
      refine AW_cut (σ := Bool) (fun v => ⟨[(3, .inl (is (I16 a0))), (6, .inl (is (Bl v)))], []⟩) (fun v => r = F161_2 a0 v) ?_ ?_
      · skip
        refine AW_region ?_
        refine AL_cons (LR_bin (at_tmp 3 _) (at_c (v' := I16 2) rfl) (eql_I16 a0 2) rfl) (sS (sA (sT1 rfl) sT0) sB0 sF0) ?_
        refine AL_cons (LR_assign (at_tmp 7 _) rfl) (sS (sT1 rfl) sB0 sF0) ?_
        refine AL_nil ?_
        exact thenN (cutLeaf (v := a0 == 2) hr (weak0 ((sT rfl (sT rfl sT0))) sub_nil))
      · rintro x2 hr
        show AW Hfaa.prog _ _ _ ⟨[(3, .inl (is (I16 a0))), (6, .inl (is (Bl x2)))], []⟩
        have hr : r = F161_2 a0 x2 := hr
        refine AW_condT (b := x2) rfl (fun h => ?_) (fun h => ?_)
        · have hr := hr.trans (cond_t h)
          clear h
          refine AW_seq1 ?_
          refine AW_region ?_
          refine AL_cons (LR_assign (at_f rfl) rfl) (sS sT0 sB0 sF0) ?_
          refine AL_nil ?_
          refine thenN ?_
          refine AW_ret ?_
          refine blR ?_
          refine thenR ?_
          subst hr
          exact res1 rfl (rvT rfl)
        · have hr := hr.trans (cond_f h)
          clear h
          refine AW_cut (σ := Bool) (fun v => ⟨[(3, .inl (is (I16 a0))), (8, .inl (is (Bl v)))], []⟩) (fun v => r = F161_3 a0 v) ?_ ?_
          · skip
            refine AW_region ?_
            refine AL_cons (LR_bin (at_tmp 3 _) (at_c (v' := I16 3) rfl) (eql_I16 a0 3) rfl) (sS (sA (sT1 rfl) sT0) sB0 sF0) ?_
            refine AL_cons (LR_assign (at_tmp 9 _) rfl) (sS (sT1 rfl) sB0 sF0) ?_
            refine AL_nil ?_
            exact thenN (cutLeaf (v := a0 == 3) hr (weak0 ((sT rfl (sT rfl sT0))) sub_nil))
          · rintro x3 hr
            show AW Hfaa.prog _ _ _ ⟨[(3, .inl (is (I16 a0))), (8, .inl (is (Bl x3)))], []⟩
            have hr : r = F161_3 a0 x3 := hr
            refine AW_condT (b := x3) rfl (fun h => ?_) (fun h => ?_)
            · have hr := hr.trans (cond_t h)
              clear h
              refine AW_seq1 ?_
              refine AW_region ?_
              refine AL_cons (LR_assign (at_f rfl) rfl) (sS sT0 sB0 sF0) ?_
              refine AL_nil ?_
              refine thenN ?_
              refine AW_ret ?_
              refine blR ?_
              refine thenR ?_
              subst hr
              exact res1 rfl (rvT rfl)
            · have hr := hr.trans (cond_f h)
              clear h
              refine AW_cut (σ := Bool) (fun v => ⟨[(3, .inl (is (I16 a0))), (10, .inl (is (Bl v)))], []⟩) (fun v => r = F161_4 a0 v) ?_ ?_
              · skip
                refine AW_region ?_
                refine AL_cons (LR_bin (at_tmp 3 _) (at_c (v' := I16 4) rfl) (eql_I16 a0 4) rfl) (sS (sA (sT1 rfl) sT0) sB0 sF0) ?_
                refine AL_cons (LR_assign (at_tmp 11 _) rfl) (sS (sT1 rfl) sB0 sF0) ?_
                refine AL_nil ?_
                exact thenN (cutLeaf (v := a0 == 4) hr (weak0 ((sT rfl (sT rfl sT0))) sub_nil))
              · rintro x4 hr
                show AW Hfaa.prog _ _ _ ⟨[(3, .inl (is (I16 a0))), (10, .inl (is (Bl x4)))], []⟩
                have hr : r = F161_4 a0 x4 := hr
                refine AW_condT (b := x4) rfl (fun h => ?_) (fun h => ?_)
                · have hr := hr.trans (cond_t h)
                  clear h
                  refine AW_seq1 ?_
                  refine AW_region ?_
                  refine AL_cons (LR_assign (at_f rfl) rfl) (sS sT0 sB0 sF0) ?_
                  refine AL_nil ?_
                  refine thenN ?_
                  refine AW_ret ?_
                  refine blR ?_
                  refine thenR ?_
                  subst hr
                  exact res1 rfl (rvT rfl)
                · have hr := hr.trans (cond_f h)
                  clear h
                  refine AW_cut (σ := Bool) (fun v => ⟨[(3, .inl (is (I16 a0))), (12, .inl (is (Bl v)))], []⟩) (fun v => r = F161_5 a0 v) ?_ ?_
                  · skip
                    refine AW_region ?_
                    refine AL_cons (LR_bin (at_tmp 3 _) (at_c (v' := I16 5) rfl) (eql_I16 a0 5) rfl) (sS (sA (sT1 rfl) sT0) sB0 sF0) ?_
                    refine AL_cons (LR_assign (at_tmp 13 _) rfl) (sS (sT1 rfl) sB0 sF0) ?_
                    refine AL_nil ?_
                    exact thenN (cutLeaf (v := a0 == 5) hr (weak0 ((sT rfl (sT rfl sT0))) sub_nil))
                  · rintro x5 hr
                    show AW Hfaa.prog _ _ _ ⟨[(3, .inl (is (I16 a0))), (12, .inl (is (Bl x5)))], []⟩
                    have hr : r = F161_5 a0 x5 := hr
                    refine AW_condT (b := x5) rfl (fun h => ?_) (fun h => ?_)
                    · have hr := hr.trans (cond_t h)
                      clear h
                      refine AW_seq1 ?_
                      refine AW_region ?_
                      refine AL_cons (LR_assign (at_f rfl) rfl) (sS sT0 sB0 sF0) ?_
                      refine AL_nil ?_
                      refine thenN ?_
                      refine AW_ret ?_
                      refine blR ?_
                      refine thenR ?_
                      subst hr
                      exact res1 rfl (rvT rfl)
                    · have hr := hr.trans (cond_f h)
                      clear h
                      refine AW_cut (σ := Bool) (fun v => ⟨[(3, .inl (is (I16 a0))), (14, .inl (is (Bl v)))], []⟩) (fun v => r = F161_6 a0 v) ?_ ?_
                      · skip
                        refine AW_region ?_
                        refine AL_cons (LR_bin (at_tmp 3 _) (at_c (v' := I16 6) rfl) (eql_I16 a0 6) rfl) (sS (sA (sT1 rfl) sT0) sB0 sF0) ?_
                        refine AL_cons (LR_assign (at_tmp 15 _) rfl) (sS (sT1 rfl) sB0 sF0) ?_
                        refine AL_nil ?_
                        exact thenN (cutLeaf (v := a0 == 6) hr (weak0 ((sT rfl (sT rfl sT0))) sub_nil))
                      · rintro x6 hr
                        show AW Hfaa.prog _ _ _ ⟨[(3, .inl (is (I16 a0))), (14, .inl (is (Bl x6)))], []⟩
                        have hr : r = F161_6 a0 x6 := hr
                        refine AW_condT (b := x6) rfl (fun h => ?_) (fun h => ?_)
                        · have hr := hr.trans (cond_t h)
                          clear h
                          refine AW_seq1 ?_
                          refine AW_region ?_
                          refine AL_cons (LR_assign (at_f rfl) rfl) (sS sT0 sB0 sF0) ?_
                          refine AL_nil ?_
                          refine thenN ?_
                          refine AW_ret ?_
                          refine blR ?_
                          refine thenR ?_
                          subst hr
                          exact res1 rfl (rvT rfl)
                        · have hr := hr.trans (cond_f h)
                          clear h
                          refine AW_cut (σ := Bool) (fun v => ⟨[(3, .inl (is (I16 a0))), (16, .inl (is (Bl v)))], []⟩) (fun v => r = F161_7 a0 v) ?_ ?_
                          · skip
                            refine AW_region ?_
                            refine AL_cons (LR_bin (at_tmp 3 _) (at_c (v' := I16 7) rfl) (eql_I16 a0 7) rfl) (sS (sA (sT1 rfl) sT0) sB0 sF0) ?_
                            refine AL_cons (LR_assign (at_tmp 17 _) rfl) (sS (sT1 rfl) sB0 sF0) ?_
                            refine AL_nil ?_
                            exact thenN (cutLeaf (v := a0 == 7) hr (weak0 ((sT rfl (sT rfl sT0))) sub_nil))
                          · rintro x7 hr
                            show AW Hfaa.prog _ _ _ ⟨[(3, .inl (is (I16 a0))), (16, .inl (is (Bl x7)))], []⟩
                            have hr : r = F161_7 a0 x7 := hr
                            refine AW_condT (b := x7) rfl (fun h => ?_) (fun h => ?_)
                            · have hr := hr.trans (cond_t h)
                              clear h
                              refine AW_seq1 ?_
                              refine AW_region ?_
                              refine AL_cons (LR_assign (at_f rfl) rfl) (sS sT0 sB0 sF0) ?_
                              refine AL_nil ?_
                              refine thenN ?_
                              refine AW_ret ?_
                              refine blR ?_
                              refine thenR ?_
                              subst hr
                              exact res1 rfl (rvT rfl)
                            · have hr := hr.trans (cond_f h)
                              clear h
                              refine AW_cut (σ := Bool) (fun v => ⟨[(3, .inl (is (I16 a0))), (18, .inl (is (Bl v)))], []⟩) (fun v => r = F161_8 a0 v) ?_ ?_
                              · skip
                                refine AW_region ?_
                                refine AL_cons (LR_bin (at_tmp 3 _) (at_c (v' := I16 8) rfl) (eql_I16 a0 8) rfl) (sS (sA (sT1 rfl) sT0) sB0 sF0) ?_
                                refine AL_cons (LR_assign (at_tmp 19 _) rfl) (sS (sT1 rfl) sB0 sF0) ?_
                                refine AL_nil ?_
                                exact thenN (cutLeaf (v := a0 == 8) hr (weak0 ((sT rfl (sT rfl sT0))) sub_nil))
                              · rintro x8 hr
                                show AW Hfaa.prog _ _ _ ⟨[(3, .inl (is (I16 a0))), (18, .inl (is (Bl x8)))], []⟩
                                have hr : r = F161_8 a0 x8 := hr
                                refine AW_condT (b := x8) rfl (fun h => ?_) (fun h => ?_)
                                · have hr := hr.trans (cond_t h)
                                  clear h
                                  refine AW_seq1 ?_
                                  refine AW_region ?_
                                  refine AL_cons (LR_assign (at_f rfl) rfl) (sS sT0 sB0 sF0) ?_
                                  refine AL_nil ?_
                                  refine thenN ?_
                                  refine AW_ret ?_
                                  refine blR ?_
                                  refine thenR ?_
                                  subst hr
                                  exact res1 rfl (rvT rfl)
                                · have hr := hr.trans (cond_f h)
                                  clear h
                                  refine AW_cut (σ := Bool) (fun v => ⟨[(3, .inl (is (I16 a0))), (20, .inl (is (Bl v)))], []⟩) (fun v => r = F161_9 a0 v) ?_ ?_
                                  · skip
                                    refine AW_region ?_
                                    refine AL_cons (LR_bin (at_tmp 3 _) (at_c (v' := I16 9) rfl) (eql_I16 a0 9) rfl) (sS (sA (sT1 rfl) sT0) sB0 sF0) ?_
                                    refine AL_cons (LR_assign (at_tmp 21 _) rfl) (sS (sT1 rfl) sB0 sF0) ?_
                                    refine AL_nil ?_
                                    exact thenN (cutLeaf (v := a0 == 9) hr (weak0 ((sT rfl (sT rfl sT0))) sub_nil))
                                  · rintro x9 hr
                                    show AW Hfaa.prog _ _ _ ⟨[(3, .inl (is (I16 a0))), (20, .inl (is (Bl x9)))], []⟩
                                    have hr : r = F161_9 a0 x9 := hr
                                    refine AW_condT (b := x9) rfl (fun h => ?_) (fun h => ?_)
                                    · have hr := hr.trans (cond_t h)
                                      clear h
                                      refine AW_seq1 ?_
                                      refine AW_region ?_
                                      refine AL_cons (LR_assign (at_f rfl) rfl) (sS sT0 sB0 sF0) ?_
                                      refine AL_nil ?_
                                      refine thenN ?_
                                      refine AW_ret ?_
                                      refine blR ?_
                                      refine thenR ?_
                                      subst hr
                                      exact res1 rfl (rvT rfl)
                                    · have hr := hr.trans (cond_f h)
                                      clear h
                                      refine AW_cut (σ := Bool) (fun v => ⟨[(3, .inl (is (I16 a0))), (22, .inl (is (Bl v)))], []⟩) (fun v => r = F161_10 a0 v) ?_ ?_
                                      · skip
                                        refine AW_region ?_
                                        refine AL_cons (LR_bin (at_tmp 3 _) (at_c (v' := I16 10) rfl) (eql_I16 a0 10) rfl) (sS (sA (sT1 rfl) sT0) sB0 sF0) ?_
                                        refine AL_cons (LR_assign (at_tmp 23 _) rfl) (sS (sT1 rfl) sB0 sF0) ?_
                                        refine AL_nil ?_
                                        exact thenN (cutLeaf (v := a0 == 10) hr (weak0 ((sT rfl (sT rfl sT0))) sub_nil))
                                      · rintro x10 hr
                                        show AW Hfaa.prog _ _ _ ⟨[(3, .inl (is (I16 a0))), (22, .inl (is (Bl x10)))], []⟩
                                        have hr : r = F161_10 a0 x10 := hr
                                        refine AW_condT (b := x10) rfl (fun h => ?_) (fun h => ?_)
                                        · have hr := hr.trans (cond_t h)
                                          clear h
                                          refine AW_seq1 ?_
                                          refine AW_region ?_
                                          refine AL_cons (LR_assign (at_f rfl) rfl) (sS sT0 sB0 sF0) ?_
                                          refine AL_nil ?_
                                          refine thenN ?_
                                          refine AW_ret ?_
                                          refine blR ?_
                                          refine thenR ?_
                                          subst hr
                                          exact res1 rfl (rvT rfl)
                                        · have hr := hr.trans (cond_f h)
                                          clear h
                                          refine AW_cut (σ := Bool) (fun v => ⟨[(3, .inl (is (I16 a0))), (24, .inl (is (Bl v)))], []⟩) (fun v => r = F161_11 a0 v) ?_ ?_
                                          · skip
                                            refine AW_region ?_
                                            refine AL_cons (LR_bin (at_tmp 3 _) (at_c (v' := I16 11) rfl) (eql_I16 a0 11) rfl) (sS (sA (sT1 rfl) sT0) sB0 sF0) ?_
                                            refine AL_cons (LR_assign (at_tmp 25 _) rfl) (sS (sT1 rfl) sB0 sF0) ?_
                                            refine AL_nil ?_
                                            exact thenN (cutLeaf (v := a0 == 11) hr (weak0 ((sT rfl (sT rfl sT0))) sub_nil))
                                          · rintro x11 hr
                                            show AW Hfaa.prog _ _ _ ⟨[(3, .inl (is (I16 a0))), (24, .inl (is (Bl x11)))], []⟩
                                            have hr : r = F161_11 a0 x11 := hr
                                            refine AW_condT (b := x11) rfl (fun h => ?_) (fun h => ?_)
                                            · have hr := hr.trans (cond_t h)
                                              clear h
                                              refine AW_seq1 ?_
                                              refine AW_region ?_
                                              refine AL_cons (LR_assign (at_f rfl) rfl) (sS sT0 sB0 sF0) ?_
                                              refine AL_nil ?_
                                              refine thenN ?_
                                              refine AW_ret ?_
                                              refine blR ?_
                                              refine thenR ?_
                                              subst hr
                                              exact res1 rfl (rvT rfl)
                                            · have hr := hr.trans (cond_f h)
                                              clear h
                                              refine AW_cut (σ := Bool) (fun v => ⟨[(3, .inl (is (I16 a0))), (26, .inl (is (Bl v)))], []⟩) (fun v => r = F161_12 a0 v) ?_ ?_
                                              · skip
                                                refine AW_region ?_
                                                refine AL_cons (LR_bin (at_tmp 3 _) (at_c (v' := I16 12) rfl) (eql_I16 a0 12) rfl) (sS (sA (sT1 rfl) sT0) sB0 sF0) ?_
                                                refine AL_cons (LR_assign (at_tmp 27 _) rfl) (sS (sT1 rfl) sB0 sF0) ?_
                                                refine AL_nil ?_
                                                exact thenN (cutLeaf (v := a0 == 12) hr (weak0 ((sT rfl (sT rfl sT0))) sub_nil))
                                              · rintro x12 hr
                                                show AW Hfaa.prog _ _ _ ⟨[(3, .inl (is (I16 a0))), (26, .inl (is (Bl x12)))], []⟩
                                                have hr : r = F161_12 a0 x12 := hr
                                                refine AW_condT (b := x12) rfl (fun h => ?_) (fun h => ?_)
                                                · have hr := hr.trans (cond_t h)
                                                  clear h
                                                  refine AW_seq1 ?_
                                                  refine AW_region ?_
                                                  refine AL_cons (LR_assign (at_f rfl) rfl) (sS sT0 sB0 sF0) ?_
                                                  refine AL_nil ?_
                                                  refine thenN ?_
                                                  refine AW_ret ?_
                                                  refine blR ?_
                                                  refine thenR ?_
                                                  subst hr
                                                  exact res1 rfl (rvT rfl)
                                                · have hr := hr.trans (cond_f h)
                                                  clear h
                                                  refine AW_cut (σ := Bool) (fun v => ⟨[(3, .inl (is (I16 a0))), (28, .inl (is (Bl v)))], []⟩) (fun v => r = F161_13 a0 v) ?_ ?_
                                                  · skip
                                                    refine AW_region ?_
                                                    refine AL_cons (LR_bin (at_tmp 3 _) (at_c (v' := I16 13) rfl) (eql_I16 a0 13) rfl) (sS (sA (sT1 rfl) sT0) sB0 sF0) ?_
                                                    refine AL_cons (LR_assign (at_tmp 29 _) rfl) (sS (sT1 rfl) sB0 sF0) ?_
                                                    refine AL_nil ?_
                                                    exact thenN (cutLeaf (v := a0 == 13) hr (weak0 ((sT rfl (sT rfl sT0))) sub_nil))
                                                  · rintro x13 hr
                                                    show AW Hfaa.prog _ _ _ ⟨[(3, .inl (is (I16 a0))), (28, .inl (is (Bl x13)))], []⟩
                                                    have hr : r = F161_13 a0 x13 := hr
                                                    refine AW_condT (b := x13) rfl (fun h => ?_) (fun h => ?_)
                                                    · have hr := hr.trans (cond_t h)
                                                      clear h
                                                      refine AW_seq1 ?_
                                                      refine AW_region ?_
                                                      refine AL_cons (LR_assign (at_f rfl) rfl) (sS sT0 sB0 sF0) ?_
                                                      refine AL_nil ?_
                                                      refine thenN ?_
                                                      refine AW_ret ?_
                                                      refine blR ?_
                                                      refine thenR ?_
                                                      subst hr
                                                      exact res1 rfl (rvT rfl)
                                                    · have hr := hr.trans (cond_f h)
                                                      clear h
                                                      refine AW_cut (σ := Bool) (fun v => ⟨[(3, .inl (is (I16 a0))), (30, .inl (is (Bl v)))], []⟩) (fun v => r = F161_14 a0 v) ?_ ?_
                                                      · skip
                                                        refine AW_region ?_
                                                        refine AL_cons (LR_bin (at_tmp 3 _) (at_c (v' := I16 14) rfl) (eql_I16 a0 14) rfl) (sS (sA (sT1 rfl) sT0) sB0 sF0) ?_
                                                        refine AL_cons (LR_assign (at_tmp 31 _) rfl) (sS (sT1 rfl) sB0 sF0) ?_
                                                        refine AL_nil ?_
                                                        exact thenN (cutLeaf (v := a0 == 14) hr (weak0 ((sT rfl (sT rfl sT0))) sub_nil))
                                                      · rintro x14 hr
                                                        show AW Hfaa.prog _ _ _ ⟨[(3, .inl (is (I16 a0))), (30, .inl (is (Bl x14)))], []⟩
                                                        have hr : r = F161_14 a0 x14 := hr
                                                        refine AW_condT (b := x14) rfl (fun h => ?_) (fun h => ?_)
                                                        · have hr := hr.trans (cond_t h)
                                                          clear h
                                                          refine AW_seq1 ?_
                                                          refine AW_region ?_
                                                          refine AL_cons (LR_assign (at_f rfl) rfl) (sS sT0 sB0 sF0) ?_
                                                          refine AL_nil ?_
                                                          refine thenN ?_
                                                          refine AW_ret ?_
                                                          refine blR ?_
                                                          refine thenR ?_
                                                          subst hr
                                                          exact res1 rfl (rvT rfl)
                                                        · have hr := hr.trans (cond_f h)
                                                          clear h
                                                          refine AW_cut (σ := Bool) (fun v => ⟨[(3, .inl (is (I16 a0))), (32, .inl (is (Bl v)))], []⟩) (fun v => r = F161_15 a0 v) ?_ ?_
                                                          · skip
                                                            refine AW_region ?_
                                                            refine AL_cons (LR_bin (at_tmp 3 _) (at_c (v' := I16 15) rfl) (eql_I16 a0 15) rfl) (sS (sA (sT1 rfl) sT0) sB0 sF0) ?_
                                                            refine AL_cons (LR_assign (at_tmp 33 _) rfl) (sS (sT1 rfl) sB0 sF0) ?_
                                                            refine AL_nil ?_
                                                            exact thenN (cutLeaf (v := a0 == 15) hr (weak0 ((sT rfl (sT rfl sT0))) sub_nil))
                                                          · rintro x15 hr
                                                            show AW Hfaa.prog _ _ _ ⟨[(3, .inl (is (I16 a0))), (32, .inl (is (Bl x15)))], []⟩
                                                            have hr : r = F161_15 a0 x15 := hr
                                                            refine AW_condT (b := x15) rfl (fun h => ?_) (fun h => ?_)
                                                            · have hr := hr.trans (cond_t h)
                                                              clear h
                                                              refine AW_seq1 ?_
                                                              refine AW_region ?_
                                                              refine AL_cons (LR_assign (at_f rfl) rfl) (sS sT0 sB0 sF0) ?_
                                                              refine AL_nil ?_
                                                              refine thenN ?_
                                                              refine AW_ret ?_
                                                              refine blR ?_
                                                              refine thenR ?_
                                                              subst hr
                                                              exact res1 rfl (rvT rfl)
                                                            · have hr := hr.trans (cond_f h)
                                                              clear h
                                                              refine AW_cut (σ := Bool) (fun v => ⟨[(3, .inl (is (I16 a0))), (34, .inl (is (Bl v)))], []⟩) (fun v => r = F161_16 a0 v) ?_ ?_
                                                              · skip
                                                                refine AW_region ?_
                                                                refine AL_cons (LR_bin (at_tmp 3 _) (at_c (v' := I16 16) rfl) (eql_I16 a0 16) rfl) (sS (sA (sT1 rfl) sT0) sB0 sF0) ?_
                                                                refine AL_cons (LR_assign (at_tmp 35 _) rfl) (sS (sT1 rfl) sB0 sF0) ?_
                                                                refine AL_nil ?_
                                                                exact thenN (cutLeaf (v := a0 == 16) hr (weak0 ((sT rfl (sT rfl sT0))) sub_nil))
                                                              · rintro x16 hr
                                                                show AW Hfaa.prog _ _ _ ⟨[(3, .inl (is (I16 a0))), (34, .inl (is (Bl x16)))], []⟩
                                                                have hr : r = F161_16 a0 x16 := hr
                                                                refine AW_condT (b := x16) rfl (fun h => ?_) (fun h => ?_)
                                                                · have hr := hr.trans (cond_t h)
                                                                  clear h
                                                                  refine AW_seq1 ?_
                                                                  refine AW_region ?_
                                                                  refine AL_cons (LR_assign (at_f rfl) rfl) (sS sT0 sB0 sF0) ?_
                                                                  refine AL_nil ?_
                                                                  refine thenN ?_
                                                                  refine AW_ret ?_
                                                                  refine blR ?_
                                                                  refine thenR ?_
                                                                  subst hr
                                                                  exact res1 rfl (rvT rfl)
                                                                · have hr := hr.trans (cond_f h)
                                                                  clear h
                                                                  refine AW_cut (σ := Bool) (fun v => ⟨[(3, .inl (is (I16 a0))), (36, .inl (is (Bl v)))], []⟩) (fun v => r = F161_17 a0 v) ?_ ?_
                                                                  · skip
                                                                    refine AW_region ?_
                                                                    refine AL_cons (LR_bin (at_tmp 3 _) (at_c (v' := I16 17) rfl) (eql_I16 a0 17) rfl) (sS (sA (sT1 rfl) sT0) sB0 sF0) ?_
                                                                    refine AL_cons (LR_assign (at_tmp 37 _) rfl) (sS (sT1 rfl) sB0 sF0) ?_
                                                                    refine AL_nil ?_
                                                                    exact thenN (cutLeaf (v := a0 == 17) hr (weak0 ((sT rfl (sT rfl sT0))) sub_nil))
                                                                  · rintro x17 hr
                                                                    show AW Hfaa.prog _ _ _ ⟨[(3, .inl (is (I16 a0))), (36, .inl (is (Bl x17)))], []⟩
                                                                    have hr : r = F161_17 a0 x17 := hr
                                                                    refine AW_condT (b := x17) rfl (fun h => ?_) (fun h => ?_)
                                                                    · have hr := hr.trans (cond_t h)
                                                                      clear h
                                                                      refine AW_seq1 ?_
                                                                      refine AW_region ?_
                                                                      refine AL_cons (LR_assign (at_f rfl) rfl) (sS sT0 sB0 sF0) ?_
                                                                      refine AL_nil ?_
                                                                      refine thenN ?_
                                                                      refine AW_ret ?_
                                                                      refine blR ?_
                                                                      refine thenR ?_
                                                                      subst hr
                                                                      exact res1 rfl (rvT rfl)
                                                                    · have hr := hr.trans (cond_f h)
                                                                      clear h
                                                                      refine AW_cut (σ := Bool) (fun v => ⟨[(3, .inl (is (I16 a0))), (38, .inl (is (Bl v)))], []⟩) (fun v => r = F161_18 a0 v) ?_ ?_
                                                                      · skip
                                                                        refine AW_region ?_
                                                                        refine AL_cons (LR_bin (at_tmp 3 _) (at_c (v' := I16 18) rfl) (eql_I16 a0 18) rfl) (sS (sA (sT1 rfl) sT0) sB0 sF0) ?_
                                                                        refine AL_cons (LR_assign (at_tmp 39 _) rfl) (sS (sT1 rfl) sB0 sF0) ?_
                                                                        refine AL_nil ?_
                                                                        exact thenN (cutLeaf (v := a0 == 18) hr (weak0 ((sT rfl (sT rfl sT0))) sub_nil))
                                                                      · rintro x18 hr
                                                                        show AW Hfaa.prog _ _ _ ⟨[(3, .inl (is (I16 a0))), (38, .inl (is (Bl x18)))], []⟩
                                                                        have hr : r = F161_18 a0 x18 := hr
                                                                        refine AW_condT (b := x18) rfl (fun h => ?_) (fun h => ?_)
                                                                        · have hr := hr.trans (cond_t h)
                                                                          clear h
                                                                          refine AW_seq1 ?_
                                                                          refine AW_region ?_
                                                                          refine AL_cons (LR_assign (at_f rfl) rfl) (sS sT0 sB0 sF0) ?_
                                                                          refine AL_nil ?_
                                                                          refine thenN ?_
                                                                          refine AW_ret ?_
                                                                          refine blR ?_
                                                                          refine thenR ?_
                                                                          subst hr
                                                                          exact res1 rfl (rvT rfl)
                                                                        · have hr := hr.trans (cond_f h)
                                                                          clear h
                                                                          refine AW_cut (σ := Bool) (fun v => ⟨[(3, .inl (is (I16 a0))), (40, .inl (is (Bl v)))], []⟩) (fun v => r = F161_19 a0 v) ?_ ?_
                                                                          · skip
                                                                            refine AW_region ?_
                                                                            refine AL_cons (LR_bin (at_tmp 3 _) (at_c (v' := I16 19) rfl) (eql_I16 a0 19) rfl) (sS (sA (sT1 rfl) sT0) sB0 sF0) ?_
                                                                            refine AL_cons (LR_assign (at_tmp 41 _) rfl) (sS (sT1 rfl) sB0 sF0) ?_
                                                                            refine AL_nil ?_
                                                                            exact thenN (cutLeaf (v := a0 == 19) hr (weak0 ((sT rfl (sT rfl sT0))) sub_nil))
                                                                          · rintro x19 hr
                                                                            show AW Hfaa.prog _ _ _ ⟨[(3, .inl (is (I16 a0))), (40, .inl (is (Bl x19)))], []⟩
                                                                            have hr : r = F161_19 a0 x19 := hr
                                                                            refine AW_condT (b := x19) rfl (fun h => ?_) (fun h => ?_)
                                                                            · have hr := hr.trans (cond_t h)
                                                                              clear h
                                                                              refine AW_seq1 ?_
                                                                              refine AW_region ?_
                                                                              refine AL_cons (LR_assign (at_f rfl) rfl) (sS sT0 sB0 sF0) ?_
                                                                              refine AL_nil ?_
                                                                              refine thenN ?_
                                                                              refine AW_ret ?_
                                                                              refine blR ?_
                                                                              refine thenR ?_
                                                                              subst hr
                                                                              exact res1 rfl (rvT rfl)
                                                                            · have hr := hr.trans (cond_f h)
                                                                              clear h
                                                                              refine AW_cut (σ := Bool) (fun v => ⟨[(3, .inl (is (I16 a0))), (42, .inl (is (Bl v)))], []⟩) (fun v => r = F161_20 a0 v) ?_ ?_
                                                                              · skip
                                                                                refine AW_region ?_
                                                                                refine AL_cons (LR_bin (at_tmp 3 _) (at_c (v' := I16 20) rfl) (eql_I16 a0 20) rfl) (sS (sA (sT1 rfl) sT0) sB0 sF0) ?_
                                                                                refine AL_cons (LR_assign (at_tmp 43 _) rfl) (sS (sT1 rfl) sB0 sF0) ?_
                                                                                refine AL_nil ?_
                                                                                exact thenN (cutLeaf (v := a0 == 20) hr (weak0 ((sT rfl (sT rfl sT0))) sub_nil))
                                                                              · rintro x20 hr
                                                                                show AW Hfaa.prog _ _ _ ⟨[(3, .inl (is (I16 a0))), (42, .inl (is (Bl x20)))], []⟩
                                                                                have hr : r = F161_20 a0 x20 := hr
                                                                                refine AW_condT (b := x20) rfl (fun h => ?_) (fun h => ?_)
                                                                                · have hr := hr.trans (cond_t h)
                                                                                  clear h
                                                                                  refine AW_seq1 ?_
                                                                                  refine AW_region ?_
                                                                                  refine AL_cons (LR_assign (at_f rfl) rfl) (sS sT0 sB0 sF0) ?_
                                                                                  refine AL_nil ?_
                                                                                  refine thenN ?_
                                                                                  refine AW_ret ?_
                                                                                  refine blR ?_
                                                                                  refine thenR ?_
                                                                                  subst hr
                                                                                  exact res1 rfl (rvT rfl)
                                                                                · have hr := hr.trans (cond_f h)
                                                                                  clear h
                                                                                  refine AW_cut (σ := Bool) (fun v => ⟨[(3, .inl (is (I16 a0))), (44, .inl (is (Bl v)))], []⟩) (fun v => r = F161_21 a0 v) ?_ ?_
                                                                                  · skip
                                                                                    refine AW_region ?_
                                                                                    refine AL_cons (LR_bin (at_tmp 3 _) (at_c (v' := I16 21) rfl) (eql_I16 a0 21) rfl) (sS (sA (sT1 rfl) sT0) sB0 sF0) ?_
                                                                                    refine AL_cons (LR_assign (at_tmp 45 _) rfl) (sS (sT1 rfl) sB0 sF0) ?_
                                                                                    refine AL_nil ?_
                                                                                    exact thenN (cutLeaf (v := a0 == 21) hr (weak0 ((sT rfl (sT rfl sT0))) sub_nil))
                                                                                  · rintro x21 hr
                                                                                    show AW Hfaa.prog _ _ _ ⟨[(3, .inl (is (I16 a0))), (44, .inl (is (Bl x21)))], []⟩
                                                                                    have hr : r = F161_21 a0 x21 := hr
                                                                                    refine AW_condT (b := x21) rfl (fun h => ?_) (fun h => ?_)
                                                                                    · have hr := hr.trans (cond_t h)
                                                                                      clear h
                                                                                      refine AW_seq1 ?_
                                                                                      refine AW_region ?_
                                                                                      refine AL_cons (LR_assign (at_f rfl) rfl) (sS sT0 sB0 sF0) ?_
                                                                                      refine AL_nil ?_
                                                                                      refine thenN ?_
                                                                                      refine AW_ret ?_
                                                                                      refine blR ?_
                                                                                      refine thenR ?_
                                                                                      subst hr
                                                                                      exact res1 rfl (rvT rfl)
                                                                                    · have hr := hr.trans (cond_f h)
                                                                                      clear h
                                                                                      refine AW_cut (σ := Bool) (fun v => ⟨[(46, .inl (is (Bl v)))], []⟩) (fun v => r = F161_22 v) ?_ ?_
                                                                                      · skip
                                                                                        refine AW_region ?_
                                                                                        refine AL_cons (LR_bin (at_tmp 3 _) (at_c (v' := I16 22) rfl) (eql_I16 a0 22) rfl) (sS (sA (sT1 rfl) sT0) sB0 sF0) ?_
                                                                                        refine AL_cons (LR_assign (at_tmp 47 _) rfl) (sS (sT1 rfl) sB0 sF0) ?_
                                                                                        refine AL_nil ?_
                                                                                        exact thenN (cutLeaf (v := a0 == 22) hr (weak0 ((sT rfl sT0)) sub_nil))
                                                                                      · rintro x22 hr
                                                                                        show AW Hfaa.prog _ _ _ ⟨[(46, .inl (is (Bl x22)))], []⟩
                                                                                        have hr : r = F161_22 x22 := hr
                                                                                        refine AW_condT (b := x22) rfl (fun h => ?_) (fun h => ?_)
                                                                                        · have hr := hr.trans (cond_t h)
                                                                                          clear h
                                                                                          refine AW_seq1 ?_
                                                                                          refine AW_region ?_
                                                                                          refine AL_cons (LR_assign (at_f rfl) rfl) (sS sT0 sB0 sF0) ?_
                                                                                          refine AL_nil ?_
                                                                                          refine thenN ?_
                                                                                          refine AW_ret ?_
                                                                                          refine blR ?_
                                                                                          refine thenR ?_
                                                                                          subst hr
                                                                                          exact res1 rfl (rvT rfl)
                                                                                        · have hr := hr.trans (cond_f h)
                                                                                          clear h
                                                                                          refine AW_skip ?_
                                                                                          refine blN ?_
                                                                                          refine thenN ?_
                                                                                          refine AW_seq1 ?_
                                                                                          refine AW_region ?_
                                                                                          refine AL_cons (LR_assign (at_f rfl) rfl) (sS sT0 sB0 sF0) ?_
                                                                                          refine AL_nil ?_
                                                                                          refine thenN ?_
                                                                                          refine AW_ret ?_
                                                                                          subst hr
                                                                                          exact res1 rfl (rvT rfl)
/-- parse/clinger.bits64 -/
def F160 (N : Nat) (a0 : Option Nat) : Option (BitVec 64) := bif a0.isSome then some (BitVec.ofNat 64 (a0.getD 0)) else none
theorem C160 (N : Nat) (a0 : Option Nat) (r : BitVec 64) (hr : some r = F160 N a0) : Aw.Fn Hfaa.prog 160 [fl .f64 a0] (is (U64 r)) := by
  refine fn_intro Hfaa.func160 rfl rfl rfl ?_
  intro bn0 w0 H0
  refine AW_seq1 ?_
  refine AW_region ?_
  refine AL_cons (LR_assign (at_c (v' := U64 (0#64)) rfl) rfl) (sS sT0 sB0 sF0) ?_
  refine AL_nil ?_
  refine thenN ?_
  refine AW_seq1 ?_
  refine AW_region ?_
  refine AL_cons (LR_move (at_tmp 0 _) rfl) (sS (sT1 rfl) sB0 sF0) ?_
  obtain ⟨hg2, hr⟩ := guard_some hr
  refine AL_cons (LR_ext (ex262 a0 hg2) (all_cons (at_tmp 3 _) all_nil) rfl) (sS (sA (sT1 rfl) sT0) sB0 sF0) ?_
  refine AL_cons (LR_assign (at_tmp 4 _) rfl) (sS (sT1 rfl) sB0 sF0) ?_
  refine AL_nil ?_
  refine thenN ?_
  refine AW_ret ?_
  obtain rfl := Option.some.inj hr
  exact res1 rfl (rvT rfl)
/-- parse/clinger.ten32 -/
def F163_10 (x10 : Bool) : Option Nat := bif x10 then (some 1343554297) else (some 1065353216)
def F163_9 (a0 : Int) (x9 : Bool) : Option Nat := bif x9 then (some 1315859240) else F163_10 (a0 == 10)
def F163_8 (a0 : Int) (x8 : Bool) : Option Nat := bif x8 then (some 1287568416) else F163_9 a0 (a0 == 9)
def F163_7 (a0 : Int) (x7 : Bool) : Option Nat := bif x7 then (some 1259902592) else F163_8 a0 (a0 == 8)
def F163_6 (a0 : Int) (x6 : Bool) : Option Nat := bif x6 then (some 1232348160) else F163_7 a0 (a0 == 7)
def F163_5 (a0 : Int) (x5 : Bool) : Option Nat := bif x5 then (some 1203982336) else F163_6 a0 (a0 == 6)
def F163_4 (a0 : Int) (x4 : Bool) : Option Nat := bif x4 then (some 1176256512) else F163_5 a0 (a0 == 5)
def F163_3 (a0 : Int) (x3 : Bool) : Option Nat := bif x3 then (some 1148846080) else F163_4 a0 (a0 == 4)
def F163_2 (a0 : Int) (x2 : Bool) : Option Nat := bif x2 then (some 1120403456) else F163_3 a0 (a0 == 3)
def F163_1 (a0 : Int) (x1 : Bool) : Option Nat := bif x1 then (some 1092616192) else F163_2 a0 (a0 == 2)
def F163 (a0 : Int) : Option Nat := F163_1 a0 (a0 == 1)
theorem C163 (a0 : Int) (r : Option Nat) (hr : r = F163 a0) : Aw.Fn Hfaa.prog 163 [is (I16 a0)] (fl .f32 r) := by
  refine fn_intro Hfaa.func163 rfl rfl rfl ?_
  intro bn0 w0 H0
  refine AW_seq1 ?_
  refine AW_region ?_
  refine AL_cons (LR_assign (at_f rfl) rfl) (sS sT0 sB0 sF0) ?_
  refine AL_nil ?_
  refine thenN ?_
  refine AW_seq1 ?_
  refine AW_seq1 ?_
  refine AW_region ?_
  refine AL_cons (LR_move (at_tmp 0 _) rfl) (sS (sT1 rfl) sB0 sF0) ?_
  refine AL_nil ?_
  refine thenN ?_
  refine AW_block ?_
  refine AW_cut (σ := Bool) (fun v => ⟨[(3, .inl (is (I16 a0))), (4, .inl (is (Bl v)))], []⟩) (fun v => r = F163_1 a0 v) ?_ ?_
  · skip
    refine AW_region ?_
    refine AL_cons (LR_bin (at_tmp 3 _) (at_c (v' := I16 1) rfl) (eql_I16 a0 1) rfl) (sS (sA (sT1 rfl) sT0) sB0 sF0) ?_
    refine AL_cons (LR_assign (at_tmp 5 _) rfl) (sS (sT1 rfl) sB0 sF0) ?_
    refine AL_nil ?_
    exact thenN (cutLeaf (v := a0 == 1) hr (weak0 ((sT rfl (sT rfl sT0))) sub_nil))
  · rintro x1 hr
    show AW Hfaa.prog _ _ _ ⟨[(3, .inl (is (I16 a0))), (4, .inl (is (Bl x1)))], []⟩
    have hr : r = F163_1 a0 x1 := hr
    refine AW_condT (b := x1) rfl (fun h => ?_) (fun h => ?_)
    · have hr := hr.trans (cond_t h)
      clear h
      refine AW_seq1 ?_
      refine AW_region ?_
      refine AL_cons (LR_assign (at_f rfl) rfl) (sS sT0 sB0 sF0) ?_
      refine AL_nil ?_
      refine thenN ?_
      refine AW_ret ?_
      refine blR ?_
      refine thenR ?_
      subst hr
      exact res1 rfl (rvT rfl)
    · have hr := hr.trans (cond_f h)
      clear h
      refine AW_cut (σ := Bool) (fun v => ⟨[(3, .inl (is (I16 a0))), (6, .inl (is (Bl v)))], []⟩) (fun v => r = F163_2 a0 v) ?_ ?_
      · skip
        refine AW_region ?_
        refine AL_cons (LR_bin (at_tmp 3 _) (at_c (v' := I16 2) rfl) (eql_I16 a0 2) rfl) (sS (sA (sT1 rfl) sT0) sB0 sF0) ?_
        refine AL_cons (LR_assign (at_tmp 7 _) rfl) (sS (sT1 rfl) sB0 sF0) ?_
        refine AL_nil ?_
        exact thenN (cutLeaf (v := a0 == 2) hr (weak0 ((sT rfl (sT rfl sT0))) sub_nil))
      · rintro x2 hr
        show AW Hfaa.prog _ _ _ ⟨[(3, .inl (is (I16 a0))), (6, .inl (is (Bl x2)))], []⟩
        have hr : r = F163_2 a0 x2 := hr
        refine AW_condT (b := x2) rfl (fun h => ?_) (fun h => ?_)
        · have hr := hr.trans (cond_t h)
          clear h
          refine AW_seq1 ?_
          refine AW_region ?_
          refine AL_cons (LR_assign (at_f rfl) rfl) (sS sT0 sB0 sF0) ?_
          refine AL_nil ?_
          refine thenN ?_
          refine AW_ret ?_
          refine blR ?_
          refine thenR ?_
          subst hr
          exact res1 rfl (rvT rfl)
        · have hr := hr.trans (cond_f h)
          clear h
          refine AW_cut (σ := Bool) (fun v => ⟨[(3, .inl (is (I16 a0))), (8, .inl (is (Bl v)))], []⟩) (fun v => r = F163_3 a0 v) ?_ ?_
          · skip
            refine AW_region ?_
            refine AL_cons (LR_bin (at_tmp 3 _) (at_c (v' := I16 3) rfl) (eql_I16 a0 3) rfl) (sS (sA (sT1 rfl) sT0) sB0 sF0) ?_
            refine AL_cons (LR_assign (at_tmp 9 _) rfl) (sS (sT1 rfl) sB0 sF0) ?_
            refine AL_nil ?_
            exact thenN (cutLeaf (v := a0 == 3) hr (weak0 ((sT rfl (sT rfl sT0))) sub_nil))
          · rintro x3 hr
            show AW Hfaa.prog _ _ _ ⟨[(3, .inl (is (I16 a0))), (8, .inl (is (Bl x3)))], []⟩
            have hr : r = F163_3 a0 x3 := hr
            refine AW_condT (b := x3) rfl (fun h => ?_) (fun h => ?_)
            · have hr := hr.trans (cond_t h)
              clear h
              refine AW_seq1 ?_
              refine AW_region ?_
              refine AL_cons (LR_assign (at_f rfl) rfl) (sS sT0 sB0 sF0) ?_
              refine AL_nil ?_
              refine thenN ?_
              refine AW_ret ?_
              refine blR ?_
              refine thenR ?_
              subst hr
              exact res1 rfl (rvT rfl)
            · have hr := hr.trans (cond_f h)
              clear h
              refine AW_cut (σ := Bool) (fun v => ⟨[(3, .inl (is (I16 a0))), (10, .inl (is (Bl v)))], []⟩) (fun v => r = F163_4 a0 v) ?_ ?_
              · skip
                refine AW_region ?_
                refine AL_cons (LR_bin (at_tmp 3 _) (at_c (v' := I16 4) rfl) (eql_I16 a0 4) rfl) (sS (sA (sT1 rfl) sT0) sB0 sF0) ?_
                refine AL_cons (LR_assign (at_tmp 11 _) rfl) (sS (sT1 rfl) sB0 sF0) ?_
                refine AL_nil ?_
                exact thenN (cutLeaf (v := a0 == 4) hr (weak0 ((sT rfl (sT rfl sT0))) sub_nil))
              · rintro x4 hr
                show AW Hfaa.prog _ _ _ ⟨[(3, .inl (is (I16 a0))), (10, .inl (is (Bl x4)))], []⟩
                have hr : r = F163_4 a0 x4 := hr
                refine AW_condT (b := x4) rfl (fun h => ?_) (fun h => ?_)
                · have hr := hr.trans (cond_t h)
                  clear h
                  refine AW_seq1 ?_
                  refine AW_region ?_
                  refine AL_cons (LR_assign (at_f rfl) rfl) (sS sT0 sB0 sF0) ?_
                  refine AL_nil ?_
                  refine thenN ?_
                  refine AW_ret ?_
                  refine blR ?_
                  refine thenR ?_
                  subst hr
                  exact res1 rfl (rvT rfl)
                · have hr := hr.trans (cond_f h)
                  clear h
                  refine AW_cut (σ := Bool) (fun v => ⟨[(3, .inl (is (I16 a0))), (12, .inl (is (Bl v)))], []⟩) (fun v => r = F163_5 a0 v) ?_ ?_
                  · skip
                    refine AW_region ?_
                    refine AL_cons (LR_bin (at_tmp 3 _) (at_c (v' := I16 5) rfl) (eql_I16 a0 5) rfl) (sS (sA (sT1 rfl) sT0) sB0 sF0) ?_
                    refine AL_cons (LR_assign (at_tmp 13 _) rfl) (sS (sT1 rfl) sB0 sF0) ?_
                    refine AL_nil ?_
                    exact thenN (cutLeaf (v := a0 == 5) hr (weak0 ((sT rfl (sT rfl sT0))) sub_nil))
                  · rintro x5 hr
                    show AW Hfaa.prog _ _ _ ⟨[(3, .inl (is (I16 a0))), (12, .inl (is (Bl x5)))], []⟩
                    have hr : r = F163_5 a0 x5 := hr
                    refine AW_condT (b := x5) rfl (fun h => ?_) (fun h => ?_)
                    · have hr := hr.trans (cond_t h)
                      clear h
                      refine AW_seq1 ?_
                      refine AW_region ?_
                      refine AL_cons (LR_assign (at_f rfl) rfl) (sS sT0 sB0 sF0) ?_
                      refine AL_nil ?_
                      refine thenN ?_
                      refine AW_ret ?_
                      refine blR ?_
                      refine thenR ?_
                      subst hr
                      exact res1 rfl (rvT rfl)
                    · have hr := hr.trans (cond_f h)
                      clear h
                      refine AW_cut (σ := Bool) (fun v => ⟨[(3, .inl (is (I16 a0))), (14, .inl (is (Bl v)))], []⟩) (fun v => r = F163_6 a0 v) ?_ ?_
                      · skip
                        refine AW_region ?_
                        refine AL_cons (LR_bin (at_tmp 3 _) (at_c (v' := I16 6) rfl) (eql_I16 a0 6) rfl) (sS (sA (sT1 rfl) sT0) sB0 sF0) ?_
                        refine AL_cons (LR_assign (at_tmp 15 _) rfl) (sS (sT1 rfl) sB0 sF0) ?_
                        refine AL_nil ?_
                        exact thenN (cutLeaf (v := a0 == 6) hr (weak0 ((sT rfl (sT rfl sT0))) sub_nil))
                      · rintro x6 hr
                        show AW Hfaa.prog _ _ _ ⟨[(3, .inl (is (I16 a0))), (14, .inl (is (Bl x6)))], []⟩
                        have hr : r = F163_6 a0 x6 := hr
                        refine AW_condT (b := x6) rfl (fun h => ?_) (fun h => ?_)
                        · have hr := hr.trans (cond_t h)
                          clear h
                          refine AW_seq1 ?_
                          refine AW_region ?_
                          refine AL_cons (LR_assign (at_f rfl) rfl) (sS sT0 sB0 sF0) ?_
                          refine AL_nil ?_
                          refine thenN ?_
                          refine AW_ret ?_
                          refine blR ?_
                          refine thenR ?_
                          subst hr
                          exact res1 rfl (rvT rfl)
                        · have hr := hr.trans (cond_f h)
                          clear h
                          refine AW_cut (σ := Bool) (fun v => ⟨[(3, .inl (is (I16 a0))), (16, .inl (is (Bl v)))], []⟩) (fun v => r = F163_7 a0 v) ?_ ?_
                          · skip
                            refine AW_region ?_
                            refine AL_cons (LR_bin (at_tmp 3 _) (at_c (v' := I16 7) rfl) (eql_I16 a0 7) rfl) (sS (sA (sT1 rfl) sT0) sB0 sF0) ?_
                            refine AL_cons (LR_assign (at_tmp 17 _) rfl) (sS (sT1 rfl) sB0 sF0) ?_
                            refine AL_nil ?_
                            exact thenN (cutLeaf (v := a0 == 7) hr (weak0 ((sT rfl (sT rfl sT0))) sub_nil))
                          · rintro x7 hr
                            show AW Hfaa.prog _ _ _ ⟨[(3, .inl (is (I16 a0))), (16, .inl (is (Bl x7)))], []⟩
                            have hr : r = F163_7 a0 x7 := hr
                            refine AW_condT (b := x7) rfl (fun h => ?_) (fun h => ?_)
                            · have hr := hr.trans (cond_t h)
                              clear h
                              refine AW_seq1 ?_
                              refine AW_region ?_
                              refine AL_cons (LR_assign (at_f rfl) rfl) (sS sT0 sB0 sF0) ?_
                              refine AL_nil ?_
                              refine thenN ?_
                              refine AW_ret ?_
                              refine blR ?_
                              refine thenR ?_
                              subst hr
                              exact res1 rfl (rvT rfl)
                            · have hr := hr.trans (cond_f h)
                              clear h
                              refine AW_cut (σ := Bool) (fun v => ⟨[(3, .inl (is (I16 a0))), (18, .inl (is (Bl v)))], []⟩) (fun v => r = F163_8 a0 v) ?_ ?_
                              · skip
                                refine AW_region ?_
                                refine AL_cons (LR_bin (at_tmp 3 _) (at_c (v' := I16 8) rfl) (eql_I16 a0 8) rfl) (sS (sA (sT1 rfl) sT0) sB0 sF0) ?_
                                refine AL_cons (LR_assign (at_tmp 19 _) rfl) (sS (sT1 rfl) sB0 sF0) ?_
                                refine AL_nil ?_
                                exact thenN (cutLeaf (v := a0 == 8) hr (weak0 ((sT rfl (sT rfl sT0))) sub_nil))
                              · rintro x8 hr
                                show AW Hfaa.prog _ _ _ ⟨[(3, .inl (is (I16 a0))), (18, .inl (is (Bl x8)))], []⟩
                                have hr : r = F163_8 a0 x8 := hr
                                refine AW_condT (b := x8) rfl (fun h => ?_) (fun h => ?_)
                                · have hr := hr.trans (cond_t h)
                                  clear h
                                  refine AW_seq1 ?_
                                  refine AW_region ?_
                                  refine AL_cons (LR_assign (at_f rfl) rfl) (sS sT0 sB0 sF0) ?_
                                  refine AL_nil ?_
                                  refine thenN ?_
                                  refine AW_ret ?_
                                  refine blR ?_
                                  refine thenR ?_
                                  subst hr
                                  exact res1 rfl (rvT rfl)
                                · have hr := hr.trans (cond_f h)
                                  clear h
                                  refine AW_cut (σ := Bool) (fun v => ⟨[(3, .inl (is (I16 a0))), (20, .inl (is (Bl v)))], []⟩) (fun v => r = F163_9 a0 v) ?_ ?_
                                  · skip
                                    refine AW_region ?_
                                    refine AL_cons (LR_bin (at_tmp 3 _) (at_c (v' := I16 9) rfl) (eql_I16 a0 9) rfl) (sS (sA (sT1 rfl) sT0) sB0 sF0) ?_
                                    refine AL_cons (LR_assign (at_tmp 21 _) rfl) (sS (sT1 rfl) sB0 sF0) ?_
                                    refine AL_nil ?_
                                    exact thenN (cutLeaf (v := a0 == 9) hr (weak0 ((sT rfl (sT rfl sT0))) sub_nil))
                                  · rintro x9 hr
                                    show AW Hfaa.prog _ _ _ ⟨[(3, .inl (is (I16 a0))), (20, .inl (is (Bl x9)))], []⟩
                                    have hr : r = F163_9 a0 x9 := hr
                                    refine AW_condT (b := x9) rfl (fun h => ?_) (fun h => ?_)
                                    · have hr := hr.trans (cond_t h)
                                      clear h
                                      refine AW_seq1 ?_
                                      refine AW_region ?_
                                      refine AL_cons (LR_assign (at_f rfl) rfl) (sS sT0 sB0 sF0) ?_
                                      refine AL_nil ?_
                                      refine thenN ?_
                                      refine AW_ret ?_
                                      refine blR ?_
                                      refine thenR ?_
                                      subst hr
                                      exact res1 rfl (rvT rfl)
                                    · have hr := hr.trans (cond_f h)
                                      clear h
                                      refine AW_cut (σ := Bool) (fun v => ⟨[(22, .inl (is (Bl v)))], []⟩) (fun v => r = F163_10 v) ?_ ?_
                                      · skip
                                        refine AW_region ?_
                                        refine AL_cons (LR_bin (at_tmp 3 _) (at_c (v' := I16 10) rfl) (eql_I16 a0 10) rfl) (sS (sA (sT1 rfl) sT0) sB0 sF0) ?_
                                        refine AL_cons (LR_assign (at_tmp 23 _) rfl) (sS (sT1 rfl) sB0 sF0) ?_
                                        refine AL_nil ?_
                                        exact thenN (cutLeaf (v := a0 == 10) hr (weak0 ((sT rfl sT0)) sub_nil))
                                      · rintro x10 hr
                                        show AW Hfaa.prog _ _ _ ⟨[(22, .inl (is (Bl x10)))], []⟩
                                        have hr : r = F163_10 x10 := hr
                                        refine AW_condT (b := x10) rfl (fun h => ?_) (fun h => ?_)
                                        · have hr := hr.trans (cond_t h)
                                          clear h
                                          refine AW_seq1 ?_
                                          refine AW_region ?_
                                          refine AL_cons (LR_assign (at_f rfl) rfl) (sS sT0 sB0 sF0) ?_
                                          refine AL_nil ?_
                                          refine thenN ?_
                                          refine AW_ret ?_
                                          refine blR ?_
                                          refine thenR ?_
                                          subst hr
                                          exact res1 rfl (rvT rfl)
                                        · have hr := hr.trans (cond_f h)
                                          clear h
                                          refine AW_skip ?_
                                          refine blN ?_
                                          refine thenN ?_
                                          refine AW_seq1 ?_
                                          refine AW_region ?_
                                          refine AL_cons (LR_assign (at_f rfl) rfl) (sS sT0 sB0 sF0) ?_
                                          refine AL_nil ?_
                                          refine thenN ?_
                                          refine AW_ret ?_
                                          subst hr
                                          exact res1 rfl (rvT rfl)
end Go.Proofs.YfwaawGreat
