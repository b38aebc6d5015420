import Derived.Test.YfwaawGreatG1
import Derived.Test.YfwaawGreatG2
import Derived.Test.YfwaawGreatG3
namespace Go.Proofs.YfwaawGreat
open Go.Aw
set_option linter.unusedVariables false
set_option maxRecDepth 100000
set_option maxHeartbeats 1000000
/-- ieee.Binary64 -/
def F13  : BitVec 8 × BitVec 8 := (11#8, 52#8)
theorem C13  (r : BitVec 8 × BitVec 8) (hr : r = F13) : Aw.Fn Hfaa.prog 13 [] (agg [is (U8 r.1), is (U8 r.2)]) := by
  refine fn_intro Hfaa.func13 rfl rfl rfl ?_
  intro bn0 w0 H0
  refine AW_seq1 ?_
  refine AW_region ?_
  refine AL_cons (zl23 rfl) (sS sT0 sB0 (sF1 rfl)) ?_
  refine AL_nil ?_
  refine thenN ?_
  refine AW_seq1 ?_
  refine AW_region ?_
  refine AL_cons (bl23 (parts_cons (i := 0) (off := 0) (at_c (v' := U8 (11#8)) rfl) (cells_one (one_is rfl)) rfl rfl (parts_cons (i := 1) (off := 1) (at_c (v' := U8 (52#8)) rfl) (cells_one (one_is rfl)) rfl rfl parts_nil)) rfl rfl) (sS (sA sT0 (sA sT0 sT0)) sB0 sF0) ?_
  refine AL_cons (LR_store (at_tmp 0 _) (at_tmp 1 _) (cells_agg _) (onC (one_is rfl) (onC (one_is rfl) onN)) sz23 rfl rfl) (sS (sA (sT1 rfl) (sT1 rfl)) (sB1 rfl) sF0) ?_
  refine AL_nil ?_
  refine thenN ?_
  refine AW_ret ?_
  subst hr
  exact res1 rfl (rvC rfl rfl ag23 sz23 rfl)
/-- ieee.Binary32 -/
def F14  : BitVec 8 × BitVec 8 := (8#8, 23#8)
theorem C14  (r : BitVec 8 × BitVec 8) (hr : r = F14) : Aw.Fn Hfaa.prog 14 [] (agg [is (U8 r.1), is (U8 r.2)]) := by
  refine fn_intro Hfaa.func14 rfl rfl rfl ?_
  intro bn0 w0 H0
  refine AW_seq1 ?_
  refine AW_region ?_
  refine AL_cons (zl23 rfl) (sS sT0 sB0 (sF1 rfl)) ?_
  refine AL_nil ?_
  refine thenN ?_
  refine AW_seq1 ?_
  refine AW_region ?_
  refine AL_cons (bl23 (parts_cons (i := 0) (off := 0) (at_c (v' := U8 (8#8)) rfl) (cells_one (one_is rfl)) rfl rfl (parts_cons (i := 1) (off := 1) (at_c (v' := U8 (23#8)) rfl) (cells_one (one_is rfl)) rfl rfl parts_nil)) rfl rfl) (sS (sA sT0 (sA sT0 sT0)) sB0 sF0) ?_
  refine AL_cons (LR_store (at_tmp 0 _) (at_tmp 1 _) (cells_agg _) (onC (one_is rfl) (onC (one_is rfl) onN)) sz23 rfl rfl) (sS (sA (sT1 rfl) (sT1 rfl)) (sB1 rfl) sF0) ?_
  refine AL_nil ?_
  refine thenN ?_
  refine AW_ret ?_
  subst hr
  exact res1 rfl (rvC rfl rfl ag23 sz23 rfl)
/-- parse/slow.nearby -/
def F363_3 (N : Nat) (x2 : BitVec 64) (x4 : BitVec 64) : Option (BitVec 64 × Bool) := some ((x4, x2 != (0#64)))
def F363_2 (N : Nat) (x1 : BitVec 64) (x2 : BitVec 64) (x3 : Bool) : Option (BitVec 64 × Bool) := bif x3 then F363_3 N x2 (x1 + (1#64)) else F363_3 N x2 x1
def F363_7 (N : Nat) (a1 : Bool) (x1 : BitVec 64) (x2 : BitVec 64) (x8 : Bool) : Option (BitVec 64 × Bool) := bif x8 then F363_2 N x1 x2 ((x2 != (0#64)) && a1) else F363_2 N x1 x2 ((decide ((9223372036854775808#64).toNat < x2.toNat)) || ((x2 == (9223372036854775808#64)) && ((x1 &&& (1#64)) == (1#64))))
def F363_6 (N : Nat) (a0 : BitVec 8) (a1 : Bool) (x1 : BitVec 64) (x2 : BitVec 64) (x7 : Bool) : Option (BitVec 64 × Bool) := bif x7 then F363_2 N x1 x2 ((x2 != (0#64)) && (!a1)) else F363_7 N a1 x1 x2 (a0 == (4#8))
def F363_5 (N : Nat) (a0 : BitVec 8) (a1 : Bool) (x1 : BitVec 64) (x2 : BitVec 64) (x6 : Bool) : Option (BitVec 64 × Bool) := bif x6 then F363_2 N x1 x2 false else F363_6 N a0 a1 x1 x2 (a0 == (3#8))
def F363_4 (N : Nat) (a0 : BitVec 8) (a1 : Bool) (x1 : BitVec 64) (x2 : BitVec 64) (x5 : Bool) : Option (BitVec 64 × Bool) := bif x5 then F363_2 N x1 x2 ((x2 >>> 63) == (1#64)) else F363_5 N a0 a1 x1 x2 (a0 == (2#8))
def F363_1 (N : Nat) (a0 : BitVec 8) (a1 : Bool) (x1 : BitVec 64) (x2 : BitVec 64) : Option (BitVec 64 × Bool) := F363_4 N a0 a1 x1 x2 (a0 == (1#8))
def F363_8 (N : Nat) (a0 : BitVec 8) (a1 : Bool) (a2 : BitVec 64) (a3 : Int) (x9 : Bool) : Option (BitVec 64 × Bool) := bif x9 then bif decide (0 ≤ a3) then bif decide (0 ≤ (w64 (64 - a3))) then F363_1 N a0 a1 (a2 >>> a3.toNat) (a2 <<< (w64 (64 - a3)).toNat) else none else none else F363_1 N a0 a1 (0#64) (1#64)
def F363 (N : Nat) (a0 : BitVec 8) (a1 : Bool) (a2 : BitVec 64) (a3 : Int) : Option (BitVec 64 × Bool) := F363_8 N a0 a1 a2 a3 (decide (a3 ≤ 64))
theorem C363 (N : Nat) (a0 : BitVec 8) (a1 : Bool) (a2 : BitVec 64) (a3 : Int) (r : BitVec 64 × Bool) (hr : some r = F363 N a0 a1 a2 a3) : Aw.Fn Hfaa.prog 363 [is (U8 a0), is (Bl a1), is (U64 a2), is (I64 a3)] (tup [is (U64 r.1), is (Bl r.2)]) := by
  refine fn_intro Hfaa.func363 rfl rfl rfl ?_
  intro bn0 w0 H0
  refine AW_seq1 ?_
  refine AW_region ?_
  refine AL_cons (LR_assign (at_c (v' := U64 (0#64)) rfl) rfl) (sS sT0 sB0 sF0) ?_
  refine AL_cons (LR_assign (at_c (v' := Bl false) rfl) rfl) (sS sT0 sB0 sF0) ?_
  refine AL_nil ?_
  refine thenN ?_
  refine AW_seq1 ?_
  refine AW_region ?_
  refine AL_cons (LR_assign (at_c (v' := U64 (0#64)) rfl) rfl) (sS sT0 sB0 sF0) ?_
  refine AL_cons (LR_assign (at_c (v' := U64 (1#64)) rfl) rfl) (sS sT0 sB0 sF0) ?_
  refine AL_nil ?_
  refine thenN ?_
  refine AW_cut (σ := BitVec 64 × BitVec 64) (fun v => ⟨[(0, .inl (is (U8 a0))), (1, .inl (is (Bl a1))), (8, .inl (is (U64 v.1))), (10, .inl (is (U64 v.2)))], []⟩) (fun v => some r = F363_1 N a0 a1 v.1 v.2) ?_ ?_
  · skip
    refine AW_cut (σ := Bool) (fun v => ⟨[(0, .inl (is (U8 a0))), (1, .inl (is (Bl a1))), (2, .inl (is (U64 a2))), (3, .inl (is (I64 a3))), (8, .inl (is (U64 (0#64)))), (10, .inl (is (U64 (1#64)))), (13, .inl (is (Bl v)))], []⟩) (fun v => some r = F363_8 N a0 a1 a2 a3 v) ?_ ?_
    · skip
      refine AW_region ?_
      refine AL_cons (LR_move (at_tmp 3 _) rfl) (sS (sT1 rfl) sB0 sF0) ?_
      refine AL_cons (LR_bin (at_tmp 12 _) (at_c (v' := I64 64) rfl) (leq_I64 a3 64) rfl) (sS (sA (sT1 rfl) sT0) sB0 sF0) ?_
      refine AL_nil ?_
      exact thenN (cutLeaf (v := decide (a3 ≤ 64)) hr (weak0 ((sT rfl (sT rfl (sT rfl (sT rfl (sT rfl (sT rfl (sT rfl sT0)))))))) sub_nil))
    · rintro x9 hr
      show AW Hfaa.prog _ _ _ ⟨[(0, .inl (is (U8 a0))), (1, .inl (is (Bl a1))), (2, .inl (is (U64 a2))), (3, .inl (is (I64 a3))), (8, .inl (is (U64 (0#64)))), (10, .inl (is (U64 (1#64)))), (13, .inl (is (Bl x9)))], []⟩
      have hr : some r = F363_8 N a0 a1 a2 a3 x9 := hr
      refine AW_condT (b := x9) rfl (fun h => ?_) (fun h => ?_)
      · have hr := hr.trans (cond_t h)
        clear h
        obtain ⟨hg3, hr⟩ := guard_some hr
        obtain ⟨hg4, hr⟩ := guard_some hr
        refine AW_draw mixed
          (lrC (LR_move (at_tmp 2 _) rfl)
          (lrC (LR_move (at_tmp 3 _) rfl)
          (lrC (LR_bin (at_tmp 14 _) (at_tmp 15 _) (shr_U64 a2 a3 (of_decide_eq_true hg3)) rfl)
          (lrC (LR_move (at_tmp 2 _) rfl)
          (lrC (LR_move (at_tmp 3 _) rfl)
          (lrC (LR_bin (at_c (v' := I64 64) rfl) (at_tmp 18 _) (sub_I64 64 a3) rfl)
          (lrC (LR_bin (at_tmp 17 _) (at_tmp 19 _) (shl_U64 a2 (w64 (64 - a3)) (of_decide_eq_true hg4)) rfl)
          (lrC (LR_assign (at_tmp 16 _) rfl)
          (lrC (LR_assign (at_tmp 20 _) rfl)
          lrN)))))))))
          (by kernel_rfl)
          (saC (sS (sT1 rfl) sB0 sF0) (saC (sS (sT1 rfl) sB0 sF0) (saC (sS (sA (sT1 rfl) (sT1 rfl)) sB0 sF0) (saC (sS (sT1 rfl) sB0 sF0) (saC (sS (sT1 rfl) sB0 sF0) (saC (sS (sA sT0 (sT1 rfl)) sB0 sF0) (saC (sS (sA (sT1 rfl) (sT1 rfl)) sB0 sF0) (saC (sS (sT1 rfl) sB0 sF0) (saC (sS (sT1 rfl) sB0 sF0) saN))))))))) ?_
        exact thenN (cutLeaf (v := (a2 >>> a3.toNat, a2 <<< (w64 (64 - a3)).toNat)) hr (weak0 ((sT rfl (sT rfl (sT rfl (sT rfl sT0))))) sub_nil))
      · have hr := hr.trans (cond_f h)
        clear h
        refine AW_skip ?_
        exact thenN (cutLeaf (v := (0#64, 1#64)) hr (weak0 ((sT rfl (sT rfl (sT rfl (sT rfl sT0))))) sub_nil))
  · rintro ⟨x1, x2⟩ hr
    show AW Hfaa.prog _ _ _ ⟨[(0, .inl (is (U8 a0))), (1, .inl (is (Bl a1))), (8, .inl (is (U64 x1))), (10, .inl (is (U64 x2)))], []⟩
    have hr : some r = F363_1 N a0 a1 x1 x2 := hr
    refine AW_seq1 ?_
    refine AW_region ?_
    refine AL_cons (LR_assign (at_c (v' := Bl false) rfl) rfl) (sS sT0 sB0 sF0) ?_
    refine AL_nil ?_
    refine thenN ?_
    refine AW_cut (σ := Bool) (fun v => ⟨[(8, .inl (is (U64 x1))), (10, .inl (is (U64 x2))), (11, .inl (is (Bl v)))], []⟩) (fun v => some r = F363_2 N x1 x2 v) ?_ ?_
    · skip
      refine AW_seq1 ?_
      refine AW_region ?_
      refine AL_cons (LR_move (at_tmp 0 _) rfl) (sS (sT1 rfl) sB0 sF0) ?_
      refine AL_nil ?_
      refine thenN ?_
      refine AW_block ?_
      refine AW_cut (σ := Bool) (fun v => ⟨[(1, .inl (is (Bl a1))), (8, .inl (is (U64 x1))), (10, .inl (is (U64 x2))), (11, .inl (is (Bl false))), (21, .inl (is (U8 a0))), (33, .inl (is (Bl v)))], []⟩) (fun v => some r = F363_4 N a0 a1 x1 x2 v) ?_ ?_
      · skip
        refine AW_region ?_
        refine AL_cons (LR_bin (at_tmp 21 _) (at_c (v' := U8 (1#8)) rfl) (eql_U8 a0 (1#8)) rfl) (sS (sA (sT1 rfl) sT0) sB0 sF0) ?_
        refine AL_cons (LR_assign (at_tmp 34 _) rfl) (sS (sT1 rfl) sB0 sF0) ?_
        refine AL_nil ?_
        exact thenN (cutLeaf (v := a0 == (1#8)) hr (weak0 ((sT rfl (sT rfl (sT rfl (sT rfl (sT rfl (sT rfl sT0))))))) sub_nil))
      · rintro x5 hr
        show AW Hfaa.prog _ _ _ ⟨[(1, .inl (is (Bl a1))), (8, .inl (is (U64 x1))), (10, .inl (is (U64 x2))), (11, .inl (is (Bl false))), (21, .inl (is (U8 a0))), (33, .inl (is (Bl x5)))], []⟩
        have hr : some r = F363_4 N a0 a1 x1 x2 x5 := hr
        refine AW_condT (b := x5) rfl (fun h => ?_) (fun h => ?_)
        · have hr := hr.trans (cond_t h)
          clear h
          refine AW_region ?_
          refine AL_cons (LR_move (at_tmp 10 _) rfl) (sS (sT1 rfl) sB0 sF0) ?_
          refine AL_cons (LR_bin (at_tmp 35 _) (at_c (v' := U64 (63#64)) rfl) (shr_U64 x2 ((63#64).toNat : Int) (Int.natCast_nonneg _)) rfl) (sS (sA (sT1 rfl) sT0) sB0 sF0) ?_
          refine AL_cons (LR_bin (at_tmp 36 _) (at_c (v' := U64 (1#64)) rfl) (eql_U64 (x2 >>> 63) (1#64)) rfl) (sS (sA (sT1 rfl) sT0) sB0 sF0) ?_
          refine AL_cons (LR_assign (at_tmp 37 _) rfl) (sS (sT1 rfl) sB0 sF0) ?_
          refine AL_nil ?_
          refine blN ?_
          exact thenN (cutLeaf (v := (x2 >>> 63) == (1#64)) hr (weak0 ((sT rfl (sT rfl (sT rfl sT0)))) sub_nil))
        · have hr := hr.trans (cond_f h)
          clear h
          refine AW_cut (σ := Bool) (fun v => ⟨[(1, .inl (is (Bl a1))), (8, .inl (is (U64 x1))), (10, .inl (is (U64 x2))), (11, .inl (is (Bl false))), (21, .inl (is (U8 a0))), (38, .inl (is (Bl v)))], []⟩) (fun v => some r = F363_5 N a0 a1 x1 x2 v) ?_ ?_
          · skip
            refine AW_region ?_
            refine AL_cons (LR_bin (at_tmp 21 _) (at_c (v' := U8 (2#8)) rfl) (eql_U8 a0 (2#8)) rfl) (sS (sA (sT1 rfl) sT0) sB0 sF0) ?_
            refine AL_cons (LR_assign (at_tmp 39 _) rfl) (sS (sT1 rfl) sB0 sF0) ?_
            refine AL_nil ?_
            exact thenN (cutLeaf (v := a0 == (2#8)) hr (weak0 ((sT rfl (sT rfl (sT rfl (sT rfl (sT rfl (sT rfl sT0))))))) sub_nil))
          · rintro x6 hr
            show AW Hfaa.prog _ _ _ ⟨[(1, .inl (is (Bl a1))), (8, .inl (is (U64 x1))), (10, .inl (is (U64 x2))), (11, .inl (is (Bl false))), (21, .inl (is (U8 a0))), (38, .inl (is (Bl x6)))], []⟩
            have hr : some r = F363_5 N a0 a1 x1 x2 x6 := hr
            refine AW_condT (b := x6) rfl (fun h => ?_) (fun h => ?_)
            · have hr := hr.trans (cond_t h)
              clear h
              refine AW_skip ?_
              refine blN ?_
              exact thenN (cutLeaf (v := false) hr (weak0 ((sT rfl (sT rfl (sT rfl sT0)))) sub_nil))
            · have hr := hr.trans (cond_f h)
              clear h
              refine AW_cut (σ := Bool) (fun v => ⟨[(1, .inl (is (Bl a1))), (8, .inl (is (U64 x1))), (10, .inl (is (U64 x2))), (21, .inl (is (U8 a0))), (40, .inl (is (Bl v)))], []⟩) (fun v => some r = F363_6 N a0 a1 x1 x2 v) ?_ ?_
              · skip
                refine AW_region ?_
                refine AL_cons (LR_bin (at_tmp 21 _) (at_c (v' := U8 (3#8)) rfl) (eql_U8 a0 (3#8)) rfl) (sS (sA (sT1 rfl) sT0) sB0 sF0) ?_
                refine AL_cons (LR_assign (at_tmp 41 _) rfl) (sS (sT1 rfl) sB0 sF0) ?_
                refine AL_nil ?_
                exact thenN (cutLeaf (v := a0 == (3#8)) hr (weak0 ((sT rfl (sT rfl (sT rfl (sT rfl (sT rfl sT0)))))) sub_nil))
              · rintro x7 hr
                show AW Hfaa.prog _ _ _ ⟨[(1, .inl (is (Bl a1))), (8, .inl (is (U64 x1))), (10, .inl (is (U64 x2))), (21, .inl (is (U8 a0))), (40, .inl (is (Bl x7)))], []⟩
                have hr : some r = F363_6 N a0 a1 x1 x2 x7 := hr
                refine AW_condT (b := x7) rfl (fun h => ?_) (fun h => ?_)
                · have hr := hr.trans (cond_t h)
                  clear h
                  refine AW_region ?_
                  refine AL_cons (LR_move (at_tmp 10 _) rfl) (sS (sT1 rfl) sB0 sF0) ?_
                  refine AL_cons (LR_bin (at_tmp 42 _) (at_c (v' := U64 (0#64)) rfl) (neq_U64 x2 (0#64)) rfl) (sS (sA (sT1 rfl) sT0) sB0 sF0) ?_
                  refine AL_cons (LR_move (at_tmp 43 _) rfl) (sS (sT1 rfl) sB0 sF0) ?_
                  refine AL_cutAt 3 ⟨[(1, .inl (is (Bl a1))), (8, .inl (is (U64 x1))), (10, .inl (is (U64 x2))), (21, .inl (is (U8 a0))), (40, .inl (is (Bl x7))), (42, .inl (is (U64 x2))), (43, .inl (is (Bl (x2 != (0#64))))), (44, .inl (is (Bl (x2 != (0#64))))), (47, .inl (is (Bl ((x2 != (0#64)) && (!a1)))))], []⟩ ?_ ?_
                  · cases hb : x2 != (0#64)
                    · skip
                      refine AL_cons (LR_off (b := false) rfl rfl rfl rfl) (sS (sT1 rfl) sB0 sF0) ?_
                      refine AL_cons (LR_off (b := false) rfl rfl rfl rfl) (sS (sT1 rfl) sB0 sF0) ?_
                      refine AL_cons (LR_pick (b := false) (at_tmp 44 _) (at_tmp 46 _) (at_c (v' := Bl false) rfl) rfl) (sS (sA (sT1 rfl) (sA (sT1 rfl) sT0)) sB0 sF0) ?_
                      exact AL_nil ⟨rfl, weak0 ((sT rfl (sT rfl (sT rfl (sT rfl (sT rfl (sT rfl (sT rfl (sT rfl (sT rfl sT0)))))))))) sub_nil⟩
                    · skip
                      refine AL_cons (LR_on rfl rfl rfl (LR_move (at_tmp 1 _) rfl)) (sS (sT rfl (sT1 rfl)) sB0 sF0) ?_
                      refine AL_cons (LR_on rfl rfl rfl (LR_un (at_tmp 45 _) (not_Bl a1) rfl)) (sS (sT rfl (sT1 rfl)) sB0 sF0) ?_
                      refine AL_cons (LR_pick (b := true) (at_tmp 44 _) (at_tmp 46 _) (at_c (v' := Bl false) rfl) rfl) (sS (sA (sT1 rfl) (sA (sT1 rfl) sT0)) sB0 sF0) ?_
                      exact AL_nil ⟨rfl, weak0 ((sT rfl (sT rfl (sT rfl (sT rfl (sT rfl (sT rfl (sT rfl (sT rfl (sT rfl sT0)))))))))) sub_nil⟩
                  refine AL_cons (LR_assign (at_tmp 47 _) rfl) (sS (sT1 rfl) sB0 sF0) ?_
                  refine AL_nil ?_
                  refine blN ?_
                  exact thenN (cutLeaf (v := (x2 != (0#64)) && (!a1)) hr (weak0 ((sT rfl (sT rfl (sT rfl sT0)))) sub_nil))
                · have hr := hr.trans (cond_f h)
                  clear h
                  refine AW_cut (σ := Bool) (fun v => ⟨[(1, .inl (is (Bl a1))), (8, .inl (is (U64 x1))), (10, .inl (is (U64 x2))), (48, .inl (is (Bl v)))], []⟩) (fun v => some r = F363_7 N a1 x1 x2 v) ?_ ?_
                  · skip
                    refine AW_region ?_
                    refine AL_cons (LR_bin (at_tmp 21 _) (at_c (v' := U8 (4#8)) rfl) (eql_U8 a0 (4#8)) rfl) (sS (sA (sT1 rfl) sT0) sB0 sF0) ?_
                    refine AL_cons (LR_assign (at_tmp 49 _) rfl) (sS (sT1 rfl) sB0 sF0) ?_
                    refine AL_nil ?_
                    exact thenN (cutLeaf (v := a0 == (4#8)) hr (weak0 ((sT rfl (sT rfl (sT rfl (sT rfl sT0))))) sub_nil))
                  · rintro x8 hr
                    show AW Hfaa.prog _ _ _ ⟨[(1, .inl (is (Bl a1))), (8, .inl (is (U64 x1))), (10, .inl (is (U64 x2))), (48, .inl (is (Bl x8)))], []⟩
                    have hr : some r = F363_7 N a1 x1 x2 x8 := hr
                    refine AW_condT (b := x8) rfl (fun h => ?_) (fun h => ?_)
                    · have hr := hr.trans (cond_t h)
                      clear h
                      refine AW_region ?_
                      refine AL_cons (LR_move (at_tmp 10 _) rfl) (sS (sT1 rfl) sB0 sF0) ?_
                      refine AL_cons (LR_bin (at_tmp 50 _) (at_c (v' := U64 (0#64)) rfl) (neq_U64 x2 (0#64)) rfl) (sS (sA (sT1 rfl) sT0) sB0 sF0) ?_
                      refine AL_cons (LR_move (at_tmp 51 _) rfl) (sS (sT1 rfl) sB0 sF0) ?_
                      refine AL_cutAt 2 ⟨[(1, .inl (is (Bl a1))), (8, .inl (is (U64 x1))), (10, .inl (is (U64 x2))), (48, .inl (is (Bl x8))), (50, .inl (is (U64 x2))), (51, .inl (is (Bl (x2 != (0#64))))), (52, .inl (is (Bl (x2 != (0#64))))), (54, .inl (is (Bl ((x2 != (0#64)) && a1))))], []⟩ ?_ ?_
                      · cases hb : x2 != (0#64)
                        · skip
                          refine AL_cons (LR_off (b := false) rfl rfl rfl rfl) (sS (sT1 rfl) sB0 sF0) ?_
                          refine AL_cons (LR_pick (b := false) (at_tmp 52 _) (at_tmp 53 _) (at_c (v' := Bl false) rfl) rfl) (sS (sA (sT1 rfl) (sA (sT1 rfl) sT0)) sB0 sF0) ?_
                          exact AL_nil ⟨rfl, weak0 ((sT rfl (sT rfl (sT rfl (sT rfl (sT rfl (sT rfl (sT rfl (sT rfl sT0))))))))) sub_nil⟩
                        · skip
                          refine AL_cons (LR_on rfl rfl rfl (LR_move (at_tmp 1 _) rfl)) (sS (sT rfl (sT1 rfl)) sB0 sF0) ?_
                          refine AL_cons (LR_pick (b := true) (at_tmp 52 _) (at_tmp 53 _) (at_c (v' := Bl false) rfl) rfl) (sS (sA (sT1 rfl) (sA (sT1 rfl) sT0)) sB0 sF0) ?_
                          exact AL_nil ⟨rfl, weak0 ((sT rfl (sT rfl (sT rfl (sT rfl (sT rfl (sT rfl (sT rfl (sT rfl sT0))))))))) sub_nil⟩
                      refine AL_cons (LR_assign (at_tmp 54 _) rfl) (sS (sT1 rfl) sB0 sF0) ?_
                      refine AL_nil ?_
                      refine blN ?_
                      exact thenN (cutLeaf (v := (x2 != (0#64)) && a1) hr (weak0 ((sT rfl (sT rfl (sT rfl sT0)))) sub_nil))
                    · have hr := hr.trans (cond_f h)
                      clear h
                      refine AW_region ?_
                      refine AL_cons (LR_move (at_tmp 10 _) rfl) (sS (sT1 rfl) sB0 sF0) ?_
                      refine AL_cons (LR_bin (at_tmp 22 _) (at_c (v' := U64 (9223372036854775808#64)) rfl) (gtr_U64 x2 (9223372036854775808#64)) rfl) (sS (sA (sT1 rfl) sT0) sB0 sF0) ?_
                      refine AL_cons (LR_move (at_tmp 23 _) rfl) (sS (sT1 rfl) sB0 sF0) ?_
                      refine AL_cutAt 8 ⟨[(1, .inl (is (Bl a1))), (8, .inl (is (U64 x1))), (10, .inl (is (U64 x2))), (48, .inl (is (Bl x8))), (22, .inl (is (U64 x2))), (23, .inl (is (Bl (decide ((9223372036854775808#64).toNat < x2.toNat))))), (24, .inl (is (Bl (decide ((9223372036854775808#64).toNat < x2.toNat))))), (32, .inl (is (Bl ((decide ((9223372036854775808#64).toNat < x2.toNat)) || ((x2 == (9223372036854775808#64)) && ((x1 &&& (1#64)) == (1#64)))))))], []⟩ ?_ ?_
                      · cases hb : decide ((9223372036854775808#64).toNat < x2.toNat)
                        · skip
                          refine AL_cons (LR_on rfl rfl rfl (LR_move (at_tmp 10 _) rfl)) (sS (sT rfl (sT1 rfl)) sB0 sF0) ?_
                          refine AL_cons (LR_on rfl rfl rfl (LR_bin (at_tmp 25 _) (at_c (v' := U64 (9223372036854775808#64)) rfl) (eql_U64 x2 (9223372036854775808#64)) rfl)) (sS (sT rfl (sA (sT1 rfl) sT0)) sB0 sF0) ?_
                          refine AL_cons (LR_on rfl rfl rfl (LR_move (at_tmp 26 _) rfl)) (sS (sT rfl (sT1 rfl)) sB0 sF0) ?_
                          refine AL_cutAt 4 ⟨[(1, .inl (is (Bl a1))), (8, .inl (is (U64 x1))), (10, .inl (is (U64 x2))), (48, .inl (is (Bl x8))), (22, .inl (is (U64 x2))), (23, .inl (is (Bl false))), (24, .inl (is (Bl false))), (25, .inl (is (U64 x2))), (26, .inl (is (Bl (x2 == (9223372036854775808#64))))), (27, .inl (is (Bl (x2 == (9223372036854775808#64))))), (31, .inl (is (Bl ((x2 == (9223372036854775808#64)) && ((x1 &&& (1#64)) == (1#64))))))], []⟩ ?_ ?_
                          · cases hb : x2 == (9223372036854775808#64)
                            · skip
                              refine AL_cons (LR_off (b := false) rfl rfl rfl rfl) (sS (sT1 rfl) sB0 sF0) ?_
                              refine AL_cons (LR_off (b := false) rfl rfl rfl rfl) (sS (sT1 rfl) sB0 sF0) ?_
                              refine AL_cons (LR_off (b := false) rfl rfl rfl rfl) (sS (sT1 rfl) sB0 sF0) ?_
                              refine AL_cons (LR_on rfl rfl rfl (LR_pick (b := false) (at_tmp 27 _) (at_tmp 30 _) (at_c (v' := Bl false) rfl) rfl)) (sS (sT rfl (sA (sT1 rfl) (sA (sT1 rfl) sT0))) sB0 sF0) ?_
                              exact AL_nil ⟨rfl, weak0 ((sT rfl (sT rfl (sT rfl (sT rfl (sT rfl (sT rfl (sT rfl (sT rfl (sT rfl (sT rfl (sT rfl sT0)))))))))))) sub_nil⟩
                            · skip
                              refine AL_cons (LR_on rfl rfl rfl (LR_move (at_tmp 8 _) rfl)) (sS (sT rfl (sT1 rfl)) sB0 sF0) ?_
                              refine AL_cons (LR_on rfl rfl rfl (LR_bin (at_tmp 28 _) (at_c (v' := U64 (1#64)) rfl) (and_U64 x1 (1#64)) rfl)) (sS (sT rfl (sA (sT1 rfl) sT0)) sB0 sF0) ?_
                              refine AL_cons (LR_on rfl rfl rfl (LR_bin (at_tmp 29 _) (at_c (v' := U64 (1#64)) rfl) (eql_U64 (x1 &&& (1#64)) (1#64)) rfl)) (sS (sT rfl (sA (sT1 rfl) sT0)) sB0 sF0) ?_
                              refine AL_cons (LR_on rfl rfl rfl (LR_pick (b := true) (at_tmp 27 _) (at_tmp 30 _) (at_c (v' := Bl false) rfl) rfl)) (sS (sT rfl (sA (sT1 rfl) (sA (sT1 rfl) sT0))) sB0 sF0) ?_
                              exact AL_nil ⟨rfl, weak0 ((sT rfl (sT rfl (sT rfl (sT rfl (sT rfl (sT rfl (sT rfl (sT rfl (sT rfl (sT rfl (sT rfl sT0)))))))))))) sub_nil⟩
                          refine AL_cons (LR_pick (b := false) (at_tmp 24 _) (at_c (v' := Bl true) rfl) (at_tmp 31 _) rfl) (sS (sA (sT1 rfl) (sA sT0 (sT1 rfl))) sB0 sF0) ?_
                          exact AL_nil ⟨rfl, weak0 ((sT rfl (sT rfl (sT rfl (sT rfl (sT rfl (sT rfl (sT rfl (sT rfl sT0))))))))) sub_nil⟩
                        · skip
                          refine AL_cons (LR_off (b := true) rfl rfl rfl rfl) (sS (sT1 rfl) sB0 sF0) ?_
                          refine AL_cons (LR_off (b := true) rfl rfl rfl rfl) (sS (sT1 rfl) sB0 sF0) ?_
                          refine AL_cons (LR_off (b := true) rfl rfl rfl rfl) (sS (sT1 rfl) sB0 sF0) ?_
                          refine AL_cons (LR_offU rfl rfl rfl rfl) (sS (sT1 rfl) sB0 sF0) ?_
                          refine AL_cons (LR_offU rfl rfl rfl rfl) (sS (sT1 rfl) sB0 sF0) ?_
                          refine AL_cons (LR_offU rfl rfl rfl rfl) (sS (sT1 rfl) sB0 sF0) ?_
                          refine AL_cons (LR_off (b := true) rfl rfl rfl rfl) (sS (sT1 rfl) sB0 sF0) ?_
                          refine AL_cons (LR_pick (b := true) (at_tmp 24 _) (at_c (v' := Bl true) rfl) (at_tmp 31 _) rfl) (sS (sA (sT1 rfl) (sA sT0 (sT1 rfl))) sB0 sF0) ?_
                          exact AL_nil ⟨rfl, weak0 ((sT rfl (sT rfl (sT rfl (sT rfl (sT rfl (sT rfl (sT rfl (sT rfl sT0))))))))) sub_nil⟩
                      refine AL_cons (LR_assign (at_tmp 32 _) rfl) (sS (sT1 rfl) sB0 sF0) ?_
                      refine AL_nil ?_
                      refine blN ?_
                      exact thenN (cutLeaf (v := (decide ((9223372036854775808#64).toNat < x2.toNat)) || ((x2 == (9223372036854775808#64)) && ((x1 &&& (1#64)) == (1#64)))) hr (weak0 ((sT rfl (sT rfl (sT rfl sT0)))) sub_nil))
    · rintro x3 hr
      show AW Hfaa.prog _ _ _ ⟨[(8, .inl (is (U64 x1))), (10, .inl (is (U64 x2))), (11, .inl (is (Bl x3)))], []⟩
      have hr : some r = F363_2 N x1 x2 x3 := hr
      refine AW_cut (σ := BitVec 64) (fun v => ⟨[(8, .inl (is (U64 v))), (10, .inl (is (U64 x2)))], []⟩) (fun v => some r = F363_3 N x2 v) ?_ ?_
      · skip
        refine AW_seq1 ?_
        refine AW_region ?_
        refine AL_cons (LR_move (at_tmp 11 _) rfl) (sS (sT1 rfl) sB0 sF0) ?_
        refine AL_nil ?_
        refine thenN ?_
        refine AW_condT (b := x3) rfl (fun h => ?_) (fun h => ?_)
        · have hr := hr.trans (cond_t h)
          clear h
          refine AW_region ?_
          refine AL_cons (LR_move (at_tmp 8 _) rfl) (sS (sT1 rfl) sB0 sF0) ?_
          refine AL_cons (LR_bin (at_tmp 56 _) (at_c (v' := U64 (1#64)) rfl) (add_U64 x1 (1#64)) rfl) (sS (sA (sT1 rfl) sT0) sB0 sF0) ?_
          refine AL_cons (LR_assign (at_tmp 57 _) rfl) (sS (sT1 rfl) sB0 sF0) ?_
          refine AL_nil ?_
          exact thenN (cutLeaf (v := x1 + (1#64)) hr (weak0 ((sT rfl (sT rfl sT0))) sub_nil))
        · have hr := hr.trans (cond_f h)
          clear h
          refine AW_skip ?_
          exact thenN (cutLeaf (v := x1) hr (weak0 ((sT rfl (sT rfl sT0))) sub_nil))
      · rintro x4 hr
        show AW Hfaa.prog _ _ _ ⟨[(8, .inl (is (U64 x4))), (10, .inl (is (U64 x2)))], []⟩
        have hr : some r = F363_3 N x2 x4 := hr
        refine AW_seq1 ?_
        refine AW_region ?_
        refine AL_cons (LR_move (at_tmp 8 _) rfl) (sS (sT1 rfl) sB0 sF0) ?_
        refine AL_cons (LR_move (at_tmp 10 _) rfl) (sS (sT1 rfl) sB0 sF0) ?_
        refine AL_cons (LR_bin (at_tmp 59 _) (at_c (v' := U64 (0#64)) rfl) (neq_U64 x2 (0#64)) rfl) (sS (sA (sT1 rfl) sT0) sB0 sF0) ?_
        refine AL_cons (LR_assign (at_tmp 58 _) rfl) (sS (sT1 rfl) sB0 sF0) ?_
        refine AL_cons (LR_assign (at_tmp 60 _) rfl) (sS (sT1 rfl) sB0 sF0) ?_
        refine AL_nil ?_
        refine thenN ?_
        refine AW_ret ?_
        obtain rfl := Option.some.inj hr
        exact res2 rfl (rvT rfl) (rvT rfl)
/-- parse/slow.round -/
def F265_12 (N : Nat) (a0_0 : BitVec 8) (a0_1 : BitVec 8) (a2 : Bool) (x13 : Bool) : Option (BitVec 64 × BitVec 8) := bif x13 then lt (F68 a0_0 a0_1 a2) fun y18 => some (y18, 20#8) else lt (F67 a0_0 a0_1 a2) fun y20 => some (y20, 20#8)
def F265_14 (N : Nat) (a0_0 : BitVec 8) (a0_1 : BitVec 8) (a1 : BitVec 8) (a2 : Bool) (x15 : Bool) : Option (BitVec 64 × BitVec 8) := bif x15 then F265_12 N a0_0 a0_1 a2 x15 else F265_12 N a0_0 a0_1 a2 ((a1 == (4#8)) && (!a2))
def F265_13 (N : Nat) (a0_0 : BitVec 8) (a0_1 : BitVec 8) (a1 : BitVec 8) (a2 : Bool) (x14 : Bool) : Option (BitVec 64 × BitVec 8) := bif x14 then F265_12 N a0_0 a0_1 a2 x14 else F265_14 N a0_0 a0_1 a1 a2 ((a1 == (3#8)) && a2)
def F265_11 (N : Nat) (a0_0 : BitVec 8) (a0_1 : BitVec 8) (a1 : BitVec 8) (a2 : Bool) (x1 : BitVec 64) (x9 : BitVec 64) (x12 : Bool) : Option (BitVec 64 × BitVec 8) := bif x12 then some (x9 ||| x1, 16#8) else F265_13 N a0_0 a0_1 a1 a2 (a1 == (2#8))
def F265_10 (N : Nat) (a0_0 : BitVec 8) (a0_1 : BitVec 8) (a1 : BitVec 8) (a2 : Bool) (x1 : BitVec 64) (x9 : BitVec 64) (x11 : Bool) : Option (BitVec 64 × BitVec 8) := bif x11 then some (x9 ||| x1, 24#8) else lt (F67 a0_0 a0_1 false) fun y21 => F265_11 N a0_0 a0_1 a1 a2 x1 x9 (decide (x9.toNat < y21.toNat))
def F265_9 (N : Nat) (a0_0 : BitVec 8) (a0_1 : BitVec 8) (a1 : BitVec 8) (a2 : Bool) (x1 : BitVec 64) (x8 : Bool) (x9 : BitVec 64) (x10 : Bool) : Option (BitVec 64 × BitVec 8) := bif x10 then some (x9 ||| x1, 0#8) else lt (F67 a0_0 a0_1 false) fun y22 => F265_10 N a0_0 a0_1 a1 a2 x1 x9 ((decide (x9.toNat < y22.toNat)) && x8)
def F265_8 (N : Nat) (a0_0 : BitVec 8) (a0_1 : BitVec 8) (a1 : BitVec 8) (a2 : Bool) (x1 : BitVec 64) (x6 : Bool) (x8 : Bool) (x9 : BitVec 64) : Option (BitVec 64 × BitVec 8) := lt (F67 a0_0 a0_1 false) fun y23 => F265_9 N a0_0 a0_1 a1 a2 x1 x8 x9 ((decide (x9.toNat < y23.toNat)) && (!x6))
def F265_7 (N : Nat) (a0_0 : BitVec 8) (a0_1 : BitVec 8) (a1 : BitVec 8) (a2 : Bool) (x1 : BitVec 64) (x3 : Int) (x4 : Int) (x5 : BitVec 64) (x6 : Bool) (x8 : Bool) : Option (BitVec 64 × BitVec 8) := F265_8 N a0_0 a0_1 a1 a2 x1 x6 x8 (((BitVec.ofInt 64 (w64 (x4 - x3))) <<< a0_1.toNat) + x5)
def F265_16 (N : Nat) (a0_0 : BitVec 8) (a0_1 : BitVec 8) (a1 : BitVec 8) (a2 : Bool) (x1 : BitVec 64) (x3 : Int) (x4 : Int) (x5 : BitVec 64) (x6 : Bool) (x17 : BitVec 64) : Option (BitVec 64 × BitVec 8) := F265_7 N a0_0 a0_1 a1 a2 x1 x3 x4 x5 x6 ((x17 >>> (a0_1 + (1#8)).toNat) == (0#64))
def F265_15 (N : Nat) (a0_0 : BitVec 8) (a0_1 : BitVec 8) (a1 : BitVec 8) (a2 : Bool) (a3 : BitVec 64) (x1 : BitVec 64) (x3 : Int) (x4 : Int) (x5 : BitVec 64) (x6 : Bool) (x7 : Bool) (x16 : Bool) : Option (BitVec 64 × BitVec 8) := bif x16 then (F363 N a1 a2 a3 (w64 (63 - (w64 (a0_1.toNat : Int))))).bind fun y25 => F265_16 N a0_0 a0_1 a1 a2 x1 x3 x4 x5 x6 y25.1 else F265_7 N a0_0 a0_1 a1 a2 x1 x3 x4 x5 x6 x7
def F265_6 (N : Nat) (a0_0 : BitVec 8) (a0_1 : BitVec 8) (a1 : BitVec 8) (a2 : Bool) (a3 : BitVec 64) (a4 : Int) (x1 : BitVec 64) (x3 : Int) (x4 : Int) (x5 : BitVec 64) (x6 : Bool) (x7 : Bool) : Option (BitVec 64 × BitVec 8) := F265_15 N a0_0 a0_1 a1 a2 a3 x1 x3 x4 x5 x6 x7 ((w64 (a4 + 63)) == (w64 (x3 - 1)))
def F265_5 (N : Nat) (a0_0 : BitVec 8) (a0_1 : BitVec 8) (a1 : BitVec 8) (a2 : Bool) (a3 : BitVec 64) (a4 : Int) (x1 : BitVec 64) (x3 : Int) (x4 : Int) (x5 : BitVec 64) (x6 : Bool) : Option (BitVec 64 × BitVec 8) := F265_6 N a0_0 a0_1 a1 a2 a3 a4 x1 x3 x4 x5 x6 (decide ((w64 (a4 + 63)) < x3))
def F265_4 (N : Nat) (a0_0 : BitVec 8) (a0_1 : BitVec 8) (a1 : BitVec 8) (a2 : Bool) (a3 : BitVec 64) (a4 : Int) (x1 : BitVec 64) (x3 : Int) (x4 : Int) : Option (BitVec 64 × BitVec 8) := (F363 N a1 a2 a3 (w64 ((w64 (x4 - a4)) - (w64 (a0_1.toNat : Int))))).bind fun y26 => F265_5 N a0_0 a0_1 a1 a2 a3 a4 x1 x3 x4 y26.1 y26.2
def F265_3 (N : Nat) (a0_0 : BitVec 8) (a0_1 : BitVec 8) (a1 : BitVec 8) (a2 : Bool) (a3 : BitVec 64) (a4 : Int) (x1 : BitVec 64) (x3 : Int) : Option (BitVec 64 × BitVec 8) := F265_4 N a0_0 a0_1 a1 a2 a3 a4 x1 x3 (max (w64 (a4 + 63)) x3)
def F265_2 (N : Nat) (a0_0 : BitVec 8) (a0_1 : BitVec 8) (a1 : BitVec 8) (a2 : Bool) (a3 : BitVec 64) (a4 : Int) (x1 : BitVec 64) (x2 : Bool) : Option (BitVec 64 × BitVec 8) := bif x2 then some (x1, 0#8) else lt (F71 a0_0 a0_1) fun y27 => F265_3 N a0_0 a0_1 a1 a2 a3 a4 x1 (w64 (1 - (w64 y27)))
def F265_1 (N : Nat) (a0_0 : BitVec 8) (a0_1 : BitVec 8) (a1 : BitVec 8) (a2 : Bool) (a3 : BitVec 64) (a4 : Int) (x1 : BitVec 64) : Option (BitVec 64 × BitVec 8) := F265_2 N a0_0 a0_1 a1 a2 a3 a4 x1 (a3 == (0#64))
def F265 (N : Nat) (a0_0 : BitVec 8) (a0_1 : BitVec 8) (a1 : BitVec 8) (a2 : Bool) (a3 : BitVec 64) (a4 : Int) : Option (BitVec 64 × BitVec 8) := bif a2 then lt (F70 a0_0 a0_1) fun y28 => F265_1 N a0_0 a0_1 a1 a2 a3 a4 y28 else F265_1 N a0_0 a0_1 a1 a2 a3 a4 (0#64)
theorem C265 (N : Nat) (a0_0 : BitVec 8) (a0_1 : BitVec 8) (a1 : BitVec 8) (a2 : Bool) (a3 : BitVec 64) (a4 : Int) (r : BitVec 64 × BitVec 8) (hr : some r = F265 N a0_0 a0_1 a1 a2 a3 a4) : Aw.Fn Hfaa.prog 265 [agg [is (U8 a0_0), is (U8 a0_1)], is (U8 a1), is (Bl a2), is (U64 a3), is (I64 a4)] (tup [is (U64 r.1), is (U8 r.2)]) := by
  refine fn_intro Hfaa.func265 rfl rfl rfl ?_
  intro bn0 w0 H0
  refine AW_seq1 ?_
  refine AW_region ?_
  refine AL_cons (LR_box (at_tmp 0 _) (cells_agg _) rfl) (sS (sT1 rfl) sB0 (sF1 rfl)) ?_
  refine AL_cons (LR_assign (at_c (v' := U64 (0#64)) rfl) rfl) (sS sT0 sB0 sF0) ?_
  refine AL_cons (LR_assign (at_c (v' := U8 (0#8)) rfl) rfl) (sS sT0 sB0 sF0) ?_
  refine AL_nil ?_
  refine thenN ?_
  refine AW_seq1 ?_
  refine AW_region ?_
  refine AL_cons (LR_assign (at_c (v' := U64 (0#64)) rfl) rfl) (sS sT0 sB0 sF0) ?_
  refine AL_nil ?_
  refine thenN ?_
  refine AW_cut (σ := BitVec 64) (fun v => ⟨[(1, .inl (is (U8 a1))), (2, .inl (is (Bl a2))), (3, .inl (is (U64 a3))), (4, .inl (is (I64 a4))), (5, .inr (.inl (5, 0))), (12, .inl (is (U64 v)))], [(5, pb 23 [is (U8 a0_0), is (U8 a0_1)])]⟩) (fun v => some r = F265_1 N a0_0 a0_1 a1 a2 a3 a4 v) ?_ ?_
  · skip
    refine AW_seq1 ?_
    refine AW_region ?_
    refine AL_cons (LR_move (at_tmp 2 _) rfl) (sS (sT1 rfl) sB0 sF0) ?_
    refine AL_nil ?_
    refine thenN ?_
    refine AW_condT (b := a2) rfl (fun h => ?_) (fun h => ?_)
    · have hr := hr.trans (cond_t h)
      clear h
      refine AW_region ?_
      refine AL_cons (LR_loads (at_tmp 5 _) ag23 sz23 rfl rfl rfl) (sS (sT1 rfl) (sB1 rfl) sF0) ?_
      obtain ⟨y28, hy28, hr⟩ := lt_some hr
      refine AL_cons (LR_call Hfaa.func70 rfl rfl (C70 a0_0 a0_1 y28 hy28) (all_cons (at_tmp 22 _) all_nil) rfl) (sS (sA (sT1 rfl) sT0) sB0 sF0) ?_
      refine AL_cons (LR_assign (at_tmp 23 _) rfl) (sS (sT1 rfl) sB0 sF0) ?_
      refine AL_nil ?_
      exact thenN (cutLeaf (v := y28) hr (weak0 ((sT rfl (sT rfl (sT rfl (sT rfl (sT rfl (sT rfl sT0))))))) (sub_keep sub_nil)))
    · have hr := hr.trans (cond_f h)
      clear h
      refine AW_skip ?_
      exact thenN (cutLeaf (v := 0#64) hr (weak0 ((sT rfl (sT rfl (sT rfl (sT rfl (sT rfl (sT rfl sT0))))))) (sub_keep sub_nil)))
  · rintro x1 hr
    show AW Hfaa.prog _ _ _ ⟨[(1, .inl (is (U8 a1))), (2, .inl (is (Bl a2))), (3, .inl (is (U64 a3))), (4, .inl (is (I64 a4))), (5, .inr (.inl (5, 0))), (12, .inl (is (U64 x1)))], [(5, pb 23 [is (U8 a0_0), is (U8 a0_1)])]⟩
    have hr : some r = F265_1 N a0_0 a0_1 a1 a2 a3 a4 x1 := hr
    refine AW_seq1 ?_
    refine AW_cut (σ := Bool) (fun v => ⟨[(1, .inl (is (U8 a1))), (2, .inl (is (Bl a2))), (3, .inl (is (U64 a3))), (4, .inl (is (I64 a4))), (5, .inr (.inl (5, 0))), (12, .inl (is (U64 x1))), (25, .inl (is (Bl v)))], [(5, pb 23 [is (U8 a0_0), is (U8 a0_1)])]⟩) (fun v => some r = F265_2 N a0_0 a0_1 a1 a2 a3 a4 x1 v) ?_ ?_
    · skip
      refine AW_region ?_
      refine AL_cons (LR_move (at_tmp 3 _) rfl) (sS (sT1 rfl) sB0 sF0) ?_
      refine AL_cons (LR_bin (at_tmp 24 _) (at_c (v' := U64 (0#64)) rfl) (eql_U64 a3 (0#64)) rfl) (sS (sA (sT1 rfl) sT0) sB0 sF0) ?_
      refine AL_nil ?_
      exact thenN (cutLeaf (v := a3 == (0#64)) hr (weak0 ((sT rfl (sT rfl (sT rfl (sT rfl (sT rfl (sT rfl (sT rfl sT0)))))))) (sub_keep sub_nil)))
    · rintro x2 hr
      show AW Hfaa.prog _ _ _ ⟨[(1, .inl (is (U8 a1))), (2, .inl (is (Bl a2))), (3, .inl (is (U64 a3))), (4, .inl (is (I64 a4))), (5, .inr (.inl (5, 0))), (12, .inl (is (U64 x1))), (25, .inl (is (Bl x2)))], [(5, pb 23 [is (U8 a0_0), is (U8 a0_1)])]⟩
      have hr : some r = F265_2 N a0_0 a0_1 a1 a2 a3 a4 x1 x2 := hr
      refine AW_condT (b := x2) rfl (fun h => ?_) (fun h => ?_)
      · have hr := hr.trans (cond_t h)
        clear h
        refine AW_seq1 ?_
        refine AW_region ?_
        refine AL_cons (LR_move (at_tmp 12 _) rfl) (sS (sT1 rfl) sB0 sF0) ?_
        refine AL_cons (LR_assign (at_tmp 26 _) rfl) (sS (sT1 rfl) sB0 sF0) ?_
        refine AL_cons (LR_assign (at_c (v' := U8 (0#8)) rfl) rfl) (sS sT0 sB0 sF0) ?_
        refine AL_nil ?_
        refine thenN ?_
        refine AW_ret ?_
        refine thenR ?_
        obtain rfl := Option.some.inj hr
        exact res2 rfl (rvT rfl) (rvT rfl)
      · have hr := hr.trans (cond_f h)
        clear h
        refine AW_skip ?_
        refine thenN ?_
        refine AW_cut (σ := Int) (fun v => ⟨[(1, .inl (is (U8 a1))), (2, .inl (is (Bl a2))), (3, .inl (is (U64 a3))), (4, .inl (is (I64 a4))), (5, .inr (.inl (5, 0))), (12, .inl (is (U64 x1))), (13, .inl (is (I64 v)))], [(5, pb 23 [is (U8 a0_0), is (U8 a0_1)])]⟩) (fun v => some r = F265_3 N a0_0 a0_1 a1 a2 a3 a4 x1 v) ?_ ?_
        · skip
          refine AW_region ?_
          refine AL_cons (LR_loads (at_tmp 5 _) ag23 sz23 rfl rfl rfl) (sS (sT1 rfl) (sB1 rfl) sF0) ?_
          obtain ⟨y27, hy27, hr⟩ := lt_some hr
          refine AL_cons (LR_call Hfaa.func71 rfl rfl (C71 a0_0 a0_1 y27 hy27) (all_cons (at_tmp 27 _) all_nil) rfl) (sS (sA (sT1 rfl) sT0) sB0 sF0) ?_
          refine AL_cons (LR_conv (vx := I16 y27) (at_tmp 28 _) (conv_I64 Hfaa.underlying44 Hfaa.underlying3 y27) rfl) (sS (sT1 rfl) sB0 sF0) ?_
          refine AL_cons (LR_bin (at_c (v' := I64 1) rfl) (at_tmp 29 _) (sub_I64 1 (w64 y27)) rfl) (sS (sA sT0 (sT1 rfl)) sB0 sF0) ?_
          refine AL_cons (LR_assign (at_tmp 30 _) rfl) (sS (sT1 rfl) sB0 sF0) ?_
          refine AL_nil ?_
          exact thenN (cutLeaf (v := w64 (1 - (w64 y27))) hr (weak0 ((sT rfl (sT rfl (sT rfl (sT rfl (sT rfl (sT rfl (sT rfl sT0)))))))) (sub_keep sub_nil)))
        · rintro x3 hr
          show AW Hfaa.prog _ _ _ ⟨[(1, .inl (is (U8 a1))), (2, .inl (is (Bl a2))), (3, .inl (is (U64 a3))), (4, .inl (is (I64 a4))), (5, .inr (.inl (5, 0))), (12, .inl (is (U64 x1))), (13, .inl (is (I64 x3)))], [(5, pb 23 [is (U8 a0_0), is (U8 a0_1)])]⟩
          have hr : some r = F265_3 N a0_0 a0_1 a1 a2 a3 a4 x1 x3 := hr
          refine AW_cut (σ := Int) (fun v => ⟨[(1, .inl (is (U8 a1))), (2, .inl (is (Bl a2))), (3, .inl (is (U64 a3))), (4, .inl (is (I64 a4))), (5, .inr (.inl (5, 0))), (12, .inl (is (U64 x1))), (13, .inl (is (I64 x3))), (14, .inl (is (I64 v)))], [(5, pb 23 [is (U8 a0_0), is (U8 a0_1)])]⟩) (fun v => some r = F265_4 N a0_0 a0_1 a1 a2 a3 a4 x1 x3 v) ?_ ?_
          · skip
            refine AW_region ?_
            refine AL_cons (LR_move (at_tmp 4 _) rfl) (sS (sT1 rfl) sB0 sF0) ?_
            refine AL_cons (LR_bin (at_tmp 31 _) (at_c (v' := I64 63) rfl) (add_I64 a4 63) rfl) (sS (sA (sT1 rfl) sT0) sB0 sF0) ?_
            refine AL_cons (LR_move (at_tmp 13 _) rfl) (sS (sT1 rfl) sB0 sF0) ?_
            refine AL_cons (LR_bi2 (vx := I64 (w64 (a4 + 63))) (vy := I64 x3) (v := I64 (max (w64 (a4 + 63)) x3)) (at_tmp 32 _) (at_tmp 33 _) (fun cs w => max_I .i64 (w64 (a4 + 63)) x3 cs w) rfl) (sS (sA (sT1 rfl) (sT1 rfl)) sB0 sF0) ?_
            refine AL_cons (LR_assign (at_tmp 34 _) rfl) (sS (sT1 rfl) sB0 sF0) ?_
            refine AL_nil ?_
            exact thenN (cutLeaf (v := max (w64 (a4 + 63)) x3) hr (weak0 ((sT rfl (sT rfl (sT rfl (sT rfl (sT rfl (sT rfl (sT rfl (sT rfl sT0))))))))) (sub_keep sub_nil)))
          · rintro x4 hr
            show AW Hfaa.prog _ _ _ ⟨[(1, .inl (is (U8 a1))), (2, .inl (is (Bl a2))), (3, .inl (is (U64 a3))), (4, .inl (is (I64 a4))), (5, .inr (.inl (5, 0))), (12, .inl (is (U64 x1))), (13, .inl (is (I64 x3))), (14, .inl (is (I64 x4)))], [(5, pb 23 [is (U8 a0_0), is (U8 a0_1)])]⟩
            have hr : some r = F265_4 N a0_0 a0_1 a1 a2 a3 a4 x1 x3 x4 := hr
            refine AW_cut (σ := BitVec 64 × Bool) (fun v => ⟨[(1, .inl (is (U8 a1))), (2, .inl (is (Bl a2))), (3, .inl (is (U64 a3))), (4, .inl (is (I64 a4))), (5, .inr (.inl (5, 0))), (12, .inl (is (U64 x1))), (13, .inl (is (I64 x3))), (14, .inl (is (I64 x4))), (15, .inl (is (U64 v.1))), (16, .inl (is (Bl v.2)))], [(5, pb 23 [is (U8 a0_0), is (U8 a0_1)])]⟩) (fun v => some r = F265_5 N a0_0 a0_1 a1 a2 a3 a4 x1 x3 x4 v.1 v.2) ?_ ?_
            · skip
              refine AW_region ?_
              refine AL_cons (LR_move (at_tmp 1 _) rfl) (sS (sT1 rfl) sB0 sF0) ?_
              refine AL_cons (LR_move (at_tmp 2 _) rfl) (sS (sT1 rfl) sB0 sF0) ?_
              refine AL_cons (LR_move (at_tmp 3 _) rfl) (sS (sT1 rfl) sB0 sF0) ?_
              refine AL_cons (LR_move (at_tmp 14 _) rfl) (sS (sT1 rfl) sB0 sF0) ?_
              refine AL_cons (LR_move (at_tmp 4 _) rfl) (sS (sT1 rfl) sB0 sF0) ?_
              refine AL_cons (LR_bin (at_tmp 39 _) (at_tmp 40 _) (sub_I64 x4 a4) rfl) (sS (sA (sT1 rfl) (sT1 rfl)) sB0 sF0) ?_
              refine AL_cons (LR_fieldAddr (off := 0) (o := 1) (at_tmp 5 _) (fun b w => fa23_1 b 0 w) rfl) (sS (sT1 rfl) sB0 sF0) ?_
              refine AL_cons (LR_load (at_tmp 42 _) na5 rfl rfl) (sS (sT1 rfl) (sB1 rfl) sF0) ?_
              refine AL_cons (LR_conv (vx := U8 a0_1) (at_tmp 43 _) (conv_I64 Hfaa.underlying5 Hfaa.underlying3 (a0_1.toNat : Int)) rfl) (sS (sT1 rfl) sB0 sF0) ?_
              refine AL_cons (LR_bin (at_tmp 41 _) (at_tmp 44 _) (sub_I64 (w64 (x4 - a4)) (w64 (a0_1.toNat : Int))) rfl) (sS (sA (sT1 rfl) (sT1 rfl)) sB0 sF0) ?_
              obtain ⟨y26, hy26, hr⟩ := bind_some hr
              refine AL_cons (LR_call Hfaa.func363 rfl rfl (C363 N a1 a2 a3 (w64 ((w64 (x4 - a4)) - (w64 (a0_1.toNat : Int)))) y26 hy26) (all_cons (at_tmp 36 _) (all_cons (at_tmp 37 _) (all_cons (at_tmp 38 _) (all_cons (at_tmp 45 _) all_nil)))) rfl) (sS (sA (sT1 rfl) (sA (sT1 rfl) (sA (sT1 rfl) (sA (sT1 rfl) sT0)))) sB0 sF0) ?_
              refine AL_cons (LR_move (at_tmp 46 _) rfl) (sS (sT1 rfl) sB0 sF0) ?_
              refine AL_cons (LR_extract (at_tmp 35 _) rfl rfl) (sS (sT1 rfl) sB0 sF0) ?_
              refine AL_cons (LR_extract (at_tmp 35 _) rfl rfl) (sS (sT1 rfl) sB0 sF0) ?_
              refine AL_cons (LR_assign (at_tmp 47 _) rfl) (sS (sT1 rfl) sB0 sF0) ?_
              refine AL_cons (LR_assign (at_tmp 48 _) rfl) (sS (sT1 rfl) sB0 sF0) ?_
              refine AL_nil ?_
              exact thenN (cutLeaf (v := (y26.1, y26.2)) hr (weak0 ((sT rfl (sT rfl (sT rfl (sT rfl (sT rfl (sT rfl (sT rfl (sT rfl (sT rfl (sT rfl sT0))))))))))) (sub_keep sub_nil)))
            · rintro ⟨x5, x6⟩ hr
              show AW Hfaa.prog _ _ _ ⟨[(1, .inl (is (U8 a1))), (2, .inl (is (Bl a2))), (3, .inl (is (U64 a3))), (4, .inl (is (I64 a4))), (5, .inr (.inl (5, 0))), (12, .inl (is (U64 x1))), (13, .inl (is (I64 x3))), (14, .inl (is (I64 x4))), (15, .inl (is (U64 x5))), (16, .inl (is (Bl x6)))], [(5, pb 23 [is (U8 a0_0), is (U8 a0_1)])]⟩
              have hr : some r = F265_5 N a0_0 a0_1 a1 a2 a3 a4 x1 x3 x4 x5 x6 := hr
              refine AW_cut (σ := Bool) (fun v => ⟨[(1, .inl (is (U8 a1))), (2, .inl (is (Bl a2))), (3, .inl (is (U64 a3))), (4, .inl (is (I64 a4))), (5, .inr (.inl (5, 0))), (12, .inl (is (U64 x1))), (13, .inl (is (I64 x3))), (14, .inl (is (I64 x4))), (15, .inl (is (U64 x5))), (16, .inl (is (Bl x6))), (17, .inl (is (Bl v)))], [(5, pb 23 [is (U8 a0_0), is (U8 a0_1)])]⟩) (fun v => some r = F265_6 N a0_0 a0_1 a1 a2 a3 a4 x1 x3 x4 x5 x6 v) ?_ ?_
              · skip
                refine AW_region ?_
                refine AL_cons (LR_move (at_tmp 4 _) rfl) (sS (sT1 rfl) sB0 sF0) ?_
                refine AL_cons (LR_bin (at_tmp 49 _) (at_c (v' := I64 63) rfl) (add_I64 a4 63) rfl) (sS (sA (sT1 rfl) sT0) sB0 sF0) ?_
                refine AL_cons (LR_move (at_tmp 13 _) rfl) (sS (sT1 rfl) sB0 sF0) ?_
                refine AL_cons (LR_bin (at_tmp 50 _) (at_tmp 51 _) (lss_I64 (w64 (a4 + 63)) x3) rfl) (sS (sA (sT1 rfl) (sT1 rfl)) sB0 sF0) ?_
                refine AL_cons (LR_assign (at_tmp 52 _) rfl) (sS (sT1 rfl) sB0 sF0) ?_
                refine AL_nil ?_
                exact thenN (cutLeaf (v := decide ((w64 (a4 + 63)) < x3)) hr (weak0 ((sT rfl (sT rfl (sT rfl (sT rfl (sT rfl (sT rfl (sT rfl (sT rfl (sT rfl (sT rfl (sT rfl sT0)))))))))))) (sub_keep sub_nil)))
              · rintro x7 hr
                show AW Hfaa.prog _ _ _ ⟨[(1, .inl (is (U8 a1))), (2, .inl (is (Bl a2))), (3, .inl (is (U64 a3))), (4, .inl (is (I64 a4))), (5, .inr (.inl (5, 0))), (12, .inl (is (U64 x1))), (13, .inl (is (I64 x3))), (14, .inl (is (I64 x4))), (15, .inl (is (U64 x5))), (16, .inl (is (Bl x6))), (17, .inl (is (Bl x7)))], [(5, pb 23 [is (U8 a0_0), is (U8 a0_1)])]⟩
                have hr : some r = F265_6 N a0_0 a0_1 a1 a2 a3 a4 x1 x3 x4 x5 x6 x7 := hr
                refine AW_cut (σ := Bool) (fun v => ⟨[(1, .inl (is (U8 a1))), (2, .inl (is (Bl a2))), (5, .inr (.inl (5, 0))), (12, .inl (is (U64 x1))), (13, .inl (is (I64 x3))), (14, .inl (is (I64 x4))), (15, .inl (is (U64 x5))), (16, .inl (is (Bl x6))), (17, .inl (is (Bl v)))], [(5, pb 23 [is (U8 a0_0), is (U8 a0_1)])]⟩) (fun v => some r = F265_7 N a0_0 a0_1 a1 a2 x1 x3 x4 x5 x6 v) ?_ ?_
                · skip
                  refine AW_cut (σ := Bool) (fun v => ⟨[(1, .inl (is (U8 a1))), (2, .inl (is (Bl a2))), (3, .inl (is (U64 a3))), (5, .inr (.inl (5, 0))), (12, .inl (is (U64 x1))), (13, .inl (is (I64 x3))), (14, .inl (is (I64 x4))), (15, .inl (is (U64 x5))), (16, .inl (is (Bl x6))), (17, .inl (is (Bl x7))), (57, .inl (is (Bl v)))], [(5, pb 23 [is (U8 a0_0), is (U8 a0_1)])]⟩) (fun v => some r = F265_15 N a0_0 a0_1 a1 a2 a3 x1 x3 x4 x5 x6 x7 v) ?_ ?_
                  · skip
                    refine AW_region ?_
                    refine AL_cons (LR_move (at_tmp 4 _) rfl) (sS (sT1 rfl) sB0 sF0) ?_
                    refine AL_cons (LR_bin (at_tmp 53 _) (at_c (v' := I64 63) rfl) (add_I64 a4 63) rfl) (sS (sA (sT1 rfl) sT0) sB0 sF0) ?_
                    refine AL_cons (LR_move (at_tmp 13 _) rfl) (sS (sT1 rfl) sB0 sF0) ?_
                    refine AL_cons (LR_bin (at_tmp 55 _) (at_c (v' := I64 1) rfl) (sub_I64 x3 1) rfl) (sS (sA (sT1 rfl) sT0) sB0 sF0) ?_
                    refine AL_cons (LR_bin (at_tmp 54 _) (at_tmp 56 _) (eql_I64 (w64 (a4 + 63)) (w64 (x3 - 1))) rfl) (sS (sA (sT1 rfl) (sT1 rfl)) sB0 sF0) ?_
                    refine AL_nil ?_
                    exact thenN (cutLeaf (v := (w64 (a4 + 63)) == (w64 (x3 - 1))) hr (weak0 ((sT rfl (sT rfl (sT rfl (sT rfl (sT rfl (sT rfl (sT rfl (sT rfl (sT rfl (sT rfl (sT rfl sT0)))))))))))) (sub_keep sub_nil)))
                  · rintro x16 hr
                    show AW Hfaa.prog _ _ _ ⟨[(1, .inl (is (U8 a1))), (2, .inl (is (Bl a2))), (3, .inl (is (U64 a3))), (5, .inr (.inl (5, 0))), (12, .inl (is (U64 x1))), (13, .inl (is (I64 x3))), (14, .inl (is (I64 x4))), (15, .inl (is (U64 x5))), (16, .inl (is (Bl x6))), (17, .inl (is (Bl x7))), (57, .inl (is (Bl x16)))], [(5, pb 23 [is (U8 a0_0), is (U8 a0_1)])]⟩
                    have hr : some r = F265_15 N a0_0 a0_1 a1 a2 a3 x1 x3 x4 x5 x6 x7 x16 := hr
                    refine AW_condT (b := x16) rfl (fun h => ?_) (fun h => ?_)
                    · have hr := hr.trans (cond_t h)
                      clear h
                      refine AW_cut (σ := BitVec 64) (fun v => ⟨[(1, .inl (is (U8 a1))), (2, .inl (is (Bl a2))), (5, .inr (.inl (5, 0))), (12, .inl (is (U64 x1))), (13, .inl (is (I64 x3))), (14, .inl (is (I64 x4))), (15, .inl (is (U64 x5))), (16, .inl (is (Bl x6))), (18, .inl (is (U64 v)))], [(5, pb 23 [is (U8 a0_0), is (U8 a0_1)])]⟩) (fun v => some r = F265_16 N a0_0 a0_1 a1 a2 x1 x3 x4 x5 x6 v) ?_ ?_
                      · skip
                        refine AW_region ?_
                        refine AL_cons (LR_move (at_tmp 1 _) rfl) (sS (sT1 rfl) sB0 sF0) ?_
                        refine AL_cons (LR_move (at_tmp 2 _) rfl) (sS (sT1 rfl) sB0 sF0) ?_
                        refine AL_cons (LR_move (at_tmp 3 _) rfl) (sS (sT1 rfl) sB0 sF0) ?_
                        refine AL_cons (LR_fieldAddr (off := 0) (o := 1) (at_tmp 5 _) (fun b w => fa23_1 b 0 w) rfl) (sS (sT1 rfl) sB0 sF0) ?_
                        refine AL_cons (LR_load (at_tmp 62 _) na5 rfl rfl) (sS (sT1 rfl) (sB1 rfl) sF0) ?_
                        refine AL_cons (LR_conv (vx := U8 a0_1) (at_tmp 63 _) (conv_I64 Hfaa.underlying5 Hfaa.underlying3 (a0_1.toNat : Int)) rfl) (sS (sT1 rfl) sB0 sF0) ?_
                        refine AL_cons (LR_bin (at_c (v' := I64 63) rfl) (at_tmp 64 _) (sub_I64 63 (w64 (a0_1.toNat : Int))) rfl) (sS (sA sT0 (sT1 rfl)) sB0 sF0) ?_
                        obtain ⟨y25, hy25, hr⟩ := bind_some hr
                        refine AL_cons (LR_call Hfaa.func363 rfl rfl (C363 N a1 a2 a3 (w64 (63 - (w64 (a0_1.toNat : Int)))) y25 hy25) (all_cons (at_tmp 59 _) (all_cons (at_tmp 60 _) (all_cons (at_tmp 61 _) (all_cons (at_tmp 65 _) all_nil)))) rfl) (sS (sA (sT1 rfl) (sA (sT1 rfl) (sA (sT1 rfl) (sA (sT1 rfl) sT0)))) sB0 sF0) ?_
                        refine AL_cons (LR_move (at_tmp 66 _) rfl) (sS (sT1 rfl) sB0 sF0) ?_
                        refine AL_cons (LR_extract (at_tmp 58 _) rfl rfl) (sS (sT1 rfl) sB0 sF0) ?_
                        refine AL_cons (LR_extract (at_tmp 58 _) rfl rfl) (sS (sT1 rfl) sB0 sF0) ?_
                        refine AL_cons (LR_assign (at_tmp 67 _) rfl) (sS (sT1 rfl) sB0 sF0) ?_
                        refine AL_cons (LR_assign (at_tmp 68 _) rfl) (sS (sT1 rfl) sB0 sF0) ?_
                        refine AL_nil ?_
                        exact thenN (cutLeaf (v := y25.1) hr (weak0 ((sT rfl (sT rfl (sT rfl (sT rfl (sT rfl (sT rfl (sT rfl (sT rfl (sT rfl sT0)))))))))) (sub_keep sub_nil)))
                      · rintro x17 hr
                        show AW Hfaa.prog _ _ _ ⟨[(1, .inl (is (U8 a1))), (2, .inl (is (Bl a2))), (5, .inr (.inl (5, 0))), (12, .inl (is (U64 x1))), (13, .inl (is (I64 x3))), (14, .inl (is (I64 x4))), (15, .inl (is (U64 x5))), (16, .inl (is (Bl x6))), (18, .inl (is (U64 x17)))], [(5, pb 23 [is (U8 a0_0), is (U8 a0_1)])]⟩
                        have hr : some r = F265_16 N a0_0 a0_1 a1 a2 x1 x3 x4 x5 x6 x17 := hr
                        refine AW_region ?_
                        refine AL_cons (LR_move (at_tmp 18 _) rfl) (sS (sT1 rfl) sB0 sF0) ?_
                        refine AL_cons (LR_fieldAddr (off := 0) (o := 1) (at_tmp 5 _) (fun b w => fa23_1 b 0 w) rfl) (sS (sT1 rfl) sB0 sF0) ?_
                        refine AL_cons (LR_load (at_tmp 70 _) na5 rfl rfl) (sS (sT1 rfl) (sB1 rfl) sF0) ?_
                        refine AL_cons (LR_bin (at_tmp 71 _) (at_c (v' := U8 (1#8)) rfl) (add_U8 a0_1 (1#8)) rfl) (sS (sA (sT1 rfl) sT0) sB0 sF0) ?_
                        refine AL_cons (LR_bin (at_tmp 69 _) (at_tmp 72 _) (shr_U64 x17 ((a0_1 + (1#8)).toNat : Int) (Int.natCast_nonneg _)) rfl) (sS (sA (sT1 rfl) (sT1 rfl)) sB0 sF0) ?_
                        refine AL_cons (LR_bin (at_tmp 73 _) (at_c (v' := U64 (0#64)) rfl) (eql_U64 (x17 >>> (a0_1 + (1#8)).toNat) (0#64)) rfl) (sS (sA (sT1 rfl) sT0) sB0 sF0) ?_
                        refine AL_cons (LR_assign (at_tmp 74 _) rfl) (sS (sT1 rfl) sB0 sF0) ?_
                        refine AL_nil ?_
                        exact thenN (cutLeaf (v := (x17 >>> (a0_1 + (1#8)).toNat) == (0#64)) hr (weak0 ((sT rfl (sT rfl (sT rfl (sT rfl (sT rfl (sT rfl (sT rfl (sT rfl (sT rfl sT0)))))))))) (sub_keep sub_nil)))
                    · have hr := hr.trans (cond_f h)
                      clear h
                      refine AW_skip ?_
                      exact thenN (cutLeaf (v := x7) hr (weak0 ((sT rfl (sT rfl (sT rfl (sT rfl (sT rfl (sT rfl (sT rfl (sT rfl (sT rfl sT0)))))))))) (sub_keep sub_nil)))
                · rintro x8 hr
                  show AW Hfaa.prog _ _ _ ⟨[(1, .inl (is (U8 a1))), (2, .inl (is (Bl a2))), (5, .inr (.inl (5, 0))), (12, .inl (is (U64 x1))), (13, .inl (is (I64 x3))), (14, .inl (is (I64 x4))), (15, .inl (is (U64 x5))), (16, .inl (is (Bl x6))), (17, .inl (is (Bl x8)))], [(5, pb 23 [is (U8 a0_0), is (U8 a0_1)])]⟩
                  have hr : some r = F265_7 N a0_0 a0_1 a1 a2 x1 x3 x4 x5 x6 x8 := hr
                  refine AW_cut (σ := BitVec 64) (fun v => ⟨[(1, .inl (is (U8 a1))), (2, .inl (is (Bl a2))), (5, .inr (.inl (5, 0))), (12, .inl (is (U64 x1))), (16, .inl (is (Bl x6))), (17, .inl (is (Bl x8))), (20, .inl (is (U64 v)))], [(5, pb 23 [is (U8 a0_0), is (U8 a0_1)])]⟩) (fun v => some r = F265_8 N a0_0 a0_1 a1 a2 x1 x6 x8 v) ?_ ?_
                  · skip
                    refine AW_region ?_
                    refine AL_cons (LR_move (at_tmp 14 _) rfl) (sS (sT1 rfl) sB0 sF0) ?_
                    refine AL_cons (LR_move (at_tmp 13 _) rfl) (sS (sT1 rfl) sB0 sF0) ?_
                    refine AL_cons (LR_bin (at_tmp 75 _) (at_tmp 76 _) (sub_I64 x4 x3) rfl) (sS (sA (sT1 rfl) (sT1 rfl)) sB0 sF0) ?_
                    refine AL_cons (LR_conv (vx := I64 (w64 (x4 - x3))) (at_tmp 77 _) (conv_U64 Hfaa.underlying3 Hfaa.underlying30 (w64 (x4 - x3))) rfl) (sS (sT1 rfl) sB0 sF0) ?_
                    refine AL_cons (LR_fieldAddr (off := 0) (o := 1) (at_tmp 5 _) (fun b w => fa23_1 b 0 w) rfl) (sS (sT1 rfl) sB0 sF0) ?_
                    refine AL_cons (LR_load (at_tmp 79 _) na5 rfl rfl) (sS (sT1 rfl) (sB1 rfl) sF0) ?_
                    refine AL_cons (LR_bin (at_tmp 78 _) (at_tmp 80 _) (shl_U64 (BitVec.ofInt 64 (w64 (x4 - x3))) (a0_1.toNat : Int) (Int.natCast_nonneg _)) rfl) (sS (sA (sT1 rfl) (sT1 rfl)) sB0 sF0) ?_
                    refine AL_cons (LR_move (at_tmp 15 _) rfl) (sS (sT1 rfl) sB0 sF0) ?_
                    refine AL_cons (LR_bin (at_tmp 81 _) (at_tmp 82 _) (add_U64 ((BitVec.ofInt 64 (w64 (x4 - x3))) <<< a0_1.toNat) x5) rfl) (sS (sA (sT1 rfl) (sT1 rfl)) sB0 sF0) ?_
                    refine AL_cons (LR_assign (at_tmp 83 _) rfl) (sS (sT1 rfl) sB0 sF0) ?_
                    refine AL_nil ?_
                    exact thenN (cutLeaf (v := ((BitVec.ofInt 64 (w64 (x4 - x3))) <<< a0_1.toNat) + x5) hr (weak0 ((sT rfl (sT rfl (sT rfl (sT rfl (sT rfl (sT rfl (sT rfl sT0)))))))) (sub_keep sub_nil)))
                  · rintro x9 hr
                    show AW Hfaa.prog _ _ _ ⟨[(1, .inl (is (U8 a1))), (2, .inl (is (Bl a2))), (5, .inr (.inl (5, 0))), (12, .inl (is (U64 x1))), (16, .inl (is (Bl x6))), (17, .inl (is (Bl x8))), (20, .inl (is (U64 x9)))], [(5, pb 23 [is (U8 a0_0), is (U8 a0_1)])]⟩
                    have hr : some r = F265_8 N a0_0 a0_1 a1 a2 x1 x6 x8 x9 := hr
                    refine AW_seq1 ?_
                    refine AW_block ?_
                    refine AW_cut (σ := Bool) (fun v => ⟨[(1, .inl (is (U8 a1))), (2, .inl (is (Bl a2))), (5, .inr (.inl (5, 0))), (12, .inl (is (U64 x1))), (17, .inl (is (Bl x8))), (20, .inl (is (U64 x9))), (84, .inl (is (Bl v)))], [(5, pb 23 [is (U8 a0_0), is (U8 a0_1)])]⟩) (fun v => some r = F265_9 N a0_0 a0_1 a1 a2 x1 x8 x9 v) ?_ ?_
                    · skip
                      refine AW_region ?_
                      refine AL_cons (LR_move (at_tmp 20 _) rfl) (sS (sT1 rfl) sB0 sF0) ?_
                      refine AL_cons (LR_loads (at_tmp 5 _) ag23 sz23 rfl rfl rfl) (sS (sT1 rfl) (sB1 rfl) sF0) ?_
                      obtain ⟨y23, hy23, hr⟩ := lt_some hr
                      refine AL_cons (LR_call Hfaa.func67 rfl rfl (C67 a0_0 a0_1 false y23 hy23) (all_cons (at_tmp 86 _) (all_cons (at_c (v' := Bl false) rfl) all_nil)) rfl) (sS (sA (sT1 rfl) (sA sT0 sT0)) sB0 sF0) ?_
                      refine AL_cons (LR_bin (at_tmp 85 _) (at_tmp 87 _) (lss_U64 x9 y23) rfl) (sS (sA (sT1 rfl) (sT1 rfl)) sB0 sF0) ?_
                      refine AL_cons (LR_move (at_tmp 88 _) rfl) (sS (sT1 rfl) sB0 sF0) ?_
                      refine AL_cutAt 3 ⟨[(1, .inl (is (U8 a1))), (2, .inl (is (Bl a2))), (5, .inr (.inl (5, 0))), (12, .inl (is (U64 x1))), (16, .inl (is (Bl x6))), (17, .inl (is (Bl x8))), (20, .inl (is (U64 x9))), (85, .inl (is (U64 x9))), (86, .inl (agg [is (U8 a0_0), is (U8 a0_1)])), (87, .inl (is (U64 y23))), (88, .inl (is (Bl (decide (x9.toNat < y23.toNat))))), (89, .inl (is (Bl (decide (x9.toNat < y23.toNat))))), (92, .inl (is (Bl ((decide (x9.toNat < y23.toNat)) && (!x6)))))], [(5, pb 23 [is (U8 a0_0), is (U8 a0_1)])]⟩ ?_ ?_
                      · cases hb : decide (x9.toNat < y23.toNat)
                        · skip
                          refine AL_cons (LR_off (b := false) rfl rfl rfl rfl) (sS (sT1 rfl) sB0 sF0) ?_
                          refine AL_cons (LR_off (b := false) rfl rfl rfl rfl) (sS (sT1 rfl) sB0 sF0) ?_
                          refine AL_cons (LR_pick (b := false) (at_tmp 89 _) (at_tmp 91 _) (at_c (v' := Bl false) rfl) rfl) (sS (sA (sT1 rfl) (sA (sT1 rfl) sT0)) sB0 sF0) ?_
                          exact AL_nil ⟨rfl, weak0 ((sT rfl (sT rfl (sT rfl (sT rfl (sT rfl (sT rfl (sT rfl (sT rfl (sT rfl (sT rfl (sT rfl (sT rfl (sT rfl sT0)))))))))))))) (sub_keep sub_nil)⟩
                        · skip
                          refine AL_cons (LR_on rfl rfl rfl (LR_move (at_tmp 16 _) rfl)) (sS (sT rfl (sT1 rfl)) sB0 sF0) ?_
                          refine AL_cons (LR_on rfl rfl rfl (LR_un (at_tmp 90 _) (not_Bl x6) rfl)) (sS (sT rfl (sT1 rfl)) sB0 sF0) ?_
                          refine AL_cons (LR_pick (b := true) (at_tmp 89 _) (at_tmp 91 _) (at_c (v' := Bl false) rfl) rfl) (sS (sA (sT1 rfl) (sA (sT1 rfl) sT0)) sB0 sF0) ?_
                          exact AL_nil ⟨rfl, weak0 ((sT rfl (sT rfl (sT rfl (sT rfl (sT rfl (sT rfl (sT rfl (sT rfl (sT rfl (sT rfl (sT rfl (sT rfl (sT rfl sT0)))))))))))))) (sub_keep sub_nil)⟩
                      refine AL_cons (LR_assign (at_tmp 92 _) rfl) (sS (sT1 rfl) sB0 sF0) ?_
                      refine AL_nil ?_
                      exact thenN (cutLeaf (v := (decide (x9.toNat < y23.toNat)) && (!x6)) hr (weak0 ((sT rfl (sT rfl (sT rfl (sT rfl (sT rfl (sT rfl (sT rfl sT0)))))))) (sub_keep sub_nil)))
                    · rintro x10 hr
                      show AW Hfaa.prog _ _ _ ⟨[(1, .inl (is (U8 a1))), (2, .inl (is (Bl a2))), (5, .inr (.inl (5, 0))), (12, .inl (is (U64 x1))), (17, .inl (is (Bl x8))), (20, .inl (is (U64 x9))), (84, .inl (is (Bl x10)))], [(5, pb 23 [is (U8 a0_0), is (U8 a0_1)])]⟩
                      have hr : some r = F265_9 N a0_0 a0_1 a1 a2 x1 x8 x9 x10 := hr
                      refine AW_condT (b := x10) rfl (fun h => ?_) (fun h => ?_)
                      · have hr := hr.trans (cond_t h)
                        clear h
                        refine AW_seq1 ?_
                        refine AW_region ?_
                        refine AL_cons (LR_move (at_tmp 20 _) rfl) (sS (sT1 rfl) sB0 sF0) ?_
                        refine AL_cons (LR_move (at_tmp 12 _) rfl) (sS (sT1 rfl) sB0 sF0) ?_
                        refine AL_cons (LR_bin (at_tmp 93 _) (at_tmp 94 _) (or_U64 x9 x1) rfl) (sS (sA (sT1 rfl) (sT1 rfl)) sB0 sF0) ?_
                        refine AL_cons (LR_assign (at_tmp 95 _) rfl) (sS (sT1 rfl) sB0 sF0) ?_
                        refine AL_cons (LR_assign (at_c (v' := U8 (0#8)) rfl) rfl) (sS sT0 sB0 sF0) ?_
                        refine AL_nil ?_
                        refine thenN ?_
                        refine AW_ret ?_
                        refine blR ?_
                        refine thenR ?_
                        obtain rfl := Option.some.inj hr
                        exact res2 rfl (rvT rfl) (rvT rfl)
                      · have hr := hr.trans (cond_f h)
                        clear h
                        refine AW_cut (σ := Bool) (fun v => ⟨[(1, .inl (is (U8 a1))), (2, .inl (is (Bl a2))), (5, .inr (.inl (5, 0))), (12, .inl (is (U64 x1))), (20, .inl (is (U64 x9))), (96, .inl (is (Bl v)))], [(5, pb 23 [is (U8 a0_0), is (U8 a0_1)])]⟩) (fun v => some r = F265_10 N a0_0 a0_1 a1 a2 x1 x9 v) ?_ ?_
                        · skip
                          refine AW_region ?_
                          refine AL_cons (LR_move (at_tmp 20 _) rfl) (sS (sT1 rfl) sB0 sF0) ?_
                          refine AL_cons (LR_loads (at_tmp 5 _) ag23 sz23 rfl rfl rfl) (sS (sT1 rfl) (sB1 rfl) sF0) ?_
                          obtain ⟨y22, hy22, hr⟩ := lt_some hr
                          refine AL_cons (LR_call Hfaa.func67 rfl rfl (C67 a0_0 a0_1 false y22 hy22) (all_cons (at_tmp 98 _) (all_cons (at_c (v' := Bl false) rfl) all_nil)) rfl) (sS (sA (sT1 rfl) (sA sT0 sT0)) sB0 sF0) ?_
                          refine AL_cons (LR_bin (at_tmp 97 _) (at_tmp 99 _) (lss_U64 x9 y22) rfl) (sS (sA (sT1 rfl) (sT1 rfl)) sB0 sF0) ?_
                          refine AL_cons (LR_move (at_tmp 100 _) rfl) (sS (sT1 rfl) sB0 sF0) ?_
                          refine AL_cutAt 2 ⟨[(1, .inl (is (U8 a1))), (2, .inl (is (Bl a2))), (5, .inr (.inl (5, 0))), (12, .inl (is (U64 x1))), (17, .inl (is (Bl x8))), (20, .inl (is (U64 x9))), (84, .inl (is (Bl x10))), (97, .inl (is (U64 x9))), (98, .inl (agg [is (U8 a0_0), is (U8 a0_1)])), (99, .inl (is (U64 y22))), (100, .inl (is (Bl (decide (x9.toNat < y22.toNat))))), (101, .inl (is (Bl (decide (x9.toNat < y22.toNat))))), (103, .inl (is (Bl ((decide (x9.toNat < y22.toNat)) && x8))))], [(5, pb 23 [is (U8 a0_0), is (U8 a0_1)])]⟩ ?_ ?_
                          · cases hb : decide (x9.toNat < y22.toNat)
                            · skip
                              refine AL_cons (LR_off (b := false) rfl rfl rfl rfl) (sS (sT1 rfl) sB0 sF0) ?_
                              refine AL_cons (LR_pick (b := false) (at_tmp 101 _) (at_tmp 102 _) (at_c (v' := Bl false) rfl) rfl) (sS (sA (sT1 rfl) (sA (sT1 rfl) sT0)) sB0 sF0) ?_
                              exact AL_nil ⟨rfl, weak0 ((sT rfl (sT rfl (sT rfl (sT rfl (sT rfl (sT rfl (sT rfl (sT rfl (sT rfl (sT rfl (sT rfl (sT rfl (sT rfl sT0)))))))))))))) (sub_keep sub_nil)⟩
                            · skip
                              refine AL_cons (LR_on rfl rfl rfl (LR_move (at_tmp 17 _) rfl)) (sS (sT rfl (sT1 rfl)) sB0 sF0) ?_
                              refine AL_cons (LR_pick (b := true) (at_tmp 101 _) (at_tmp 102 _) (at_c (v' := Bl false) rfl) rfl) (sS (sA (sT1 rfl) (sA (sT1 rfl) sT0)) sB0 sF0) ?_
                              exact AL_nil ⟨rfl, weak0 ((sT rfl (sT rfl (sT rfl (sT rfl (sT rfl (sT rfl (sT rfl (sT rfl (sT rfl (sT rfl (sT rfl (sT rfl (sT rfl sT0)))))))))))))) (sub_keep sub_nil)⟩
                          refine AL_cons (LR_assign (at_tmp 103 _) rfl) (sS (sT1 rfl) sB0 sF0) ?_
                          refine AL_nil ?_
                          exact thenN (cutLeaf (v := (decide (x9.toNat < y22.toNat)) && x8) hr (weak0 ((sT rfl (sT rfl (sT rfl (sT rfl (sT rfl (sT rfl sT0))))))) (sub_keep sub_nil)))
                        · rintro x11 hr
                          show AW Hfaa.prog _ _ _ ⟨[(1, .inl (is (U8 a1))), (2, .inl (is (Bl a2))), (5, .inr (.inl (5, 0))), (12, .inl (is (U64 x1))), (20, .inl (is (U64 x9))), (96, .inl (is (Bl x11)))], [(5, pb 23 [is (U8 a0_0), is (U8 a0_1)])]⟩
                          have hr : some r = F265_10 N a0_0 a0_1 a1 a2 x1 x9 x11 := hr
                          refine AW_condT (b := x11) rfl (fun h => ?_) (fun h => ?_)
                          · have hr := hr.trans (cond_t h)
                            clear h
                            refine AW_seq1 ?_
                            refine AW_region ?_
                            refine AL_cons (LR_move (at_tmp 20 _) rfl) (sS (sT1 rfl) sB0 sF0) ?_
                            refine AL_cons (LR_move (at_tmp 12 _) rfl) (sS (sT1 rfl) sB0 sF0) ?_
                            refine AL_cons (LR_bin (at_tmp 104 _) (at_tmp 105 _) (or_U64 x9 x1) rfl) (sS (sA (sT1 rfl) (sT1 rfl)) sB0 sF0) ?_
                            refine AL_cons (LR_assign (at_tmp 106 _) rfl) (sS (sT1 rfl) sB0 sF0) ?_
                            refine AL_cons (LR_assign (at_c (v' := U8 (24#8)) rfl) rfl) (sS sT0 sB0 sF0) ?_
                            refine AL_nil ?_
                            refine thenN ?_
                            refine AW_ret ?_
                            refine blR ?_
                            refine thenR ?_
                            obtain rfl := Option.some.inj hr
                            exact res2 rfl (rvT rfl) (rvT rfl)
                          · have hr := hr.trans (cond_f h)
                            clear h
                            refine AW_cut (σ := Bool) (fun v => ⟨[(1, .inl (is (U8 a1))), (2, .inl (is (Bl a2))), (5, .inr (.inl (5, 0))), (12, .inl (is (U64 x1))), (20, .inl (is (U64 x9))), (107, .inl (is (Bl v)))], [(5, pb 23 [is (U8 a0_0), is (U8 a0_1)])]⟩) (fun v => some r = F265_11 N a0_0 a0_1 a1 a2 x1 x9 v) ?_ ?_
                            · skip
                              refine AW_region ?_
                              refine AL_cons (LR_move (at_tmp 20 _) rfl) (sS (sT1 rfl) sB0 sF0) ?_
                              refine AL_cons (LR_loads (at_tmp 5 _) ag23 sz23 rfl rfl rfl) (sS (sT1 rfl) (sB1 rfl) sF0) ?_
                              obtain ⟨y21, hy21, hr⟩ := lt_some hr
                              refine AL_cons (LR_call Hfaa.func67 rfl rfl (C67 a0_0 a0_1 false y21 hy21) (all_cons (at_tmp 109 _) (all_cons (at_c (v' := Bl false) rfl) all_nil)) rfl) (sS (sA (sT1 rfl) (sA sT0 sT0)) sB0 sF0) ?_
                              refine AL_cons (LR_bin (at_tmp 108 _) (at_tmp 110 _) (lss_U64 x9 y21) rfl) (sS (sA (sT1 rfl) (sT1 rfl)) sB0 sF0) ?_
                              refine AL_cons (LR_assign (at_tmp 111 _) rfl) (sS (sT1 rfl) sB0 sF0) ?_
                              refine AL_nil ?_
                              exact thenN (cutLeaf (v := decide (x9.toNat < y21.toNat)) hr (weak0 ((sT rfl (sT rfl (sT rfl (sT rfl (sT rfl (sT rfl sT0))))))) (sub_keep sub_nil)))
                            · rintro x12 hr
                              show AW Hfaa.prog _ _ _ ⟨[(1, .inl (is (U8 a1))), (2, .inl (is (Bl a2))), (5, .inr (.inl (5, 0))), (12, .inl (is (U64 x1))), (20, .inl (is (U64 x9))), (107, .inl (is (Bl x12)))], [(5, pb 23 [is (U8 a0_0), is (U8 a0_1)])]⟩
                              have hr : some r = F265_11 N a0_0 a0_1 a1 a2 x1 x9 x12 := hr
                              refine AW_condT (b := x12) rfl (fun h => ?_) (fun h => ?_)
                              · have hr := hr.trans (cond_t h)
                                clear h
                                refine AW_seq1 ?_
                                refine AW_region ?_
                                refine AL_cons (LR_move (at_tmp 20 _) rfl) (sS (sT1 rfl) sB0 sF0) ?_
                                refine AL_cons (LR_move (at_tmp 12 _) rfl) (sS (sT1 rfl) sB0 sF0) ?_
                                refine AL_cons (LR_bin (at_tmp 112 _) (at_tmp 113 _) (or_U64 x9 x1) rfl) (sS (sA (sT1 rfl) (sT1 rfl)) sB0 sF0) ?_
                                refine AL_cons (LR_assign (at_tmp 114 _) rfl) (sS (sT1 rfl) sB0 sF0) ?_
                                refine AL_cons (LR_assign (at_c (v' := U8 (16#8)) rfl) rfl) (sS sT0 sB0 sF0) ?_
                                refine AL_nil ?_
                                refine thenN ?_
                                refine AW_ret ?_
                                refine blR ?_
                                refine thenR ?_
                                obtain rfl := Option.some.inj hr
                                exact res2 rfl (rvT rfl) (rvT rfl)
                              · have hr := hr.trans (cond_f h)
                                clear h
                                refine AW_cut (σ := Bool) (fun v => ⟨[(2, .inl (is (Bl a2))), (5, .inr (.inl (5, 0))), (115, .inl (is (Bl v)))], [(5, pb 23 [is (U8 a0_0), is (U8 a0_1)])]⟩) (fun v => some r = F265_12 N a0_0 a0_1 a2 v) ?_ ?_
                                · skip
                                  refine AW_cut (σ := Bool) (fun v => ⟨[(1, .inl (is (U8 a1))), (2, .inl (is (Bl a2))), (5, .inr (.inl (5, 0))), (115, .inl (is (Bl v)))], [(5, pb 23 [is (U8 a0_0), is (U8 a0_1)])]⟩) (fun v => some r = F265_13 N a0_0 a0_1 a1 a2 v) ?_ ?_
                                  · skip
                                    refine AW_region ?_
                                    refine AL_cons (LR_move (at_tmp 1 _) rfl) (sS (sT1 rfl) sB0 sF0) ?_
                                    refine AL_cons (LR_bin (at_tmp 116 _) (at_c (v' := U8 (2#8)) rfl) (eql_U8 a1 (2#8)) rfl) (sS (sA (sT1 rfl) sT0) sB0 sF0) ?_
                                    refine AL_cons (LR_assign (at_tmp 117 _) rfl) (sS (sT1 rfl) sB0 sF0) ?_
                                    refine AL_nil ?_
                                    exact thenN (cutLeaf (v := a1 == (2#8)) hr (weak0 ((sT rfl (sT rfl (sT rfl (sT rfl sT0))))) (sub_keep sub_nil)))
                                  · rintro x14 hr
                                    show AW Hfaa.prog _ _ _ ⟨[(1, .inl (is (U8 a1))), (2, .inl (is (Bl a2))), (5, .inr (.inl (5, 0))), (115, .inl (is (Bl x14)))], [(5, pb 23 [is (U8 a0_0), is (U8 a0_1)])]⟩
                                    have hr : some r = F265_13 N a0_0 a0_1 a1 a2 x14 := hr
                                    refine AW_condT (b := x14) rfl (fun h => ?_) (fun h => ?_)
                                    · have hr := hr.trans (cond_t h)
                                      clear h
                                      refine AW_skip ?_
                                      exact thenN (cutLeaf (v := x14) hr (weak0 ((sT rfl (sT rfl (sT rfl sT0)))) (sub_keep sub_nil)))
                                    · have hr := hr.trans (cond_f h)
                                      clear h
                                      refine AW_cut (σ := Bool) (fun v => ⟨[(1, .inl (is (U8 a1))), (2, .inl (is (Bl a2))), (5, .inr (.inl (5, 0))), (115, .inl (is (Bl v)))], [(5, pb 23 [is (U8 a0_0), is (U8 a0_1)])]⟩) (fun v => some r = F265_14 N a0_0 a0_1 a1 a2 v) ?_ ?_
                                      · skip
                                        refine AW_region ?_
                                        refine AL_cons (LR_move (at_tmp 1 _) rfl) (sS (sT1 rfl) sB0 sF0) ?_
                                        refine AL_cons (LR_bin (at_tmp 118 _) (at_c (v' := U8 (3#8)) rfl) (eql_U8 a1 (3#8)) rfl) (sS (sA (sT1 rfl) sT0) sB0 sF0) ?_
                                        refine AL_cons (LR_move (at_tmp 119 _) rfl) (sS (sT1 rfl) sB0 sF0) ?_
                                        refine AL_cutAt 2 ⟨[(1, .inl (is (U8 a1))), (2, .inl (is (Bl a2))), (5, .inr (.inl (5, 0))), (115, .inl (is (Bl x14))), (118, .inl (is (U8 a1))), (119, .inl (is (Bl (a1 == (3#8))))), (120, .inl (is (Bl (a1 == (3#8))))), (122, .inl (is (Bl ((a1 == (3#8)) && a2))))], [(5, pb 23 [is (U8 a0_0), is (U8 a0_1)])]⟩ ?_ ?_
                                        · cases hb : a1 == (3#8)
                                          · skip
                                            refine AL_cons (LR_off (b := false) rfl rfl rfl rfl) (sS (sT1 rfl) sB0 sF0) ?_
                                            refine AL_cons (LR_pick (b := false) (at_tmp 120 _) (at_tmp 121 _) (at_c (v' := Bl false) rfl) rfl) (sS (sA (sT1 rfl) (sA (sT1 rfl) sT0)) sB0 sF0) ?_
                                            exact AL_nil ⟨rfl, weak0 ((sT rfl (sT rfl (sT rfl (sT rfl (sT rfl (sT rfl (sT rfl (sT rfl sT0))))))))) (sub_keep sub_nil)⟩
                                          · skip
                                            refine AL_cons (LR_on rfl rfl rfl (LR_move (at_tmp 2 _) rfl)) (sS (sT rfl (sT1 rfl)) sB0 sF0) ?_
                                            refine AL_cons (LR_pick (b := true) (at_tmp 120 _) (at_tmp 121 _) (at_c (v' := Bl false) rfl) rfl) (sS (sA (sT1 rfl) (sA (sT1 rfl) sT0)) sB0 sF0) ?_
                                            exact AL_nil ⟨rfl, weak0 ((sT rfl (sT rfl (sT rfl (sT rfl (sT rfl (sT rfl (sT rfl (sT rfl sT0))))))))) (sub_keep sub_nil)⟩
                                        refine AL_cons (LR_assign (at_tmp 122 _) rfl) (sS (sT1 rfl) sB0 sF0) ?_
                                        refine AL_nil ?_
                                        exact thenN (cutLeaf (v := (a1 == (3#8)) && a2) hr (weak0 ((sT rfl (sT rfl (sT rfl (sT rfl sT0))))) (sub_keep sub_nil)))
                                      · rintro x15 hr
                                        show AW Hfaa.prog _ _ _ ⟨[(1, .inl (is (U8 a1))), (2, .inl (is (Bl a2))), (5, .inr (.inl (5, 0))), (115, .inl (is (Bl x15)))], [(5, pb 23 [is (U8 a0_0), is (U8 a0_1)])]⟩
                                        have hr : some r = F265_14 N a0_0 a0_1 a1 a2 x15 := hr
                                        refine AW_condT (b := x15) rfl (fun h => ?_) (fun h => ?_)
                                        · have hr := hr.trans (cond_t h)
                                          clear h
                                          refine AW_skip ?_
                                          exact thenN (cutLeaf (v := x15) hr (weak0 ((sT rfl (sT rfl (sT rfl sT0)))) (sub_keep sub_nil)))
                                        · have hr := hr.trans (cond_f h)
                                          clear h
                                          refine AW_region ?_
                                          refine AL_cons (LR_move (at_tmp 1 _) rfl) (sS (sT1 rfl) sB0 sF0) ?_
                                          refine AL_cons (LR_bin (at_tmp 123 _) (at_c (v' := U8 (4#8)) rfl) (eql_U8 a1 (4#8)) rfl) (sS (sA (sT1 rfl) sT0) sB0 sF0) ?_
                                          refine AL_cons (LR_move (at_tmp 124 _) rfl) (sS (sT1 rfl) sB0 sF0) ?_
                                          refine AL_cutAt 3 ⟨[(1, .inl (is (U8 a1))), (2, .inl (is (Bl a2))), (5, .inr (.inl (5, 0))), (115, .inl (is (Bl x15))), (123, .inl (is (U8 a1))), (124, .inl (is (Bl (a1 == (4#8))))), (125, .inl (is (Bl (a1 == (4#8))))), (128, .inl (is (Bl ((a1 == (4#8)) && (!a2)))))], [(5, pb 23 [is (U8 a0_0), is (U8 a0_1)])]⟩ ?_ ?_
                                          · cases hb : a1 == (4#8)
                                            · skip
                                              refine AL_cons (LR_off (b := false) rfl rfl rfl rfl) (sS (sT1 rfl) sB0 sF0) ?_
                                              refine AL_cons (LR_off (b := false) rfl rfl rfl rfl) (sS (sT1 rfl) sB0 sF0) ?_
                                              refine AL_cons (LR_pick (b := false) (at_tmp 125 _) (at_tmp 127 _) (at_c (v' := Bl false) rfl) rfl) (sS (sA (sT1 rfl) (sA (sT1 rfl) sT0)) sB0 sF0) ?_
                                              exact AL_nil ⟨rfl, weak0 ((sT rfl (sT rfl (sT rfl (sT rfl (sT rfl (sT rfl (sT rfl (sT rfl sT0))))))))) (sub_keep sub_nil)⟩
                                            · skip
                                              refine AL_cons (LR_on rfl rfl rfl (LR_move (at_tmp 2 _) rfl)) (sS (sT rfl (sT1 rfl)) sB0 sF0) ?_
                                              refine AL_cons (LR_on rfl rfl rfl (LR_un (at_tmp 126 _) (not_Bl a2) rfl)) (sS (sT rfl (sT1 rfl)) sB0 sF0) ?_
                                              refine AL_cons (LR_pick (b := true) (at_tmp 125 _) (at_tmp 127 _) (at_c (v' := Bl false) rfl) rfl) (sS (sA (sT1 rfl) (sA (sT1 rfl) sT0)) sB0 sF0) ?_
                                              exact AL_nil ⟨rfl, weak0 ((sT rfl (sT rfl (sT rfl (sT rfl (sT rfl (sT rfl (sT rfl (sT rfl sT0))))))))) (sub_keep sub_nil)⟩
                                          refine AL_cons (LR_assign (at_tmp 128 _) rfl) (sS (sT1 rfl) sB0 sF0) ?_
                                          refine AL_nil ?_
                                          exact thenN (cutLeaf (v := (a1 == (4#8)) && (!a2)) hr (weak0 ((sT rfl (sT rfl (sT rfl sT0)))) (sub_keep sub_nil)))
                                · rintro x13 hr
                                  show AW Hfaa.prog _ _ _ ⟨[(2, .inl (is (Bl a2))), (5, .inr (.inl (5, 0))), (115, .inl (is (Bl x13)))], [(5, pb 23 [is (U8 a0_0), is (U8 a0_1)])]⟩
                                  have hr : some r = F265_12 N a0_0 a0_1 a2 x13 := hr
                                  refine AW_condT (b := x13) rfl (fun h => ?_) (fun h => ?_)
                                  · have hr := hr.trans (cond_t h)
                                    clear h
                                    refine AW_seq1 ?_
                                    refine AW_region ?_
                                    refine AL_cons (LR_loads (at_tmp 5 _) ag23 sz23 rfl rfl rfl) (sS (sT1 rfl) (sB1 rfl) sF0) ?_
                                    refine AL_cons (LR_move (at_tmp 2 _) rfl) (sS (sT1 rfl) sB0 sF0) ?_
                                    obtain ⟨y18, hy18, hr⟩ := lt_some hr
                                    refine AL_cons (LR_call Hfaa.func68 rfl rfl (C68 a0_0 a0_1 a2 y18 hy18) (all_cons (at_tmp 129 _) (all_cons (at_tmp 130 _) all_nil)) rfl) (sS (sA (sT1 rfl) (sA (sT1 rfl) sT0)) sB0 sF0) ?_
                                    refine AL_cons (LR_assign (at_tmp 131 _) rfl) (sS (sT1 rfl) sB0 sF0) ?_
                                    refine AL_cons (LR_assign (at_c (v' := U8 (20#8)) rfl) rfl) (sS sT0 sB0 sF0) ?_
                                    refine AL_nil ?_
                                    refine thenN ?_
                                    refine AW_ret ?_
                                    refine blR ?_
                                    refine thenR ?_
                                    obtain rfl := Option.some.inj hr
                                    exact res2 rfl (rvT rfl) (rvT rfl)
                                  · have hr := hr.trans (cond_f h)
                                    clear h
                                    refine AW_skip ?_
                                    refine blN ?_
                                    refine thenN ?_
                                    refine AW_seq1 ?_
                                    refine AW_region ?_
                                    refine AL_cons (LR_loads (at_tmp 5 _) ag23 sz23 rfl rfl rfl) (sS (sT1 rfl) (sB1 rfl) sF0) ?_
                                    refine AL_cons (LR_move (at_tmp 2 _) rfl) (sS (sT1 rfl) sB0 sF0) ?_
                                    obtain ⟨y20, hy20, hr⟩ := lt_some hr
                                    refine AL_cons (LR_call Hfaa.func67 rfl rfl (C67 a0_0 a0_1 a2 y20 hy20) (all_cons (at_tmp 132 _) (all_cons (at_tmp 133 _) all_nil)) rfl) (sS (sA (sT1 rfl) (sA (sT1 rfl) sT0)) sB0 sF0) ?_
                                    refine AL_cons (LR_assign (at_tmp 134 _) rfl) (sS (sT1 rfl) sB0 sF0) ?_
                                    refine AL_cons (LR_assign (at_c (v' := U8 (20#8)) rfl) rfl) (sS sT0 sB0 sF0) ?_
                                    refine AL_nil ?_
                                    refine thenN ?_
                                    refine AW_ret ?_
                                    obtain rfl := Option.some.inj hr
                                    exact res2 rfl (rvT rfl) (rvT rfl)
end Go.Proofs.YfwaawGreat
