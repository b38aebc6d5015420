import Derived.Test.YfwaawGreatG1
import Derived.Test.YfwaawGreatG2
import Derived.Test.YfwaawGreatG3
import Derived.Test.YfwaawGreatG4
namespace Go.Proofs.YfwaawGreat
open Go.Aw
set_option linter.unusedVariables false
set_option maxRecDepth 100000
set_option maxHeartbeats 1000000
/-- exact.rank -/
def F145_1 (a0_0 : BitVec 64) (a0_1 : Bool) (a0_2 : Int) (a0_3 : Bool) (a0_4 : Nat) (a0_5 : Nat) (x1 : Bool) : Int := bif x1 then 0 else bif a0_1 then (-1) else 1
def F145 (a0_0 : BitVec 64) (a0_1 : Bool) (a0_2 : Int) (a0_3 : Bool) (a0_4 : Nat) (a0_5 : Nat) : Int := F145_1 a0_0 a0_1 a0_2 a0_3 a0_4 a0_5 (a0_2 != 3)
theorem C145 (a0_0 : BitVec 64) (a0_1 : Bool) (a0_2 : Int) (a0_3 : Bool) (a0_4 : Nat) (a0_5 : Nat) (r : Int) (hr : r = F145 a0_0 a0_1 a0_2 a0_3 a0_4 a0_5) : Aw.Fn Hfaa.prog 145 [agg [is (U64 a0_0), is (Bl a0_1), is (I8 a0_2), is (Bl a0_3), big a0_4, big a0_5]] (is (I8 r)) := by
  refine fn_intro Hfaa.func145 rfl rfl rfl ?_
  intro bn0 w0 H0
  refine AW_seq1 ?_
  refine AW_region ?_
  refine AL_cons (LR_box (at_tmp 0 _) (cells_agg _) rfl) (sS (sT1 rfl) sB0 (sF1 rfl)) ?_
  refine AL_cons (LR_assign (at_c (v' := I8 0) rfl) rfl) (sS sT0 sB0 sF0) ?_
  refine AL_nil ?_
  refine thenN ?_
  refine AW_seq1 ?_
  refine AW_block ?_
  refine AW_cut (σ := Bool) (fun v => ⟨[(1, .inr (.inl (1, 0))), (3, .inl (is (Bl v)))], [(1, pb 175 [is (U64 a0_0), is (Bl a0_1), is (I8 a0_2), is (Bl a0_3), big a0_4, big a0_5])]⟩) (fun v => r = F145_1 a0_0 a0_1 a0_2 a0_3 a0_4 a0_5 v) ?_ ?_
  · skip
    refine AW_region ?_
    refine AL_cons (LR_fieldAddr (off := 0) (o := 2) (at_tmp 1 _) (fun b w => fa175_2 b 0 w) rfl) (sS (sT1 rfl) sB0 sF0) ?_
    refine AL_cons (LR_load (at_tmp 4 _) na110 rfl rfl) (sS (sT1 rfl) (sB1 rfl) sF0) ?_
    refine AL_cons (LR_bin (at_tmp 5 _) (at_c (v' := I8 3) rfl) (neq_I8 a0_2 3) rfl) (sS (sA (sT1 rfl) sT0) sB0 sF0) ?_
    refine AL_cons (LR_assign (at_tmp 6 _) rfl) (sS (sT1 rfl) sB0 sF0) ?_
    refine AL_nil ?_
    exact thenN (cutLeaf (v := a0_2 != 3) hr (weak0 ((sT rfl (sT rfl sT0))) (sub_keep sub_nil)))
  · rintro x1 hr
    show AW Hfaa.prog _ _ _ ⟨[(1, .inr (.inl (1, 0))), (3, .inl (is (Bl x1)))], [(1, pb 175 [is (U64 a0_0), is (Bl a0_1), is (I8 a0_2), is (Bl a0_3), big a0_4, big a0_5])]⟩
    have hr : r = F145_1 a0_0 a0_1 a0_2 a0_3 a0_4 a0_5 x1 := hr
    refine AW_condT (b := x1) rfl (fun h => ?_) (fun h => ?_)
    · have hr := hr.trans (cond_t h)
      clear h
      refine AW_seq1 ?_
      refine AW_region ?_
      refine AL_cons (LR_assign (at_c (v' := I8 0) rfl) rfl) (sS sT0 sB0 sF0) ?_
      refine AL_nil ?_
      refine thenN ?_
      refine AW_ret ?_
      refine blR ?_
      refine thenR ?_
      subst hr
      exact res1 rfl (rvT rfl)
    · have hr := hr.trans (cond_f h)
      clear h
      refine AW_seq1 ?_
      refine AW_region ?_
      refine AL_cons (LR_fieldAddr (off := 0) (o := 1) (at_tmp 1 _) (fun b w => fa175_1 b 0 w) rfl) (sS (sT1 rfl) sB0 sF0) ?_
      refine AL_cons (LR_load (at_tmp 8 _) na4 rfl rfl) (sS (sT1 rfl) (sB1 rfl) sF0) ?_
      refine AL_cons (LR_assign (at_tmp 9 _) rfl) (sS (sT1 rfl) sB0 sF0) ?_
      refine AL_nil ?_
      refine thenN ?_
      refine AW_condT (b := a0_1) rfl (fun h => ?_) (fun h => ?_)
      · have hr := hr.trans (cond_t h)
        clear h
        refine AW_seq1 ?_
        refine AW_region ?_
        refine AL_cons (LR_assign (at_c (v' := I8 (-1)) rfl) rfl) (sS sT0 sB0 sF0) ?_
        refine AL_nil ?_
        refine thenN ?_
        refine AW_ret ?_
        refine blR ?_
        refine thenR ?_
        subst hr
        exact res1 rfl (rvT rfl)
      · have hr := hr.trans (cond_f h)
        clear h
        refine AW_skip ?_
        refine blN ?_
        refine thenN ?_
        refine AW_seq1 ?_
        refine AW_region ?_
        refine AL_cons (LR_assign (at_c (v' := I8 1) rfl) rfl) (sS sT0 sB0 sF0) ?_
        refine AL_nil ?_
        refine thenN ?_
        refine AW_ret ?_
        subst hr
        exact res1 rfl (rvT rfl)
/-- exact.Cmp -/
def F81_7 (N : Nat) (x19 : Bool) : Option (Int) := bif x19 then some 1 else some 0
def F81_6 (N : Nat) (x15 : Int) (x16 : Int) (x18 : Bool) : Option (Int) := bif x18 then some (-1) else F81_7 N (decide (x15 > x16))
def F81_10 (N : Nat) (x21 : Bool) (x22 : Nat) (x23 : Nat) (x24 : Bool) : Option (Int) := bif x24 then some 0 else bif x21 then some (-1) else some 1
def F81_9 (N : Nat) (x21 : Bool) (x22 : Nat) (x23 : Nat) : Option (Int) := F81_10 N x21 x22 x23 (x22 == 0)
def F81_8 (N : Nat) (x2 : BitVec 64) (x3 : Bool) (x4 : Int) (x5 : Bool) (x6 : Nat) (x7 : Nat) (x8 : BitVec 64) (x9 : Bool) (x10 : Int) (x12 : Nat) (x13 : Nat) (x20 : Bool) : Option (Int) := (F146 N x5 x6 x7 x20 x12 x13).bind fun y13 => F81_9 N y13.1 y13.2.1 y13.2.2
def F81_5 (N : Nat) (x2 : BitVec 64) (x3 : Bool) (x4 : Int) (x5 : Bool) (x6 : Nat) (x7 : Nat) (x8 : BitVec 64) (x9 : Bool) (x10 : Int) (x11 : Bool) (x12 : Nat) (x13 : Nat) (x15 : Int) (x16 : Int) (x17 : Bool) : Option (Int) := bif x17 then F81_6 N x15 x16 (decide (x15 < x16)) else F81_8 N x2 x3 x4 x5 x6 x7 x8 x9 x10 x12 x13 (!x11)
def F81_4 (N : Nat) (x2 : BitVec 64) (x3 : Bool) (x4 : Int) (x5 : Bool) (x6 : Nat) (x7 : Nat) (x8 : BitVec 64) (x9 : Bool) (x10 : Int) (x11 : Bool) (x12 : Nat) (x13 : Nat) (x15 : Int) (x16 : Int) : Option (Int) := F81_5 N x2 x3 x4 x5 x6 x7 x8 x9 x10 x11 x12 x13 x15 x16 ((x15 != 0) || (x16 != 0))
def F81_3 (N : Nat) (x2 : BitVec 64) (x3 : Bool) (x4 : Int) (x5 : Bool) (x6 : Nat) (x7 : Nat) (x8 : BitVec 64) (x9 : Bool) (x10 : Int) (x11 : Bool) (x12 : Nat) (x13 : Nat) (x14 : Bool) : Option (Int) := bif x14 then some 2 else lt (F145 x2 x3 x4 x5 x6 x7) fun y14 => lt (F145 x8 x9 x10 x11 x12 x13) fun y15 => F81_4 N x2 x3 x4 x5 x6 x7 x8 x9 x10 x11 x12 x13 y14 y15
def F81_2 (N : Nat) (x2 : BitVec 64) (x3 : Bool) (x4 : Int) (x5 : Bool) (x6 : Nat) (x7 : Nat) (x8 : BitVec 64) (x9 : Bool) (x10 : Int) (x11 : Bool) (x12 : Nat) (x13 : Nat) : Option (Int) := F81_3 N x2 x3 x4 x5 x6 x7 x8 x9 x10 x11 x12 x13 ((x4 == 4) || (x10 == 4))
def F81_1 (N : Nat) (a0_0 : BitVec 8) (a0_1 : BitVec 8) (a1 : BitVec 64) (a2 : BitVec 64) (x1 : Bool) : Option (Int) := bif x1 then some 0 else (F144 N a0_0 a0_1 a1).bind fun y16 => (F144 N a0_0 a0_1 a2).bind fun y17 => F81_2 N y16.1 y16.2.1 y16.2.2.1 y16.2.2.2.1 y16.2.2.2.2.1 y16.2.2.2.2.2 y17.1 y17.2.1 y17.2.2.1 y17.2.2.2.1 y17.2.2.2.2.1 y17.2.2.2.2.2
def F81 (N : Nat) (a0_0 : BitVec 8) (a0_1 : BitVec 8) (a1 : BitVec 64) (a2 : BitVec 64) : Option (Int) := lt (F40 a0_0 a0_1) fun y18 => F81_1 N a0_0 a0_1 a1 a2 (!y18)
theorem C81 (N : Nat) (a0_0 : BitVec 8) (a0_1 : BitVec 8) (a1 : BitVec 64) (a2 : BitVec 64) (r : Int) (hr : some r = F81 N a0_0 a0_1 a1 a2) : Aw.Fn Hfaa.prog 81 [agg [is (U8 a0_0), is (U8 a0_1)], is (U64 a1), is (U64 a2)] (is (I8 r)) := by
  refine fn_intro Hfaa.func81 rfl rfl rfl ?_
  intro bn0 w0 H0
  refine AW_seq1 ?_
  refine AW_region ?_
  refine AL_cons (LR_box (at_tmp 0 _) (cells_agg _) rfl) (sS (sT1 rfl) sB0 (sF1 rfl)) ?_
  refine AL_cons (LR_assign (at_c (v' := I8 0) rfl) rfl) (sS sT0 sB0 sF0) ?_
  refine AL_nil ?_
  refine thenN ?_
  refine AW_seq1 ?_
  refine AW_cut (σ := Bool) (fun v => ⟨[(1, .inl (is (U64 a1))), (2, .inl (is (U64 a2))), (3, .inr (.inl (3, 0))), (14, .inl (is (Bl v)))], [(3, pb 23 [is (U8 a0_0), is (U8 a0_1)])]⟩) (fun v => some r = F81_1 N a0_0 a0_1 a1 a2 v) ?_ ?_
  · skip
    refine AW_region ?_
    refine AL_cons (LR_loads (at_tmp 3 _) ag23 sz23 rfl rfl rfl) (sS (sT1 rfl) (sB1 rfl) sF0) ?_
    obtain ⟨y18, hy18, hr⟩ := lt_some hr
    refine AL_cons (LR_call Hfaa.func40 rfl rfl (C40 a0_0 a0_1 y18 hy18) (all_cons (at_tmp 12 _) all_nil) rfl) (sS (sA (sT1 rfl) sT0) sB0 sF0) ?_
    refine AL_cons (LR_un (at_tmp 13 _) (not_Bl y18) rfl) (sS (sT1 rfl) sB0 sF0) ?_
    refine AL_nil ?_
    exact thenN (cutLeaf (v := !y18) hr (weak0 ((sT rfl (sT rfl (sT rfl (sT rfl sT0))))) (sub_keep sub_nil)))
  · rintro x1 hr
    show AW Hfaa.prog _ _ _ ⟨[(1, .inl (is (U64 a1))), (2, .inl (is (U64 a2))), (3, .inr (.inl (3, 0))), (14, .inl (is (Bl x1)))], [(3, pb 23 [is (U8 a0_0), is (U8 a0_1)])]⟩
    have hr : some r = F81_1 N a0_0 a0_1 a1 a2 x1 := hr
    refine AW_condT (b := x1) rfl (fun h => ?_) (fun h => ?_)
    · have hr := hr.trans (cond_t h)
      clear h
      refine AW_seq1 ?_
      refine AW_region ?_
      refine AL_cons (LR_assign (at_c (v' := I8 0) rfl) rfl) (sS sT0 sB0 sF0) ?_
      refine AL_nil ?_
      refine thenN ?_
      refine AW_ret ?_
      refine thenR ?_
      obtain rfl := Option.some.inj hr
      exact res1 rfl (rvT rfl)
    · have hr := hr.trans (cond_f h)
      clear h
      refine AW_skip ?_
      refine thenN ?_
      refine AW_cut (σ := BitVec 64 × Bool × Int × Bool × Nat × Nat × BitVec 64 × Bool × Int × Bool × Nat × Nat) (fun v => ⟨[(7, .inr (.inl (7, 0))), (8, .inr (.inl (8, 0)))], [(7, pb 175 [is (U64 v.1), is (Bl v.2.1), is (I8 v.2.2.1), is (Bl v.2.2.2.1), big v.2.2.2.2.1, big v.2.2.2.2.2.1]), (8, pb 175 [is (U64 v.2.2.2.2.2.2.1), is (Bl v.2.2.2.2.2.2.2.1), is (I8 v.2.2.2.2.2.2.2.2.1), is (Bl v.2.2.2.2.2.2.2.2.2.1), big v.2.2.2.2.2.2.2.2.2.2.1, big v.2.2.2.2.2.2.2.2.2.2.2])]⟩) (fun v => some r = F81_2 N v.1 v.2.1 v.2.2.1 v.2.2.2.1 v.2.2.2.2.1 v.2.2.2.2.2.1 v.2.2.2.2.2.2.1 v.2.2.2.2.2.2.2.1 v.2.2.2.2.2.2.2.2.1 v.2.2.2.2.2.2.2.2.2.1 v.2.2.2.2.2.2.2.2.2.2.1 v.2.2.2.2.2.2.2.2.2.2.2) ?_ ?_
      · skip
        obtain ⟨y16, hy16, hr⟩ := bind_some hr
        obtain ⟨y17, hy17, hr⟩ := bind_some hr
        refine AW_draw mixed
          (lrC (LR_loads (at_tmp 3 _) ag23 sz23 rfl rfl rfl)
          (lrC (LR_move (at_tmp 1 _) rfl)
          (lrC (LR_call Hfaa.func144 rfl rfl (C144 N a0_0 a0_1 a1 y16 hy16) (all_cons (at_tmp 15 _) (all_cons (at_tmp 16 _) all_nil)) rfl)
          (lrC (LR_loads (at_tmp 3 _) ag23 sz23 rfl rfl rfl)
          (lrC (LR_move (at_tmp 2 _) rfl)
          (lrC (LR_call Hfaa.func144 rfl rfl (C144 N a0_0 a0_1 a2 y17 hy17) (all_cons (at_tmp 18 _) (all_cons (at_tmp 19 _) all_nil)) rfl)
          (lrC (zl175 rfl)
          (lrC (zl175 rfl)
          (lrC (LR_store (at_tmp 7 _) (at_tmp 17 _) (cells_agg _) (onC (one_is rfl) (onC (one_is rfl) (onC (one_is rfl) (onC (one_is rfl) (onC (one_big _) (onC (one_big _) onN)))))) sz175 rfl rfl)
          (lrC (LR_store (at_tmp 8 _) (at_tmp 20 _) (cells_agg _) (onC (one_is rfl) (onC (one_is rfl) (onC (one_is rfl) (onC (one_is rfl) (onC (one_big _) (onC (one_big _) onN)))))) sz175 rfl rfl)
          lrN))))))))))
          (by kernel_rfl)
          (saC (sS (sT1 rfl) (sB1 rfl) sF0) (saC (sS (sT1 rfl) sB0 sF0) (saC (sS (sA (sT1 rfl) (sA (sT1 rfl) sT0)) sB0 sF0) (saC (sS (sT1 rfl) (sB1 rfl) sF0) (saC (sS (sT1 rfl) sB0 sF0) (saC (sS (sA (sT1 rfl) (sA (sT1 rfl) sT0)) sB0 sF0) (saC (sS sT0 sB0 (sF1 rfl)) (saC (sS sT0 sB0 (sF1 rfl)) (saC (sS (sA (sT1 rfl) (sT1 rfl)) (sB1 rfl) sF0) (saC (sS (sA (sT1 rfl) (sT1 rfl)) (sB1 rfl) sF0) saN)))))))))) ?_
        exact thenN (cutLeaf (v := (y16.1, y16.2.1, y16.2.2.1, y16.2.2.2.1, y16.2.2.2.2.1, y16.2.2.2.2.2, y17.1, y17.2.1, y17.2.2.1, y17.2.2.2.1, y17.2.2.2.2.1, y17.2.2.2.2.2)) hr (weak0 ((sT rfl (sT rfl sT0))) (sub_drop (sub_keep (sub_keep sub_nil)))))
      · rintro ⟨x2, x3, x4, x5, x6, x7, x8, x9, x10, x11, x12, x13⟩ hr
        show AW Hfaa.prog _ _ _ ⟨[(7, .inr (.inl (7, 0))), (8, .inr (.inl (8, 0)))], [(7, pb 175 [is (U64 x2), is (Bl x3), is (I8 x4), is (Bl x5), big x6, big x7]), (8, pb 175 [is (U64 x8), is (Bl x9), is (I8 x10), is (Bl x11), big x12, big x13])]⟩
        have hr : some r = F81_2 N x2 x3 x4 x5 x6 x7 x8 x9 x10 x11 x12 x13 := hr
        refine AW_seq1 ?_
        refine AW_cut (σ := Bool) (fun v => ⟨[(7, .inr (.inl (7, 0))), (8, .inr (.inl (8, 0))), (28, .inl (is (Bl v)))], [(7, pb 175 [is (U64 x2), is (Bl x3), is (I8 x4), is (Bl x5), big x6, big x7]), (8, pb 175 [is (U64 x8), is (Bl x9), is (I8 x10), is (Bl x11), big x12, big x13])]⟩) (fun v => some r = F81_3 N x2 x3 x4 x5 x6 x7 x8 x9 x10 x11 x12 x13 v) ?_ ?_
        · skip
          refine AW_region ?_
          refine AL_cons (LR_fieldAddr (off := 0) (o := 2) (at_tmp 7 _) (fun b w => fa175_2 b 0 w) rfl) (sS (sT1 rfl) sB0 sF0) ?_
          refine AL_cons (LR_load (at_tmp 21 _) na110 rfl rfl) (sS (sT1 rfl) (sB1 rfl) sF0) ?_
          refine AL_cons (LR_bin (at_tmp 22 _) (at_c (v' := I8 4) rfl) (eql_I8 x4 4) rfl) (sS (sA (sT1 rfl) sT0) sB0 sF0) ?_
          refine AL_cons (LR_move (at_tmp 23 _) rfl) (sS (sT1 rfl) sB0 sF0) ?_
          refine AL_cutAt 4 ⟨[(7, .inr (.inl (7, 0))), (8, .inr (.inl (8, 0))), (21, .inr (.inl (7, 2))), (22, .inl (is (I8 x4))), (23, .inl (is (Bl (x4 == 4)))), (24, .inl (is (Bl (x4 == 4)))), (28, .inl (is (Bl ((x4 == 4) || (x10 == 4)))))], [(7, pb 175 [is (U64 x2), is (Bl x3), is (I8 x4), is (Bl x5), big x6, big x7]), (8, pb 175 [is (U64 x8), is (Bl x9), is (I8 x10), is (Bl x11), big x12, big x13])]⟩ ?_ ?_
          · cases hb : x4 == 4
            · skip
              refine AL_cons (LR_on rfl rfl rfl (LR_fieldAddr (off := 0) (o := 2) (at_tmp 8 _) (fun b w => fa175_2 b 0 w) rfl)) (sS (sT rfl (sT1 rfl)) sB0 sF0) ?_
              refine AL_cons (LR_on rfl rfl rfl (LR_load (at_tmp 25 _) na110 rfl rfl)) (sS (sT rfl (sT1 rfl)) (sB1 rfl) sF0) ?_
              refine AL_cons (LR_on rfl rfl rfl (LR_bin (at_tmp 26 _) (at_c (v' := I8 4) rfl) (eql_I8 x10 4) rfl)) (sS (sT rfl (sA (sT1 rfl) sT0)) sB0 sF0) ?_
              refine AL_cons (LR_pick (b := false) (at_tmp 24 _) (at_c (v' := Bl true) rfl) (at_tmp 27 _) rfl) (sS (sA (sT1 rfl) (sA sT0 (sT1 rfl))) sB0 sF0) ?_
              exact AL_nil ⟨rfl, weak0 ((sT rfl (sT rfl (sT rfl (sT rfl (sT rfl (sT rfl (sT rfl sT0)))))))) (sub_keep (sub_keep sub_nil))⟩
            · skip
              refine AL_cons (LR_off (b := true) rfl rfl rfl rfl) (sS (sT1 rfl) sB0 sF0) ?_
              refine AL_cons (LR_off (b := true) rfl rfl rfl rfl) (sS (sT1 rfl) sB0 sF0) ?_
              refine AL_cons (LR_off (b := true) rfl rfl rfl rfl) (sS (sT1 rfl) sB0 sF0) ?_
              refine AL_cons (LR_pick (b := true) (at_tmp 24 _) (at_c (v' := Bl true) rfl) (at_tmp 27 _) rfl) (sS (sA (sT1 rfl) (sA sT0 (sT1 rfl))) sB0 sF0) ?_
              exact AL_nil ⟨rfl, weak0 ((sT rfl (sT rfl (sT rfl (sT rfl (sT rfl (sT rfl (sT rfl sT0)))))))) (sub_keep (sub_keep sub_nil))⟩
          refine AL_nil ?_
          exact thenN (cutLeaf (v := (x4 == 4) || (x10 == 4)) hr (weak0 ((sT rfl (sT rfl (sT rfl sT0)))) (sub_keep (sub_keep sub_nil))))
        · rintro x14 hr
          show AW Hfaa.prog _ _ _ ⟨[(7, .inr (.inl (7, 0))), (8, .inr (.inl (8, 0))), (28, .inl (is (Bl x14)))], [(7, pb 175 [is (U64 x2), is (Bl x3), is (I8 x4), is (Bl x5), big x6, big x7]), (8, pb 175 [is (U64 x8), is (Bl x9), is (I8 x10), is (Bl x11), big x12, big x13])]⟩
          have hr : some r = F81_3 N x2 x3 x4 x5 x6 x7 x8 x9 x10 x11 x12 x13 x14 := hr
          refine AW_condT (b := x14) rfl (fun h => ?_) (fun h => ?_)
          · have hr := hr.trans (cond_t h)
            clear h
            refine AW_seq1 ?_
            refine AW_region ?_
            refine AL_cons (LR_assign (at_c (v' := I8 2) rfl) rfl) (sS sT0 sB0 sF0) ?_
            refine AL_nil ?_
            refine thenN ?_
            refine AW_ret ?_
            refine thenR ?_
            obtain rfl := Option.some.inj hr
            exact res1 rfl (rvT rfl)
          · have hr := hr.trans (cond_f h)
            clear h
            refine AW_skip ?_
            refine thenN ?_
            refine AW_seq1 ?_
            refine AW_cut (σ := Int × Int) (fun v => ⟨[(7, .inr (.inl (7, 0))), (8, .inr (.inl (8, 0))), (9, .inl (is (I8 v.1))), (10, .inl (is (I8 v.2)))], [(7, pb 175 [is (U64 x2), is (Bl x3), is (I8 x4), is (Bl x5), big x6, big x7]), (8, pb 175 [is (U64 x8), is (Bl x9), is (I8 x10), is (Bl x11), big x12, big x13])]⟩) (fun v => some r = F81_4 N x2 x3 x4 x5 x6 x7 x8 x9 x10 x11 x12 x13 v.1 v.2) ?_ ?_
            · skip
              obtain ⟨y14, hy14, hr⟩ := lt_some hr
              obtain ⟨y15, hy15, hr⟩ := lt_some hr
              refine AW_draw mixed
                (lrC (LR_loads (at_tmp 7 _) ag175 sz175 rfl rfl rfl)
                (lrC (LR_call Hfaa.func145 rfl rfl (C145 x2 x3 x4 x5 x6 x7 y14 hy14) (all_cons (at_tmp 29 _) all_nil) rfl)
                (lrC (LR_loads (at_tmp 8 _) ag175 sz175 rfl rfl rfl)
                (lrC (LR_call Hfaa.func145 rfl rfl (C145 x8 x9 x10 x11 x12 x13 y15 hy15) (all_cons (at_tmp 31 _) all_nil) rfl)
                (lrC (LR_assign (at_tmp 30 _) rfl)
                (lrC (LR_assign (at_tmp 32 _) rfl)
                lrN))))))
                (by kernel_rfl)
                (saC (sS (sT1 rfl) (sB1 rfl) sF0) (saC (sS (sA (sT1 rfl) sT0) sB0 sF0) (saC (sS (sT1 rfl) (sB1 rfl) sF0) (saC (sS (sA (sT1 rfl) sT0) sB0 sF0) (saC (sS (sT1 rfl) sB0 sF0) (saC (sS (sT1 rfl) sB0 sF0) saN)))))) ?_
              exact thenN (cutLeaf (v := (y14, y15)) hr (weak0 ((sT rfl (sT rfl (sT rfl (sT rfl sT0))))) (sub_keep (sub_keep sub_nil))))
            · rintro ⟨x15, x16⟩ hr
              show AW Hfaa.prog _ _ _ ⟨[(7, .inr (.inl (7, 0))), (8, .inr (.inl (8, 0))), (9, .inl (is (I8 x15))), (10, .inl (is (I8 x16)))], [(7, pb 175 [is (U64 x2), is (Bl x3), is (I8 x4), is (Bl x5), big x6, big x7]), (8, pb 175 [is (U64 x8), is (Bl x9), is (I8 x10), is (Bl x11), big x12, big x13])]⟩
              have hr : some r = F81_4 N x2 x3 x4 x5 x6 x7 x8 x9 x10 x11 x12 x13 x15 x16 := hr
              refine AW_cut (σ := Bool) (fun v => ⟨[(7, .inr (.inl (7, 0))), (8, .inr (.inl (8, 0))), (9, .inl (is (I8 x15))), (10, .inl (is (I8 x16))), (38, .inl (is (Bl v)))], [(7, pb 175 [is (U64 x2), is (Bl x3), is (I8 x4), is (Bl x5), big x6, big x7]), (8, pb 175 [is (U64 x8), is (Bl x9), is (I8 x10), is (Bl x11), big x12, big x13])]⟩) (fun v => some r = F81_5 N x2 x3 x4 x5 x6 x7 x8 x9 x10 x11 x12 x13 x15 x16 v) ?_ ?_
              · skip
                refine AW_region ?_
                refine AL_cons (LR_move (at_tmp 9 _) rfl) (sS (sT1 rfl) sB0 sF0) ?_
                refine AL_cons (LR_bin (at_tmp 33 _) (at_c (v' := I8 0) rfl) (neq_I8 x15 0) rfl) (sS (sA (sT1 rfl) sT0) sB0 sF0) ?_
                refine AL_cons (LR_move (at_tmp 34 _) rfl) (sS (sT1 rfl) sB0 sF0) ?_
                refine AL_cutAt 3 ⟨[(7, .inr (.inl (7, 0))), (8, .inr (.inl (8, 0))), (9, .inl (is (I8 x15))), (10, .inl (is (I8 x16))), (33, .inl (is (I8 x15))), (34, .inl (is (Bl (x15 != 0)))), (35, .inl (is (Bl (x15 != 0)))), (38, .inl (is (Bl ((x15 != 0) || (x16 != 0)))))], [(7, pb 175 [is (U64 x2), is (Bl x3), is (I8 x4), is (Bl x5), big x6, big x7]), (8, pb 175 [is (U64 x8), is (Bl x9), is (I8 x10), is (Bl x11), big x12, big x13])]⟩ ?_ ?_
                · cases hb : x15 != 0
                  · skip
                    refine AL_cons (LR_on rfl rfl rfl (LR_move (at_tmp 10 _) rfl)) (sS (sT rfl (sT1 rfl)) sB0 sF0) ?_
                    refine AL_cons (LR_on rfl rfl rfl (LR_bin (at_tmp 36 _) (at_c (v' := I8 0) rfl) (neq_I8 x16 0) rfl)) (sS (sT rfl (sA (sT1 rfl) sT0)) sB0 sF0) ?_
                    refine AL_cons (LR_pick (b := false) (at_tmp 35 _) (at_c (v' := Bl true) rfl) (at_tmp 37 _) rfl) (sS (sA (sT1 rfl) (sA sT0 (sT1 rfl))) sB0 sF0) ?_
                    exact AL_nil ⟨rfl, weak0 ((sT rfl (sT rfl (sT rfl (sT rfl (sT rfl (sT rfl (sT rfl (sT rfl sT0))))))))) (sub_keep (sub_keep sub_nil))⟩
                  · skip
                    refine AL_cons (LR_off (b := true) rfl rfl rfl rfl) (sS (sT1 rfl) sB0 sF0) ?_
                    refine AL_cons (LR_off (b := true) rfl rfl rfl rfl) (sS (sT1 rfl) sB0 sF0) ?_
                    refine AL_cons (LR_pick (b := true) (at_tmp 35 _) (at_c (v' := Bl true) rfl) (at_tmp 37 _) rfl) (sS (sA (sT1 rfl) (sA sT0 (sT1 rfl))) sB0 sF0) ?_
                    exact AL_nil ⟨rfl, weak0 ((sT rfl (sT rfl (sT rfl (sT rfl (sT rfl (sT rfl (sT rfl (sT rfl sT0))))))))) (sub_keep (sub_keep sub_nil))⟩
                refine AL_nil ?_
                exact thenN (cutLeaf (v := (x15 != 0) || (x16 != 0)) hr (weak0 ((sT rfl (sT rfl (sT rfl (sT rfl (sT rfl sT0)))))) (sub_keep (sub_keep sub_nil))))
              · rintro x17 hr
                show AW Hfaa.prog _ _ _ ⟨[(7, .inr (.inl (7, 0))), (8, .inr (.inl (8, 0))), (9, .inl (is (I8 x15))), (10, .inl (is (I8 x16))), (38, .inl (is (Bl x17)))], [(7, pb 175 [is (U64 x2), is (Bl x3), is (I8 x4), is (Bl x5), big x6, big x7]), (8, pb 175 [is (U64 x8), is (Bl x9), is (I8 x10), is (Bl x11), big x12, big x13])]⟩
                have hr : some r = F81_5 N x2 x3 x4 x5 x6 x7 x8 x9 x10 x11 x12 x13 x15 x16 x17 := hr
                refine AW_condT (b := x17) rfl (fun h => ?_) (fun h => ?_)
                · have hr := hr.trans (cond_t h)
                  clear h
                  refine AW_seq1 ?_
                  refine AW_block ?_
                  refine AW_cut (σ := Bool) (fun v => ⟨[(9, .inl (is (I8 x15))), (10, .inl (is (I8 x16))), (39, .inl (is (Bl v)))], []⟩) (fun v => some r = F81_6 N x15 x16 v) ?_ ?_
                  · skip
                    refine AW_region ?_
                    refine AL_cons (LR_move (at_tmp 9 _) rfl) (sS (sT1 rfl) sB0 sF0) ?_
                    refine AL_cons (LR_move (at_tmp 10 _) rfl) (sS (sT1 rfl) sB0 sF0) ?_
                    refine AL_cons (LR_bin (at_tmp 40 _) (at_tmp 41 _) (lss_I8 x15 x16) rfl) (sS (sA (sT1 rfl) (sT1 rfl)) sB0 sF0) ?_
                    refine AL_cons (LR_assign (at_tmp 42 _) rfl) (sS (sT1 rfl) sB0 sF0) ?_
                    refine AL_nil ?_
                    exact thenN (cutLeaf (v := decide (x15 < x16)) hr (weak0 ((sT rfl (sT rfl (sT rfl sT0)))) (sub_drop (sub_drop sub_nil))))
                  · rintro x18 hr
                    show AW Hfaa.prog _ _ _ ⟨[(9, .inl (is (I8 x15))), (10, .inl (is (I8 x16))), (39, .inl (is (Bl x18)))], []⟩
                    have hr : some r = F81_6 N x15 x16 x18 := hr
                    refine AW_condT (b := x18) rfl (fun h => ?_) (fun h => ?_)
                    · have hr := hr.trans (cond_t h)
                      clear h
                      refine AW_seq1 ?_
                      refine AW_region ?_
                      refine AL_cons (LR_assign (at_c (v' := I8 (-1)) rfl) rfl) (sS sT0 sB0 sF0) ?_
                      refine AL_nil ?_
                      refine thenN ?_
                      refine AW_ret ?_
                      refine blR ?_
                      refine thenR ?_
                      refine thenR ?_
                      obtain rfl := Option.some.inj hr
                      exact res1 rfl (rvT rfl)
                    · have hr := hr.trans (cond_f h)
                      clear h
                      refine AW_cut (σ := Bool) (fun v => ⟨[(43, .inl (is (Bl v)))], []⟩) (fun v => some r = F81_7 N v) ?_ ?_
                      · skip
                        refine AW_region ?_
                        refine AL_cons (LR_move (at_tmp 9 _) rfl) (sS (sT1 rfl) sB0 sF0) ?_
                        refine AL_cons (LR_move (at_tmp 10 _) rfl) (sS (sT1 rfl) sB0 sF0) ?_
                        refine AL_cons (LR_bin (at_tmp 44 _) (at_tmp 45 _) (gtr_I8 x15 x16) rfl) (sS (sA (sT1 rfl) (sT1 rfl)) sB0 sF0) ?_
                        refine AL_cons (LR_assign (at_tmp 46 _) rfl) (sS (sT1 rfl) sB0 sF0) ?_
                        refine AL_nil ?_
                        exact thenN (cutLeaf (v := decide (x15 > x16)) hr (weak0 ((sT rfl sT0)) sub_nil))
                      · rintro x19 hr
                        show AW Hfaa.prog _ _ _ ⟨[(43, .inl (is (Bl x19)))], []⟩
                        have hr : some r = F81_7 N x19 := hr
                        refine AW_condT (b := x19) rfl (fun h => ?_) (fun h => ?_)
                        · have hr := hr.trans (cond_t h)
                          clear h
                          refine AW_seq1 ?_
                          refine AW_region ?_
                          refine AL_cons (LR_assign (at_c (v' := I8 1) rfl) rfl) (sS sT0 sB0 sF0) ?_
                          refine AL_nil ?_
                          refine thenN ?_
                          refine AW_ret ?_
                          refine blR ?_
                          refine thenR ?_
                          refine thenR ?_
                          obtain rfl := Option.some.inj hr
                          exact res1 rfl (rvT rfl)
                        · have hr := hr.trans (cond_f h)
                          clear h
                          refine AW_skip ?_
                          refine blN ?_
                          refine thenN ?_
                          refine AW_seq1 ?_
                          refine AW_region ?_
                          refine AL_cons (LR_assign (at_c (v' := I8 0) rfl) rfl) (sS sT0 sB0 sF0) ?_
                          refine AL_nil ?_
                          refine thenN ?_
                          refine AW_ret ?_
                          refine thenR ?_
                          obtain rfl := Option.some.inj hr
                          exact res1 rfl (rvT rfl)
                · have hr := hr.trans (cond_f h)
                  clear h
                  refine AW_skip ?_
                  refine thenN ?_
                  refine AW_cut (σ := Bool) (fun v => ⟨[(7, .inr (.inl (7, 0))), (8, .inr (.inl (8, 0)))], [(7, pb 175 [is (U64 x2), is (Bl x3), is (I8 x4), is (Bl x5), big x6, big x7]), (8, pb 175 [is (U64 x8), is (Bl x9), is (I8 x10), is (Bl v), big x12, big x13])]⟩) (fun v => some r = F81_8 N x2 x3 x4 x5 x6 x7 x8 x9 x10 x12 x13 v) ?_ ?_
                  · skip
                    refine AW_region ?_
                    refine AL_cons (LR_fieldAddr (off := 0) (o := 3) (at_tmp 8 _) (fun b w => fa175_3 b 0 w) rfl) (sS (sT1 rfl) sB0 sF0) ?_
                    refine AL_cons (LR_fieldAddr (off := 3) (o := 3) (at_tmp 47 _) (fun b w => fa119_0 b 3 w) rfl) (sS (sT1 rfl) sB0 sF0) ?_
                    refine AL_cons (LR_load (at_tmp 48 _) na4 rfl rfl) (sS (sT1 rfl) (sB1 rfl) sF0) ?_
                    refine AL_cons (LR_un (at_tmp 49 _) (not_Bl x11) rfl) (sS (sT1 rfl) sB0 sF0) ?_
                    refine AL_cons (LR_fieldAddr (off := 0) (o := 3) (at_tmp 8 _) (fun b w => fa175_3 b 0 w) rfl) (sS (sT1 rfl) sB0 sF0) ?_
                    refine AL_cons (LR_fieldAddr (off := 3) (o := 3) (at_tmp 51 _) (fun b w => fa119_0 b 3 w) rfl) (sS (sT1 rfl) sB0 sF0) ?_
                    refine AL_cons (LR_store (at_tmp 52 _) (at_tmp 50 _) (cells_one (one_is rfl)) (onC (one_is rfl) onN) sz4 rfl rfl) (sS (sA (sT1 rfl) (sT1 rfl)) (sB1 rfl) sF0) ?_
                    refine AL_nil ?_
                    exact thenN (cutLeaf (v := !x11) hr (weak0 ((sT rfl (sT rfl sT0))) (sub_keep (sub_keep sub_nil))))
                  · rintro x20 hr
                    show AW Hfaa.prog _ _ _ ⟨[(7, .inr (.inl (7, 0))), (8, .inr (.inl (8, 0)))], [(7, pb 175 [is (U64 x2), is (Bl x3), is (I8 x4), is (Bl x5), big x6, big x7]), (8, pb 175 [is (U64 x8), is (Bl x9), is (I8 x10), is (Bl x20), big x12, big x13])]⟩
                    have hr : some r = F81_8 N x2 x3 x4 x5 x6 x7 x8 x9 x10 x12 x13 x20 := hr
                    refine AW_cut (σ := Bool × Nat × Nat) (fun v => ⟨[(11, .inr (.inl (11, 0)))], [(11, pb 119 [is (Bl v.1), big v.2.1, big v.2.2])]⟩) (fun v => some r = F81_9 N v.1 v.2.1 v.2.2) ?_ ?_
                    · skip
                      refine AW_region ?_
                      refine AL_cons (LR_fieldAddr (off := 0) (o := 3) (at_tmp 7 _) (fun b w => fa175_3 b 0 w) rfl) (sS (sT1 rfl) sB0 sF0) ?_
                      refine AL_cons (LR_loads (at_tmp 53 _) ag119 sz119 rfl rfl rfl) (sS (sT1 rfl) (sB1 rfl) sF0) ?_
                      refine AL_cons (LR_fieldAddr (off := 0) (o := 3) (at_tmp 8 _) (fun b w => fa175_3 b 0 w) rfl) (sS (sT1 rfl) sB0 sF0) ?_
                      refine AL_cons (LR_loads (at_tmp 55 _) ag119 sz119 rfl rfl rfl) (sS (sT1 rfl) (sB1 rfl) sF0) ?_
                      obtain ⟨y13, hy13, hr⟩ := bind_some hr
                      refine AL_cons (LR_call Hfaa.func146 rfl rfl (C146 N x5 x6 x7 x20 x12 x13 y13 hy13) (all_cons (at_tmp 54 _) (all_cons (at_tmp 56 _) all_nil)) rfl) (sS (sA (sT1 rfl) (sA (sT1 rfl) sT0)) sB0 sF0) ?_
                      refine AL_cons (zl119 rfl) (sS sT0 sB0 (sF1 rfl)) ?_
                      refine AL_cons (LR_store (at_tmp 11 _) (at_tmp 57 _) (cells_agg _) (onC (one_is rfl) (onC (one_big _) (onC (one_big _) onN))) sz119 rfl rfl) (sS (sA (sT1 rfl) (sT1 rfl)) (sB1 rfl) sF0) ?_
                      refine AL_nil ?_
                      exact thenN (cutLeaf (v := (y13.1, y13.2.1, y13.2.2)) hr (weak0 ((sT rfl sT0)) (sub_drop (sub_drop (sub_keep sub_nil)))))
                    · rintro ⟨x21, x22, x23⟩ hr
                      show AW Hfaa.prog _ _ _ ⟨[(11, .inr (.inl (11, 0)))], [(11, pb 119 [is (Bl x21), big x22, big x23])]⟩
                      have hr : some r = F81_9 N x21 x22 x23 := hr
                      refine AW_seq1 ?_
                      refine AW_block ?_
                      refine AW_cut (σ := Bool) (fun v => ⟨[(11, .inr (.inl (11, 0))), (58, .inl (is (Bl v)))], [(11, pb 119 [is (Bl x21), big x22, big x23])]⟩) (fun v => some r = F81_10 N x21 x22 x23 v) ?_ ?_
                      · skip
                        refine AW_region ?_
                        refine AL_cons (LR_fieldAddr (off := 0) (o := 1) (at_tmp 11 _) (fun b w => fa119_1 b 0 w) rfl) (sS (sT1 rfl) sB0 sF0) ?_
                        refine AL_cons (LR_load (at_tmp 59 _) na49 rfl rfl) (sS (sT1 rfl) (sB1 rfl) sF0) ?_
                        refine AL_cons (LR_binA (at_tmp 60 _) at_nil (eqNil Hfaa.underlying49 x22) rfl) (sS (sA (sT1 rfl) sT0) sB0 sF0) ?_
                        refine AL_cons (LR_assign (at_tmp 61 _) rfl) (sS (sT1 rfl) sB0 sF0) ?_
                        refine AL_nil ?_
                        exact thenN (cutLeaf (v := x22 == 0) hr (weak0 ((sT rfl (sT rfl sT0))) (sub_keep sub_nil)))
                      · rintro x24 hr
                        show AW Hfaa.prog _ _ _ ⟨[(11, .inr (.inl (11, 0))), (58, .inl (is (Bl x24)))], [(11, pb 119 [is (Bl x21), big x22, big x23])]⟩
                        have hr : some r = F81_10 N x21 x22 x23 x24 := hr
                        refine AW_condT (b := x24) rfl (fun h => ?_) (fun h => ?_)
                        · have hr := hr.trans (cond_t h)
                          clear h
                          refine AW_seq1 ?_
                          refine AW_region ?_
                          refine AL_cons (LR_assign (at_c (v' := I8 0) rfl) rfl) (sS sT0 sB0 sF0) ?_
                          refine AL_nil ?_
                          refine thenN ?_
                          refine AW_ret ?_
                          refine blR ?_
                          refine thenR ?_
                          obtain rfl := Option.some.inj hr
                          exact res1 rfl (rvT rfl)
                        · have hr := hr.trans (cond_f h)
                          clear h
                          refine AW_seq1 ?_
                          refine AW_region ?_
                          refine AL_cons (LR_fieldAddr (off := 0) (o := 0) (at_tmp 11 _) (fun b w => fa119_0 b 0 w) rfl) (sS (sT1 rfl) sB0 sF0) ?_
                          refine AL_cons (LR_load (at_tmp 63 _) na4 rfl rfl) (sS (sT1 rfl) (sB1 rfl) sF0) ?_
                          refine AL_cons (LR_assign (at_tmp 64 _) rfl) (sS (sT1 rfl) sB0 sF0) ?_
                          refine AL_nil ?_
                          refine thenN ?_
                          refine AW_condT (b := x21) rfl (fun h => ?_) (fun h => ?_)
                          · have hr := hr.trans (cond_t h)
                            clear h
                            refine AW_seq1 ?_
                            refine AW_region ?_
                            refine AL_cons (LR_assign (at_c (v' := I8 (-1)) rfl) rfl) (sS sT0 sB0 sF0) ?_
                            refine AL_nil ?_
                            refine thenN ?_
                            refine AW_ret ?_
                            refine blR ?_
                            refine thenR ?_
                            obtain rfl := Option.some.inj hr
                            exact res1 rfl (rvT rfl)
                          · have hr := hr.trans (cond_f h)
                            clear h
                            refine AW_skip ?_
                            refine blN ?_
                            refine thenN ?_
                            refine AW_seq1 ?_
                            refine AW_region ?_
                            refine AL_cons (LR_assign (at_c (v' := I8 1) rfl) rfl) (sS sT0 sB0 sF0) ?_
                            refine AL_nil ?_
                            refine thenN ?_
                            refine AW_ret ?_
                            obtain rfl := Option.some.inj hr
                            exact res1 rfl (rvT rfl)
/-- calc/ex.order -/
def F223_3 (x3 : Bool) : List UInt8 := bif x3 then ([62] : List UInt8) else ([63] : List UInt8)
def F223_2 (a0 : Int) (x2 : Bool) : List UInt8 := bif x2 then ([61] : List UInt8) else F223_3 (a0 == 1)
def F223_1 (a0 : Int) (x1 : Bool) : List UInt8 := bif x1 then ([60] : List UInt8) else F223_2 a0 (a0 == 0)
def F223 (a0 : Int) : List UInt8 := F223_1 a0 (a0 == (-1))
theorem C223 (a0 : Int) (r : List UInt8) (hr : r = F223 a0) : Aw.Fn Hfaa.prog 223 [is (I8 a0)] (is (Sv r)) := by
  refine fn_intro Hfaa.func223 rfl rfl rfl ?_
  intro bn0 w0 H0
  refine AW_seq1 ?_
  refine AW_region ?_
  refine AL_cons (LR_assign (at_c (v' := Sv ([] : List UInt8)) rfl) rfl) (sS sT0 sB0 sF0) ?_
  refine AL_nil ?_
  refine thenN ?_
  refine AW_seq1 ?_
  refine AW_seq1 ?_
  refine AW_region ?_
  refine AL_cons (LR_move (at_tmp 0 _) rfl) (sS (sT1 rfl) sB0 sF0) ?_
  refine AL_nil ?_
  refine thenN ?_
  refine AW_block ?_
  refine AW_cut (σ := Bool) (fun v => ⟨[(3, .inl (is (I8 a0))), (4, .inl (is (Bl v)))], []⟩) (fun v => r = F223_1 a0 v) ?_ ?_
  · skip
    refine AW_region ?_
    refine AL_cons (LR_bin (at_tmp 3 _) (at_c (v' := I8 (-1)) rfl) (eql_I8 a0 (-1)) rfl) (sS (sA (sT1 rfl) sT0) sB0 sF0) ?_
    refine AL_cons (LR_assign (at_tmp 5 _) rfl) (sS (sT1 rfl) sB0 sF0) ?_
    refine AL_nil ?_
    exact thenN (cutLeaf (v := a0 == (-1)) hr (weak0 ((sT rfl (sT rfl sT0))) sub_nil))
  · rintro x1 hr
    show AW Hfaa.prog _ _ _ ⟨[(3, .inl (is (I8 a0))), (4, .inl (is (Bl x1)))], []⟩
    have hr : r = F223_1 a0 x1 := hr
    refine AW_condT (b := x1) rfl (fun h => ?_) (fun h => ?_)
    · have hr := hr.trans (cond_t h)
      clear h
      refine AW_seq1 ?_
      refine AW_region ?_
      refine AL_cons (LR_assign (at_c (v' := Sv ([60] : List UInt8)) rfl) rfl) (sS sT0 sB0 sF0) ?_
      refine AL_nil ?_
      refine thenN ?_
      refine AW_ret ?_
      refine blR ?_
      refine thenR ?_
      subst hr
      exact res1 rfl (rvT rfl)
    · have hr := hr.trans (cond_f h)
      clear h
      refine AW_cut (σ := Bool) (fun v => ⟨[(3, .inl (is (I8 a0))), (6, .inl (is (Bl v)))], []⟩) (fun v => r = F223_2 a0 v) ?_ ?_
      · skip
        refine AW_region ?_
        refine AL_cons (LR_bin (at_tmp 3 _) (at_c (v' := I8 0) rfl) (eql_I8 a0 0) rfl) (sS (sA (sT1 rfl) sT0) sB0 sF0) ?_
        refine AL_cons (LR_assign (at_tmp 7 _) rfl) (sS (sT1 rfl) sB0 sF0) ?_
        refine AL_nil ?_
        exact thenN (cutLeaf (v := a0 == 0) hr (weak0 ((sT rfl (sT rfl sT0))) sub_nil))
      · rintro x2 hr
        show AW Hfaa.prog _ _ _ ⟨[(3, .inl (is (I8 a0))), (6, .inl (is (Bl x2)))], []⟩
        have hr : r = F223_2 a0 x2 := hr
        refine AW_condT (b := x2) rfl (fun h => ?_) (fun h => ?_)
        · have hr := hr.trans (cond_t h)
          clear h
          refine AW_seq1 ?_
          refine AW_region ?_
          refine AL_cons (LR_assign (at_c (v' := Sv ([61] : List UInt8)) rfl) rfl) (sS sT0 sB0 sF0) ?_
          refine AL_nil ?_
          refine thenN ?_
          refine AW_ret ?_
          refine blR ?_
          refine thenR ?_
          subst hr
          exact res1 rfl (rvT rfl)
        · have hr := hr.trans (cond_f h)
          clear h
          refine AW_cut (σ := Bool) (fun v => ⟨[(8, .inl (is (Bl v)))], []⟩) (fun v => r = F223_3 v) ?_ ?_
          · skip
            refine AW_region ?_
            refine AL_cons (LR_bin (at_tmp 3 _) (at_c (v' := I8 1) rfl) (eql_I8 a0 1) rfl) (sS (sA (sT1 rfl) sT0) sB0 sF0) ?_
            refine AL_cons (LR_assign (at_tmp 9 _) rfl) (sS (sT1 rfl) sB0 sF0) ?_
            refine AL_nil ?_
            exact thenN (cutLeaf (v := a0 == 1) hr (weak0 ((sT rfl sT0)) sub_nil))
          · rintro x3 hr
            show AW Hfaa.prog _ _ _ ⟨[(8, .inl (is (Bl x3)))], []⟩
            have hr : r = F223_3 x3 := hr
            refine AW_condT (b := x3) rfl (fun h => ?_) (fun h => ?_)
            · have hr := hr.trans (cond_t h)
              clear h
              refine AW_seq1 ?_
              refine AW_region ?_
              refine AL_cons (LR_assign (at_c (v' := Sv ([62] : List UInt8)) rfl) rfl) (sS sT0 sB0 sF0) ?_
              refine AL_nil ?_
              refine thenN ?_
              refine AW_ret ?_
              refine blR ?_
              refine thenR ?_
              subst hr
              exact res1 rfl (rvT rfl)
            · have hr := hr.trans (cond_f h)
              clear h
              refine AW_skip ?_
              refine blN ?_
              refine thenN ?_
              refine AW_seq1 ?_
              refine AW_region ?_
              refine AL_cons (LR_assign (at_c (v' := Sv ([63] : List UInt8)) rfl) rfl) (sS sT0 sB0 sF0) ?_
              refine AL_nil ?_
              refine thenN ?_
              refine AW_ret ?_
              subst hr
              exact res1 rfl (rvT rfl)
/-- exact.FromInt64Flags -/
def F133_1 (N : Nat) (a0_0 : BitVec 8) (a0_1 : BitVec 8) (a1 : BitVec 8) (a2 : Int) (x1 : Bool) : Option (BitVec 64 × BitVec 8) := bif x1 then lt (F129 true ((-(BitVec.ofInt 64 a2)).toNat)) fun y7 => (F136 N a0_0 a0_1 a1 y7.1 y7.2.1 y7.2.2).bind fun y8 => some (y8.1, y8.2) else lt (F129 false ((BitVec.ofInt 64 a2).toNat)) fun y11 => (F136 N a0_0 a0_1 a1 y11.1 y11.2.1 y11.2.2).bind fun y12 => some (y12.1, y12.2)
def F133 (N : Nat) (a0_0 : BitVec 8) (a0_1 : BitVec 8) (a1 : BitVec 8) (a2 : Int) : Option (BitVec 64 × BitVec 8) := F133_1 N a0_0 a0_1 a1 a2 (decide (a2 < 0))
theorem C133 (N : Nat) (a0_0 : BitVec 8) (a0_1 : BitVec 8) (a1 : BitVec 8) (a2 : Int) (r : BitVec 64 × BitVec 8) (hr : some r = F133 N a0_0 a0_1 a1 a2) : Aw.Fn Hfaa.prog 133 [agg [is (U8 a0_0), is (U8 a0_1)], is (U8 a1), is (I64 a2)] (tup [is (U64 r.1), is (U8 r.2)]) := by
  refine fn_intro Hfaa.func133 rfl rfl rfl ?_
  intro bn0 w0 H0
  refine AW_seq1 ?_
  refine AW_region ?_
  refine AL_cons (LR_box (at_tmp 0 _) (cells_agg _) rfl) (sS (sT1 rfl) sB0 (sF1 rfl)) ?_
  refine AL_cons (LR_assign (at_c (v' := U64 (0#64)) rfl) rfl) (sS sT0 sB0 sF0) ?_
  refine AL_cons (LR_assign (at_c (v' := U8 (0#8)) rfl) rfl) (sS sT0 sB0 sF0) ?_
  refine AL_nil ?_
  refine thenN ?_
  refine AW_seq1 ?_
  refine AW_cut (σ := Bool) (fun v => ⟨[(1, .inl (is (U8 a1))), (2, .inl (is (I64 a2))), (3, .inr (.inl (3, 0))), (9, .inl (is (Bl v)))], [(3, pb 23 [is (U8 a0_0), is (U8 a0_1)])]⟩) (fun v => some r = F133_1 N a0_0 a0_1 a1 a2 v) ?_ ?_
  · skip
    refine AW_region ?_
    refine AL_cons (LR_move (at_tmp 2 _) rfl) (sS (sT1 rfl) sB0 sF0) ?_
    refine AL_cons (LR_bin (at_tmp 8 _) (at_c (v' := I64 0) rfl) (lss_I64 a2 0) rfl) (sS (sA (sT1 rfl) sT0) sB0 sF0) ?_
    refine AL_nil ?_
    exact thenN (cutLeaf (v := decide (a2 < 0)) hr (weak0 ((sT rfl (sT rfl (sT rfl (sT rfl sT0))))) (sub_keep sub_nil)))
  · rintro x1 hr
    show AW Hfaa.prog _ _ _ ⟨[(1, .inl (is (U8 a1))), (2, .inl (is (I64 a2))), (3, .inr (.inl (3, 0))), (9, .inl (is (Bl x1)))], [(3, pb 23 [is (U8 a0_0), is (U8 a0_1)])]⟩
    have hr : some r = F133_1 N a0_0 a0_1 a1 a2 x1 := hr
    refine AW_condT (b := x1) rfl (fun h => ?_) (fun h => ?_)
    · have hr := hr.trans (cond_t h)
      clear h
      refine AW_seq1 ?_
      obtain ⟨y7, hy7, hr⟩ := lt_some hr
      obtain ⟨y8, hy8, hr⟩ := bind_some hr
      refine AW_draw mixed
        (lrC (LR_loads (at_tmp 3 _) ag23 sz23 rfl rfl rfl)
        (lrC (LR_move (at_tmp 1 _) rfl)
        (lrC (LR_move (at_tmp 2 _) rfl)
        (lrC (LR_conv (vx := I64 a2) (at_tmp 12 _) (conv_U64 Hfaa.underlying2 Hfaa.underlying30 a2) rfl)
        (lrC (LR_un (at_tmp 13 _) (neg_U64 (BitVec.ofInt 64 a2)) rfl)
        (lrC (LR_call Hfaa.func20 rfl rfl (B20 (-(BitVec.ofInt 64 a2))) (all_cons (at_tmp 14 _) all_nil) rfl)
        (lrC (LR_call Hfaa.func129 rfl rfl (C129 true ((-(BitVec.ofInt 64 a2)).toNat) y7 hy7) (all_cons (at_c (v' := Bl true) rfl) (all_cons (at_tmp 15 _) all_nil)) rfl)
        (lrC (LR_call Hfaa.func136 rfl rfl (C136 N a0_0 a0_1 a1 y7.1 y7.2.1 y7.2.2 y8 hy8) (all_cons (at_tmp 10 _) (all_cons (at_tmp 11 _) (all_cons (at_tmp 16 _) all_nil))) rfl)
        (lrC (LR_extract (at_tmp 17 _) rfl rfl)
        (lrC (LR_extract (at_tmp 17 _) rfl rfl)
        (lrC (LR_assign (at_tmp 18 _) rfl)
        (lrC (LR_assign (at_tmp 19 _) rfl)
        lrN))))))))))))
        (by kernel_rfl)
        (saC (sS (sT1 rfl) (sB1 rfl) sF0) (saC (sS (sT1 rfl) sB0 sF0) (saC (sS (sT1 rfl) sB0 sF0) (saC (sS (sT1 rfl) sB0 sF0) (saC (sS (sT1 rfl) sB0 sF0) (saC (sS (sA (sT1 rfl) sT0) sB0 sF0) (saC (sS (sA sT0 (sA (sT1 rfl) sT0)) sB0 sF0) (saC (sS (sA (sT1 rfl) (sA (sT1 rfl) (sA (sT1 rfl) sT0))) sB0 sF0) (saC (sS (sT1 rfl) sB0 sF0) (saC (sS (sT1 rfl) sB0 sF0) (saC (sS (sT1 rfl) sB0 sF0) (saC (sS (sT1 rfl) sB0 sF0) saN)))))))))))) ?_
      refine thenN ?_
      refine AW_ret ?_
      refine thenR ?_
      obtain rfl := Option.some.inj hr
      exact res2 rfl (rvT rfl) (rvT rfl)
    · have hr := hr.trans (cond_f h)
      clear h
      refine AW_skip ?_
      refine thenN ?_
      refine AW_seq1 ?_
      obtain ⟨y11, hy11, hr⟩ := lt_some hr
      obtain ⟨y12, hy12, hr⟩ := bind_some hr
      refine AW_draw mixed
        (lrC (LR_loads (at_tmp 3 _) ag23 sz23 rfl rfl rfl)
        (lrC (LR_move (at_tmp 1 _) rfl)
        (lrC (LR_move (at_tmp 2 _) rfl)
        (lrC (LR_conv (vx := I64 a2) (at_tmp 22 _) (conv_U64 Hfaa.underlying2 Hfaa.underlying30 a2) rfl)
        (lrC (LR_call Hfaa.func20 rfl rfl (B20 (BitVec.ofInt 64 a2)) (all_cons (at_tmp 23 _) all_nil) rfl)
        (lrC (LR_call Hfaa.func129 rfl rfl (C129 false ((BitVec.ofInt 64 a2).toNat) y11 hy11) (all_cons (at_c (v' := Bl false) rfl) (all_cons (at_tmp 24 _) all_nil)) rfl)
        (lrC (LR_call Hfaa.func136 rfl rfl (C136 N a0_0 a0_1 a1 y11.1 y11.2.1 y11.2.2 y12 hy12) (all_cons (at_tmp 20 _) (all_cons (at_tmp 21 _) (all_cons (at_tmp 25 _) all_nil))) rfl)
        (lrC (LR_extract (at_tmp 26 _) rfl rfl)
        (lrC (LR_extract (at_tmp 26 _) rfl rfl)
        (lrC (LR_assign (at_tmp 27 _) rfl)
        (lrC (LR_assign (at_tmp 28 _) rfl)
        lrN)))))))))))
        (by kernel_rfl)
        (saC (sS (sT1 rfl) (sB1 rfl) sF0) (saC (sS (sT1 rfl) sB0 sF0) (saC (sS (sT1 rfl) sB0 sF0) (saC (sS (sT1 rfl) sB0 sF0) (saC (sS (sA (sT1 rfl) sT0) sB0 sF0) (saC (sS (sA sT0 (sA (sT1 rfl) sT0)) sB0 sF0) (saC (sS (sA (sT1 rfl) (sA (sT1 rfl) (sA (sT1 rfl) sT0))) sB0 sF0) (saC (sS (sT1 rfl) sB0 sF0) (saC (sS (sT1 rfl) sB0 sF0) (saC (sS (sT1 rfl) sB0 sF0) (saC (sS (sT1 rfl) sB0 sF0) saN))))))))))) ?_
      refine thenN ?_
      refine AW_ret ?_
      obtain rfl := Option.some.inj hr
      exact res2 rfl (rvT rfl) (rvT rfl)
/-- exact.FromInt64 -/
def F75_1 (N : Nat) (x1 : BitVec 64) : Option (BitVec 64) := some x1
def F75 (N : Nat) (a0_0 : BitVec 8) (a0_1 : BitVec 8) (a1 : BitVec 8) (a2 : Int) : Option (BitVec 64) := (F133 N a0_0 a0_1 a1 a2).bind fun y2 => F75_1 N y2.1
theorem C75 (N : Nat) (a0_0 : BitVec 8) (a0_1 : BitVec 8) (a1 : BitVec 8) (a2 : Int) (r : BitVec 64) (hr : some r = F75 N a0_0 a0_1 a1 a2) : Aw.Fn Hfaa.prog 75 [agg [is (U8 a0_0), is (U8 a0_1)], is (U8 a1), is (I64 a2)] (is (U64 r)) := by
  refine fn_intro Hfaa.func75 rfl rfl rfl ?_
  intro bn0 w0 H0
  refine AW_seq1 ?_
  refine AW_region ?_
  refine AL_cons (LR_box (at_tmp 0 _) (cells_agg _) rfl) (sS (sT1 rfl) sB0 (sF1 rfl)) ?_
  refine AL_cons (LR_assign (at_c (v' := U64 (0#64)) rfl) rfl) (sS sT0 sB0 sF0) ?_
  refine AL_nil ?_
  refine thenN ?_
  refine AW_cut (σ := BitVec 64) (fun v => ⟨[(7, .inl (is (U64 v)))], []⟩) (fun v => some r = F75_1 N v) ?_ ?_
  · skip
    refine AW_region ?_
    refine AL_cons (LR_loads (at_tmp 3 _) ag23 sz23 rfl rfl rfl) (sS (sT1 rfl) (sB1 rfl) sF0) ?_
    refine AL_cons (LR_move (at_tmp 1 _) rfl) (sS (sT1 rfl) sB0 sF0) ?_
    refine AL_cons (LR_move (at_tmp 2 _) rfl) (sS (sT1 rfl) sB0 sF0) ?_
    obtain ⟨y2, hy2, hr⟩ := bind_some hr
    refine AL_cons (LR_call Hfaa.func133 rfl rfl (C133 N a0_0 a0_1 a1 a2 y2 hy2) (all_cons (at_tmp 10 _) (all_cons (at_tmp 11 _) (all_cons (at_tmp 12 _) all_nil))) rfl) (sS (sA (sT1 rfl) (sA (sT1 rfl) (sA (sT1 rfl) sT0))) sB0 sF0) ?_
    refine AL_cons (LR_move (at_tmp 13 _) rfl) (sS (sT1 rfl) sB0 sF0) ?_
    refine AL_cons (LR_extract (at_tmp 9 _) rfl rfl) (sS (sT1 rfl) sB0 sF0) ?_
    refine AL_cons (LR_extract (at_tmp 9 _) rfl rfl) (sS (sT1 rfl) sB0 sF0) ?_
    refine AL_cons (LR_assign (at_tmp 14 _) rfl) (sS (sT1 rfl) sB0 sF0) ?_
    refine AL_cons (LR_assign (at_tmp 15 _) rfl) (sS (sT1 rfl) sB0 sF0) ?_
    refine AL_nil ?_
    exact thenN (cutLeaf (v := y2.1) hr (weak0 ((sT rfl sT0)) (sub_drop sub_nil)))
  · rintro x1 hr
    show AW Hfaa.prog _ _ _ ⟨[(7, .inl (is (U64 x1)))], []⟩
    have hr : some r = F75_1 N x1 := hr
    refine AW_seq1 ?_
    refine AW_region ?_
    refine AL_cons (LR_move (at_tmp 7 _) rfl) (sS (sT1 rfl) sB0 sF0) ?_
    refine AL_cons (LR_assign (at_tmp 16 _) rfl) (sS (sT1 rfl) sB0 sF0) ?_
    refine AL_nil ?_
    refine thenN ?_
    refine AW_ret ?_
    obtain rfl := Option.some.inj hr
    exact res1 rfl (rvT rfl)
/-- exact.FromUint64Flags -/
def F134 (N : Nat) (a0_0 : BitVec 8) (a0_1 : BitVec 8) (a1 : BitVec 8) (a2 : BitVec 64) : Option (BitVec 64 × BitVec 8) := lt (F129 false a2.toNat) fun y3 => (F136 N a0_0 a0_1 a1 y3.1 y3.2.1 y3.2.2).bind fun y4 => some (y4.1, y4.2)
theorem C134 (N : Nat) (a0_0 : BitVec 8) (a0_1 : BitVec 8) (a1 : BitVec 8) (a2 : BitVec 64) (r : BitVec 64 × BitVec 8) (hr : some r = F134 N a0_0 a0_1 a1 a2) : Aw.Fn Hfaa.prog 134 [agg [is (U8 a0_0), is (U8 a0_1)], is (U8 a1), is (U64 a2)] (tup [is (U64 r.1), is (U8 r.2)]) := by
  refine fn_intro Hfaa.func134 rfl rfl rfl ?_
  intro bn0 w0 H0
  refine AW_seq1 ?_
  refine AW_region ?_
  refine AL_cons (LR_box (at_tmp 0 _) (cells_agg _) rfl) (sS (sT1 rfl) sB0 (sF1 rfl)) ?_
  refine AL_cons (LR_assign (at_c (v' := U64 (0#64)) rfl) rfl) (sS sT0 sB0 sF0) ?_
  refine AL_cons (LR_assign (at_c (v' := U8 (0#8)) rfl) rfl) (sS sT0 sB0 sF0) ?_
  refine AL_nil ?_
  refine thenN ?_
  refine AW_seq1 ?_
  obtain ⟨y3, hy3, hr⟩ := lt_some hr
  obtain ⟨y4, hy4, hr⟩ := bind_some hr
  refine AW_draw mixed
    (lrC (LR_loads (at_tmp 3 _) ag23 sz23 rfl rfl rfl)
    (lrC (LR_move (at_tmp 1 _) rfl)
    (lrC (LR_move (at_tmp 2 _) rfl)
    (lrC (LR_call Hfaa.func20 rfl rfl (B20 a2) (all_cons (at_tmp 10 _) all_nil) rfl)
    (lrC (LR_call Hfaa.func129 rfl rfl (C129 false a2.toNat y3 hy3) (all_cons (at_c (v' := Bl false) rfl) (all_cons (at_tmp 11 _) all_nil)) rfl)
    (lrC (LR_call Hfaa.func136 rfl rfl (C136 N a0_0 a0_1 a1 y3.1 y3.2.1 y3.2.2 y4 hy4) (all_cons (at_tmp 8 _) (all_cons (at_tmp 9 _) (all_cons (at_tmp 12 _) all_nil))) rfl)
    (lrC (LR_extract (at_tmp 13 _) rfl rfl)
    (lrC (LR_extract (at_tmp 13 _) rfl rfl)
    (lrC (LR_assign (at_tmp 14 _) rfl)
    (lrC (LR_assign (at_tmp 15 _) rfl)
    lrN))))))))))
    (by kernel_rfl)
    (saC (sS (sT1 rfl) (sB1 rfl) sF0) (saC (sS (sT1 rfl) sB0 sF0) (saC (sS (sT1 rfl) sB0 sF0) (saC (sS (sA (sT1 rfl) sT0) sB0 sF0) (saC (sS (sA sT0 (sA (sT1 rfl) sT0)) sB0 sF0) (saC (sS (sA (sT1 rfl) (sA (sT1 rfl) (sA (sT1 rfl) sT0))) sB0 sF0) (saC (sS (sT1 rfl) sB0 sF0) (saC (sS (sT1 rfl) sB0 sF0) (saC (sS (sT1 rfl) sB0 sF0) (saC (sS (sT1 rfl) sB0 sF0) saN)))))))))) ?_
  refine thenN ?_
  refine AW_ret ?_
  obtain rfl := Option.some.inj hr
  exact res2 rfl (rvT rfl) (rvT rfl)
/-- exact.FromUint64 -/
def F76_1 (N : Nat) (x1 : BitVec 64) : Option (BitVec 64) := some x1
def F76 (N : Nat) (a0_0 : BitVec 8) (a0_1 : BitVec 8) (a1 : BitVec 8) (a2 : BitVec 64) : Option (BitVec 64) := (F134 N a0_0 a0_1 a1 a2).bind fun y2 => F76_1 N y2.1
theorem C76 (N : Nat) (a0_0 : BitVec 8) (a0_1 : BitVec 8) (a1 : BitVec 8) (a2 : BitVec 64) (r : BitVec 64) (hr : some r = F76 N a0_0 a0_1 a1 a2) : Aw.Fn Hfaa.prog 76 [agg [is (U8 a0_0), is (U8 a0_1)], is (U8 a1), is (U64 a2)] (is (U64 r)) := by
  refine fn_intro Hfaa.func76 rfl rfl rfl ?_
  intro bn0 w0 H0
  refine AW_seq1 ?_
  refine AW_region ?_
  refine AL_cons (LR_box (at_tmp 0 _) (cells_agg _) rfl) (sS (sT1 rfl) sB0 (sF1 rfl)) ?_
  refine AL_cons (LR_assign (at_c (v' := U64 (0#64)) rfl) rfl) (sS sT0 sB0 sF0) ?_
  refine AL_nil ?_
  refine thenN ?_
  refine AW_cut (σ := BitVec 64) (fun v => ⟨[(7, .inl (is (U64 v)))], []⟩) (fun v => some r = F76_1 N v) ?_ ?_
  · skip
    refine AW_region ?_
    refine AL_cons (LR_loads (at_tmp 3 _) ag23 sz23 rfl rfl rfl) (sS (sT1 rfl) (sB1 rfl) sF0) ?_
    refine AL_cons (LR_move (at_tmp 1 _) rfl) (sS (sT1 rfl) sB0 sF0) ?_
    refine AL_cons (LR_move (at_tmp 2 _) rfl) (sS (sT1 rfl) sB0 sF0) ?_
    obtain ⟨y2, hy2, hr⟩ := bind_some hr
    refine AL_cons (LR_call Hfaa.func134 rfl rfl (C134 N a0_0 a0_1 a1 a2 y2 hy2) (all_cons (at_tmp 10 _) (all_cons (at_tmp 11 _) (all_cons (at_tmp 12 _) all_nil))) rfl) (sS (sA (sT1 rfl) (sA (sT1 rfl) (sA (sT1 rfl) sT0))) sB0 sF0) ?_
    refine AL_cons (LR_move (at_tmp 13 _) rfl) (sS (sT1 rfl) sB0 sF0) ?_
    refine AL_cons (LR_extract (at_tmp 9 _) rfl rfl) (sS (sT1 rfl) sB0 sF0) ?_
    refine AL_cons (LR_extract (at_tmp 9 _) rfl rfl) (sS (sT1 rfl) sB0 sF0) ?_
    refine AL_cons (LR_assign (at_tmp 14 _) rfl) (sS (sT1 rfl) sB0 sF0) ?_
    refine AL_cons (LR_assign (at_tmp 15 _) rfl) (sS (sT1 rfl) sB0 sF0) ?_
    refine AL_nil ?_
    exact thenN (cutLeaf (v := y2.1) hr (weak0 ((sT rfl sT0)) (sub_drop sub_nil)))
  · rintro x1 hr
    show AW Hfaa.prog _ _ _ ⟨[(7, .inl (is (U64 x1)))], []⟩
    have hr : some r = F76_1 N x1 := hr
    refine AW_seq1 ?_
    refine AW_region ?_
    refine AL_cons (LR_move (at_tmp 7 _) rfl) (sS (sT1 rfl) sB0 sF0) ?_
    refine AL_cons (LR_assign (at_tmp 16 _) rfl) (sS (sT1 rfl) sB0 sF0) ?_
    refine AL_nil ?_
    refine thenN ?_
    refine AW_ret ?_
    obtain rfl := Option.some.inj hr
    exact res1 rfl (rvT rfl)
/-- exact.ToInt64Flags -/
def F131_10 (N : Nat) (x16 : Int) (x17 : BitVec 8) : Option (Int × Bool × BitVec 8) := some (x16, true, x17)
def F131_9 (N : Nat) (x10 : Int) (x11 : Bool) (x16 : Int) : Option (Int × Bool × BitVec 8) := bif x11 then F131_10 N x16 (16#8) else F131_10 N x16 (0#8)
def F131_8 (N : Nat) (x2 : BitVec 64) (x3 : Bool) (x4 : Int) (x5 : Bool) (x6 : Nat) (x7 : Nat) (x10 : Int) (x11 : Bool) (x15 : Int) : Option (Int × Bool × BitVec 8) := bif x3 then F131_9 N x10 x11 (w64 (0 - x15)) else F131_9 N x10 x11 x15
def F131_7 (N : Nat) (x2 : BitVec 64) (x3 : Bool) (x4 : Int) (x5 : Bool) (x6 : Nat) (x7 : Nat) (x9 : Nat) (x10 : Int) (x11 : Bool) (x14 : Bool) : Option (Int × Bool × BitVec 8) := bif x14 then some (0, false, 1#8) else bif lim x9 then F131_8 N x2 x3 x4 x5 x6 x7 x10 x11 (w64 ((BitVec.ofNat 64 x9).toNat : Int)) else none
def F131_6 (N : Nat) (x2 : BitVec 64) (x3 : Bool) (x4 : Int) (x5 : Bool) (x6 : Nat) (x7 : Nat) (x9 : Nat) (x10 : Int) (x11 : Bool) (x13 : Nat) : Option (Int × Bool × BitVec 8) := bif lim x9 && lim x13 then F131_7 N x2 x3 x4 x5 x6 x7 x9 x10 x11 (decide ((ncmp x9 x13) > 0)) else none
def F131_5 (N : Nat) (x2 : BitVec 64) (x3 : Bool) (x4 : Int) (x5 : Bool) (x6 : Nat) (x7 : Nat) (x9 : Nat) (x10 : Int) (x11 : Bool) (x12 : Nat) : Option (Int × Bool × BitVec 8) := bif x3 then F131_6 N x2 x3 x4 x5 x6 x7 x9 x10 x11 ((9223372036854775808#64).toNat) else F131_6 N x2 x3 x4 x5 x6 x7 x9 x10 x11 x12
def F131_4 (N : Nat) (x2 : BitVec 64) (x3 : Bool) (x4 : Int) (x5 : Bool) (x6 : Nat) (x7 : Nat) (x9 : Nat) (x10 : Int) (x11 : Bool) : Option (Int × Bool × BitVec 8) := F131_5 N x2 x3 x4 x5 x6 x7 x9 x10 x11 ((9223372036854775807#64).toNat)
def F131_3 (N : Nat) (a1 : BitVec 8) (x2 : BitVec 64) (x3 : Bool) (x4 : Int) (x5 : Bool) (x6 : Nat) (x7 : Nat) (x8 : Bool) : Option (Int × Bool × BitVec 8) := bif x8 then some (0, false, 1#8) else (F245 N a1 x3 x6 x7).bind fun y6 => F131_4 N x2 x3 x4 x5 x6 x7 y6.1 y6.2.1 y6.2.2
def F131_2 (N : Nat) (a1 : BitVec 8) (x2 : BitVec 64) (x3 : Bool) (x4 : Int) (x5 : Bool) (x6 : Nat) (x7 : Nat) : Option (Int × Bool × BitVec 8) := F131_3 N a1 x2 x3 x4 x5 x6 x7 ((x4 == 4) || (x4 == 3))
def F131_1 (N : Nat) (a0_0 : BitVec 8) (a0_1 : BitVec 8) (a1 : BitVec 8) (a2 : BitVec 64) (x1 : Bool) : Option (Int × Bool × BitVec 8) := bif x1 then some (0, false, 0#8) else (F144 N a0_0 a0_1 a2).bind fun y7 => F131_2 N a1 y7.1 y7.2.1 y7.2.2.1 y7.2.2.2.1 y7.2.2.2.2.1 y7.2.2.2.2.2
def F131 (N : Nat) (a0_0 : BitVec 8) (a0_1 : BitVec 8) (a1 : BitVec 8) (a2 : BitVec 64) : Option (Int × Bool × BitVec 8) := lt (F40 a0_0 a0_1) fun y8 => F131_1 N a0_0 a0_1 a1 a2 (!y8)
theorem C131 (N : Nat) (a0_0 : BitVec 8) (a0_1 : BitVec 8) (a1 : BitVec 8) (a2 : BitVec 64) (r : Int × Bool × BitVec 8) (hr : some r = F131 N a0_0 a0_1 a1 a2) : Aw.Fn Hfaa.prog 131 [agg [is (U8 a0_0), is (U8 a0_1)], is (U8 a1), is (U64 a2)] (tup [is (I64 r.1), is (Bl r.2.1), is (U8 r.2.2)]) := by
  refine fn_intro Hfaa.func131 rfl rfl rfl ?_
  intro bn0 w0 H0
  refine AW_seq1 ?_
  refine AW_region ?_
  refine AL_cons (LR_box (at_tmp 0 _) (cells_agg _) rfl) (sS (sT1 rfl) sB0 (sF1 rfl)) ?_
  refine AL_cons (LR_assign (at_c (v' := I64 0) rfl) rfl) (sS sT0 sB0 sF0) ?_
  refine AL_cons (LR_assign (at_c (v' := Bl false) rfl) rfl) (sS sT0 sB0 sF0) ?_
  refine AL_cons (LR_assign (at_c (v' := U8 (0#8)) rfl) rfl) (sS sT0 sB0 sF0) ?_
  refine AL_nil ?_
  refine thenN ?_
  refine AW_seq1 ?_
  refine AW_cut (σ := Bool) (fun v => ⟨[(1, .inl (is (U8 a1))), (2, .inl (is (U64 a2))), (3, .inr (.inl (3, 0))), (17, .inl (is (Bl v)))], [(3, pb 23 [is (U8 a0_0), is (U8 a0_1)])]⟩) (fun v => some r = F131_1 N a0_0 a0_1 a1 a2 v) ?_ ?_
  · skip
    refine AW_region ?_
    refine AL_cons (LR_loads (at_tmp 3 _) ag23 sz23 rfl rfl rfl) (sS (sT1 rfl) (sB1 rfl) sF0) ?_
    obtain ⟨y8, hy8, hr⟩ := lt_some hr
    refine AL_cons (LR_call Hfaa.func40 rfl rfl (C40 a0_0 a0_1 y8 hy8) (all_cons (at_tmp 15 _) all_nil) rfl) (sS (sA (sT1 rfl) sT0) sB0 sF0) ?_
    refine AL_cons (LR_un (at_tmp 16 _) (not_Bl y8) rfl) (sS (sT1 rfl) sB0 sF0) ?_
    refine AL_nil ?_
    exact thenN (cutLeaf (v := !y8) hr (weak0 ((sT rfl (sT rfl (sT rfl (sT rfl sT0))))) (sub_keep sub_nil)))
  · rintro x1 hr
    show AW Hfaa.prog _ _ _ ⟨[(1, .inl (is (U8 a1))), (2, .inl (is (U64 a2))), (3, .inr (.inl (3, 0))), (17, .inl (is (Bl x1)))], [(3, pb 23 [is (U8 a0_0), is (U8 a0_1)])]⟩
    have hr : some r = F131_1 N a0_0 a0_1 a1 a2 x1 := hr
    refine AW_condT (b := x1) rfl (fun h => ?_) (fun h => ?_)
    · have hr := hr.trans (cond_t h)
      clear h
      refine AW_seq1 ?_
      refine AW_region ?_
      refine AL_cons (LR_assign (at_c (v' := I64 0) rfl) rfl) (sS sT0 sB0 sF0) ?_
      refine AL_cons (LR_assign (at_c (v' := Bl false) rfl) rfl) (sS sT0 sB0 sF0) ?_
      refine AL_cons (LR_assign (at_c (v' := U8 (0#8)) rfl) rfl) (sS sT0 sB0 sF0) ?_
      refine AL_nil ?_
      refine thenN ?_
      refine AW_ret ?_
      refine thenR ?_
      obtain rfl := Option.some.inj hr
      exact res3 rfl (rvT rfl) (rvT rfl) (rvT rfl)
    · have hr := hr.trans (cond_f h)
      clear h
      refine AW_skip ?_
      refine thenN ?_
      refine AW_cut (σ := BitVec 64 × Bool × Int × Bool × Nat × Nat) (fun v => ⟨[(1, .inl (is (U8 a1))), (9, .inr (.inl (9, 0)))], [(9, pb 175 [is (U64 v.1), is (Bl v.2.1), is (I8 v.2.2.1), is (Bl v.2.2.2.1), big v.2.2.2.2.1, big v.2.2.2.2.2])]⟩) (fun v => some r = F131_2 N a1 v.1 v.2.1 v.2.2.1 v.2.2.2.1 v.2.2.2.2.1 v.2.2.2.2.2) ?_ ?_
      · skip
        refine AW_region ?_
        refine AL_cons (LR_loads (at_tmp 3 _) ag23 sz23 rfl rfl rfl) (sS (sT1 rfl) (sB1 rfl) sF0) ?_
        refine AL_cons (LR_move (at_tmp 2 _) rfl) (sS (sT1 rfl) sB0 sF0) ?_
        obtain ⟨y7, hy7, hr⟩ := bind_some hr
        refine AL_cons (LR_call Hfaa.func144 rfl rfl (C144 N a0_0 a0_1 a2 y7 hy7) (all_cons (at_tmp 18 _) (all_cons (at_tmp 19 _) all_nil)) rfl) (sS (sA (sT1 rfl) (sA (sT1 rfl) sT0)) sB0 sF0) ?_
        refine AL_cons (zl175 rfl) (sS sT0 sB0 (sF1 rfl)) ?_
        refine AL_cons (LR_store (at_tmp 9 _) (at_tmp 20 _) (cells_agg _) (onC (one_is rfl) (onC (one_is rfl) (onC (one_is rfl) (onC (one_is rfl) (onC (one_big _) (onC (one_big _) onN)))))) sz175 rfl rfl) (sS (sA (sT1 rfl) (sT1 rfl)) (sB1 rfl) sF0) ?_
        refine AL_nil ?_
        exact thenN (cutLeaf (v := (y7.1, y7.2.1, y7.2.2.1, y7.2.2.2.1, y7.2.2.2.2.1, y7.2.2.2.2.2)) hr (weak0 ((sT rfl (sT rfl sT0))) (sub_drop (sub_keep sub_nil))))
      · rintro ⟨x2, x3, x4, x5, x6, x7⟩ hr
        show AW Hfaa.prog _ _ _ ⟨[(1, .inl (is (U8 a1))), (9, .inr (.inl (9, 0)))], [(9, pb 175 [is (U64 x2), is (Bl x3), is (I8 x4), is (Bl x5), big x6, big x7])]⟩
        have hr : some r = F131_2 N a1 x2 x3 x4 x5 x6 x7 := hr
        refine AW_seq1 ?_
        refine AW_cut (σ := Bool) (fun v => ⟨[(1, .inl (is (U8 a1))), (9, .inr (.inl (9, 0))), (28, .inl (is (Bl v)))], [(9, pb 175 [is (U64 x2), is (Bl x3), is (I8 x4), is (Bl x5), big x6, big x7])]⟩) (fun v => some r = F131_3 N a1 x2 x3 x4 x5 x6 x7 v) ?_ ?_
        · skip
          refine AW_region ?_
          refine AL_cons (LR_fieldAddr (off := 0) (o := 2) (at_tmp 9 _) (fun b w => fa175_2 b 0 w) rfl) (sS (sT1 rfl) sB0 sF0) ?_
          refine AL_cons (LR_load (at_tmp 21 _) na110 rfl rfl) (sS (sT1 rfl) (sB1 rfl) sF0) ?_
          refine AL_cons (LR_bin (at_tmp 22 _) (at_c (v' := I8 4) rfl) (eql_I8 x4 4) rfl) (sS (sA (sT1 rfl) sT0) sB0 sF0) ?_
          refine AL_cons (LR_move (at_tmp 23 _) rfl) (sS (sT1 rfl) sB0 sF0) ?_
          refine AL_cutAt 4 ⟨[(1, .inl (is (U8 a1))), (9, .inr (.inl (9, 0))), (21, .inr (.inl (9, 2))), (22, .inl (is (I8 x4))), (23, .inl (is (Bl (x4 == 4)))), (24, .inl (is (Bl (x4 == 4)))), (28, .inl (is (Bl ((x4 == 4) || (x4 == 3)))))], [(9, pb 175 [is (U64 x2), is (Bl x3), is (I8 x4), is (Bl x5), big x6, big x7])]⟩ ?_ ?_
          · cases hb : x4 == 4
            · skip
              refine AL_cons (LR_on rfl rfl rfl (LR_fieldAddr (off := 0) (o := 2) (at_tmp 9 _) (fun b w => fa175_2 b 0 w) rfl)) (sS (sT rfl (sT1 rfl)) sB0 sF0) ?_
              refine AL_cons (LR_on rfl rfl rfl (LR_load (at_tmp 25 _) na110 rfl rfl)) (sS (sT rfl (sT1 rfl)) (sB1 rfl) sF0) ?_
              refine AL_cons (LR_on rfl rfl rfl (LR_bin (at_tmp 26 _) (at_c (v' := I8 3) rfl) (eql_I8 x4 3) rfl)) (sS (sT rfl (sA (sT1 rfl) sT0)) sB0 sF0) ?_
              refine AL_cons (LR_pick (b := false) (at_tmp 24 _) (at_c (v' := Bl true) rfl) (at_tmp 27 _) rfl) (sS (sA (sT1 rfl) (sA sT0 (sT1 rfl))) sB0 sF0) ?_
              exact AL_nil ⟨rfl, weak0 ((sT rfl (sT rfl (sT rfl (sT rfl (sT rfl (sT rfl (sT rfl sT0)))))))) (sub_keep sub_nil)⟩
            · skip
              refine AL_cons (LR_off (b := true) rfl rfl rfl rfl) (sS (sT1 rfl) sB0 sF0) ?_
              refine AL_cons (LR_off (b := true) rfl rfl rfl rfl) (sS (sT1 rfl) sB0 sF0) ?_
              refine AL_cons (LR_off (b := true) rfl rfl rfl rfl) (sS (sT1 rfl) sB0 sF0) ?_
              refine AL_cons (LR_pick (b := true) (at_tmp 24 _) (at_c (v' := Bl true) rfl) (at_tmp 27 _) rfl) (sS (sA (sT1 rfl) (sA sT0 (sT1 rfl))) sB0 sF0) ?_
              exact AL_nil ⟨rfl, weak0 ((sT rfl (sT rfl (sT rfl (sT rfl (sT rfl (sT rfl (sT rfl sT0)))))))) (sub_keep sub_nil)⟩
          refine AL_nil ?_
          exact thenN (cutLeaf (v := (x4 == 4) || (x4 == 3)) hr (weak0 ((sT rfl (sT rfl (sT rfl sT0)))) (sub_keep sub_nil)))
        · rintro x8 hr
          show AW Hfaa.prog _ _ _ ⟨[(1, .inl (is (U8 a1))), (9, .inr (.inl (9, 0))), (28, .inl (is (Bl x8)))], [(9, pb 175 [is (U64 x2), is (Bl x3), is (I8 x4), is (Bl x5), big x6, big x7])]⟩
          have hr : some r = F131_3 N a1 x2 x3 x4 x5 x6 x7 x8 := hr
          refine AW_condT (b := x8) rfl (fun h => ?_) (fun h => ?_)
          · have hr := hr.trans (cond_t h)
            clear h
            refine AW_seq1 ?_
            refine AW_region ?_
            refine AL_cons (LR_assign (at_c (v' := I64 0) rfl) rfl) (sS sT0 sB0 sF0) ?_
            refine AL_cons (LR_assign (at_c (v' := Bl false) rfl) rfl) (sS sT0 sB0 sF0) ?_
            refine AL_cons (LR_assign (at_c (v' := U8 (1#8)) rfl) rfl) (sS sT0 sB0 sF0) ?_
            refine AL_nil ?_
            refine thenN ?_
            refine AW_ret ?_
            refine thenR ?_
            obtain rfl := Option.some.inj hr
            exact res3 rfl (rvT rfl) (rvT rfl) (rvT rfl)
          · have hr := hr.trans (cond_f h)
            clear h
            refine AW_skip ?_
            refine thenN ?_
            refine AW_cut (σ := Nat × Int × Bool) (fun v => ⟨[(9, .inr (.inl (9, 0))), (11, .inr (.inl (11, 0))), (10, .inl (big v.1))], [(9, pb 175 [is (U64 x2), is (Bl x3), is (I8 x4), is (Bl x5), big x6, big x7]), (11, pb 181 [is (I8 v.2.1), is (Bl v.2.2)])]⟩) (fun v => some r = F131_4 N x2 x3 x4 x5 x6 x7 v.1 v.2.1 v.2.2) ?_ ?_
            · skip
              refine AW_region ?_
              refine AL_cons (LR_move (at_tmp 1 _) rfl) (sS (sT1 rfl) sB0 sF0) ?_
              refine AL_cons (LR_fieldAddr (off := 0) (o := 1) (at_tmp 9 _) (fun b w => fa175_1 b 0 w) rfl) (sS (sT1 rfl) sB0 sF0) ?_
              refine AL_cons (LR_load (at_tmp 31 _) na4 rfl rfl) (sS (sT1 rfl) (sB1 rfl) sF0) ?_
              refine AL_cons (LR_fieldAddr (off := 0) (o := 3) (at_tmp 9 _) (fun b w => fa175_3 b 0 w) rfl) (sS (sT1 rfl) sB0 sF0) ?_
              refine AL_cons (LR_fieldAddr (off := 3) (o := 4) (at_tmp 33 _) (fun b w => fa119_1 b 3 w) rfl) (sS (sT1 rfl) sB0 sF0) ?_
              refine AL_cons (LR_load (at_tmp 34 _) na49 rfl rfl) (sS (sT1 rfl) (sB1 rfl) sF0) ?_
              refine AL_cons (LR_fieldAddr (off := 0) (o := 3) (at_tmp 9 _) (fun b w => fa175_3 b 0 w) rfl) (sS (sT1 rfl) sB0 sF0) ?_
              refine AL_cons (LR_fieldAddr (off := 3) (o := 5) (at_tmp 36 _) (fun b w => fa119_2 b 3 w) rfl) (sS (sT1 rfl) sB0 sF0) ?_
              refine AL_cons (LR_load (at_tmp 37 _) na49 rfl rfl) (sS (sT1 rfl) (sB1 rfl) sF0) ?_
              obtain ⟨y6, hy6, hr⟩ := bind_some hr
              refine AL_cons (LR_call Hfaa.func245 rfl rfl (C245 N a1 x3 x6 x7 y6 hy6) (all_cons (at_tmp 30 _) (all_cons (at_tmp 32 _) (all_cons (at_tmp 35 _) (all_cons (at_tmp 38 _) all_nil)))) rfl) (sS (sA (sT1 rfl) (sA (sT1 rfl) (sA (sT1 rfl) (sA (sT1 rfl) sT0)))) sB0 sF0) ?_
              refine AL_cons (LR_move (at_tmp 39 _) rfl) (sS (sT1 rfl) sB0 sF0) ?_
              refine AL_cons (LR_extract (at_tmp 29 _) rfl rfl) (sS (sT1 rfl) sB0 sF0) ?_
              refine AL_cons (LR_extract (at_tmp 29 _) rfl rfl) (sS (sT1 rfl) sB0 sF0) ?_
              refine AL_cons (zl181 rfl) (sS sT0 sB0 (sF1 rfl)) ?_
              refine AL_cons (LR_assign (at_tmp 40 _) rfl) (sS (sT1 rfl) sB0 sF0) ?_
              refine AL_cons (LR_store (at_tmp 11 _) (at_tmp 41 _) (cells_agg _) (onC (one_is rfl) (onC (one_is rfl) onN)) sz181 rfl rfl) (sS (sA (sT1 rfl) (sT1 rfl)) (sB1 rfl) sF0) ?_
              refine AL_nil ?_
              exact thenN (cutLeaf (v := (y6.1, y6.2.1, y6.2.2)) hr (weak0 ((sT rfl (sT rfl (sT rfl sT0)))) (sub_keep (sub_keep sub_nil))))
            · rintro ⟨x9, x10, x11⟩ hr
              show AW Hfaa.prog _ _ _ ⟨[(9, .inr (.inl (9, 0))), (11, .inr (.inl (11, 0))), (10, .inl (big x9))], [(9, pb 175 [is (U64 x2), is (Bl x3), is (I8 x4), is (Bl x5), big x6, big x7]), (11, pb 181 [is (I8 x10), is (Bl x11)])]⟩
              have hr : some r = F131_4 N x2 x3 x4 x5 x6 x7 x9 x10 x11 := hr
              refine AW_cut (σ := Nat) (fun v => ⟨[(9, .inr (.inl (9, 0))), (11, .inr (.inl (11, 0))), (10, .inl (big x9)), (12, .inl (big v))], [(9, pb 175 [is (U64 x2), is (Bl x3), is (I8 x4), is (Bl x5), big x6, big x7]), (11, pb 181 [is (I8 x10), is (Bl x11)])]⟩) (fun v => some r = F131_5 N x2 x3 x4 x5 x6 x7 x9 x10 x11 v) ?_ ?_
              · skip
                refine AW_region ?_
                refine AL_cons (LR_call Hfaa.func20 rfl rfl (B20 (9223372036854775807#64)) (all_cons (at_c (v' := U64 (9223372036854775807#64)) rfl) all_nil) rfl) (sS (sA sT0 sT0) sB0 sF0) ?_
                refine AL_cons (LR_assign (at_tmp 42 _) rfl) (sS (sT1 rfl) sB0 sF0) ?_
                refine AL_nil ?_
                exact thenN (cutLeaf (v := (9223372036854775807#64).toNat) hr (weak0 ((sT rfl (sT rfl (sT rfl (sT rfl sT0))))) (sub_keep (sub_keep sub_nil))))
              · rintro x12 hr
                show AW Hfaa.prog _ _ _ ⟨[(9, .inr (.inl (9, 0))), (11, .inr (.inl (11, 0))), (10, .inl (big x9)), (12, .inl (big x12))], [(9, pb 175 [is (U64 x2), is (Bl x3), is (I8 x4), is (Bl x5), big x6, big x7]), (11, pb 181 [is (I8 x10), is (Bl x11)])]⟩
                have hr : some r = F131_5 N x2 x3 x4 x5 x6 x7 x9 x10 x11 x12 := hr
                refine AW_cut (σ := Nat) (fun v => ⟨[(9, .inr (.inl (9, 0))), (11, .inr (.inl (11, 0))), (10, .inl (big x9)), (12, .inl (big v))], [(9, pb 175 [is (U64 x2), is (Bl x3), is (I8 x4), is (Bl x5), big x6, big x7]), (11, pb 181 [is (I8 x10), is (Bl x11)])]⟩) (fun v => some r = F131_6 N x2 x3 x4 x5 x6 x7 x9 x10 x11 v) ?_ ?_
                · skip
                  refine AW_seq1 ?_
                  refine AW_region ?_
                  refine AL_cons (LR_fieldAddr (off := 0) (o := 1) (at_tmp 9 _) (fun b w => fa175_1 b 0 w) rfl) (sS (sT1 rfl) sB0 sF0) ?_
                  refine AL_cons (LR_load (at_tmp 43 _) na4 rfl rfl) (sS (sT1 rfl) (sB1 rfl) sF0) ?_
                  refine AL_nil ?_
                  refine thenN ?_
                  refine AW_condT (b := x3) rfl (fun h => ?_) (fun h => ?_)
                  · have hr := hr.trans (cond_t h)
                    clear h
                    refine AW_region ?_
                    refine AL_cons (LR_call Hfaa.func20 rfl rfl (B20 (9223372036854775808#64)) (all_cons (at_c (v' := U64 (9223372036854775808#64)) rfl) all_nil) rfl) (sS (sA sT0 sT0) sB0 sF0) ?_
                    refine AL_cons (LR_assign (at_tmp 45 _) rfl) (sS (sT1 rfl) sB0 sF0) ?_
                    refine AL_nil ?_
                    exact thenN (cutLeaf (v := (9223372036854775808#64).toNat) hr (weak0 ((sT rfl (sT rfl (sT rfl (sT rfl sT0))))) (sub_keep (sub_keep sub_nil))))
                  · have hr := hr.trans (cond_f h)
                    clear h
                    refine AW_skip ?_
                    exact thenN (cutLeaf (v := x12) hr (weak0 ((sT rfl (sT rfl (sT rfl (sT rfl sT0))))) (sub_keep (sub_keep sub_nil))))
                · rintro x13 hr
                  show AW Hfaa.prog _ _ _ ⟨[(9, .inr (.inl (9, 0))), (11, .inr (.inl (11, 0))), (10, .inl (big x9)), (12, .inl (big x13))], [(9, pb 175 [is (U64 x2), is (Bl x3), is (I8 x4), is (Bl x5), big x6, big x7]), (11, pb 181 [is (I8 x10), is (Bl x11)])]⟩
                  have hr : some r = F131_6 N x2 x3 x4 x5 x6 x7 x9 x10 x11 x13 := hr
                  refine AW_seq1 ?_
                  refine AW_cut (σ := Bool) (fun v => ⟨[(9, .inr (.inl (9, 0))), (11, .inr (.inl (11, 0))), (10, .inl (big x9)), (49, .inl (is (Bl v)))], [(9, pb 175 [is (U64 x2), is (Bl x3), is (I8 x4), is (Bl x5), big x6, big x7]), (11, pb 181 [is (I8 x10), is (Bl x11)])]⟩) (fun v => some r = F131_7 N x2 x3 x4 x5 x6 x7 x9 x10 x11 v) ?_ ?_
                  · skip
                    refine AW_region ?_
                    refine AL_cons (LR_move (at_tmp 10 _) rfl) (sS (sT1 rfl) sB0 sF0) ?_
                    refine AL_cons (LR_move (at_tmp 12 _) rfl) (sS (sT1 rfl) sB0 sF0) ?_
                    obtain ⟨hg6, hr⟩ := guard_some hr
                    refine AL_cons (LR_call Hfaa.func60 rfl rfl (B60 x9 x13 hg6) (all_cons (at_tmp 46 _) (all_cons (at_tmp 47 _) all_nil)) rfl) (sS (sA (sT1 rfl) (sA (sT1 rfl) sT0)) sB0 sF0) ?_
                    refine AL_cons (LR_bin (at_tmp 48 _) (at_c (v' := I8 0) rfl) (gtr_I8 (ncmp x9 x13) 0) rfl) (sS (sA (sT1 rfl) sT0) sB0 sF0) ?_
                    refine AL_nil ?_
                    exact thenN (cutLeaf (v := decide ((ncmp x9 x13) > 0)) hr (weak0 ((sT rfl (sT rfl (sT rfl (sT rfl sT0))))) (sub_keep (sub_keep sub_nil))))
                  · rintro x14 hr
                    show AW Hfaa.prog _ _ _ ⟨[(9, .inr (.inl (9, 0))), (11, .inr (.inl (11, 0))), (10, .inl (big x9)), (49, .inl (is (Bl x14)))], [(9, pb 175 [is (U64 x2), is (Bl x3), is (I8 x4), is (Bl x5), big x6, big x7]), (11, pb 181 [is (I8 x10), is (Bl x11)])]⟩
                    have hr : some r = F131_7 N x2 x3 x4 x5 x6 x7 x9 x10 x11 x14 := hr
                    refine AW_condT (b := x14) rfl (fun h => ?_) (fun h => ?_)
                    · have hr := hr.trans (cond_t h)
                      clear h
                      refine AW_seq1 ?_
                      refine AW_region ?_
                      refine AL_cons (LR_assign (at_c (v' := I64 0) rfl) rfl) (sS sT0 sB0 sF0) ?_
                      refine AL_cons (LR_assign (at_c (v' := Bl false) rfl) rfl) (sS sT0 sB0 sF0) ?_
                      refine AL_cons (LR_assign (at_c (v' := U8 (1#8)) rfl) rfl) (sS sT0 sB0 sF0) ?_
                      refine AL_nil ?_
                      refine thenN ?_
                      refine AW_ret ?_
                      refine thenR ?_
                      obtain rfl := Option.some.inj hr
                      exact res3 rfl (rvT rfl) (rvT rfl) (rvT rfl)
                    · have hr := hr.trans (cond_f h)
                      clear h
                      refine AW_skip ?_
                      refine thenN ?_
                      refine AW_cut (σ := Int) (fun v => ⟨[(9, .inr (.inl (9, 0))), (11, .inr (.inl (11, 0))), (13, .inl (is (I64 v))), (14, .inl (is (U8 (0#8))))], [(9, pb 175 [is (U64 x2), is (Bl x3), is (I8 x4), is (Bl x5), big x6, big x7]), (11, pb 181 [is (I8 x10), is (Bl x11)])]⟩) (fun v => some r = F131_8 N x2 x3 x4 x5 x6 x7 x10 x11 v) ?_ ?_
                      · skip
                        refine AW_region ?_
                        refine AL_cons (LR_move (at_tmp 10 _) rfl) (sS (sT1 rfl) sB0 sF0) ?_
                        obtain ⟨hg5, hr⟩ := guard_some hr
                        refine AL_cons (LR_call Hfaa.func210 rfl rfl (B210 x9 hg5) (all_cons (at_tmp 50 _) all_nil) rfl) (sS (sA (sT1 rfl) sT0) sB0 sF0) ?_
                        refine AL_cons (LR_conv (vx := U64 (BitVec.ofNat 64 x9)) (at_tmp 51 _) (conv_I64 Hfaa.underlying30 Hfaa.underlying2 ((BitVec.ofNat 64 x9).toNat : Int)) rfl) (sS (sT1 rfl) sB0 sF0) ?_
                        refine AL_cons (LR_assign (at_tmp 52 _) rfl) (sS (sT1 rfl) sB0 sF0) ?_
                        refine AL_cons (LR_assign (at_c (v' := U8 (0#8)) rfl) rfl) (sS sT0 sB0 sF0) ?_
                        refine AL_nil ?_
                        exact thenN (cutLeaf (v := w64 ((BitVec.ofNat 64 x9).toNat : Int)) hr (weak0 ((sT rfl (sT rfl (sT rfl (sT rfl sT0))))) (sub_keep (sub_keep sub_nil))))
                      · rintro x15 hr
                        show AW Hfaa.prog _ _ _ ⟨[(9, .inr (.inl (9, 0))), (11, .inr (.inl (11, 0))), (13, .inl (is (I64 x15))), (14, .inl (is (U8 (0#8))))], [(9, pb 175 [is (U64 x2), is (Bl x3), is (I8 x4), is (Bl x5), big x6, big x7]), (11, pb 181 [is (I8 x10), is (Bl x11)])]⟩
                        have hr : some r = F131_8 N x2 x3 x4 x5 x6 x7 x10 x11 x15 := hr
                        refine AW_cut (σ := Int) (fun v => ⟨[(11, .inr (.inl (11, 0))), (13, .inl (is (I64 v))), (14, .inl (is (U8 (0#8))))], [(11, pb 181 [is (I8 x10), is (Bl x11)])]⟩) (fun v => some r = F131_9 N x10 x11 v) ?_ ?_
                        · skip
                          refine AW_seq1 ?_
                          refine AW_region ?_
                          refine AL_cons (LR_fieldAddr (off := 0) (o := 1) (at_tmp 9 _) (fun b w => fa175_1 b 0 w) rfl) (sS (sT1 rfl) sB0 sF0) ?_
                          refine AL_cons (LR_load (at_tmp 53 _) na4 rfl rfl) (sS (sT1 rfl) (sB1 rfl) sF0) ?_
                          refine AL_nil ?_
                          refine thenN ?_
                          refine AW_condT (b := x3) rfl (fun h => ?_) (fun h => ?_)
                          · have hr := hr.trans (cond_t h)
                            clear h
                            refine AW_region ?_
                            refine AL_cons (LR_move (at_tmp 13 _) rfl) (sS (sT1 rfl) sB0 sF0) ?_
                            refine AL_cons (LR_un (at_tmp 55 _) (neg_I64 x15) rfl) (sS (sT1 rfl) sB0 sF0) ?_
                            refine AL_cons (LR_assign (at_tmp 56 _) rfl) (sS (sT1 rfl) sB0 sF0) ?_
                            refine AL_nil ?_
                            exact thenN (cutLeaf (v := w64 (0 - x15)) hr (weak0 ((sT rfl (sT rfl (sT rfl sT0)))) (sub_drop (sub_keep sub_nil))))
                          · have hr := hr.trans (cond_f h)
                            clear h
                            refine AW_skip ?_
                            exact thenN (cutLeaf (v := x15) hr (weak0 ((sT rfl (sT rfl (sT rfl sT0)))) (sub_drop (sub_keep sub_nil))))
                        · rintro x16 hr
                          show AW Hfaa.prog _ _ _ ⟨[(11, .inr (.inl (11, 0))), (13, .inl (is (I64 x16))), (14, .inl (is (U8 (0#8))))], [(11, pb 181 [is (I8 x10), is (Bl x11)])]⟩
                          have hr : some r = F131_9 N x10 x11 x16 := hr
                          refine AW_cut (σ := BitVec 8) (fun v => ⟨[(13, .inl (is (I64 x16))), (14, .inl (is (U8 v)))], []⟩) (fun v => some r = F131_10 N x16 v) ?_ ?_
                          · skip
                            refine AW_seq1 ?_
                            refine AW_region ?_
                            refine AL_cons (LR_fieldAddr (off := 0) (o := 1) (at_tmp 11 _) (fun b w => fa181_1 b 0 w) rfl) (sS (sT1 rfl) sB0 sF0) ?_
                            refine AL_cons (LR_load (at_tmp 57 _) na4 rfl rfl) (sS (sT1 rfl) (sB1 rfl) sF0) ?_
                            refine AL_nil ?_
                            refine thenN ?_
                            refine AW_condT (b := x11) rfl (fun h => ?_) (fun h => ?_)
                            · have hr := hr.trans (cond_t h)
                              clear h
                              refine AW_region ?_
                              refine AL_cons (LR_assign (at_c (v' := U8 (16#8)) rfl) rfl) (sS sT0 sB0 sF0) ?_
                              refine AL_nil ?_
                              exact thenN (cutLeaf (v := 16#8) hr (weak0 ((sT rfl (sT rfl sT0))) (sub_drop sub_nil)))
                            · have hr := hr.trans (cond_f h)
                              clear h
                              refine AW_skip ?_
                              exact thenN (cutLeaf (v := 0#8) hr (weak0 ((sT rfl (sT rfl sT0))) (sub_drop sub_nil)))
                          · rintro x17 hr
                            show AW Hfaa.prog _ _ _ ⟨[(13, .inl (is (I64 x16))), (14, .inl (is (U8 x17)))], []⟩
                            have hr : some r = F131_10 N x16 x17 := hr
                            refine AW_seq1 ?_
                            refine AW_region ?_
                            refine AL_cons (LR_move (at_tmp 13 _) rfl) (sS (sT1 rfl) sB0 sF0) ?_
                            refine AL_cons (LR_move (at_tmp 14 _) rfl) (sS (sT1 rfl) sB0 sF0) ?_
                            refine AL_cons (LR_assign (at_tmp 59 _) rfl) (sS (sT1 rfl) sB0 sF0) ?_
                            refine AL_cons (LR_assign (at_c (v' := Bl true) rfl) rfl) (sS sT0 sB0 sF0) ?_
                            refine AL_cons (LR_assign (at_tmp 60 _) rfl) (sS (sT1 rfl) sB0 sF0) ?_
                            refine AL_nil ?_
                            refine thenN ?_
                            refine AW_ret ?_
                            obtain rfl := Option.some.inj hr
                            exact res3 rfl (rvT rfl) (rvT rfl) (rvT rfl)
end Go.Proofs.YfwaawGreat
