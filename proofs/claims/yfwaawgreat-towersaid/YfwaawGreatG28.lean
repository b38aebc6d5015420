import Derived.Test.YfwaawGreatG1
import Derived.Test.YfwaawGreatG2
import Derived.Test.YfwaawGreatG25
import Derived.Test.YfwaawGreatG26
import Derived.Test.YfwaawGreatG27
namespace Go.Proofs.YfwaawGreat
open Go.Aw
set_option linter.unusedVariables false
set_option maxRecDepth 100000
set_option maxHeartbeats 1000000
/-- soft.AddFlags -/
def F188_6 (N : Nat) (a0_0 : BitVec 8) (a0_1 : BitVec 8) (a1 : BitVec 8) (x2 : Bool) (x3 : Int) (x4 : Int) (x5 : BitVec 64) (x6 : Bool) (x7 : Int) (x8 : Int) (x9 : BitVec 64) (x13 : Bool) : Option (BitVec 64 × BitVec 8) := bif x13 then lt (F67 a0_0 a0_1 x6) fun y25 => some (y25, 0#8) else (F271 N a0_0 a0_1 a1 x2 x3 x4 x5 x6 x7 x8 x9).bind fun y27 => some (y27.1, y27.2)
def F188_5 (N : Nat) (a0_0 : BitVec 8) (a0_1 : BitVec 8) (a1 : BitVec 8) (x2 : Bool) (x3 : Int) (x4 : Int) (x5 : BitVec 64) (x6 : Bool) (x7 : Int) (x8 : Int) (x9 : BitVec 64) (x12 : Bool) : Option (BitVec 64 × BitVec 8) := bif x12 then lt (F67 a0_0 a0_1 x2) fun y23 => some (y23, 0#8) else F188_6 N a0_0 a0_1 a1 x2 x3 x4 x5 x6 x7 x8 x9 (x7 == 3)
def F188_4 (N : Nat) (a0_0 : BitVec 8) (a0_1 : BitVec 8) (a1 : BitVec 8) (x2 : Bool) (x3 : Int) (x4 : Int) (x5 : BitVec 64) (x6 : Bool) (x7 : Int) (x8 : Int) (x9 : BitVec 64) (x11 : Bool) : Option (BitVec 64 × BitVec 8) := bif x11 then lt (F66 a0_0 a0_1) fun y21 => some (y21, 1#8) else F188_5 N a0_0 a0_1 a1 x2 x3 x4 x5 x6 x7 x8 x9 (x3 == 3)
def F188_3 (N : Nat) (a0_0 : BitVec 8) (a0_1 : BitVec 8) (a1 : BitVec 8) (a2 : BitVec 64) (a3 : BitVec 64) (x2 : Bool) (x3 : Int) (x4 : Int) (x5 : BitVec 64) (x6 : Bool) (x7 : Int) (x8 : Int) (x9 : BitVec 64) (x10 : Bool) : Option (BitVec 64 × BitVec 8) := bif x10 then lt (F66 a0_0 a0_1) fun y18 => lt (F214 a0_0 a0_1 a2 a3) fun y19 => some (y18, y19) else F188_4 N a0_0 a0_1 a1 x2 x3 x4 x5 x6 x7 x8 x9 (((x3 == 3) && (x7 == 3)) && (x2 != x6))
def F188_2 (N : Nat) (a0_0 : BitVec 8) (a0_1 : BitVec 8) (a1 : BitVec 8) (a2 : BitVec 64) (a3 : BitVec 64) (x2 : Bool) (x3 : Int) (x4 : Int) (x5 : BitVec 64) (x6 : Bool) (x7 : Int) (x8 : Int) (x9 : BitVec 64) : Option (BitVec 64 × BitVec 8) := F188_3 N a0_0 a0_1 a1 a2 a3 x2 x3 x4 x5 x6 x7 x8 x9 ((x3 == 4) || (x7 == 4))
def F188_1 (N : Nat) (a0_0 : BitVec 8) (a0_1 : BitVec 8) (a1 : BitVec 8) (a2 : BitVec 64) (a3 : BitVec 64) (x1 : Bool) : Option (BitVec 64 × BitVec 8) := bif x1 then some (0#64, 0#8) else lt (F65 a0_0 a0_1 a2) fun y28 => lt (F65 a0_0 a0_1 a3) fun y29 => F188_2 N a0_0 a0_1 a1 a2 a3 y28.1 y28.2.1 y28.2.2.1 y28.2.2.2 y29.1 y29.2.1 y29.2.2.1 y29.2.2.2
def F188 (N : Nat) (a0_0 : BitVec 8) (a0_1 : BitVec 8) (a1 : BitVec 8) (a2 : BitVec 64) (a3 : BitVec 64) : Option (BitVec 64 × BitVec 8) := lt (F40 a0_0 a0_1) fun y30 => F188_1 N a0_0 a0_1 a1 a2 a3 (!y30)
theorem C188 (N : Nat) (a0_0 : BitVec 8) (a0_1 : BitVec 8) (a1 : BitVec 8) (a2 : BitVec 64) (a3 : BitVec 64) (r : BitVec 64 × BitVec 8) (hr : some r = F188 N a0_0 a0_1 a1 a2 a3) : Aw.Fn Hfaa.prog 188 [agg [is (U8 a0_0), is (U8 a0_1)], is (U8 a1), is (U64 a2), is (U64 a3)] (tup [is (U64 r.1), is (U8 r.2)]) := by
  refine fn_intro Hfaa.func188 rfl rfl rfl ?_
  intro bn0 w0 H0
  refine AW_seq1 ?_
  refine AW_region ?_
  refine AL_cons (LR_box (at_tmp 0 _) (cells_agg _) rfl) (sS (sT1 rfl) sB0 (sF1 rfl)) ?_
  refine AL_cons (LR_assign (at_c (v' := U64 (0#64)) rfl) rfl) (sS sT0 sB0 sF0) ?_
  refine AL_cons (LR_assign (at_c (v' := U8 (0#8)) rfl) rfl) (sS sT0 sB0 sF0) ?_
  refine AL_nil ?_
  refine thenN ?_
  refine AW_seq1 ?_
  refine AW_cut (σ := Bool) (fun v => ⟨[(1, .inl (is (U8 a1))), (2, .inl (is (U64 a2))), (3, .inl (is (U64 a3))), (4, .inr (.inl (4, 0))), (14, .inl (is (Bl v)))], [(4, pb 23 [is (U8 a0_0), is (U8 a0_1)])]⟩) (fun v => some r = F188_1 N a0_0 a0_1 a1 a2 a3 v) ?_ ?_
  · skip
    refine AW_region ?_
    refine AL_cons (LR_loads (at_tmp 4 _) ag23 sz23 rfl rfl rfl) (sS (sT1 rfl) (sB1 rfl) sF0) ?_
    obtain ⟨y30, hy30, hr⟩ := lt_some hr
    refine AL_cons (LR_call Hfaa.func40 rfl rfl (C40 a0_0 a0_1 y30 hy30) (all_cons (at_tmp 12 _) all_nil) rfl) (sS (sA (sT1 rfl) sT0) sB0 sF0) ?_
    refine AL_cons (LR_un (at_tmp 13 _) (not_Bl y30) rfl) (sS (sT1 rfl) sB0 sF0) ?_
    refine AL_nil ?_
    exact thenN (cutLeaf (v := !y30) hr (weak0 ((sT rfl (sT rfl (sT rfl (sT rfl (sT rfl sT0)))))) (sub_keep sub_nil)))
  · rintro x1 hr
    show AW Hfaa.prog _ _ _ ⟨[(1, .inl (is (U8 a1))), (2, .inl (is (U64 a2))), (3, .inl (is (U64 a3))), (4, .inr (.inl (4, 0))), (14, .inl (is (Bl x1)))], [(4, pb 23 [is (U8 a0_0), is (U8 a0_1)])]⟩
    have hr : some r = F188_1 N a0_0 a0_1 a1 a2 a3 x1 := hr
    refine AW_condT (b := x1) rfl (fun h => ?_) (fun h => ?_)
    · have hr := hr.trans (cond_t h)
      clear h
      refine AW_seq1 ?_
      refine AW_region ?_
      refine AL_cons (LR_assign (at_c (v' := U64 (0#64)) rfl) rfl) (sS sT0 sB0 sF0) ?_
      refine AL_cons (LR_assign (at_c (v' := U8 (0#8)) rfl) rfl) (sS sT0 sB0 sF0) ?_
      refine AL_nil ?_
      refine thenN ?_
      refine AW_ret ?_
      refine thenR ?_
      obtain rfl := Option.some.inj hr
      exact res2 rfl (rvT rfl) (rvT rfl)
    · have hr := hr.trans (cond_f h)
      clear h
      refine AW_skip ?_
      refine thenN ?_
      refine AW_cut (σ := Bool × Int × Int × BitVec 64 × Bool × Int × Int × BitVec 64) (fun v => ⟨[(1, .inl (is (U8 a1))), (2, .inl (is (U64 a2))), (3, .inl (is (U64 a3))), (4, .inr (.inl (4, 0))), (10, .inr (.inl (10, 0))), (11, .inr (.inl (11, 0)))], [(4, pb 23 [is (U8 a0_0), is (U8 a0_1)]), (10, pb 112 [is (Bl v.1), is (I8 v.2.1), is (I16 v.2.2.1), is (U64 v.2.2.2.1)]), (11, pb 112 [is (Bl v.2.2.2.2.1), is (I8 v.2.2.2.2.2.1), is (I16 v.2.2.2.2.2.2.1), is (U64 v.2.2.2.2.2.2.2)])]⟩) (fun v => some r = F188_2 N a0_0 a0_1 a1 a2 a3 v.1 v.2.1 v.2.2.1 v.2.2.2.1 v.2.2.2.2.1 v.2.2.2.2.2.1 v.2.2.2.2.2.2.1 v.2.2.2.2.2.2.2) ?_ ?_
      · skip
        obtain ⟨y28, hy28, hr⟩ := lt_some hr
        obtain ⟨y29, hy29, hr⟩ := lt_some hr
        refine AW_draw mixed
          (lrC (LR_loads (at_tmp 4 _) ag23 sz23 rfl rfl rfl)
          (lrC (LR_move (at_tmp 2 _) rfl)
          (lrC (LR_call Hfaa.func65 rfl rfl (C65 a0_0 a0_1 a2 y28 hy28) (all_cons (at_tmp 15 _) (all_cons (at_tmp 16 _) all_nil)) rfl)
          (lrC (LR_loads (at_tmp 4 _) ag23 sz23 rfl rfl rfl)
          (lrC (LR_move (at_tmp 3 _) rfl)
          (lrC (LR_call Hfaa.func65 rfl rfl (C65 a0_0 a0_1 a3 y29 hy29) (all_cons (at_tmp 18 _) (all_cons (at_tmp 19 _) all_nil)) rfl)
          (lrC (zl112 rfl)
          (lrC (zl112 rfl)
          (lrC (LR_store (at_tmp 10 _) (at_tmp 17 _) (cells_agg _) (onC (one_is rfl) (onC (one_is rfl) (onC (one_is rfl) (onC (one_is rfl) onN)))) sz112 rfl rfl)
          (lrC (LR_store (at_tmp 11 _) (at_tmp 20 _) (cells_agg _) (onC (one_is rfl) (onC (one_is rfl) (onC (one_is rfl) (onC (one_is rfl) onN)))) sz112 rfl rfl)
          lrN))))))))))
          (by kernel_rfl)
          (saC (sS (sT1 rfl) (sB1 rfl) sF0) (saC (sS (sT1 rfl) sB0 sF0) (saC (sS (sA (sT1 rfl) (sA (sT1 rfl) sT0)) sB0 sF0) (saC (sS (sT1 rfl) (sB1 rfl) sF0) (saC (sS (sT1 rfl) sB0 sF0) (saC (sS (sA (sT1 rfl) (sA (sT1 rfl) sT0)) sB0 sF0) (saC (sS sT0 sB0 (sF1 rfl)) (saC (sS sT0 sB0 (sF1 rfl)) (saC (sS (sA (sT1 rfl) (sT1 rfl)) (sB1 rfl) sF0) (saC (sS (sA (sT1 rfl) (sT1 rfl)) (sB1 rfl) sF0) saN)))))))))) ?_
        exact thenN (cutLeaf (v := (y28.1, y28.2.1, y28.2.2.1, y28.2.2.2, y29.1, y29.2.1, y29.2.2.1, y29.2.2.2)) hr (weak0 ((sT rfl (sT rfl (sT rfl (sT rfl (sT rfl (sT rfl sT0))))))) (sub_keep (sub_keep (sub_keep sub_nil)))))
      · rintro ⟨x2, x3, x4, x5, x6, x7, x8, x9⟩ hr
        show AW Hfaa.prog _ _ _ ⟨[(1, .inl (is (U8 a1))), (2, .inl (is (U64 a2))), (3, .inl (is (U64 a3))), (4, .inr (.inl (4, 0))), (10, .inr (.inl (10, 0))), (11, .inr (.inl (11, 0)))], [(4, pb 23 [is (U8 a0_0), is (U8 a0_1)]), (10, pb 112 [is (Bl x2), is (I8 x3), is (I16 x4), is (U64 x5)]), (11, pb 112 [is (Bl x6), is (I8 x7), is (I16 x8), is (U64 x9)])]⟩
        have hr : some r = F188_2 N a0_0 a0_1 a1 a2 a3 x2 x3 x4 x5 x6 x7 x8 x9 := hr
        refine AW_seq1 ?_
        refine AW_block ?_
        refine AW_cut (σ := Bool) (fun v => ⟨[(1, .inl (is (U8 a1))), (2, .inl (is (U64 a2))), (3, .inl (is (U64 a3))), (4, .inr (.inl (4, 0))), (10, .inr (.inl (10, 0))), (11, .inr (.inl (11, 0))), (21, .inl (is (Bl v)))], [(4, pb 23 [is (U8 a0_0), is (U8 a0_1)]), (10, pb 112 [is (Bl x2), is (I8 x3), is (I16 x4), is (U64 x5)]), (11, pb 112 [is (Bl x6), is (I8 x7), is (I16 x8), is (U64 x9)])]⟩) (fun v => some r = F188_3 N a0_0 a0_1 a1 a2 a3 x2 x3 x4 x5 x6 x7 x8 x9 v) ?_ ?_
        · skip
          refine AW_region ?_
          refine AL_cons (LR_fieldAddr (off := 0) (o := 1) (at_tmp 10 _) (fun b w => fa112_1 b 0 w) rfl) (sS (sT1 rfl) sB0 sF0) ?_
          refine AL_cons (LR_load (at_tmp 22 _) na110 rfl rfl) (sS (sT1 rfl) (sB1 rfl) sF0) ?_
          refine AL_cons (LR_bin (at_tmp 23 _) (at_c (v' := I8 4) rfl) (eql_I8 x3 4) rfl) (sS (sA (sT1 rfl) sT0) sB0 sF0) ?_
          refine AL_cons (LR_move (at_tmp 24 _) rfl) (sS (sT1 rfl) sB0 sF0) ?_
          refine AL_cutAt 4 ⟨[(1, .inl (is (U8 a1))), (2, .inl (is (U64 a2))), (3, .inl (is (U64 a3))), (4, .inr (.inl (4, 0))), (10, .inr (.inl (10, 0))), (11, .inr (.inl (11, 0))), (22, .inr (.inl (10, 1))), (23, .inl (is (I8 x3))), (24, .inl (is (Bl (x3 == 4)))), (25, .inl (is (Bl (x3 == 4)))), (29, .inl (is (Bl ((x3 == 4) || (x7 == 4)))))], [(4, pb 23 [is (U8 a0_0), is (U8 a0_1)]), (10, pb 112 [is (Bl x2), is (I8 x3), is (I16 x4), is (U64 x5)]), (11, pb 112 [is (Bl x6), is (I8 x7), is (I16 x8), is (U64 x9)])]⟩ ?_ ?_
          · cases hb : x3 == 4
            · skip
              refine AL_cons (LR_on rfl rfl rfl (LR_fieldAddr (off := 0) (o := 1) (at_tmp 11 _) (fun b w => fa112_1 b 0 w) rfl)) (sS (sT rfl (sT1 rfl)) sB0 sF0) ?_
              refine AL_cons (LR_on rfl rfl rfl (LR_load (at_tmp 26 _) na110 rfl rfl)) (sS (sT rfl (sT1 rfl)) (sB1 rfl) sF0) ?_
              refine AL_cons (LR_on rfl rfl rfl (LR_bin (at_tmp 27 _) (at_c (v' := I8 4) rfl) (eql_I8 x7 4) rfl)) (sS (sT rfl (sA (sT1 rfl) sT0)) sB0 sF0) ?_
              refine AL_cons (LR_pick (b := false) (at_tmp 25 _) (at_c (v' := Bl true) rfl) (at_tmp 28 _) rfl) (sS (sA (sT1 rfl) (sA sT0 (sT1 rfl))) sB0 sF0) ?_
              exact AL_nil ⟨rfl, weak0 ((sT rfl (sT rfl (sT rfl (sT rfl (sT rfl (sT rfl (sT rfl (sT rfl (sT rfl (sT rfl (sT rfl sT0)))))))))))) (sub_keep (sub_keep (sub_keep sub_nil)))⟩
            · skip
              refine AL_cons (LR_off (b := true) rfl rfl rfl rfl) (sS (sT1 rfl) sB0 sF0) ?_
              refine AL_cons (LR_off (b := true) rfl rfl rfl rfl) (sS (sT1 rfl) sB0 sF0) ?_
              refine AL_cons (LR_off (b := true) rfl rfl rfl rfl) (sS (sT1 rfl) sB0 sF0) ?_
              refine AL_cons (LR_pick (b := true) (at_tmp 25 _) (at_c (v' := Bl true) rfl) (at_tmp 28 _) rfl) (sS (sA (sT1 rfl) (sA sT0 (sT1 rfl))) sB0 sF0) ?_
              exact AL_nil ⟨rfl, weak0 ((sT rfl (sT rfl (sT rfl (sT rfl (sT rfl (sT rfl (sT rfl (sT rfl (sT rfl (sT rfl (sT rfl sT0)))))))))))) (sub_keep (sub_keep (sub_keep sub_nil)))⟩
          refine AL_cons (LR_assign (at_tmp 29 _) rfl) (sS (sT1 rfl) sB0 sF0) ?_
          refine AL_nil ?_
          exact thenN (cutLeaf (v := (x3 == 4) || (x7 == 4)) hr (weak0 ((sT rfl (sT rfl (sT rfl (sT rfl (sT rfl (sT rfl (sT rfl sT0)))))))) (sub_keep (sub_keep (sub_keep sub_nil)))))
        · rintro x10 hr
          show AW Hfaa.prog _ _ _ ⟨[(1, .inl (is (U8 a1))), (2, .inl (is (U64 a2))), (3, .inl (is (U64 a3))), (4, .inr (.inl (4, 0))), (10, .inr (.inl (10, 0))), (11, .inr (.inl (11, 0))), (21, .inl (is (Bl x10)))], [(4, pb 23 [is (U8 a0_0), is (U8 a0_1)]), (10, pb 112 [is (Bl x2), is (I8 x3), is (I16 x4), is (U64 x5)]), (11, pb 112 [is (Bl x6), is (I8 x7), is (I16 x8), is (U64 x9)])]⟩
          have hr : some r = F188_3 N a0_0 a0_1 a1 a2 a3 x2 x3 x4 x5 x6 x7 x8 x9 x10 := hr
          refine AW_condT (b := x10) rfl (fun h => ?_) (fun h => ?_)
          · have hr := hr.trans (cond_t h)
            clear h
            refine AW_seq1 ?_
            obtain ⟨y18, hy18, hr⟩ := lt_some hr
            obtain ⟨y19, hy19, hr⟩ := lt_some hr
            refine AW_draw mixed
              (lrC (LR_loads (at_tmp 4 _) ag23 sz23 rfl rfl rfl)
              (lrC (LR_call Hfaa.func66 rfl rfl (C66 a0_0 a0_1 y18 hy18) (all_cons (at_tmp 30 _) all_nil) rfl)
              (lrC (LR_loads (at_tmp 4 _) ag23 sz23 rfl rfl rfl)
              (lrC (LR_move (at_tmp 2 _) rfl)
              (lrC (LR_move (at_tmp 3 _) rfl)
              (lrC (LR_call Hfaa.func214 rfl rfl (C214 a0_0 a0_1 a2 a3 y19 hy19) (all_cons (at_tmp 32 _) (all_cons (at_tmp 33 _) (all_cons (at_tmp 34 _) all_nil))) rfl)
              (lrC (LR_assign (at_tmp 31 _) rfl)
              (lrC (LR_assign (at_tmp 35 _) rfl)
              lrN))))))))
              (by kernel_rfl)
              (saC (sS (sT1 rfl) (sB1 rfl) sF0) (saC (sS (sA (sT1 rfl) sT0) sB0 sF0) (saC (sS (sT1 rfl) (sB1 rfl) sF0) (saC (sS (sT1 rfl) sB0 sF0) (saC (sS (sT1 rfl) sB0 sF0) (saC (sS (sA (sT1 rfl) (sA (sT1 rfl) (sA (sT1 rfl) sT0))) sB0 sF0) (saC (sS (sT1 rfl) sB0 sF0) (saC (sS (sT1 rfl) sB0 sF0) saN)))))))) ?_
            refine thenN ?_
            refine AW_ret ?_
            refine blR ?_
            refine thenR ?_
            obtain rfl := Option.some.inj hr
            exact res2 rfl (rvT rfl) (rvT rfl)
          · have hr := hr.trans (cond_f h)
            clear h
            refine AW_cut (σ := Bool) (fun v => ⟨[(1, .inl (is (U8 a1))), (4, .inr (.inl (4, 0))), (10, .inr (.inl (10, 0))), (11, .inr (.inl (11, 0))), (36, .inl (is (Bl v)))], [(4, pb 23 [is (U8 a0_0), is (U8 a0_1)]), (10, pb 112 [is (Bl x2), is (I8 x3), is (I16 x4), is (U64 x5)]), (11, pb 112 [is (Bl x6), is (I8 x7), is (I16 x8), is (U64 x9)])]⟩) (fun v => some r = F188_4 N a0_0 a0_1 a1 x2 x3 x4 x5 x6 x7 x8 x9 v) ?_ ?_
            · skip
              refine AW_region ?_
              refine AL_cons (LR_fieldAddr (off := 0) (o := 1) (at_tmp 10 _) (fun b w => fa112_1 b 0 w) rfl) (sS (sT1 rfl) sB0 sF0) ?_
              refine AL_cons (LR_load (at_tmp 37 _) na110 rfl rfl) (sS (sT1 rfl) (sB1 rfl) sF0) ?_
              refine AL_cons (LR_bin (at_tmp 38 _) (at_c (v' := I8 3) rfl) (eql_I8 x3 3) rfl) (sS (sA (sT1 rfl) sT0) sB0 sF0) ?_
              refine AL_cons (LR_move (at_tmp 39 _) rfl) (sS (sT1 rfl) sB0 sF0) ?_
              refine AL_cutAt 4 ⟨[(1, .inl (is (U8 a1))), (2, .inl (is (U64 a2))), (3, .inl (is (U64 a3))), (4, .inr (.inl (4, 0))), (10, .inr (.inl (10, 0))), (11, .inr (.inl (11, 0))), (21, .inl (is (Bl x10))), (37, .inr (.inl (10, 1))), (38, .inl (is (I8 x3))), (39, .inl (is (Bl (x3 == 3)))), (40, .inl (is (Bl (x3 == 3)))), (44, .inl (is (Bl ((x3 == 3) && (x7 == 3)))))], [(4, pb 23 [is (U8 a0_0), is (U8 a0_1)]), (10, pb 112 [is (Bl x2), is (I8 x3), is (I16 x4), is (U64 x5)]), (11, pb 112 [is (Bl x6), is (I8 x7), is (I16 x8), is (U64 x9)])]⟩ ?_ ?_
              · cases hb : x3 == 3
                · skip
                  refine AL_cons (LR_off (b := false) rfl rfl rfl rfl) (sS (sT1 rfl) sB0 sF0) ?_
                  refine AL_cons (LR_off (b := false) rfl rfl rfl rfl) (sS (sT1 rfl) sB0 sF0) ?_
                  refine AL_cons (LR_off (b := false) rfl rfl rfl rfl) (sS (sT1 rfl) sB0 sF0) ?_
                  refine AL_cons (LR_pick (b := false) (at_tmp 40 _) (at_tmp 43 _) (at_c (v' := Bl false) rfl) rfl) (sS (sA (sT1 rfl) (sA (sT1 rfl) sT0)) sB0 sF0) ?_
                  exact AL_nil ⟨rfl, weak0 ((sT rfl (sT rfl (sT rfl (sT rfl (sT rfl (sT rfl (sT rfl (sT rfl (sT rfl (sT rfl (sT rfl (sT rfl sT0))))))))))))) (sub_keep (sub_keep (sub_keep sub_nil)))⟩
                · skip
                  refine AL_cons (LR_on rfl rfl rfl (LR_fieldAddr (off := 0) (o := 1) (at_tmp 11 _) (fun b w => fa112_1 b 0 w) rfl)) (sS (sT rfl (sT1 rfl)) sB0 sF0) ?_
                  refine AL_cons (LR_on rfl rfl rfl (LR_load (at_tmp 41 _) na110 rfl rfl)) (sS (sT rfl (sT1 rfl)) (sB1 rfl) sF0) ?_
                  refine AL_cons (LR_on rfl rfl rfl (LR_bin (at_tmp 42 _) (at_c (v' := I8 3) rfl) (eql_I8 x7 3) rfl)) (sS (sT rfl (sA (sT1 rfl) sT0)) sB0 sF0) ?_
                  refine AL_cons (LR_pick (b := true) (at_tmp 40 _) (at_tmp 43 _) (at_c (v' := Bl false) rfl) rfl) (sS (sA (sT1 rfl) (sA (sT1 rfl) sT0)) sB0 sF0) ?_
                  exact AL_nil ⟨rfl, weak0 ((sT rfl (sT rfl (sT rfl (sT rfl (sT rfl (sT rfl (sT rfl (sT rfl (sT rfl (sT rfl (sT rfl (sT rfl sT0))))))))))))) (sub_keep (sub_keep (sub_keep sub_nil)))⟩
              refine AL_cons (LR_move (at_tmp 44 _) rfl) (sS (sT1 rfl) sB0 sF0) ?_
              refine AL_cutAt 6 ⟨[(1, .inl (is (U8 a1))), (2, .inl (is (U64 a2))), (3, .inl (is (U64 a3))), (4, .inr (.inl (4, 0))), (10, .inr (.inl (10, 0))), (11, .inr (.inl (11, 0))), (21, .inl (is (Bl x10))), (37, .inr (.inl (10, 1))), (38, .inl (is (I8 x3))), (39, .inl (is (Bl (x3 == 3)))), (40, .inl (is (Bl (x3 == 3)))), (44, .inl (is (Bl ((x3 == 3) && (x7 == 3))))), (45, .inl (is (Bl ((x3 == 3) && (x7 == 3))))), (51, .inl (is (Bl (((x3 == 3) && (x7 == 3)) && (x2 != x6)))))], [(4, pb 23 [is (U8 a0_0), is (U8 a0_1)]), (10, pb 112 [is (Bl x2), is (I8 x3), is (I16 x4), is (U64 x5)]), (11, pb 112 [is (Bl x6), is (I8 x7), is (I16 x8), is (U64 x9)])]⟩ ?_ ?_
              · cases hb : (x3 == 3) && (x7 == 3)
                · skip
                  refine AL_cons (LR_off (b := false) rfl rfl rfl rfl) (sS (sT1 rfl) sB0 sF0) ?_
                  refine AL_cons (LR_off (b := false) rfl rfl rfl rfl) (sS (sT1 rfl) sB0 sF0) ?_
                  refine AL_cons (LR_off (b := false) rfl rfl rfl rfl) (sS (sT1 rfl) sB0 sF0) ?_
                  refine AL_cons (LR_off (b := false) rfl rfl rfl rfl) (sS (sT1 rfl) sB0 sF0) ?_
                  refine AL_cons (LR_off (b := false) rfl rfl rfl rfl) (sS (sT1 rfl) sB0 sF0) ?_
                  refine AL_cons (LR_pick (b := false) (at_tmp 45 _) (at_tmp 50 _) (at_c (v' := Bl false) rfl) rfl) (sS (sA (sT1 rfl) (sA (sT1 rfl) sT0)) sB0 sF0) ?_
                  exact AL_nil ⟨rfl, weak0 ((sT rfl (sT rfl (sT rfl (sT rfl (sT rfl (sT rfl (sT rfl (sT rfl (sT rfl (sT rfl (sT rfl (sT rfl (sT rfl (sT rfl sT0))))))))))))))) (sub_keep (sub_keep (sub_keep sub_nil)))⟩
                · skip
                  refine AL_cons (LR_on rfl rfl rfl (LR_fieldAddr (off := 0) (o := 0) (at_tmp 10 _) (fun b w => fa112_0 b 0 w) rfl)) (sS (sT rfl (sT1 rfl)) sB0 sF0) ?_
                  refine AL_cons (LR_on rfl rfl rfl (LR_load (at_tmp 46 _) na4 rfl rfl)) (sS (sT rfl (sT1 rfl)) (sB1 rfl) sF0) ?_
                  refine AL_cons (LR_on rfl rfl rfl (LR_fieldAddr (off := 0) (o := 0) (at_tmp 11 _) (fun b w => fa112_0 b 0 w) rfl)) (sS (sT rfl (sT1 rfl)) sB0 sF0) ?_
                  refine AL_cons (LR_on rfl rfl rfl (LR_load (at_tmp 48 _) na4 rfl rfl)) (sS (sT rfl (sT1 rfl)) (sB1 rfl) sF0) ?_
                  refine AL_cons (LR_on rfl rfl rfl (LR_bin (at_tmp 47 _) (at_tmp 49 _) (neq_Bl Hfaa.underlying4 x2 x6) rfl)) (sS (sT rfl (sA (sT1 rfl) (sT1 rfl))) sB0 sF0) ?_
                  refine AL_cons (LR_pick (b := true) (at_tmp 45 _) (at_tmp 50 _) (at_c (v' := Bl false) rfl) rfl) (sS (sA (sT1 rfl) (sA (sT1 rfl) sT0)) sB0 sF0) ?_
                  exact AL_nil ⟨rfl, weak0 ((sT rfl (sT rfl (sT rfl (sT rfl (sT rfl (sT rfl (sT rfl (sT rfl (sT rfl (sT rfl (sT rfl (sT rfl (sT rfl (sT rfl sT0))))))))))))))) (sub_keep (sub_keep (sub_keep sub_nil)))⟩
              refine AL_cons (LR_assign (at_tmp 51 _) rfl) (sS (sT1 rfl) sB0 sF0) ?_
              refine AL_nil ?_
              exact thenN (cutLeaf (v := ((x3 == 3) && (x7 == 3)) && (x2 != x6)) hr (weak0 ((sT rfl (sT rfl (sT rfl (sT rfl (sT rfl sT0)))))) (sub_keep (sub_keep (sub_keep sub_nil)))))
            · rintro x11 hr
              show AW Hfaa.prog _ _ _ ⟨[(1, .inl (is (U8 a1))), (4, .inr (.inl (4, 0))), (10, .inr (.inl (10, 0))), (11, .inr (.inl (11, 0))), (36, .inl (is (Bl x11)))], [(4, pb 23 [is (U8 a0_0), is (U8 a0_1)]), (10, pb 112 [is (Bl x2), is (I8 x3), is (I16 x4), is (U64 x5)]), (11, pb 112 [is (Bl x6), is (I8 x7), is (I16 x8), is (U64 x9)])]⟩
              have hr : some r = F188_4 N a0_0 a0_1 a1 x2 x3 x4 x5 x6 x7 x8 x9 x11 := hr
              refine AW_condT (b := x11) rfl (fun h => ?_) (fun h => ?_)
              · have hr := hr.trans (cond_t h)
                clear h
                refine AW_seq1 ?_
                refine AW_region ?_
                refine AL_cons (LR_loads (at_tmp 4 _) ag23 sz23 rfl rfl rfl) (sS (sT1 rfl) (sB1 rfl) sF0) ?_
                obtain ⟨y21, hy21, hr⟩ := lt_some hr
                refine AL_cons (LR_call Hfaa.func66 rfl rfl (C66 a0_0 a0_1 y21 hy21) (all_cons (at_tmp 52 _) all_nil) rfl) (sS (sA (sT1 rfl) sT0) sB0 sF0) ?_
                refine AL_cons (LR_assign (at_tmp 53 _) rfl) (sS (sT1 rfl) sB0 sF0) ?_
                refine AL_cons (LR_assign (at_c (v' := U8 (1#8)) rfl) rfl) (sS sT0 sB0 sF0) ?_
                refine AL_nil ?_
                refine thenN ?_
                refine AW_ret ?_
                refine blR ?_
                refine thenR ?_
                obtain rfl := Option.some.inj hr
                exact res2 rfl (rvT rfl) (rvT rfl)
              · have hr := hr.trans (cond_f h)
                clear h
                refine AW_cut (σ := Bool) (fun v => ⟨[(1, .inl (is (U8 a1))), (4, .inr (.inl (4, 0))), (10, .inr (.inl (10, 0))), (11, .inr (.inl (11, 0))), (54, .inl (is (Bl v)))], [(4, pb 23 [is (U8 a0_0), is (U8 a0_1)]), (10, pb 112 [is (Bl x2), is (I8 x3), is (I16 x4), is (U64 x5)]), (11, pb 112 [is (Bl x6), is (I8 x7), is (I16 x8), is (U64 x9)])]⟩) (fun v => some r = F188_5 N a0_0 a0_1 a1 x2 x3 x4 x5 x6 x7 x8 x9 v) ?_ ?_
                · skip
                  refine AW_region ?_
                  refine AL_cons (LR_fieldAddr (off := 0) (o := 1) (at_tmp 10 _) (fun b w => fa112_1 b 0 w) rfl) (sS (sT1 rfl) sB0 sF0) ?_
                  refine AL_cons (LR_load (at_tmp 55 _) na110 rfl rfl) (sS (sT1 rfl) (sB1 rfl) sF0) ?_
                  refine AL_cons (LR_bin (at_tmp 56 _) (at_c (v' := I8 3) rfl) (eql_I8 x3 3) rfl) (sS (sA (sT1 rfl) sT0) sB0 sF0) ?_
                  refine AL_cons (LR_assign (at_tmp 57 _) rfl) (sS (sT1 rfl) sB0 sF0) ?_
                  refine AL_nil ?_
                  exact thenN (cutLeaf (v := x3 == 3) hr (weak0 ((sT rfl (sT rfl (sT rfl (sT rfl (sT rfl sT0)))))) (sub_keep (sub_keep (sub_keep sub_nil)))))
                · rintro x12 hr
                  show AW Hfaa.prog _ _ _ ⟨[(1, .inl (is (U8 a1))), (4, .inr (.inl (4, 0))), (10, .inr (.inl (10, 0))), (11, .inr (.inl (11, 0))), (54, .inl (is (Bl x12)))], [(4, pb 23 [is (U8 a0_0), is (U8 a0_1)]), (10, pb 112 [is (Bl x2), is (I8 x3), is (I16 x4), is (U64 x5)]), (11, pb 112 [is (Bl x6), is (I8 x7), is (I16 x8), is (U64 x9)])]⟩
                  have hr : some r = F188_5 N a0_0 a0_1 a1 x2 x3 x4 x5 x6 x7 x8 x9 x12 := hr
                  refine AW_condT (b := x12) rfl (fun h => ?_) (fun h => ?_)
                  · have hr := hr.trans (cond_t h)
                    clear h
                    refine AW_seq1 ?_
                    refine AW_region ?_
                    refine AL_cons (LR_loads (at_tmp 4 _) ag23 sz23 rfl rfl rfl) (sS (sT1 rfl) (sB1 rfl) sF0) ?_
                    refine AL_cons (LR_fieldAddr (off := 0) (o := 0) (at_tmp 10 _) (fun b w => fa112_0 b 0 w) rfl) (sS (sT1 rfl) sB0 sF0) ?_
                    refine AL_cons (LR_load (at_tmp 59 _) na4 rfl rfl) (sS (sT1 rfl) (sB1 rfl) sF0) ?_
                    obtain ⟨y23, hy23, hr⟩ := lt_some hr
                    refine AL_cons (LR_call Hfaa.func67 rfl rfl (C67 a0_0 a0_1 x2 y23 hy23) (all_cons (at_tmp 58 _) (all_cons (at_tmp 60 _) all_nil)) rfl) (sS (sA (sT1 rfl) (sA (sT1 rfl) sT0)) sB0 sF0) ?_
                    refine AL_cons (LR_assign (at_tmp 61 _) rfl) (sS (sT1 rfl) sB0 sF0) ?_
                    refine AL_cons (LR_assign (at_c (v' := U8 (0#8)) rfl) rfl) (sS sT0 sB0 sF0) ?_
                    refine AL_nil ?_
                    refine thenN ?_
                    refine AW_ret ?_
                    refine blR ?_
                    refine thenR ?_
                    obtain rfl := Option.some.inj hr
                    exact res2 rfl (rvT rfl) (rvT rfl)
                  · have hr := hr.trans (cond_f h)
                    clear h
                    refine AW_cut (σ := Bool) (fun v => ⟨[(1, .inl (is (U8 a1))), (4, .inr (.inl (4, 0))), (10, .inr (.inl (10, 0))), (11, .inr (.inl (11, 0))), (62, .inl (is (Bl v)))], [(4, pb 23 [is (U8 a0_0), is (U8 a0_1)]), (10, pb 112 [is (Bl x2), is (I8 x3), is (I16 x4), is (U64 x5)]), (11, pb 112 [is (Bl x6), is (I8 x7), is (I16 x8), is (U64 x9)])]⟩) (fun v => some r = F188_6 N a0_0 a0_1 a1 x2 x3 x4 x5 x6 x7 x8 x9 v) ?_ ?_
                    · skip
                      refine AW_region ?_
                      refine AL_cons (LR_fieldAddr (off := 0) (o := 1) (at_tmp 11 _) (fun b w => fa112_1 b 0 w) rfl) (sS (sT1 rfl) sB0 sF0) ?_
                      refine AL_cons (LR_load (at_tmp 63 _) na110 rfl rfl) (sS (sT1 rfl) (sB1 rfl) sF0) ?_
                      refine AL_cons (LR_bin (at_tmp 64 _) (at_c (v' := I8 3) rfl) (eql_I8 x7 3) rfl) (sS (sA (sT1 rfl) sT0) sB0 sF0) ?_
                      refine AL_cons (LR_assign (at_tmp 65 _) rfl) (sS (sT1 rfl) sB0 sF0) ?_
                      refine AL_nil ?_
                      exact thenN (cutLeaf (v := x7 == 3) hr (weak0 ((sT rfl (sT rfl (sT rfl (sT rfl (sT rfl sT0)))))) (sub_keep (sub_keep (sub_keep sub_nil)))))
                    · rintro x13 hr
                      show AW Hfaa.prog _ _ _ ⟨[(1, .inl (is (U8 a1))), (4, .inr (.inl (4, 0))), (10, .inr (.inl (10, 0))), (11, .inr (.inl (11, 0))), (62, .inl (is (Bl x13)))], [(4, pb 23 [is (U8 a0_0), is (U8 a0_1)]), (10, pb 112 [is (Bl x2), is (I8 x3), is (I16 x4), is (U64 x5)]), (11, pb 112 [is (Bl x6), is (I8 x7), is (I16 x8), is (U64 x9)])]⟩
                      have hr : some r = F188_6 N a0_0 a0_1 a1 x2 x3 x4 x5 x6 x7 x8 x9 x13 := hr
                      refine AW_condT (b := x13) rfl (fun h => ?_) (fun h => ?_)
                      · have hr := hr.trans (cond_t h)
                        clear h
                        refine AW_seq1 ?_
                        refine AW_region ?_
                        refine AL_cons (LR_loads (at_tmp 4 _) ag23 sz23 rfl rfl rfl) (sS (sT1 rfl) (sB1 rfl) sF0) ?_
                        refine AL_cons (LR_fieldAddr (off := 0) (o := 0) (at_tmp 11 _) (fun b w => fa112_0 b 0 w) rfl) (sS (sT1 rfl) sB0 sF0) ?_
                        refine AL_cons (LR_load (at_tmp 67 _) na4 rfl rfl) (sS (sT1 rfl) (sB1 rfl) sF0) ?_
                        obtain ⟨y25, hy25, hr⟩ := lt_some hr
                        refine AL_cons (LR_call Hfaa.func67 rfl rfl (C67 a0_0 a0_1 x6 y25 hy25) (all_cons (at_tmp 66 _) (all_cons (at_tmp 68 _) all_nil)) rfl) (sS (sA (sT1 rfl) (sA (sT1 rfl) sT0)) sB0 sF0) ?_
                        refine AL_cons (LR_assign (at_tmp 69 _) rfl) (sS (sT1 rfl) sB0 sF0) ?_
                        refine AL_cons (LR_assign (at_c (v' := U8 (0#8)) rfl) rfl) (sS sT0 sB0 sF0) ?_
                        refine AL_nil ?_
                        refine thenN ?_
                        refine AW_ret ?_
                        refine blR ?_
                        refine thenR ?_
                        obtain rfl := Option.some.inj hr
                        exact res2 rfl (rvT rfl) (rvT rfl)
                      · have hr := hr.trans (cond_f h)
                        clear h
                        refine AW_skip ?_
                        refine blN ?_
                        refine thenN ?_
                        refine AW_seq1 ?_
                        refine AW_region ?_
                        refine AL_cons (LR_loads (at_tmp 4 _) ag23 sz23 rfl rfl rfl) (sS (sT1 rfl) (sB1 rfl) sF0) ?_
                        refine AL_cons (LR_move (at_tmp 1 _) rfl) (sS (sT1 rfl) sB0 sF0) ?_
                        refine AL_cons (LR_loads (at_tmp 10 _) ag112 sz112 rfl rfl rfl) (sS (sT1 rfl) (sB1 rfl) sF0) ?_
                        refine AL_cons (LR_loads (at_tmp 11 _) ag112 sz112 rfl rfl rfl) (sS (sT1 rfl) (sB1 rfl) sF0) ?_
                        obtain ⟨y27, hy27, hr⟩ := bind_some hr
                        refine AL_cons (LR_call Hfaa.func271 rfl rfl (C271 N a0_0 a0_1 a1 x2 x3 x4 x5 x6 x7 x8 x9 y27 hy27) (all_cons (at_tmp 70 _) (all_cons (at_tmp 71 _) (all_cons (at_tmp 72 _) (all_cons (at_tmp 73 _) all_nil)))) rfl) (sS (sA (sT1 rfl) (sA (sT1 rfl) (sA (sT1 rfl) (sA (sT1 rfl) sT0)))) sB0 sF0) ?_
                        refine AL_cons (LR_extract (at_tmp 74 _) rfl rfl) (sS (sT1 rfl) sB0 sF0) ?_
                        refine AL_cons (LR_extract (at_tmp 74 _) rfl rfl) (sS (sT1 rfl) sB0 sF0) ?_
                        refine AL_cons (LR_assign (at_tmp 75 _) rfl) (sS (sT1 rfl) sB0 sF0) ?_
                        refine AL_cons (LR_assign (at_tmp 76 _) rfl) (sS (sT1 rfl) sB0 sF0) ?_
                        refine AL_nil ?_
                        refine thenN ?_
                        refine AW_ret ?_
                        obtain rfl := Option.some.inj hr
                        exact res2 rfl (rvT rfl) (rvT rfl)
/-- soft.Add -/
def F155_1 (N : Nat) (x1 : BitVec 64) : Option (BitVec 64) := some x1
def F155 (N : Nat) (a0_0 : BitVec 8) (a0_1 : BitVec 8) (a1 : BitVec 8) (a2 : BitVec 64) (a3 : BitVec 64) : Option (BitVec 64) := (F188 N a0_0 a0_1 a1 a2 a3).bind fun y2 => F155_1 N y2.1
theorem C155 (N : Nat) (a0_0 : BitVec 8) (a0_1 : BitVec 8) (a1 : BitVec 8) (a2 : BitVec 64) (a3 : BitVec 64) (r : BitVec 64) (hr : some r = F155 N a0_0 a0_1 a1 a2 a3) : Aw.Fn Hfaa.prog 155 [agg [is (U8 a0_0), is (U8 a0_1)], is (U8 a1), is (U64 a2), is (U64 a3)] (is (U64 r)) := by
  refine fn_intro Hfaa.func155 rfl rfl rfl ?_
  intro bn0 w0 H0
  refine AW_seq1 ?_
  refine AW_region ?_
  refine AL_cons (LR_box (at_tmp 0 _) (cells_agg _) rfl) (sS (sT1 rfl) sB0 (sF1 rfl)) ?_
  refine AL_cons (LR_assign (at_c (v' := U64 (0#64)) rfl) rfl) (sS sT0 sB0 sF0) ?_
  refine AL_nil ?_
  refine thenN ?_
  refine AW_cut (σ := BitVec 64) (fun v => ⟨[(9, .inl (is (U64 v)))], []⟩) (fun v => some r = F155_1 N v) ?_ ?_
  · skip
    refine AW_region ?_
    refine AL_cons (LR_loads (at_tmp 4 _) ag23 sz23 rfl rfl rfl) (sS (sT1 rfl) (sB1 rfl) sF0) ?_
    refine AL_cons (LR_move (at_tmp 1 _) rfl) (sS (sT1 rfl) sB0 sF0) ?_
    refine AL_cons (LR_move (at_tmp 2 _) rfl) (sS (sT1 rfl) sB0 sF0) ?_
    refine AL_cons (LR_move (at_tmp 3 _) rfl) (sS (sT1 rfl) sB0 sF0) ?_
    obtain ⟨y2, hy2, hr⟩ := bind_some hr
    refine AL_cons (LR_call Hfaa.func188 rfl rfl (C188 N a0_0 a0_1 a1 a2 a3 y2 hy2) (all_cons (at_tmp 12 _) (all_cons (at_tmp 13 _) (all_cons (at_tmp 14 _) (all_cons (at_tmp 15 _) all_nil)))) rfl) (sS (sA (sT1 rfl) (sA (sT1 rfl) (sA (sT1 rfl) (sA (sT1 rfl) sT0)))) sB0 sF0) ?_
    refine AL_cons (LR_move (at_tmp 16 _) rfl) (sS (sT1 rfl) sB0 sF0) ?_
    refine AL_cons (LR_extract (at_tmp 11 _) rfl rfl) (sS (sT1 rfl) sB0 sF0) ?_
    refine AL_cons (LR_extract (at_tmp 11 _) rfl rfl) (sS (sT1 rfl) sB0 sF0) ?_
    refine AL_cons (LR_assign (at_tmp 17 _) rfl) (sS (sT1 rfl) sB0 sF0) ?_
    refine AL_cons (LR_assign (at_tmp 18 _) rfl) (sS (sT1 rfl) sB0 sF0) ?_
    refine AL_nil ?_
    exact thenN (cutLeaf (v := y2.1) hr (weak0 ((sT rfl sT0)) (sub_drop sub_nil)))
  · rintro x1 hr
    show AW Hfaa.prog _ _ _ ⟨[(9, .inl (is (U64 x1)))], []⟩
    have hr : some r = F155_1 N x1 := hr
    refine AW_seq1 ?_
    refine AW_region ?_
    refine AL_cons (LR_move (at_tmp 9 _) rfl) (sS (sT1 rfl) sB0 sF0) ?_
    refine AL_cons (LR_assign (at_tmp 19 _) rfl) (sS (sT1 rfl) sB0 sF0) ?_
    refine AL_nil ?_
    refine thenN ?_
    refine AW_ret ?_
    obtain rfl := Option.some.inj hr
    exact res1 rfl (rvT rfl)
/-- soft.SubFlags -/
def F189 (N : Nat) (a0_0 : BitVec 8) (a0_1 : BitVec 8) (a1 : BitVec 8) (a2 : BitVec 64) (a3 : BitVec 64) : Option (BitVec 64 × BitVec 8) := lt (F70 a0_0 a0_1) fun y3 => (F188 N a0_0 a0_1 a1 a2 (a3 ^^^ y3)).bind fun y4 => some (y4.1, y4.2)
theorem C189 (N : Nat) (a0_0 : BitVec 8) (a0_1 : BitVec 8) (a1 : BitVec 8) (a2 : BitVec 64) (a3 : BitVec 64) (r : BitVec 64 × BitVec 8) (hr : some r = F189 N a0_0 a0_1 a1 a2 a3) : Aw.Fn Hfaa.prog 189 [agg [is (U8 a0_0), is (U8 a0_1)], is (U8 a1), is (U64 a2), is (U64 a3)] (tup [is (U64 r.1), is (U8 r.2)]) := by
  refine fn_intro Hfaa.func189 rfl rfl rfl ?_
  intro bn0 w0 H0
  refine AW_seq1 ?_
  refine AW_region ?_
  refine AL_cons (LR_box (at_tmp 0 _) (cells_agg _) rfl) (sS (sT1 rfl) sB0 (sF1 rfl)) ?_
  refine AL_cons (LR_assign (at_c (v' := U64 (0#64)) rfl) rfl) (sS sT0 sB0 sF0) ?_
  refine AL_cons (LR_assign (at_c (v' := U8 (0#8)) rfl) rfl) (sS sT0 sB0 sF0) ?_
  refine AL_nil ?_
  refine thenN ?_
  refine AW_seq1 ?_
  obtain ⟨y3, hy3, hr⟩ := lt_some hr
  obtain ⟨y4, hy4, hr⟩ := bind_some hr
  refine AW_draw mixed
    (lrC (LR_loads (at_tmp 4 _) ag23 sz23 rfl rfl rfl)
    (lrC (LR_move (at_tmp 1 _) rfl)
    (lrC (LR_move (at_tmp 2 _) rfl)
    (lrC (LR_move (at_tmp 3 _) rfl)
    (lrC (LR_loads (at_tmp 4 _) ag23 sz23 rfl rfl rfl)
    (lrC (LR_call Hfaa.func70 rfl rfl (C70 a0_0 a0_1 y3 hy3) (all_cons (at_tmp 14 _) all_nil) rfl)
    (lrC (LR_bin (at_tmp 13 _) (at_tmp 15 _) (xor_U64 a3 y3) rfl)
    (lrC (LR_call Hfaa.func188 rfl rfl (C188 N a0_0 a0_1 a1 a2 (a3 ^^^ y3) y4 hy4) (all_cons (at_tmp 10 _) (all_cons (at_tmp 11 _) (all_cons (at_tmp 12 _) (all_cons (at_tmp 16 _) all_nil)))) rfl)
    (lrC (LR_extract (at_tmp 17 _) rfl rfl)
    (lrC (LR_extract (at_tmp 17 _) rfl rfl)
    (lrC (LR_assign (at_tmp 18 _) rfl)
    (lrC (LR_assign (at_tmp 19 _) rfl)
    lrN))))))))))))
    (by kernel_rfl)
    (saC (sS (sT1 rfl) (sB1 rfl) sF0) (saC (sS (sT1 rfl) sB0 sF0) (saC (sS (sT1 rfl) sB0 sF0) (saC (sS (sT1 rfl) sB0 sF0) (saC (sS (sT1 rfl) (sB1 rfl) sF0) (saC (sS (sA (sT1 rfl) sT0) sB0 sF0) (saC (sS (sA (sT1 rfl) (sT1 rfl)) sB0 sF0) (saC (sS (sA (sT1 rfl) (sA (sT1 rfl) (sA (sT1 rfl) (sA (sT1 rfl) sT0)))) sB0 sF0) (saC (sS (sT1 rfl) sB0 sF0) (saC (sS (sT1 rfl) sB0 sF0) (saC (sS (sT1 rfl) sB0 sF0) (saC (sS (sT1 rfl) sB0 sF0) saN)))))))))))) ?_
  refine thenN ?_
  refine AW_ret ?_
  obtain rfl := Option.some.inj hr
  exact res2 rfl (rvT rfl) (rvT rfl)
/-- soft.Sub -/
def F156_1 (N : Nat) (x1 : BitVec 64) : Option (BitVec 64) := some x1
def F156 (N : Nat) (a0_0 : BitVec 8) (a0_1 : BitVec 8) (a1 : BitVec 8) (a2 : BitVec 64) (a3 : BitVec 64) : Option (BitVec 64) := (F189 N a0_0 a0_1 a1 a2 a3).bind fun y2 => F156_1 N y2.1
theorem C156 (N : Nat) (a0_0 : BitVec 8) (a0_1 : BitVec 8) (a1 : BitVec 8) (a2 : BitVec 64) (a3 : BitVec 64) (r : BitVec 64) (hr : some r = F156 N a0_0 a0_1 a1 a2 a3) : Aw.Fn Hfaa.prog 156 [agg [is (U8 a0_0), is (U8 a0_1)], is (U8 a1), is (U64 a2), is (U64 a3)] (is (U64 r)) := by
  refine fn_intro Hfaa.func156 rfl rfl rfl ?_
  intro bn0 w0 H0
  refine AW_seq1 ?_
  refine AW_region ?_
  refine AL_cons (LR_box (at_tmp 0 _) (cells_agg _) rfl) (sS (sT1 rfl) sB0 (sF1 rfl)) ?_
  refine AL_cons (LR_assign (at_c (v' := U64 (0#64)) rfl) rfl) (sS sT0 sB0 sF0) ?_
  refine AL_nil ?_
  refine thenN ?_
  refine AW_cut (σ := BitVec 64) (fun v => ⟨[(9, .inl (is (U64 v)))], []⟩) (fun v => some r = F156_1 N v) ?_ ?_
  · skip
    refine AW_region ?_
    refine AL_cons (LR_loads (at_tmp 4 _) ag23 sz23 rfl rfl rfl) (sS (sT1 rfl) (sB1 rfl) sF0) ?_
    refine AL_cons (LR_move (at_tmp 1 _) rfl) (sS (sT1 rfl) sB0 sF0) ?_
    refine AL_cons (LR_move (at_tmp 2 _) rfl) (sS (sT1 rfl) sB0 sF0) ?_
    refine AL_cons (LR_move (at_tmp 3 _) rfl) (sS (sT1 rfl) sB0 sF0) ?_
    obtain ⟨y2, hy2, hr⟩ := bind_some hr
    refine AL_cons (LR_call Hfaa.func189 rfl rfl (C189 N a0_0 a0_1 a1 a2 a3 y2 hy2) (all_cons (at_tmp 12 _) (all_cons (at_tmp 13 _) (all_cons (at_tmp 14 _) (all_cons (at_tmp 15 _) all_nil)))) rfl) (sS (sA (sT1 rfl) (sA (sT1 rfl) (sA (sT1 rfl) (sA (sT1 rfl) sT0)))) sB0 sF0) ?_
    refine AL_cons (LR_move (at_tmp 16 _) rfl) (sS (sT1 rfl) sB0 sF0) ?_
    refine AL_cons (LR_extract (at_tmp 11 _) rfl rfl) (sS (sT1 rfl) sB0 sF0) ?_
    refine AL_cons (LR_extract (at_tmp 11 _) rfl rfl) (sS (sT1 rfl) sB0 sF0) ?_
    refine AL_cons (LR_assign (at_tmp 17 _) rfl) (sS (sT1 rfl) sB0 sF0) ?_
    refine AL_cons (LR_assign (at_tmp 18 _) rfl) (sS (sT1 rfl) sB0 sF0) ?_
    refine AL_nil ?_
    exact thenN (cutLeaf (v := y2.1) hr (weak0 ((sT rfl sT0)) (sub_drop sub_nil)))
  · rintro x1 hr
    show AW Hfaa.prog _ _ _ ⟨[(9, .inl (is (U64 x1)))], []⟩
    have hr : some r = F156_1 N x1 := hr
    refine AW_seq1 ?_
    refine AW_region ?_
    refine AL_cons (LR_move (at_tmp 9 _) rfl) (sS (sT1 rfl) sB0 sF0) ?_
    refine AL_cons (LR_assign (at_tmp 19 _) rfl) (sS (sT1 rfl) sB0 sF0) ?_
    refine AL_nil ?_
    refine thenN ?_
    refine AW_ret ?_
    obtain rfl := Option.some.inj hr
    exact res1 rfl (rvT rfl)
/-- wide.Mul64 -/
def F165_4 (a0 : BitVec 64) (a1 : BitVec 64) (x1 : BitVec 64) (x3 : BitVec 64) (x5 : BitVec 64) (x6 : BitVec 64) : BitVec 64 × BitVec 64 := (((x1 * x3) + (x5 >>> 32)) + (x6 >>> 32), a0 * a1)
def F165_3 (a0 : BitVec 64) (a1 : BitVec 64) (x1 : BitVec 64) (x2 : BitVec 64) (x3 : BitVec 64) (x5 : BitVec 64) : BitVec 64 × BitVec 64 := F165_4 a0 a1 x1 x3 x5 ((x2 * x3) + (x5 &&& (4294967295#64)))
def F165_2 (a0 : BitVec 64) (a1 : BitVec 64) (x1 : BitVec 64) (x2 : BitVec 64) (x3 : BitVec 64) (x4 : BitVec 64) : BitVec 64 × BitVec 64 := F165_3 a0 a1 x1 x2 x3 ((x1 * x4) + ((x2 * x4) >>> 32))
def F165_1 (a0 : BitVec 64) (a1 : BitVec 64) (x1 : BitVec 64) (x2 : BitVec 64) : BitVec 64 × BitVec 64 := F165_2 a0 a1 x1 x2 (a1 >>> 32) (a1 &&& (4294967295#64))
def F165 (a0 : BitVec 64) (a1 : BitVec 64) : BitVec 64 × BitVec 64 := F165_1 a0 a1 (a0 >>> 32) (a0 &&& (4294967295#64))
theorem C165 (a0 : BitVec 64) (a1 : BitVec 64) (r : BitVec 64 × BitVec 64) (hr : r = F165 a0 a1) : Aw.Fn Hfaa.prog 165 [is (U64 a0), is (U64 a1)] (agg [is (U64 r.1), is (U64 r.2)]) := by
  refine fn_intro Hfaa.func165 rfl rfl rfl ?_
  intro bn0 w0 H0
  refine AW_seq1 ?_
  refine AW_region ?_
  refine AL_cons (zl42 rfl) (sS sT0 sB0 (sF1 rfl)) ?_
  refine AL_nil ?_
  refine thenN ?_
  refine AW_cut (σ := BitVec 64 × BitVec 64) (fun v => ⟨[(0, .inl (is (U64 a0))), (1, .inl (is (U64 a1))), (4, .inr (.inl (4, 0))), (5, .inl (is (U64 v.1))), (6, .inl (is (U64 v.2)))], [(4, pb 42 [is (U64 (0#64)), is (U64 (0#64))])]⟩) (fun v => r = F165_1 a0 a1 v.1 v.2) ?_ ?_
  · skip
    refine AW_region ?_
    refine AL_cons (LR_move (at_tmp 0 _) rfl) (sS (sT1 rfl) sB0 sF0) ?_
    refine AL_cons (LR_bin (at_tmp 11 _) (at_c (v' := U64 (32#64)) rfl) (shr_U64 a0 ((32#64).toNat : Int) (Int.natCast_nonneg _)) rfl) (sS (sA (sT1 rfl) sT0) sB0 sF0) ?_
    refine AL_cons (LR_move (at_tmp 0 _) rfl) (sS (sT1 rfl) sB0 sF0) ?_
    refine AL_cons (LR_bin (at_tmp 13 _) (at_c (v' := U64 (4294967295#64)) rfl) (and_U64 a0 (4294967295#64)) rfl) (sS (sA (sT1 rfl) sT0) sB0 sF0) ?_
    refine AL_cons (LR_assign (at_tmp 12 _) rfl) (sS (sT1 rfl) sB0 sF0) ?_
    refine AL_cons (LR_assign (at_tmp 14 _) rfl) (sS (sT1 rfl) sB0 sF0) ?_
    refine AL_nil ?_
    exact thenN (cutLeaf (v := (a0 >>> 32, a0 &&& (4294967295#64))) hr (weak0 ((sT rfl (sT rfl (sT rfl (sT rfl (sT rfl sT0)))))) (sub_keep sub_nil)))
  · rintro ⟨x1, x2⟩ hr
    show AW Hfaa.prog _ _ _ ⟨[(0, .inl (is (U64 a0))), (1, .inl (is (U64 a1))), (4, .inr (.inl (4, 0))), (5, .inl (is (U64 x1))), (6, .inl (is (U64 x2)))], [(4, pb 42 [is (U64 (0#64)), is (U64 (0#64))])]⟩
    have hr : r = F165_1 a0 a1 x1 x2 := hr
    refine AW_cut (σ := BitVec 64 × BitVec 64) (fun v => ⟨[(0, .inl (is (U64 a0))), (1, .inl (is (U64 a1))), (4, .inr (.inl (4, 0))), (5, .inl (is (U64 x1))), (6, .inl (is (U64 x2))), (7, .inl (is (U64 v.1))), (8, .inl (is (U64 v.2)))], [(4, pb 42 [is (U64 (0#64)), is (U64 (0#64))])]⟩) (fun v => r = F165_2 a0 a1 x1 x2 v.1 v.2) ?_ ?_
    · skip
      refine AW_region ?_
      refine AL_cons (LR_move (at_tmp 1 _) rfl) (sS (sT1 rfl) sB0 sF0) ?_
      refine AL_cons (LR_bin (at_tmp 15 _) (at_c (v' := U64 (32#64)) rfl) (shr_U64 a1 ((32#64).toNat : Int) (Int.natCast_nonneg _)) rfl) (sS (sA (sT1 rfl) sT0) sB0 sF0) ?_
      refine AL_cons (LR_move (at_tmp 1 _) rfl) (sS (sT1 rfl) sB0 sF0) ?_
      refine AL_cons (LR_bin (at_tmp 17 _) (at_c (v' := U64 (4294967295#64)) rfl) (and_U64 a1 (4294967295#64)) rfl) (sS (sA (sT1 rfl) sT0) sB0 sF0) ?_
      refine AL_cons (LR_assign (at_tmp 16 _) rfl) (sS (sT1 rfl) sB0 sF0) ?_
      refine AL_cons (LR_assign (at_tmp 18 _) rfl) (sS (sT1 rfl) sB0 sF0) ?_
      refine AL_nil ?_
      exact thenN (cutLeaf (v := (a1 >>> 32, a1 &&& (4294967295#64))) hr (weak0 ((sT rfl (sT rfl (sT rfl (sT rfl (sT rfl (sT rfl (sT rfl sT0)))))))) (sub_keep sub_nil)))
    · rintro ⟨x3, x4⟩ hr
      show AW Hfaa.prog _ _ _ ⟨[(0, .inl (is (U64 a0))), (1, .inl (is (U64 a1))), (4, .inr (.inl (4, 0))), (5, .inl (is (U64 x1))), (6, .inl (is (U64 x2))), (7, .inl (is (U64 x3))), (8, .inl (is (U64 x4)))], [(4, pb 42 [is (U64 (0#64)), is (U64 (0#64))])]⟩
      have hr : r = F165_2 a0 a1 x1 x2 x3 x4 := hr
      refine AW_cut (σ := BitVec 64) (fun v => ⟨[(0, .inl (is (U64 a0))), (1, .inl (is (U64 a1))), (4, .inr (.inl (4, 0))), (5, .inl (is (U64 x1))), (6, .inl (is (U64 x2))), (7, .inl (is (U64 x3))), (9, .inl (is (U64 v)))], [(4, pb 42 [is (U64 (0#64)), is (U64 (0#64))])]⟩) (fun v => r = F165_3 a0 a1 x1 x2 x3 v) ?_ ?_
      · skip
        refine AW_region ?_
        refine AL_cons (LR_move (at_tmp 5 _) rfl) (sS (sT1 rfl) sB0 sF0) ?_
        refine AL_cons (LR_move (at_tmp 8 _) rfl) (sS (sT1 rfl) sB0 sF0) ?_
        refine AL_cons (LR_bin (at_tmp 19 _) (at_tmp 20 _) (mul_U64 x1 x4) rfl) (sS (sA (sT1 rfl) (sT1 rfl)) sB0 sF0) ?_
        refine AL_cons (LR_move (at_tmp 6 _) rfl) (sS (sT1 rfl) sB0 sF0) ?_
        refine AL_cons (LR_move (at_tmp 8 _) rfl) (sS (sT1 rfl) sB0 sF0) ?_
        refine AL_cons (LR_bin (at_tmp 22 _) (at_tmp 23 _) (mul_U64 x2 x4) rfl) (sS (sA (sT1 rfl) (sT1 rfl)) sB0 sF0) ?_
        refine AL_cons (LR_bin (at_tmp 24 _) (at_c (v' := U64 (32#64)) rfl) (shr_U64 (x2 * x4) ((32#64).toNat : Int) (Int.natCast_nonneg _)) rfl) (sS (sA (sT1 rfl) sT0) sB0 sF0) ?_
        refine AL_cons (LR_bin (at_tmp 21 _) (at_tmp 25 _) (add_U64 (x1 * x4) ((x2 * x4) >>> 32)) rfl) (sS (sA (sT1 rfl) (sT1 rfl)) sB0 sF0) ?_
        refine AL_cons (LR_assign (at_tmp 26 _) rfl) (sS (sT1 rfl) sB0 sF0) ?_
        refine AL_nil ?_
        exact thenN (cutLeaf (v := (x1 * x4) + ((x2 * x4) >>> 32)) hr (weak0 ((sT rfl (sT rfl (sT rfl (sT rfl (sT rfl (sT rfl (sT rfl sT0)))))))) (sub_keep sub_nil)))
      · rintro x5 hr
        show AW Hfaa.prog _ _ _ ⟨[(0, .inl (is (U64 a0))), (1, .inl (is (U64 a1))), (4, .inr (.inl (4, 0))), (5, .inl (is (U64 x1))), (6, .inl (is (U64 x2))), (7, .inl (is (U64 x3))), (9, .inl (is (U64 x5)))], [(4, pb 42 [is (U64 (0#64)), is (U64 (0#64))])]⟩
        have hr : r = F165_3 a0 a1 x1 x2 x3 x5 := hr
        refine AW_cut (σ := BitVec 64) (fun v => ⟨[(0, .inl (is (U64 a0))), (1, .inl (is (U64 a1))), (4, .inr (.inl (4, 0))), (5, .inl (is (U64 x1))), (7, .inl (is (U64 x3))), (9, .inl (is (U64 x5))), (10, .inl (is (U64 v)))], [(4, pb 42 [is (U64 (0#64)), is (U64 (0#64))])]⟩) (fun v => r = F165_4 a0 a1 x1 x3 x5 v) ?_ ?_
        · skip
          refine AW_region ?_
          refine AL_cons (LR_move (at_tmp 6 _) rfl) (sS (sT1 rfl) sB0 sF0) ?_
          refine AL_cons (LR_move (at_tmp 7 _) rfl) (sS (sT1 rfl) sB0 sF0) ?_
          refine AL_cons (LR_bin (at_tmp 27 _) (at_tmp 28 _) (mul_U64 x2 x3) rfl) (sS (sA (sT1 rfl) (sT1 rfl)) sB0 sF0) ?_
          refine AL_cons (LR_move (at_tmp 9 _) rfl) (sS (sT1 rfl) sB0 sF0) ?_
          refine AL_cons (LR_bin (at_tmp 30 _) (at_c (v' := U64 (4294967295#64)) rfl) (and_U64 x5 (4294967295#64)) rfl) (sS (sA (sT1 rfl) sT0) sB0 sF0) ?_
          refine AL_cons (LR_bin (at_tmp 29 _) (at_tmp 31 _) (add_U64 (x2 * x3) (x5 &&& (4294967295#64))) rfl) (sS (sA (sT1 rfl) (sT1 rfl)) sB0 sF0) ?_
          refine AL_cons (LR_assign (at_tmp 32 _) rfl) (sS (sT1 rfl) sB0 sF0) ?_
          refine AL_nil ?_
          exact thenN (cutLeaf (v := (x2 * x3) + (x5 &&& (4294967295#64))) hr (weak0 ((sT rfl (sT rfl (sT rfl (sT rfl (sT rfl (sT rfl (sT rfl sT0)))))))) (sub_keep sub_nil)))
        · rintro x6 hr
          show AW Hfaa.prog _ _ _ ⟨[(0, .inl (is (U64 a0))), (1, .inl (is (U64 a1))), (4, .inr (.inl (4, 0))), (5, .inl (is (U64 x1))), (7, .inl (is (U64 x3))), (9, .inl (is (U64 x5))), (10, .inl (is (U64 x6)))], [(4, pb 42 [is (U64 (0#64)), is (U64 (0#64))])]⟩
          have hr : r = F165_4 a0 a1 x1 x3 x5 x6 := hr
          refine AW_seq1 ?_
          refine AW_region ?_
          refine AL_cons (LR_move (at_tmp 5 _) rfl) (sS (sT1 rfl) sB0 sF0) ?_
          refine AL_cons (LR_move (at_tmp 7 _) rfl) (sS (sT1 rfl) sB0 sF0) ?_
          refine AL_cons (LR_bin (at_tmp 33 _) (at_tmp 34 _) (mul_U64 x1 x3) rfl) (sS (sA (sT1 rfl) (sT1 rfl)) sB0 sF0) ?_
          refine AL_cons (LR_move (at_tmp 9 _) rfl) (sS (sT1 rfl) sB0 sF0) ?_
          refine AL_cons (LR_bin (at_tmp 36 _) (at_c (v' := U64 (32#64)) rfl) (shr_U64 x5 ((32#64).toNat : Int) (Int.natCast_nonneg _)) rfl) (sS (sA (sT1 rfl) sT0) sB0 sF0) ?_
          refine AL_cons (LR_bin (at_tmp 35 _) (at_tmp 37 _) (add_U64 (x1 * x3) (x5 >>> 32)) rfl) (sS (sA (sT1 rfl) (sT1 rfl)) sB0 sF0) ?_
          refine AL_cons (LR_move (at_tmp 10 _) rfl) (sS (sT1 rfl) sB0 sF0) ?_
          refine AL_cons (LR_bin (at_tmp 39 _) (at_c (v' := U64 (32#64)) rfl) (shr_U64 x6 ((32#64).toNat : Int) (Int.natCast_nonneg _)) rfl) (sS (sA (sT1 rfl) sT0) sB0 sF0) ?_
          refine AL_cons (LR_bin (at_tmp 38 _) (at_tmp 40 _) (add_U64 ((x1 * x3) + (x5 >>> 32)) (x6 >>> 32)) rfl) (sS (sA (sT1 rfl) (sT1 rfl)) sB0 sF0) ?_
          refine AL_cons (LR_move (at_tmp 0 _) rfl) (sS (sT1 rfl) sB0 sF0) ?_
          refine AL_cons (LR_move (at_tmp 1 _) rfl) (sS (sT1 rfl) sB0 sF0) ?_
          refine AL_cons (LR_bin (at_tmp 42 _) (at_tmp 43 _) (mul_U64 a0 a1) rfl) (sS (sA (sT1 rfl) (sT1 rfl)) sB0 sF0) ?_
          refine AL_cons (bl42 (parts_cons (i := 0) (off := 0) (at_tmp 41 _) (cells_one (one_is rfl)) rfl rfl (parts_cons (i := 1) (off := 1) (at_tmp 44 _) (cells_one (one_is rfl)) rfl rfl parts_nil)) rfl rfl) (sS (sA (sT1 rfl) (sA (sT1 rfl) sT0)) sB0 sF0) ?_
          refine AL_cons (LR_store (at_tmp 4 _) (at_tmp 45 _) (cells_agg _) (onC (one_is rfl) (onC (one_is rfl) onN)) sz42 rfl rfl) (sS (sA (sT1 rfl) (sT1 rfl)) (sB1 rfl) sF0) ?_
          refine AL_nil ?_
          refine thenN ?_
          refine AW_ret ?_
          subst hr
          exact res1 rfl (rvC rfl rfl ag42 sz42 rfl)
/-- soft.MulFlags -/
def F190_8 (N : Nat) (a0_0 : BitVec 8) (a0_1 : BitVec 8) (a1 : BitVec 8) (x10 : Bool) (x15 : BitVec 64) (x16 : Int) : Option (BitVec 64 × BitVec 8) := (F215 N a0_0 a0_1 a1 x10 x16 x15).bind fun y29 => some (y29.1, y29.2)
def F190_7 (N : Nat) (a0_0 : BitVec 8) (a0_1 : BitVec 8) (a1 : BitVec 8) (x2 : Bool) (x3 : Int) (x4 : Int) (x5 : BitVec 64) (x6 : Bool) (x7 : Int) (x8 : Int) (x9 : BitVec 64) (x10 : Bool) (x14 : Bool) : Option (BitVec 64 × BitVec 8) := bif x14 then lt (F259 a0_0 a0_1 x10) fun y25 => some (y25, 0#8) else lt (F165 x5 x9) fun y30 => (F272 N y30.1 y30.2 (w16 (x4 + x8))).bind fun y31 => F190_8 N a0_0 a0_1 a1 x10 y31.1 y31.2
def F190_6 (N : Nat) (a0_0 : BitVec 8) (a0_1 : BitVec 8) (a1 : BitVec 8) (x2 : Bool) (x3 : Int) (x4 : Int) (x5 : BitVec 64) (x6 : Bool) (x7 : Int) (x8 : Int) (x9 : BitVec 64) (x10 : Bool) (x13 : Bool) : Option (BitVec 64 × BitVec 8) := bif x13 then lt (F67 a0_0 a0_1 x10) fun y23 => some (y23, 0#8) else F190_7 N a0_0 a0_1 a1 x2 x3 x4 x5 x6 x7 x8 x9 x10 ((x3 == 0) || (x7 == 0))
def F190_5 (N : Nat) (a0_0 : BitVec 8) (a0_1 : BitVec 8) (a1 : BitVec 8) (x2 : Bool) (x3 : Int) (x4 : Int) (x5 : BitVec 64) (x6 : Bool) (x7 : Int) (x8 : Int) (x9 : BitVec 64) (x10 : Bool) (x12 : Bool) : Option (BitVec 64 × BitVec 8) := bif x12 then lt (F66 a0_0 a0_1) fun y21 => some (y21, 1#8) else F190_6 N a0_0 a0_1 a1 x2 x3 x4 x5 x6 x7 x8 x9 x10 ((x3 == 3) || (x7 == 3))
def F190_9 (N : Nat) (a0_0 : BitVec 8) (a0_1 : BitVec 8) (a1 : BitVec 8) (x2 : Bool) (x3 : Int) (x4 : Int) (x5 : BitVec 64) (x6 : Bool) (x7 : Int) (x8 : Int) (x9 : BitVec 64) (x10 : Bool) (x17 : Bool) : Option (BitVec 64 × BitVec 8) := bif x17 then F190_5 N a0_0 a0_1 a1 x2 x3 x4 x5 x6 x7 x8 x9 x10 x17 else F190_5 N a0_0 a0_1 a1 x2 x3 x4 x5 x6 x7 x8 x9 x10 ((x3 == 0) && (x7 == 3))
def F190_4 (N : Nat) (a0_0 : BitVec 8) (a0_1 : BitVec 8) (a1 : BitVec 8) (a2 : BitVec 64) (a3 : BitVec 64) (x2 : Bool) (x3 : Int) (x4 : Int) (x5 : BitVec 64) (x6 : Bool) (x7 : Int) (x8 : Int) (x9 : BitVec 64) (x10 : Bool) (x11 : Bool) : Option (BitVec 64 × BitVec 8) := bif x11 then lt (F66 a0_0 a0_1) fun y18 => lt (F214 a0_0 a0_1 a2 a3) fun y19 => some (y18, y19) else F190_9 N a0_0 a0_1 a1 x2 x3 x4 x5 x6 x7 x8 x9 x10 ((x3 == 3) && (x7 == 0))
def F190_3 (N : Nat) (a0_0 : BitVec 8) (a0_1 : BitVec 8) (a1 : BitVec 8) (a2 : BitVec 64) (a3 : BitVec 64) (x2 : Bool) (x3 : Int) (x4 : Int) (x5 : BitVec 64) (x6 : Bool) (x7 : Int) (x8 : Int) (x9 : BitVec 64) (x10 : Bool) : Option (BitVec 64 × BitVec 8) := F190_4 N a0_0 a0_1 a1 a2 a3 x2 x3 x4 x5 x6 x7 x8 x9 x10 ((x3 == 4) || (x7 == 4))
def F190_2 (N : Nat) (a0_0 : BitVec 8) (a0_1 : BitVec 8) (a1 : BitVec 8) (a2 : BitVec 64) (a3 : BitVec 64) (x2 : Bool) (x3 : Int) (x4 : Int) (x5 : BitVec 64) (x6 : Bool) (x7 : Int) (x8 : Int) (x9 : BitVec 64) : Option (BitVec 64 × BitVec 8) := F190_3 N a0_0 a0_1 a1 a2 a3 x2 x3 x4 x5 x6 x7 x8 x9 (x2 != x6)
def F190_1 (N : Nat) (a0_0 : BitVec 8) (a0_1 : BitVec 8) (a1 : BitVec 8) (a2 : BitVec 64) (a3 : BitVec 64) (x1 : Bool) : Option (BitVec 64 × BitVec 8) := bif x1 then some (0#64, 0#8) else lt (F65 a0_0 a0_1 a2) fun y32 => lt (F65 a0_0 a0_1 a3) fun y33 => F190_2 N a0_0 a0_1 a1 a2 a3 y32.1 y32.2.1 y32.2.2.1 y32.2.2.2 y33.1 y33.2.1 y33.2.2.1 y33.2.2.2
def F190 (N : Nat) (a0_0 : BitVec 8) (a0_1 : BitVec 8) (a1 : BitVec 8) (a2 : BitVec 64) (a3 : BitVec 64) : Option (BitVec 64 × BitVec 8) := lt (F40 a0_0 a0_1) fun y34 => F190_1 N a0_0 a0_1 a1 a2 a3 (!y34)
theorem C190 (N : Nat) (a0_0 : BitVec 8) (a0_1 : BitVec 8) (a1 : BitVec 8) (a2 : BitVec 64) (a3 : BitVec 64) (r : BitVec 64 × BitVec 8) (hr : some r = F190 N a0_0 a0_1 a1 a2 a3) : Aw.Fn Hfaa.prog 190 [agg [is (U8 a0_0), is (U8 a0_1)], is (U8 a1), is (U64 a2), is (U64 a3)] (tup [is (U64 r.1), is (U8 r.2)]) := by
  refine fn_intro Hfaa.func190 rfl rfl rfl ?_
  intro bn0 w0 H0
  refine AW_seq1 ?_
  refine AW_region ?_
  refine AL_cons (LR_box (at_tmp 0 _) (cells_agg _) rfl) (sS (sT1 rfl) sB0 (sF1 rfl)) ?_
  refine AL_cons (LR_assign (at_c (v' := U64 (0#64)) rfl) rfl) (sS sT0 sB0 sF0) ?_
  refine AL_cons (LR_assign (at_c (v' := U8 (0#8)) rfl) rfl) (sS sT0 sB0 sF0) ?_
  refine AL_nil ?_
  refine thenN ?_
  refine AW_seq1 ?_
  refine AW_cut (σ := Bool) (fun v => ⟨[(1, .inl (is (U8 a1))), (2, .inl (is (U64 a2))), (3, .inl (is (U64 a3))), (4, .inr (.inl (4, 0))), (17, .inl (is (Bl v)))], [(4, pb 23 [is (U8 a0_0), is (U8 a0_1)])]⟩) (fun v => some r = F190_1 N a0_0 a0_1 a1 a2 a3 v) ?_ ?_
  · skip
    refine AW_region ?_
    refine AL_cons (LR_loads (at_tmp 4 _) ag23 sz23 rfl rfl rfl) (sS (sT1 rfl) (sB1 rfl) sF0) ?_
    obtain ⟨y34, hy34, hr⟩ := lt_some hr
    refine AL_cons (LR_call Hfaa.func40 rfl rfl (C40 a0_0 a0_1 y34 hy34) (all_cons (at_tmp 15 _) all_nil) rfl) (sS (sA (sT1 rfl) sT0) sB0 sF0) ?_
    refine AL_cons (LR_un (at_tmp 16 _) (not_Bl y34) rfl) (sS (sT1 rfl) sB0 sF0) ?_
    refine AL_nil ?_
    exact thenN (cutLeaf (v := !y34) hr (weak0 ((sT rfl (sT rfl (sT rfl (sT rfl (sT rfl sT0)))))) (sub_keep sub_nil)))
  · rintro x1 hr
    show AW Hfaa.prog _ _ _ ⟨[(1, .inl (is (U8 a1))), (2, .inl (is (U64 a2))), (3, .inl (is (U64 a3))), (4, .inr (.inl (4, 0))), (17, .inl (is (Bl x1)))], [(4, pb 23 [is (U8 a0_0), is (U8 a0_1)])]⟩
    have hr : some r = F190_1 N a0_0 a0_1 a1 a2 a3 x1 := hr
    refine AW_condT (b := x1) rfl (fun h => ?_) (fun h => ?_)
    · have hr := hr.trans (cond_t h)
      clear h
      refine AW_seq1 ?_
      refine AW_region ?_
      refine AL_cons (LR_assign (at_c (v' := U64 (0#64)) rfl) rfl) (sS sT0 sB0 sF0) ?_
      refine AL_cons (LR_assign (at_c (v' := U8 (0#8)) rfl) rfl) (sS sT0 sB0 sF0) ?_
      refine AL_nil ?_
      refine thenN ?_
      refine AW_ret ?_
      refine thenR ?_
      obtain rfl := Option.some.inj hr
      exact res2 rfl (rvT rfl) (rvT rfl)
    · have hr := hr.trans (cond_f h)
      clear h
      refine AW_skip ?_
      refine thenN ?_
      refine AW_cut (σ := Bool × Int × Int × BitVec 64 × Bool × Int × Int × BitVec 64) (fun v => ⟨[(1, .inl (is (U8 a1))), (2, .inl (is (U64 a2))), (3, .inl (is (U64 a3))), (4, .inr (.inl (4, 0))), (10, .inr (.inl (10, 0))), (11, .inr (.inl (11, 0)))], [(4, pb 23 [is (U8 a0_0), is (U8 a0_1)]), (10, pb 112 [is (Bl v.1), is (I8 v.2.1), is (I16 v.2.2.1), is (U64 v.2.2.2.1)]), (11, pb 112 [is (Bl v.2.2.2.2.1), is (I8 v.2.2.2.2.2.1), is (I16 v.2.2.2.2.2.2.1), is (U64 v.2.2.2.2.2.2.2)])]⟩) (fun v => some r = F190_2 N a0_0 a0_1 a1 a2 a3 v.1 v.2.1 v.2.2.1 v.2.2.2.1 v.2.2.2.2.1 v.2.2.2.2.2.1 v.2.2.2.2.2.2.1 v.2.2.2.2.2.2.2) ?_ ?_
      · skip
        obtain ⟨y32, hy32, hr⟩ := lt_some hr
        obtain ⟨y33, hy33, hr⟩ := lt_some hr
        refine AW_draw mixed
          (lrC (LR_loads (at_tmp 4 _) ag23 sz23 rfl rfl rfl)
          (lrC (LR_move (at_tmp 2 _) rfl)
          (lrC (LR_call Hfaa.func65 rfl rfl (C65 a0_0 a0_1 a2 y32 hy32) (all_cons (at_tmp 18 _) (all_cons (at_tmp 19 _) all_nil)) rfl)
          (lrC (LR_loads (at_tmp 4 _) ag23 sz23 rfl rfl rfl)
          (lrC (LR_move (at_tmp 3 _) rfl)
          (lrC (LR_call Hfaa.func65 rfl rfl (C65 a0_0 a0_1 a3 y33 hy33) (all_cons (at_tmp 21 _) (all_cons (at_tmp 22 _) all_nil)) rfl)
          (lrC (zl112 rfl)
          (lrC (zl112 rfl)
          (lrC (LR_store (at_tmp 10 _) (at_tmp 20 _) (cells_agg _) (onC (one_is rfl) (onC (one_is rfl) (onC (one_is rfl) (onC (one_is rfl) onN)))) sz112 rfl rfl)
          (lrC (LR_store (at_tmp 11 _) (at_tmp 23 _) (cells_agg _) (onC (one_is rfl) (onC (one_is rfl) (onC (one_is rfl) (onC (one_is rfl) onN)))) sz112 rfl rfl)
          lrN))))))))))
          (by kernel_rfl)
          (saC (sS (sT1 rfl) (sB1 rfl) sF0) (saC (sS (sT1 rfl) sB0 sF0) (saC (sS (sA (sT1 rfl) (sA (sT1 rfl) sT0)) sB0 sF0) (saC (sS (sT1 rfl) (sB1 rfl) sF0) (saC (sS (sT1 rfl) sB0 sF0) (saC (sS (sA (sT1 rfl) (sA (sT1 rfl) sT0)) sB0 sF0) (saC (sS sT0 sB0 (sF1 rfl)) (saC (sS sT0 sB0 (sF1 rfl)) (saC (sS (sA (sT1 rfl) (sT1 rfl)) (sB1 rfl) sF0) (saC (sS (sA (sT1 rfl) (sT1 rfl)) (sB1 rfl) sF0) saN)))))))))) ?_
        exact thenN (cutLeaf (v := (y32.1, y32.2.1, y32.2.2.1, y32.2.2.2, y33.1, y33.2.1, y33.2.2.1, y33.2.2.2)) hr (weak0 ((sT rfl (sT rfl (sT rfl (sT rfl (sT rfl (sT rfl sT0))))))) (sub_keep (sub_keep (sub_keep sub_nil)))))
      · rintro ⟨x2, x3, x4, x5, x6, x7, x8, x9⟩ hr
        show AW Hfaa.prog _ _ _ ⟨[(1, .inl (is (U8 a1))), (2, .inl (is (U64 a2))), (3, .inl (is (U64 a3))), (4, .inr (.inl (4, 0))), (10, .inr (.inl (10, 0))), (11, .inr (.inl (11, 0)))], [(4, pb 23 [is (U8 a0_0), is (U8 a0_1)]), (10, pb 112 [is (Bl x2), is (I8 x3), is (I16 x4), is (U64 x5)]), (11, pb 112 [is (Bl x6), is (I8 x7), is (I16 x8), is (U64 x9)])]⟩
        have hr : some r = F190_2 N a0_0 a0_1 a1 a2 a3 x2 x3 x4 x5 x6 x7 x8 x9 := hr
        refine AW_cut (σ := Bool) (fun v => ⟨[(1, .inl (is (U8 a1))), (2, .inl (is (U64 a2))), (3, .inl (is (U64 a3))), (4, .inr (.inl (4, 0))), (10, .inr (.inl (10, 0))), (11, .inr (.inl (11, 0))), (12, .inl (is (Bl v)))], [(4, pb 23 [is (U8 a0_0), is (U8 a0_1)]), (10, pb 112 [is (Bl x2), is (I8 x3), is (I16 x4), is (U64 x5)]), (11, pb 112 [is (Bl x6), is (I8 x7), is (I16 x8), is (U64 x9)])]⟩) (fun v => some r = F190_3 N a0_0 a0_1 a1 a2 a3 x2 x3 x4 x5 x6 x7 x8 x9 v) ?_ ?_
        · skip
          refine AW_region ?_
          refine AL_cons (LR_fieldAddr (off := 0) (o := 0) (at_tmp 10 _) (fun b w => fa112_0 b 0 w) rfl) (sS (sT1 rfl) sB0 sF0) ?_
          refine AL_cons (LR_load (at_tmp 24 _) na4 rfl rfl) (sS (sT1 rfl) (sB1 rfl) sF0) ?_
          refine AL_cons (LR_fieldAddr (off := 0) (o := 0) (at_tmp 11 _) (fun b w => fa112_0 b 0 w) rfl) (sS (sT1 rfl) sB0 sF0) ?_
          refine AL_cons (LR_load (at_tmp 26 _) na4 rfl rfl) (sS (sT1 rfl) (sB1 rfl) sF0) ?_
          refine AL_cons (LR_bin (at_tmp 25 _) (at_tmp 27 _) (neq_Bl Hfaa.underlying4 x2 x6) rfl) (sS (sA (sT1 rfl) (sT1 rfl)) sB0 sF0) ?_
          refine AL_cons (LR_assign (at_tmp 28 _) rfl) (sS (sT1 rfl) sB0 sF0) ?_
          refine AL_nil ?_
          exact thenN (cutLeaf (v := x2 != x6) hr (weak0 ((sT rfl (sT rfl (sT rfl (sT rfl (sT rfl (sT rfl (sT rfl sT0)))))))) (sub_keep (sub_keep (sub_keep sub_nil)))))
        · rintro x10 hr
          show AW Hfaa.prog _ _ _ ⟨[(1, .inl (is (U8 a1))), (2, .inl (is (U64 a2))), (3, .inl (is (U64 a3))), (4, .inr (.inl (4, 0))), (10, .inr (.inl (10, 0))), (11, .inr (.inl (11, 0))), (12, .inl (is (Bl x10)))], [(4, pb 23 [is (U8 a0_0), is (U8 a0_1)]), (10, pb 112 [is (Bl x2), is (I8 x3), is (I16 x4), is (U64 x5)]), (11, pb 112 [is (Bl x6), is (I8 x7), is (I16 x8), is (U64 x9)])]⟩
          have hr : some r = F190_3 N a0_0 a0_1 a1 a2 a3 x2 x3 x4 x5 x6 x7 x8 x9 x10 := hr
          refine AW_seq1 ?_
          refine AW_block ?_
          refine AW_cut (σ := Bool) (fun v => ⟨[(1, .inl (is (U8 a1))), (2, .inl (is (U64 a2))), (3, .inl (is (U64 a3))), (4, .inr (.inl (4, 0))), (10, .inr (.inl (10, 0))), (11, .inr (.inl (11, 0))), (12, .inl (is (Bl x10))), (29, .inl (is (Bl v)))], [(4, pb 23 [is (U8 a0_0), is (U8 a0_1)]), (10, pb 112 [is (Bl x2), is (I8 x3), is (I16 x4), is (U64 x5)]), (11, pb 112 [is (Bl x6), is (I8 x7), is (I16 x8), is (U64 x9)])]⟩) (fun v => some r = F190_4 N a0_0 a0_1 a1 a2 a3 x2 x3 x4 x5 x6 x7 x8 x9 x10 v) ?_ ?_
          · skip
            refine AW_region ?_
            refine AL_cons (LR_fieldAddr (off := 0) (o := 1) (at_tmp 10 _) (fun b w => fa112_1 b 0 w) rfl) (sS (sT1 rfl) sB0 sF0) ?_
            refine AL_cons (LR_load (at_tmp 30 _) na110 rfl rfl) (sS (sT1 rfl) (sB1 rfl) sF0) ?_
            refine AL_cons (LR_bin (at_tmp 31 _) (at_c (v' := I8 4) rfl) (eql_I8 x3 4) rfl) (sS (sA (sT1 rfl) sT0) sB0 sF0) ?_
            refine AL_cons (LR_move (at_tmp 32 _) rfl) (sS (sT1 rfl) sB0 sF0) ?_
            refine AL_cutAt 4 ⟨[(1, .inl (is (U8 a1))), (2, .inl (is (U64 a2))), (3, .inl (is (U64 a3))), (4, .inr (.inl (4, 0))), (10, .inr (.inl (10, 0))), (11, .inr (.inl (11, 0))), (12, .inl (is (Bl x10))), (30, .inr (.inl (10, 1))), (31, .inl (is (I8 x3))), (32, .inl (is (Bl (x3 == 4)))), (33, .inl (is (Bl (x3 == 4)))), (37, .inl (is (Bl ((x3 == 4) || (x7 == 4)))))], [(4, pb 23 [is (U8 a0_0), is (U8 a0_1)]), (10, pb 112 [is (Bl x2), is (I8 x3), is (I16 x4), is (U64 x5)]), (11, pb 112 [is (Bl x6), is (I8 x7), is (I16 x8), is (U64 x9)])]⟩ ?_ ?_
            · cases hb : x3 == 4
              · skip
                refine AL_cons (LR_on rfl rfl rfl (LR_fieldAddr (off := 0) (o := 1) (at_tmp 11 _) (fun b w => fa112_1 b 0 w) rfl)) (sS (sT rfl (sT1 rfl)) sB0 sF0) ?_
                refine AL_cons (LR_on rfl rfl rfl (LR_load (at_tmp 34 _) na110 rfl rfl)) (sS (sT rfl (sT1 rfl)) (sB1 rfl) sF0) ?_
                refine AL_cons (LR_on rfl rfl rfl (LR_bin (at_tmp 35 _) (at_c (v' := I8 4) rfl) (eql_I8 x7 4) rfl)) (sS (sT rfl (sA (sT1 rfl) sT0)) sB0 sF0) ?_
                refine AL_cons (LR_pick (b := false) (at_tmp 33 _) (at_c (v' := Bl true) rfl) (at_tmp 36 _) rfl) (sS (sA (sT1 rfl) (sA sT0 (sT1 rfl))) sB0 sF0) ?_
                exact AL_nil ⟨rfl, weak0 ((sT rfl (sT rfl (sT rfl (sT rfl (sT rfl (sT rfl (sT rfl (sT rfl (sT rfl (sT rfl (sT rfl (sT rfl sT0))))))))))))) (sub_keep (sub_keep (sub_keep sub_nil)))⟩
              · skip
                refine AL_cons (LR_off (b := true) rfl rfl rfl rfl) (sS (sT1 rfl) sB0 sF0) ?_
                refine AL_cons (LR_off (b := true) rfl rfl rfl rfl) (sS (sT1 rfl) sB0 sF0) ?_
                refine AL_cons (LR_off (b := true) rfl rfl rfl rfl) (sS (sT1 rfl) sB0 sF0) ?_
                refine AL_cons (LR_pick (b := true) (at_tmp 33 _) (at_c (v' := Bl true) rfl) (at_tmp 36 _) rfl) (sS (sA (sT1 rfl) (sA sT0 (sT1 rfl))) sB0 sF0) ?_
                exact AL_nil ⟨rfl, weak0 ((sT rfl (sT rfl (sT rfl (sT rfl (sT rfl (sT rfl (sT rfl (sT rfl (sT rfl (sT rfl (sT rfl (sT rfl sT0))))))))))))) (sub_keep (sub_keep (sub_keep sub_nil)))⟩
            refine AL_cons (LR_assign (at_tmp 37 _) rfl) (sS (sT1 rfl) sB0 sF0) ?_
            refine AL_nil ?_
            exact thenN (cutLeaf (v := (x3 == 4) || (x7 == 4)) hr (weak0 ((sT rfl (sT rfl (sT rfl (sT rfl (sT rfl (sT rfl (sT rfl (sT rfl sT0))))))))) (sub_keep (sub_keep (sub_keep sub_nil)))))
          · rintro x11 hr
            show AW Hfaa.prog _ _ _ ⟨[(1, .inl (is (U8 a1))), (2, .inl (is (U64 a2))), (3, .inl (is (U64 a3))), (4, .inr (.inl (4, 0))), (10, .inr (.inl (10, 0))), (11, .inr (.inl (11, 0))), (12, .inl (is (Bl x10))), (29, .inl (is (Bl x11)))], [(4, pb 23 [is (U8 a0_0), is (U8 a0_1)]), (10, pb 112 [is (Bl x2), is (I8 x3), is (I16 x4), is (U64 x5)]), (11, pb 112 [is (Bl x6), is (I8 x7), is (I16 x8), is (U64 x9)])]⟩
            have hr : some r = F190_4 N a0_0 a0_1 a1 a2 a3 x2 x3 x4 x5 x6 x7 x8 x9 x10 x11 := hr
            refine AW_condT (b := x11) rfl (fun h => ?_) (fun h => ?_)
            · have hr := hr.trans (cond_t h)
              clear h
              refine AW_seq1 ?_
              obtain ⟨y18, hy18, hr⟩ := lt_some hr
              obtain ⟨y19, hy19, hr⟩ := lt_some hr
              refine AW_draw mixed
                (lrC (LR_loads (at_tmp 4 _) ag23 sz23 rfl rfl rfl)
                (lrC (LR_call Hfaa.func66 rfl rfl (C66 a0_0 a0_1 y18 hy18) (all_cons (at_tmp 38 _) all_nil) rfl)
                (lrC (LR_loads (at_tmp 4 _) ag23 sz23 rfl rfl rfl)
                (lrC (LR_move (at_tmp 2 _) rfl)
                (lrC (LR_move (at_tmp 3 _) rfl)
                (lrC (LR_call Hfaa.func214 rfl rfl (C214 a0_0 a0_1 a2 a3 y19 hy19) (all_cons (at_tmp 40 _) (all_cons (at_tmp 41 _) (all_cons (at_tmp 42 _) all_nil))) rfl)
                (lrC (LR_assign (at_tmp 39 _) rfl)
                (lrC (LR_assign (at_tmp 43 _) rfl)
                lrN))))))))
                (by kernel_rfl)
                (saC (sS (sT1 rfl) (sB1 rfl) sF0) (saC (sS (sA (sT1 rfl) sT0) sB0 sF0) (saC (sS (sT1 rfl) (sB1 rfl) sF0) (saC (sS (sT1 rfl) sB0 sF0) (saC (sS (sT1 rfl) sB0 sF0) (saC (sS (sA (sT1 rfl) (sA (sT1 rfl) (sA (sT1 rfl) sT0))) sB0 sF0) (saC (sS (sT1 rfl) sB0 sF0) (saC (sS (sT1 rfl) sB0 sF0) saN)))))))) ?_
              refine thenN ?_
              refine AW_ret ?_
              refine blR ?_
              refine thenR ?_
              obtain rfl := Option.some.inj hr
              exact res2 rfl (rvT rfl) (rvT rfl)
            · have hr := hr.trans (cond_f h)
              clear h
              refine AW_cut (σ := Bool) (fun v => ⟨[(1, .inl (is (U8 a1))), (4, .inr (.inl (4, 0))), (10, .inr (.inl (10, 0))), (11, .inr (.inl (11, 0))), (12, .inl (is (Bl x10))), (44, .inl (is (Bl v)))], [(4, pb 23 [is (U8 a0_0), is (U8 a0_1)]), (10, pb 112 [is (Bl x2), is (I8 x3), is (I16 x4), is (U64 x5)]), (11, pb 112 [is (Bl x6), is (I8 x7), is (I16 x8), is (U64 x9)])]⟩) (fun v => some r = F190_5 N a0_0 a0_1 a1 x2 x3 x4 x5 x6 x7 x8 x9 x10 v) ?_ ?_
              · skip
                refine AW_cut (σ := Bool) (fun v => ⟨[(1, .inl (is (U8 a1))), (4, .inr (.inl (4, 0))), (10, .inr (.inl (10, 0))), (11, .inr (.inl (11, 0))), (12, .inl (is (Bl x10))), (44, .inl (is (Bl v)))], [(4, pb 23 [is (U8 a0_0), is (U8 a0_1)]), (10, pb 112 [is (Bl x2), is (I8 x3), is (I16 x4), is (U64 x5)]), (11, pb 112 [is (Bl x6), is (I8 x7), is (I16 x8), is (U64 x9)])]⟩) (fun v => some r = F190_9 N a0_0 a0_1 a1 x2 x3 x4 x5 x6 x7 x8 x9 x10 v) ?_ ?_
                · skip
                  refine AW_region ?_
                  refine AL_cons (LR_fieldAddr (off := 0) (o := 1) (at_tmp 10 _) (fun b w => fa112_1 b 0 w) rfl) (sS (sT1 rfl) sB0 sF0) ?_
                  refine AL_cons (LR_load (at_tmp 45 _) na110 rfl rfl) (sS (sT1 rfl) (sB1 rfl) sF0) ?_
                  refine AL_cons (LR_bin (at_tmp 46 _) (at_c (v' := I8 3) rfl) (eql_I8 x3 3) rfl) (sS (sA (sT1 rfl) sT0) sB0 sF0) ?_
                  refine AL_cons (LR_move (at_tmp 47 _) rfl) (sS (sT1 rfl) sB0 sF0) ?_
                  refine AL_cutAt 4 ⟨[(1, .inl (is (U8 a1))), (2, .inl (is (U64 a2))), (3, .inl (is (U64 a3))), (4, .inr (.inl (4, 0))), (10, .inr (.inl (10, 0))), (11, .inr (.inl (11, 0))), (12, .inl (is (Bl x10))), (29, .inl (is (Bl x11))), (45, .inr (.inl (10, 1))), (46, .inl (is (I8 x3))), (47, .inl (is (Bl (x3 == 3)))), (48, .inl (is (Bl (x3 == 3)))), (52, .inl (is (Bl ((x3 == 3) && (x7 == 0)))))], [(4, pb 23 [is (U8 a0_0), is (U8 a0_1)]), (10, pb 112 [is (Bl x2), is (I8 x3), is (I16 x4), is (U64 x5)]), (11, pb 112 [is (Bl x6), is (I8 x7), is (I16 x8), is (U64 x9)])]⟩ ?_ ?_
                  · cases hb : x3 == 3
                    · skip
                      refine AL_cons (LR_off (b := false) rfl rfl rfl rfl) (sS (sT1 rfl) sB0 sF0) ?_
                      refine AL_cons (LR_off (b := false) rfl rfl rfl rfl) (sS (sT1 rfl) sB0 sF0) ?_
                      refine AL_cons (LR_off (b := false) rfl rfl rfl rfl) (sS (sT1 rfl) sB0 sF0) ?_
                      refine AL_cons (LR_pick (b := false) (at_tmp 48 _) (at_tmp 51 _) (at_c (v' := Bl false) rfl) rfl) (sS (sA (sT1 rfl) (sA (sT1 rfl) sT0)) sB0 sF0) ?_
                      exact AL_nil ⟨rfl, weak0 ((sT rfl (sT rfl (sT rfl (sT rfl (sT rfl (sT rfl (sT rfl (sT rfl (sT rfl (sT rfl (sT rfl (sT rfl (sT rfl sT0)))))))))))))) (sub_keep (sub_keep (sub_keep sub_nil)))⟩
                    · skip
                      refine AL_cons (LR_on rfl rfl rfl (LR_fieldAddr (off := 0) (o := 1) (at_tmp 11 _) (fun b w => fa112_1 b 0 w) rfl)) (sS (sT rfl (sT1 rfl)) sB0 sF0) ?_
                      refine AL_cons (LR_on rfl rfl rfl (LR_load (at_tmp 49 _) na110 rfl rfl)) (sS (sT rfl (sT1 rfl)) (sB1 rfl) sF0) ?_
                      refine AL_cons (LR_on rfl rfl rfl (LR_bin (at_tmp 50 _) (at_c (v' := I8 0) rfl) (eql_I8 x7 0) rfl)) (sS (sT rfl (sA (sT1 rfl) sT0)) sB0 sF0) ?_
                      refine AL_cons (LR_pick (b := true) (at_tmp 48 _) (at_tmp 51 _) (at_c (v' := Bl false) rfl) rfl) (sS (sA (sT1 rfl) (sA (sT1 rfl) sT0)) sB0 sF0) ?_
                      exact AL_nil ⟨rfl, weak0 ((sT rfl (sT rfl (sT rfl (sT rfl (sT rfl (sT rfl (sT rfl (sT rfl (sT rfl (sT rfl (sT rfl (sT rfl (sT rfl sT0)))))))))))))) (sub_keep (sub_keep (sub_keep sub_nil)))⟩
                  refine AL_cons (LR_assign (at_tmp 52 _) rfl) (sS (sT1 rfl) sB0 sF0) ?_
                  refine AL_nil ?_
                  exact thenN (cutLeaf (v := (x3 == 3) && (x7 == 0)) hr (weak0 ((sT rfl (sT rfl (sT rfl (sT rfl (sT rfl (sT rfl sT0))))))) (sub_keep (sub_keep (sub_keep sub_nil)))))
                · rintro x17 hr
                  show AW Hfaa.prog _ _ _ ⟨[(1, .inl (is (U8 a1))), (4, .inr (.inl (4, 0))), (10, .inr (.inl (10, 0))), (11, .inr (.inl (11, 0))), (12, .inl (is (Bl x10))), (44, .inl (is (Bl x17)))], [(4, pb 23 [is (U8 a0_0), is (U8 a0_1)]), (10, pb 112 [is (Bl x2), is (I8 x3), is (I16 x4), is (U64 x5)]), (11, pb 112 [is (Bl x6), is (I8 x7), is (I16 x8), is (U64 x9)])]⟩
                  have hr : some r = F190_9 N a0_0 a0_1 a1 x2 x3 x4 x5 x6 x7 x8 x9 x10 x17 := hr
                  refine AW_condT (b := x17) rfl (fun h => ?_) (fun h => ?_)
                  · have hr := hr.trans (cond_t h)
                    clear h
                    refine AW_skip ?_
                    exact thenN (cutLeaf (v := x17) hr (weak0 ((sT rfl (sT rfl (sT rfl (sT rfl (sT rfl (sT rfl sT0))))))) (sub_keep (sub_keep (sub_keep sub_nil)))))
                  · have hr := hr.trans (cond_f h)
                    clear h
                    refine AW_region ?_
                    refine AL_cons (LR_fieldAddr (off := 0) (o := 1) (at_tmp 10 _) (fun b w => fa112_1 b 0 w) rfl) (sS (sT1 rfl) sB0 sF0) ?_
                    refine AL_cons (LR_load (at_tmp 53 _) na110 rfl rfl) (sS (sT1 rfl) (sB1 rfl) sF0) ?_
                    refine AL_cons (LR_bin (at_tmp 54 _) (at_c (v' := I8 0) rfl) (eql_I8 x3 0) rfl) (sS (sA (sT1 rfl) sT0) sB0 sF0) ?_
                    refine AL_cons (LR_move (at_tmp 55 _) rfl) (sS (sT1 rfl) sB0 sF0) ?_
                    refine AL_cutAt 4 ⟨[(1, .inl (is (U8 a1))), (4, .inr (.inl (4, 0))), (10, .inr (.inl (10, 0))), (11, .inr (.inl (11, 0))), (12, .inl (is (Bl x10))), (44, .inl (is (Bl x17))), (53, .inr (.inl (10, 1))), (54, .inl (is (I8 x3))), (55, .inl (is (Bl (x3 == 0)))), (56, .inl (is (Bl (x3 == 0)))), (60, .inl (is (Bl ((x3 == 0) && (x7 == 3)))))], [(4, pb 23 [is (U8 a0_0), is (U8 a0_1)]), (10, pb 112 [is (Bl x2), is (I8 x3), is (I16 x4), is (U64 x5)]), (11, pb 112 [is (Bl x6), is (I8 x7), is (I16 x8), is (U64 x9)])]⟩ ?_ ?_
                    · cases hb : x3 == 0
                      · skip
                        refine AL_cons (LR_off (b := false) rfl rfl rfl rfl) (sS (sT1 rfl) sB0 sF0) ?_
                        refine AL_cons (LR_off (b := false) rfl rfl rfl rfl) (sS (sT1 rfl) sB0 sF0) ?_
                        refine AL_cons (LR_off (b := false) rfl rfl rfl rfl) (sS (sT1 rfl) sB0 sF0) ?_
                        refine AL_cons (LR_pick (b := false) (at_tmp 56 _) (at_tmp 59 _) (at_c (v' := Bl false) rfl) rfl) (sS (sA (sT1 rfl) (sA (sT1 rfl) sT0)) sB0 sF0) ?_
                        exact AL_nil ⟨rfl, weak0 ((sT rfl (sT rfl (sT rfl (sT rfl (sT rfl (sT rfl (sT rfl (sT rfl (sT rfl (sT rfl (sT rfl sT0)))))))))))) (sub_keep (sub_keep (sub_keep sub_nil)))⟩
                      · skip
                        refine AL_cons (LR_on rfl rfl rfl (LR_fieldAddr (off := 0) (o := 1) (at_tmp 11 _) (fun b w => fa112_1 b 0 w) rfl)) (sS (sT rfl (sT1 rfl)) sB0 sF0) ?_
                        refine AL_cons (LR_on rfl rfl rfl (LR_load (at_tmp 57 _) na110 rfl rfl)) (sS (sT rfl (sT1 rfl)) (sB1 rfl) sF0) ?_
                        refine AL_cons (LR_on rfl rfl rfl (LR_bin (at_tmp 58 _) (at_c (v' := I8 3) rfl) (eql_I8 x7 3) rfl)) (sS (sT rfl (sA (sT1 rfl) sT0)) sB0 sF0) ?_
                        refine AL_cons (LR_pick (b := true) (at_tmp 56 _) (at_tmp 59 _) (at_c (v' := Bl false) rfl) rfl) (sS (sA (sT1 rfl) (sA (sT1 rfl) sT0)) sB0 sF0) ?_
                        exact AL_nil ⟨rfl, weak0 ((sT rfl (sT rfl (sT rfl (sT rfl (sT rfl (sT rfl (sT rfl (sT rfl (sT rfl (sT rfl (sT rfl sT0)))))))))))) (sub_keep (sub_keep (sub_keep sub_nil)))⟩
                    refine AL_cons (LR_assign (at_tmp 60 _) rfl) (sS (sT1 rfl) sB0 sF0) ?_
                    refine AL_nil ?_
                    exact thenN (cutLeaf (v := (x3 == 0) && (x7 == 3)) hr (weak0 ((sT rfl (sT rfl (sT rfl (sT rfl (sT rfl (sT rfl sT0))))))) (sub_keep (sub_keep (sub_keep sub_nil)))))
              · rintro x12 hr
                show AW Hfaa.prog _ _ _ ⟨[(1, .inl (is (U8 a1))), (4, .inr (.inl (4, 0))), (10, .inr (.inl (10, 0))), (11, .inr (.inl (11, 0))), (12, .inl (is (Bl x10))), (44, .inl (is (Bl x12)))], [(4, pb 23 [is (U8 a0_0), is (U8 a0_1)]), (10, pb 112 [is (Bl x2), is (I8 x3), is (I16 x4), is (U64 x5)]), (11, pb 112 [is (Bl x6), is (I8 x7), is (I16 x8), is (U64 x9)])]⟩
                have hr : some r = F190_5 N a0_0 a0_1 a1 x2 x3 x4 x5 x6 x7 x8 x9 x10 x12 := hr
                refine AW_condT (b := x12) rfl (fun h => ?_) (fun h => ?_)
                · have hr := hr.trans (cond_t h)
                  clear h
                  refine AW_seq1 ?_
                  refine AW_region ?_
                  refine AL_cons (LR_loads (at_tmp 4 _) ag23 sz23 rfl rfl rfl) (sS (sT1 rfl) (sB1 rfl) sF0) ?_
                  obtain ⟨y21, hy21, hr⟩ := lt_some hr
                  refine AL_cons (LR_call Hfaa.func66 rfl rfl (C66 a0_0 a0_1 y21 hy21) (all_cons (at_tmp 61 _) all_nil) rfl) (sS (sA (sT1 rfl) sT0) sB0 sF0) ?_
                  refine AL_cons (LR_assign (at_tmp 62 _) rfl) (sS (sT1 rfl) sB0 sF0) ?_
                  refine AL_cons (LR_assign (at_c (v' := U8 (1#8)) rfl) rfl) (sS sT0 sB0 sF0) ?_
                  refine AL_nil ?_
                  refine thenN ?_
                  refine AW_ret ?_
                  refine blR ?_
                  refine thenR ?_
                  obtain rfl := Option.some.inj hr
                  exact res2 rfl (rvT rfl) (rvT rfl)
                · have hr := hr.trans (cond_f h)
                  clear h
                  refine AW_cut (σ := Bool) (fun v => ⟨[(1, .inl (is (U8 a1))), (4, .inr (.inl (4, 0))), (10, .inr (.inl (10, 0))), (11, .inr (.inl (11, 0))), (12, .inl (is (Bl x10))), (63, .inl (is (Bl v)))], [(4, pb 23 [is (U8 a0_0), is (U8 a0_1)]), (10, pb 112 [is (Bl x2), is (I8 x3), is (I16 x4), is (U64 x5)]), (11, pb 112 [is (Bl x6), is (I8 x7), is (I16 x8), is (U64 x9)])]⟩) (fun v => some r = F190_6 N a0_0 a0_1 a1 x2 x3 x4 x5 x6 x7 x8 x9 x10 v) ?_ ?_
                  · skip
                    refine AW_region ?_
                    refine AL_cons (LR_fieldAddr (off := 0) (o := 1) (at_tmp 10 _) (fun b w => fa112_1 b 0 w) rfl) (sS (sT1 rfl) sB0 sF0) ?_
                    refine AL_cons (LR_load (at_tmp 64 _) na110 rfl rfl) (sS (sT1 rfl) (sB1 rfl) sF0) ?_
                    refine AL_cons (LR_bin (at_tmp 65 _) (at_c (v' := I8 3) rfl) (eql_I8 x3 3) rfl) (sS (sA (sT1 rfl) sT0) sB0 sF0) ?_
                    refine AL_cons (LR_move (at_tmp 66 _) rfl) (sS (sT1 rfl) sB0 sF0) ?_
                    refine AL_cutAt 4 ⟨[(1, .inl (is (U8 a1))), (4, .inr (.inl (4, 0))), (10, .inr (.inl (10, 0))), (11, .inr (.inl (11, 0))), (12, .inl (is (Bl x10))), (44, .inl (is (Bl x12))), (64, .inr (.inl (10, 1))), (65, .inl (is (I8 x3))), (66, .inl (is (Bl (x3 == 3)))), (67, .inl (is (Bl (x3 == 3)))), (71, .inl (is (Bl ((x3 == 3) || (x7 == 3)))))], [(4, pb 23 [is (U8 a0_0), is (U8 a0_1)]), (10, pb 112 [is (Bl x2), is (I8 x3), is (I16 x4), is (U64 x5)]), (11, pb 112 [is (Bl x6), is (I8 x7), is (I16 x8), is (U64 x9)])]⟩ ?_ ?_
                    · cases hb : x3 == 3
                      · skip
                        refine AL_cons (LR_on rfl rfl rfl (LR_fieldAddr (off := 0) (o := 1) (at_tmp 11 _) (fun b w => fa112_1 b 0 w) rfl)) (sS (sT rfl (sT1 rfl)) sB0 sF0) ?_
                        refine AL_cons (LR_on rfl rfl rfl (LR_load (at_tmp 68 _) na110 rfl rfl)) (sS (sT rfl (sT1 rfl)) (sB1 rfl) sF0) ?_
                        refine AL_cons (LR_on rfl rfl rfl (LR_bin (at_tmp 69 _) (at_c (v' := I8 3) rfl) (eql_I8 x7 3) rfl)) (sS (sT rfl (sA (sT1 rfl) sT0)) sB0 sF0) ?_
                        refine AL_cons (LR_pick (b := false) (at_tmp 67 _) (at_c (v' := Bl true) rfl) (at_tmp 70 _) rfl) (sS (sA (sT1 rfl) (sA sT0 (sT1 rfl))) sB0 sF0) ?_
                        exact AL_nil ⟨rfl, weak0 ((sT rfl (sT rfl (sT rfl (sT rfl (sT rfl (sT rfl (sT rfl (sT rfl (sT rfl (sT rfl (sT rfl sT0)))))))))))) (sub_keep (sub_keep (sub_keep sub_nil)))⟩
                      · skip
                        refine AL_cons (LR_off (b := true) rfl rfl rfl rfl) (sS (sT1 rfl) sB0 sF0) ?_
                        refine AL_cons (LR_off (b := true) rfl rfl rfl rfl) (sS (sT1 rfl) sB0 sF0) ?_
                        refine AL_cons (LR_off (b := true) rfl rfl rfl rfl) (sS (sT1 rfl) sB0 sF0) ?_
                        refine AL_cons (LR_pick (b := true) (at_tmp 67 _) (at_c (v' := Bl true) rfl) (at_tmp 70 _) rfl) (sS (sA (sT1 rfl) (sA sT0 (sT1 rfl))) sB0 sF0) ?_
                        exact AL_nil ⟨rfl, weak0 ((sT rfl (sT rfl (sT rfl (sT rfl (sT rfl (sT rfl (sT rfl (sT rfl (sT rfl (sT rfl (sT rfl sT0)))))))))))) (sub_keep (sub_keep (sub_keep sub_nil)))⟩
                    refine AL_cons (LR_assign (at_tmp 71 _) rfl) (sS (sT1 rfl) sB0 sF0) ?_
                    refine AL_nil ?_
                    exact thenN (cutLeaf (v := (x3 == 3) || (x7 == 3)) hr (weak0 ((sT rfl (sT rfl (sT rfl (sT rfl (sT rfl (sT rfl sT0))))))) (sub_keep (sub_keep (sub_keep sub_nil)))))
                  · rintro x13 hr
                    show AW Hfaa.prog _ _ _ ⟨[(1, .inl (is (U8 a1))), (4, .inr (.inl (4, 0))), (10, .inr (.inl (10, 0))), (11, .inr (.inl (11, 0))), (12, .inl (is (Bl x10))), (63, .inl (is (Bl x13)))], [(4, pb 23 [is (U8 a0_0), is (U8 a0_1)]), (10, pb 112 [is (Bl x2), is (I8 x3), is (I16 x4), is (U64 x5)]), (11, pb 112 [is (Bl x6), is (I8 x7), is (I16 x8), is (U64 x9)])]⟩
                    have hr : some r = F190_6 N a0_0 a0_1 a1 x2 x3 x4 x5 x6 x7 x8 x9 x10 x13 := hr
                    refine AW_condT (b := x13) rfl (fun h => ?_) (fun h => ?_)
                    · have hr := hr.trans (cond_t h)
                      clear h
                      refine AW_seq1 ?_
                      refine AW_region ?_
                      refine AL_cons (LR_loads (at_tmp 4 _) ag23 sz23 rfl rfl rfl) (sS (sT1 rfl) (sB1 rfl) sF0) ?_
                      refine AL_cons (LR_move (at_tmp 12 _) rfl) (sS (sT1 rfl) sB0 sF0) ?_
                      obtain ⟨y23, hy23, hr⟩ := lt_some hr
                      refine AL_cons (LR_call Hfaa.func67 rfl rfl (C67 a0_0 a0_1 x10 y23 hy23) (all_cons (at_tmp 72 _) (all_cons (at_tmp 73 _) all_nil)) rfl) (sS (sA (sT1 rfl) (sA (sT1 rfl) sT0)) sB0 sF0) ?_
                      refine AL_cons (LR_assign (at_tmp 74 _) rfl) (sS (sT1 rfl) sB0 sF0) ?_
                      refine AL_cons (LR_assign (at_c (v' := U8 (0#8)) rfl) rfl) (sS sT0 sB0 sF0) ?_
                      refine AL_nil ?_
                      refine thenN ?_
                      refine AW_ret ?_
                      refine blR ?_
                      refine thenR ?_
                      obtain rfl := Option.some.inj hr
                      exact res2 rfl (rvT rfl) (rvT rfl)
                    · have hr := hr.trans (cond_f h)
                      clear h
                      refine AW_cut (σ := Bool) (fun v => ⟨[(1, .inl (is (U8 a1))), (4, .inr (.inl (4, 0))), (10, .inr (.inl (10, 0))), (11, .inr (.inl (11, 0))), (12, .inl (is (Bl x10))), (75, .inl (is (Bl v)))], [(4, pb 23 [is (U8 a0_0), is (U8 a0_1)]), (10, pb 112 [is (Bl x2), is (I8 x3), is (I16 x4), is (U64 x5)]), (11, pb 112 [is (Bl x6), is (I8 x7), is (I16 x8), is (U64 x9)])]⟩) (fun v => some r = F190_7 N a0_0 a0_1 a1 x2 x3 x4 x5 x6 x7 x8 x9 x10 v) ?_ ?_
                      · skip
                        refine AW_region ?_
                        refine AL_cons (LR_fieldAddr (off := 0) (o := 1) (at_tmp 10 _) (fun b w => fa112_1 b 0 w) rfl) (sS (sT1 rfl) sB0 sF0) ?_
                        refine AL_cons (LR_load (at_tmp 76 _) na110 rfl rfl) (sS (sT1 rfl) (sB1 rfl) sF0) ?_
                        refine AL_cons (LR_bin (at_tmp 77 _) (at_c (v' := I8 0) rfl) (eql_I8 x3 0) rfl) (sS (sA (sT1 rfl) sT0) sB0 sF0) ?_
                        refine AL_cons (LR_move (at_tmp 78 _) rfl) (sS (sT1 rfl) sB0 sF0) ?_
                        refine AL_cutAt 4 ⟨[(1, .inl (is (U8 a1))), (4, .inr (.inl (4, 0))), (10, .inr (.inl (10, 0))), (11, .inr (.inl (11, 0))), (12, .inl (is (Bl x10))), (63, .inl (is (Bl x13))), (76, .inr (.inl (10, 1))), (77, .inl (is (I8 x3))), (78, .inl (is (Bl (x3 == 0)))), (79, .inl (is (Bl (x3 == 0)))), (83, .inl (is (Bl ((x3 == 0) || (x7 == 0)))))], [(4, pb 23 [is (U8 a0_0), is (U8 a0_1)]), (10, pb 112 [is (Bl x2), is (I8 x3), is (I16 x4), is (U64 x5)]), (11, pb 112 [is (Bl x6), is (I8 x7), is (I16 x8), is (U64 x9)])]⟩ ?_ ?_
                        · cases hb : x3 == 0
                          · skip
                            refine AL_cons (LR_on rfl rfl rfl (LR_fieldAddr (off := 0) (o := 1) (at_tmp 11 _) (fun b w => fa112_1 b 0 w) rfl)) (sS (sT rfl (sT1 rfl)) sB0 sF0) ?_
                            refine AL_cons (LR_on rfl rfl rfl (LR_load (at_tmp 80 _) na110 rfl rfl)) (sS (sT rfl (sT1 rfl)) (sB1 rfl) sF0) ?_
                            refine AL_cons (LR_on rfl rfl rfl (LR_bin (at_tmp 81 _) (at_c (v' := I8 0) rfl) (eql_I8 x7 0) rfl)) (sS (sT rfl (sA (sT1 rfl) sT0)) sB0 sF0) ?_
                            refine AL_cons (LR_pick (b := false) (at_tmp 79 _) (at_c (v' := Bl true) rfl) (at_tmp 82 _) rfl) (sS (sA (sT1 rfl) (sA sT0 (sT1 rfl))) sB0 sF0) ?_
                            exact AL_nil ⟨rfl, weak0 ((sT rfl (sT rfl (sT rfl (sT rfl (sT rfl (sT rfl (sT rfl (sT rfl (sT rfl (sT rfl (sT rfl sT0)))))))))))) (sub_keep (sub_keep (sub_keep sub_nil)))⟩
                          · skip
                            refine AL_cons (LR_off (b := true) rfl rfl rfl rfl) (sS (sT1 rfl) sB0 sF0) ?_
                            refine AL_cons (LR_off (b := true) rfl rfl rfl rfl) (sS (sT1 rfl) sB0 sF0) ?_
                            refine AL_cons (LR_off (b := true) rfl rfl rfl rfl) (sS (sT1 rfl) sB0 sF0) ?_
                            refine AL_cons (LR_pick (b := true) (at_tmp 79 _) (at_c (v' := Bl true) rfl) (at_tmp 82 _) rfl) (sS (sA (sT1 rfl) (sA sT0 (sT1 rfl))) sB0 sF0) ?_
                            exact AL_nil ⟨rfl, weak0 ((sT rfl (sT rfl (sT rfl (sT rfl (sT rfl (sT rfl (sT rfl (sT rfl (sT rfl (sT rfl (sT rfl sT0)))))))))))) (sub_keep (sub_keep (sub_keep sub_nil)))⟩
                        refine AL_cons (LR_assign (at_tmp 83 _) rfl) (sS (sT1 rfl) sB0 sF0) ?_
                        refine AL_nil ?_
                        exact thenN (cutLeaf (v := (x3 == 0) || (x7 == 0)) hr (weak0 ((sT rfl (sT rfl (sT rfl (sT rfl (sT rfl (sT rfl sT0))))))) (sub_keep (sub_keep (sub_keep sub_nil)))))
                      · rintro x14 hr
                        show AW Hfaa.prog _ _ _ ⟨[(1, .inl (is (U8 a1))), (4, .inr (.inl (4, 0))), (10, .inr (.inl (10, 0))), (11, .inr (.inl (11, 0))), (12, .inl (is (Bl x10))), (75, .inl (is (Bl x14)))], [(4, pb 23 [is (U8 a0_0), is (U8 a0_1)]), (10, pb 112 [is (Bl x2), is (I8 x3), is (I16 x4), is (U64 x5)]), (11, pb 112 [is (Bl x6), is (I8 x7), is (I16 x8), is (U64 x9)])]⟩
                        have hr : some r = F190_7 N a0_0 a0_1 a1 x2 x3 x4 x5 x6 x7 x8 x9 x10 x14 := hr
                        refine AW_condT (b := x14) rfl (fun h => ?_) (fun h => ?_)
                        · have hr := hr.trans (cond_t h)
                          clear h
                          refine AW_seq1 ?_
                          refine AW_region ?_
                          refine AL_cons (LR_loads (at_tmp 4 _) ag23 sz23 rfl rfl rfl) (sS (sT1 rfl) (sB1 rfl) sF0) ?_
                          refine AL_cons (LR_move (at_tmp 12 _) rfl) (sS (sT1 rfl) sB0 sF0) ?_
                          obtain ⟨y25, hy25, hr⟩ := lt_some hr
                          refine AL_cons (LR_call Hfaa.func259 rfl rfl (C259 a0_0 a0_1 x10 y25 hy25) (all_cons (at_tmp 84 _) (all_cons (at_tmp 85 _) all_nil)) rfl) (sS (sA (sT1 rfl) (sA (sT1 rfl) sT0)) sB0 sF0) ?_
                          refine AL_cons (LR_assign (at_tmp 86 _) rfl) (sS (sT1 rfl) sB0 sF0) ?_
                          refine AL_cons (LR_assign (at_c (v' := U8 (0#8)) rfl) rfl) (sS sT0 sB0 sF0) ?_
                          refine AL_nil ?_
                          refine thenN ?_
                          refine AW_ret ?_
                          refine blR ?_
                          refine thenR ?_
                          obtain rfl := Option.some.inj hr
                          exact res2 rfl (rvT rfl) (rvT rfl)
                        · have hr := hr.trans (cond_f h)
                          clear h
                          refine AW_skip ?_
                          refine blN ?_
                          refine thenN ?_
                          refine AW_cut (σ := BitVec 64 × Int) (fun v => ⟨[(1, .inl (is (U8 a1))), (4, .inr (.inl (4, 0))), (12, .inl (is (Bl x10))), (13, .inl (is (U64 v.1))), (14, .inl (is (I16 v.2)))], [(4, pb 23 [is (U8 a0_0), is (U8 a0_1)])]⟩) (fun v => some r = F190_8 N a0_0 a0_1 a1 x10 v.1 v.2) ?_ ?_
                          · skip
                            obtain ⟨y30, hy30, hr⟩ := lt_some hr
                            obtain ⟨y31, hy31, hr⟩ := bind_some hr
                            refine AW_draw mixed
                              (lrC (LR_fieldAddr (off := 0) (o := 3) (at_tmp 10 _) (fun b w => fa112_3 b 0 w) rfl)
                              (lrC (LR_load (at_tmp 88 _) na30 rfl rfl)
                              (lrC (LR_fieldAddr (off := 0) (o := 3) (at_tmp 11 _) (fun b w => fa112_3 b 0 w) rfl)
                              (lrC (LR_load (at_tmp 90 _) na30 rfl rfl)
                              (lrC (LR_call Hfaa.func165 rfl rfl (C165 x5 x9 y30 hy30) (all_cons (at_tmp 89 _) (all_cons (at_tmp 91 _) all_nil)) rfl)
                              (lrC (LR_fieldAddr (off := 0) (o := 2) (at_tmp 10 _) (fun b w => fa112_2 b 0 w) rfl)
                              (lrC (LR_load (at_tmp 93 _) na44 rfl rfl)
                              (lrC (LR_fieldAddr (off := 0) (o := 2) (at_tmp 11 _) (fun b w => fa112_2 b 0 w) rfl)
                              (lrC (LR_load (at_tmp 95 _) na44 rfl rfl)
                              (lrC (LR_bin (at_tmp 94 _) (at_tmp 96 _) (add_I16 x4 x8) rfl)
                              (lrC (LR_call Hfaa.func272 rfl rfl (C272 N y30.1 y30.2 (w16 (x4 + x8)) y31 hy31) (all_cons (at_tmp 92 _) (all_cons (at_tmp 97 _) all_nil)) rfl)
                              (lrC (LR_move (at_tmp 98 _) rfl)
                              (lrC (LR_extract (at_tmp 87 _) rfl rfl)
                              (lrC (LR_extract (at_tmp 87 _) rfl rfl)
                              (lrC (LR_assign (at_tmp 99 _) rfl)
                              (lrC (LR_assign (at_tmp 100 _) rfl)
                              lrN))))))))))))))))
                              (by kernel_rfl)
                              (saC (sS (sT1 rfl) sB0 sF0) (saC (sS (sT1 rfl) (sB1 rfl) sF0) (saC (sS (sT1 rfl) sB0 sF0) (saC (sS (sT1 rfl) (sB1 rfl) sF0) (saC (sS (sA (sT1 rfl) (sA (sT1 rfl) sT0)) sB0 sF0) (saC (sS (sT1 rfl) sB0 sF0) (saC (sS (sT1 rfl) (sB1 rfl) sF0) (saC (sS (sT1 rfl) sB0 sF0) (saC (sS (sT1 rfl) (sB1 rfl) sF0) (saC (sS (sA (sT1 rfl) (sT1 rfl)) sB0 sF0) (saC (sS (sA (sT1 rfl) (sA (sT1 rfl) sT0)) sB0 sF0) (saC (sS (sT1 rfl) sB0 sF0) (saC (sS (sT1 rfl) sB0 sF0) (saC (sS (sT1 rfl) sB0 sF0) (saC (sS (sT1 rfl) sB0 sF0) (saC (sS (sT1 rfl) sB0 sF0) saN)))))))))))))))) ?_
                            exact thenN (cutLeaf (v := (y31.1, y31.2)) hr (weak0 ((sT rfl (sT rfl (sT rfl (sT rfl (sT rfl sT0)))))) (sub_keep (sub_drop (sub_drop sub_nil)))))
                          · rintro ⟨x15, x16⟩ hr
                            show AW Hfaa.prog _ _ _ ⟨[(1, .inl (is (U8 a1))), (4, .inr (.inl (4, 0))), (12, .inl (is (Bl x10))), (13, .inl (is (U64 x15))), (14, .inl (is (I16 x16)))], [(4, pb 23 [is (U8 a0_0), is (U8 a0_1)])]⟩
                            have hr : some r = F190_8 N a0_0 a0_1 a1 x10 x15 x16 := hr
                            refine AW_seq1 ?_
                            refine AW_region ?_
                            refine AL_cons (LR_loads (at_tmp 4 _) ag23 sz23 rfl rfl rfl) (sS (sT1 rfl) (sB1 rfl) sF0) ?_
                            refine AL_cons (LR_move (at_tmp 1 _) rfl) (sS (sT1 rfl) sB0 sF0) ?_
                            refine AL_cons (LR_move (at_tmp 12 _) rfl) (sS (sT1 rfl) sB0 sF0) ?_
                            refine AL_cons (LR_move (at_tmp 14 _) rfl) (sS (sT1 rfl) sB0 sF0) ?_
                            refine AL_cons (LR_move (at_tmp 13 _) rfl) (sS (sT1 rfl) sB0 sF0) ?_
                            obtain ⟨y29, hy29, hr⟩ := bind_some hr
                            refine AL_cons (LR_call Hfaa.func215 rfl rfl (C215 N a0_0 a0_1 a1 x10 x16 x15 y29 hy29) (all_cons (at_tmp 101 _) (all_cons (at_tmp 102 _) (all_cons (at_tmp 103 _) (all_cons (at_tmp 104 _) (all_cons (at_tmp 105 _) all_nil))))) rfl) (sS (sA (sT1 rfl) (sA (sT1 rfl) (sA (sT1 rfl) (sA (sT1 rfl) (sA (sT1 rfl) sT0))))) sB0 sF0) ?_
                            refine AL_cons (LR_extract (at_tmp 106 _) rfl rfl) (sS (sT1 rfl) sB0 sF0) ?_
                            refine AL_cons (LR_extract (at_tmp 106 _) rfl rfl) (sS (sT1 rfl) sB0 sF0) ?_
                            refine AL_cons (LR_assign (at_tmp 107 _) rfl) (sS (sT1 rfl) sB0 sF0) ?_
                            refine AL_cons (LR_assign (at_tmp 108 _) rfl) (sS (sT1 rfl) sB0 sF0) ?_
                            refine AL_nil ?_
                            refine thenN ?_
                            refine AW_ret ?_
                            obtain rfl := Option.some.inj hr
                            exact res2 rfl (rvT rfl) (rvT rfl)
end Go.Proofs.YfwaawGreat
