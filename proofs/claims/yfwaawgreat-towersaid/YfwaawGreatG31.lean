import Derived.Test.YfwaawGreatG1
import Derived.Test.YfwaawGreatG25
import Derived.Test.YfwaawGreatG30
namespace Go.Proofs.YfwaawGreat
open Go.Aw
set_option linter.unusedVariables false
set_option maxRecDepth 100000
set_option maxHeartbeats 1000000
/-- soft.Sqrt -/
def F84_1 (N : Nat) (x1 : BitVec 64) : Option (BitVec 64) := some x1
def F84 (N : Nat) (a0_0 : BitVec 8) (a0_1 : BitVec 8) (a1 : BitVec 8) (a2 : BitVec 64) : Option (BitVec 64) := (F152 N a0_0 a0_1 a1 a2).bind fun y2 => F84_1 N y2.1
theorem C84 (N : Nat) (a0_0 : BitVec 8) (a0_1 : BitVec 8) (a1 : BitVec 8) (a2 : BitVec 64) (r : BitVec 64) (hr : some r = F84 N a0_0 a0_1 a1 a2) : Aw.Fn Hfaa.prog 84 [agg [is (U8 a0_0), is (U8 a0_1)], is (U8 a1), is (U64 a2)] (is (U64 r)) := by
  refine fn_intro Hfaa.func84 rfl rfl rfl ?_
  intro bn0 w0 H0
  refine AW_seq1 ?_
  refine AW_region ?_
  refine AL_cons (LR_box (at_tmp 0 _) (cells_agg _) rfl) (sS (sT1 rfl) sB0 (sF1 rfl)) ?_
  refine AL_cons (LR_assign (at_c (v' := U64 (0#64)) rfl) rfl) (sS sT0 sB0 sF0) ?_
  refine AL_nil ?_
  refine thenN ?_
  refine AW_cut (σ := BitVec 64) (fun v => ⟨[(7, .inl (is (U64 v)))], []⟩) (fun v => some r = F84_1 N v) ?_ ?_
  · skip
    refine AW_region ?_
    refine AL_cons (LR_loads (at_tmp 3 _) ag23 sz23 rfl rfl rfl) (sS (sT1 rfl) (sB1 rfl) sF0) ?_
    refine AL_cons (LR_move (at_tmp 1 _) rfl) (sS (sT1 rfl) sB0 sF0) ?_
    refine AL_cons (LR_move (at_tmp 2 _) rfl) (sS (sT1 rfl) sB0 sF0) ?_
    obtain ⟨y2, hy2, hr⟩ := bind_some hr
    refine AL_cons (LR_call Hfaa.func152 rfl rfl (C152 N a0_0 a0_1 a1 a2 y2 hy2) (all_cons (at_tmp 10 _) (all_cons (at_tmp 11 _) (all_cons (at_tmp 12 _) all_nil))) rfl) (sS (sA (sT1 rfl) (sA (sT1 rfl) (sA (sT1 rfl) sT0))) sB0 sF0) ?_
    refine AL_cons (LR_move (at_tmp 13 _) rfl) (sS (sT1 rfl) sB0 sF0) ?_
    refine AL_cons (LR_extract (at_tmp 9 _) rfl rfl) (sS (sT1 rfl) sB0 sF0) ?_
    refine AL_cons (LR_extract (at_tmp 9 _) rfl rfl) (sS (sT1 rfl) sB0 sF0) ?_
    refine AL_cons (LR_assign (at_tmp 14 _) rfl) (sS (sT1 rfl) sB0 sF0) ?_
    refine AL_cons (LR_assign (at_tmp 15 _) rfl) (sS (sT1 rfl) sB0 sF0) ?_
    refine AL_nil ?_
    exact thenN (cutLeaf (v := y2.1) hr (weak0 ((sT rfl sT0)) (sub_drop sub_nil)))
  · rintro x1 hr
    show AW Hfaa.prog _ _ _ ⟨[(7, .inl (is (U64 x1)))], []⟩
    have hr : some r = F84_1 N x1 := hr
    refine AW_seq1 ?_
    refine AW_region ?_
    refine AL_cons (LR_move (at_tmp 7 _) rfl) (sS (sT1 rfl) sB0 sF0) ?_
    refine AL_cons (LR_assign (at_tmp 16 _) rfl) (sS (sT1 rfl) sB0 sF0) ?_
    refine AL_nil ?_
    refine thenN ?_
    refine AW_ret ?_
    obtain rfl := Option.some.inj hr
    exact res1 rfl (rvT rfl)
/-- soft.Cmp -/
def F88_8 (x15 : Bool) : Int := bif x15 then (-1) else 1
def F88_9 (x2 : Bool) (x3 : Int) (x4 : Int) (x5 : BitVec 64) (x6 : Bool) (x7 : Int) (x8 : Int) (x9 : BitVec 64) (x11 : BitVec 64) (x12 : BitVec 64) (x16 : Bool) : Int := bif x16 then F88_8 x16 else F88_8 ((x2 == x6) && ((decide (x11.toNat < x12.toNat)) != x2))
def F88_7 (x2 : Bool) (x3 : Int) (x4 : Int) (x5 : BitVec 64) (x6 : Bool) (x7 : Int) (x8 : Int) (x9 : BitVec 64) (x11 : BitVec 64) (x12 : BitVec 64) (x14 : Bool) : Int := bif x14 then 0 else F88_9 x2 x3 x4 x5 x6 x7 x8 x9 x11 x12 ((x2 != x6) && x2)
def F88_10 (x2 : Bool) (x3 : Int) (x4 : Int) (x5 : BitVec 64) (x6 : Bool) (x7 : Int) (x8 : Int) (x9 : BitVec 64) (x11 : BitVec 64) (x12 : BitVec 64) (x17 : Bool) : Int := bif x17 then F88_7 x2 x3 x4 x5 x6 x7 x8 x9 x11 x12 x17 else F88_7 x2 x3 x4 x5 x6 x7 x8 x9 x11 x12 ((x2 == x6) && (x11 == x12))
def F88_6 (x2 : Bool) (x3 : Int) (x4 : Int) (x5 : BitVec 64) (x6 : Bool) (x7 : Int) (x8 : Int) (x9 : BitVec 64) (x11 : BitVec 64) (x12 : BitVec 64) (x13 : Bool) : Int := bif x13 then 2 else F88_10 x2 x3 x4 x5 x6 x7 x8 x9 x11 x12 ((x11 ||| x12) == (0#64))
def F88_5 (x2 : Bool) (x3 : Int) (x4 : Int) (x5 : BitVec 64) (x6 : Bool) (x7 : Int) (x8 : Int) (x9 : BitVec 64) (x11 : BitVec 64) (x12 : BitVec 64) : Int := F88_6 x2 x3 x4 x5 x6 x7 x8 x9 x11 x12 ((x3 == 4) || (x7 == 4))
def F88_4 (a2 : BitVec 64) (x2 : Bool) (x3 : Int) (x4 : Int) (x5 : BitVec 64) (x6 : Bool) (x7 : Int) (x8 : Int) (x9 : BitVec 64) (x10 : BitVec 64) (x11 : BitVec 64) : Int := F88_5 x2 x3 x4 x5 x6 x7 x8 x9 x11 (a2 &&& x10)
def F88_3 (a1 : BitVec 64) (a2 : BitVec 64) (x2 : Bool) (x3 : Int) (x4 : Int) (x5 : BitVec 64) (x6 : Bool) (x7 : Int) (x8 : Int) (x9 : BitVec 64) (x10 : BitVec 64) : Int := F88_4 a2 x2 x3 x4 x5 x6 x7 x8 x9 x10 (a1 &&& x10)
def F88_2 (a0_0 : BitVec 8) (a0_1 : BitVec 8) (a1 : BitVec 64) (a2 : BitVec 64) (x2 : Bool) (x3 : Int) (x4 : Int) (x5 : BitVec 64) (x6 : Bool) (x7 : Int) (x8 : Int) (x9 : BitVec 64) : Int := lt (F70 a0_0 a0_1) fun y7 => F88_3 a1 a2 x2 x3 x4 x5 x6 x7 x8 x9 (y7 - (1#64))
def F88_1 (a0_0 : BitVec 8) (a0_1 : BitVec 8) (a1 : BitVec 64) (a2 : BitVec 64) (x1 : Bool) : Int := bif x1 then 0 else lt (F65 a0_0 a0_1 a1) fun y8 => lt (F65 a0_0 a0_1 a2) fun y9 => F88_2 a0_0 a0_1 a1 a2 y8.1 y8.2.1 y8.2.2.1 y8.2.2.2 y9.1 y9.2.1 y9.2.2.1 y9.2.2.2
def F88 (a0_0 : BitVec 8) (a0_1 : BitVec 8) (a1 : BitVec 64) (a2 : BitVec 64) : Int := lt (F40 a0_0 a0_1) fun y10 => F88_1 a0_0 a0_1 a1 a2 (!y10)
theorem C88 (a0_0 : BitVec 8) (a0_1 : BitVec 8) (a1 : BitVec 64) (a2 : BitVec 64) (r : Int) (hr : r = F88 a0_0 a0_1 a1 a2) : Aw.Fn Hfaa.prog 88 [agg [is (U8 a0_0), is (U8 a0_1)], is (U64 a1), is (U64 a2)] (is (I8 r)) := by
  refine fn_intro Hfaa.func88 rfl rfl rfl ?_
  intro bn0 w0 H0
  refine AW_seq1 ?_
  refine AW_region ?_
  refine AL_cons (LR_box (at_tmp 0 _) (cells_agg _) rfl) (sS (sT1 rfl) sB0 (sF1 rfl)) ?_
  refine AL_cons (LR_assign (at_c (v' := I8 0) rfl) rfl) (sS sT0 sB0 sF0) ?_
  refine AL_nil ?_
  refine thenN ?_
  refine AW_seq1 ?_
  refine AW_cut (σ := Bool) (fun v => ⟨[(1, .inl (is (U64 a1))), (2, .inl (is (U64 a2))), (3, .inr (.inl (3, 0))), (12, .inl (is (Bl v)))], [(3, pb 23 [is (U8 a0_0), is (U8 a0_1)])]⟩) (fun v => r = F88_1 a0_0 a0_1 a1 a2 v) ?_ ?_
  · skip
    refine AW_region ?_
    refine AL_cons (LR_loads (at_tmp 3 _) ag23 sz23 rfl rfl rfl) (sS (sT1 rfl) (sB1 rfl) sF0) ?_
    obtain ⟨y10, hy10, hr⟩ := lt_some hr
    refine AL_cons (LR_call Hfaa.func40 rfl rfl (C40 a0_0 a0_1 y10 hy10) (all_cons (at_tmp 10 _) all_nil) rfl) (sS (sA (sT1 rfl) sT0) sB0 sF0) ?_
    refine AL_cons (LR_un (at_tmp 11 _) (not_Bl y10) rfl) (sS (sT1 rfl) sB0 sF0) ?_
    refine AL_nil ?_
    exact thenN (cutLeaf (v := !y10) hr (weak0 ((sT rfl (sT rfl (sT rfl (sT rfl sT0))))) (sub_keep sub_nil)))
  · rintro x1 hr
    show AW Hfaa.prog _ _ _ ⟨[(1, .inl (is (U64 a1))), (2, .inl (is (U64 a2))), (3, .inr (.inl (3, 0))), (12, .inl (is (Bl x1)))], [(3, pb 23 [is (U8 a0_0), is (U8 a0_1)])]⟩
    have hr : r = F88_1 a0_0 a0_1 a1 a2 x1 := hr
    refine AW_condT (b := x1) rfl (fun h => ?_) (fun h => ?_)
    · have hr := hr.trans (cond_t h)
      clear h
      refine AW_seq1 ?_
      refine AW_region ?_
      refine AL_cons (LR_assign (at_c (v' := I8 0) rfl) rfl) (sS sT0 sB0 sF0) ?_
      refine AL_nil ?_
      refine thenN ?_
      refine AW_ret ?_
      refine thenR ?_
      subst hr
      exact res1 rfl (rvT rfl)
    · have hr := hr.trans (cond_f h)
      clear h
      refine AW_skip ?_
      refine thenN ?_
      refine AW_cut (σ := Bool × Int × Int × BitVec 64 × Bool × Int × Int × BitVec 64) (fun v => ⟨[(1, .inl (is (U64 a1))), (2, .inl (is (U64 a2))), (3, .inr (.inl (3, 0))), (7, .inr (.inl (7, 0))), (8, .inr (.inl (8, 0)))], [(3, pb 23 [is (U8 a0_0), is (U8 a0_1)]), (7, pb 112 [is (Bl v.1), is (I8 v.2.1), is (I16 v.2.2.1), is (U64 v.2.2.2.1)]), (8, pb 112 [is (Bl v.2.2.2.2.1), is (I8 v.2.2.2.2.2.1), is (I16 v.2.2.2.2.2.2.1), is (U64 v.2.2.2.2.2.2.2)])]⟩) (fun v => r = F88_2 a0_0 a0_1 a1 a2 v.1 v.2.1 v.2.2.1 v.2.2.2.1 v.2.2.2.2.1 v.2.2.2.2.2.1 v.2.2.2.2.2.2.1 v.2.2.2.2.2.2.2) ?_ ?_
      · skip
        obtain ⟨y8, hy8, hr⟩ := lt_some hr
        obtain ⟨y9, hy9, hr⟩ := lt_some hr
        refine AW_draw mixed
          (lrC (LR_loads (at_tmp 3 _) ag23 sz23 rfl rfl rfl)
          (lrC (LR_move (at_tmp 1 _) rfl)
          (lrC (LR_call Hfaa.func65 rfl rfl (C65 a0_0 a0_1 a1 y8 hy8) (all_cons (at_tmp 13 _) (all_cons (at_tmp 14 _) all_nil)) rfl)
          (lrC (LR_loads (at_tmp 3 _) ag23 sz23 rfl rfl rfl)
          (lrC (LR_move (at_tmp 2 _) rfl)
          (lrC (LR_call Hfaa.func65 rfl rfl (C65 a0_0 a0_1 a2 y9 hy9) (all_cons (at_tmp 16 _) (all_cons (at_tmp 17 _) all_nil)) rfl)
          (lrC (zl112 rfl)
          (lrC (zl112 rfl)
          (lrC (LR_store (at_tmp 7 _) (at_tmp 15 _) (cells_agg _) (onC (one_is rfl) (onC (one_is rfl) (onC (one_is rfl) (onC (one_is rfl) onN)))) sz112 rfl rfl)
          (lrC (LR_store (at_tmp 8 _) (at_tmp 18 _) (cells_agg _) (onC (one_is rfl) (onC (one_is rfl) (onC (one_is rfl) (onC (one_is rfl) onN)))) sz112 rfl rfl)
          lrN))))))))))
          (by kernel_rfl)
          (saC (sS (sT1 rfl) (sB1 rfl) sF0) (saC (sS (sT1 rfl) sB0 sF0) (saC (sS (sA (sT1 rfl) (sA (sT1 rfl) sT0)) sB0 sF0) (saC (sS (sT1 rfl) (sB1 rfl) sF0) (saC (sS (sT1 rfl) sB0 sF0) (saC (sS (sA (sT1 rfl) (sA (sT1 rfl) sT0)) sB0 sF0) (saC (sS sT0 sB0 (sF1 rfl)) (saC (sS sT0 sB0 (sF1 rfl)) (saC (sS (sA (sT1 rfl) (sT1 rfl)) (sB1 rfl) sF0) (saC (sS (sA (sT1 rfl) (sT1 rfl)) (sB1 rfl) sF0) saN)))))))))) ?_
        exact thenN (cutLeaf (v := (y8.1, y8.2.1, y8.2.2.1, y8.2.2.2, y9.1, y9.2.1, y9.2.2.1, y9.2.2.2)) hr (weak0 ((sT rfl (sT rfl (sT rfl (sT rfl (sT rfl sT0)))))) (sub_keep (sub_keep (sub_keep sub_nil)))))
      · rintro ⟨x2, x3, x4, x5, x6, x7, x8, x9⟩ hr
        show AW Hfaa.prog _ _ _ ⟨[(1, .inl (is (U64 a1))), (2, .inl (is (U64 a2))), (3, .inr (.inl (3, 0))), (7, .inr (.inl (7, 0))), (8, .inr (.inl (8, 0)))], [(3, pb 23 [is (U8 a0_0), is (U8 a0_1)]), (7, pb 112 [is (Bl x2), is (I8 x3), is (I16 x4), is (U64 x5)]), (8, pb 112 [is (Bl x6), is (I8 x7), is (I16 x8), is (U64 x9)])]⟩
        have hr : r = F88_2 a0_0 a0_1 a1 a2 x2 x3 x4 x5 x6 x7 x8 x9 := hr
        refine AW_cut (σ := BitVec 64) (fun v => ⟨[(1, .inl (is (U64 a1))), (2, .inl (is (U64 a2))), (7, .inr (.inl (7, 0))), (8, .inr (.inl (8, 0))), (9, .inl (is (U64 v)))], [(7, pb 112 [is (Bl x2), is (I8 x3), is (I16 x4), is (U64 x5)]), (8, pb 112 [is (Bl x6), is (I8 x7), is (I16 x8), is (U64 x9)])]⟩) (fun v => r = F88_3 a1 a2 x2 x3 x4 x5 x6 x7 x8 x9 v) ?_ ?_
        · skip
          refine AW_region ?_
          refine AL_cons (LR_loads (at_tmp 3 _) ag23 sz23 rfl rfl rfl) (sS (sT1 rfl) (sB1 rfl) sF0) ?_
          obtain ⟨y7, hy7, hr⟩ := lt_some hr
          refine AL_cons (LR_call Hfaa.func70 rfl rfl (C70 a0_0 a0_1 y7 hy7) (all_cons (at_tmp 19 _) all_nil) rfl) (sS (sA (sT1 rfl) sT0) sB0 sF0) ?_
          refine AL_cons (LR_bin (at_tmp 20 _) (at_c (v' := U64 (1#64)) rfl) (sub_U64 y7 (1#64)) rfl) (sS (sA (sT1 rfl) sT0) sB0 sF0) ?_
          refine AL_cons (LR_assign (at_tmp 21 _) rfl) (sS (sT1 rfl) sB0 sF0) ?_
          refine AL_nil ?_
          exact thenN (cutLeaf (v := y7 - (1#64)) hr (weak0 ((sT rfl (sT rfl (sT rfl (sT rfl (sT rfl sT0)))))) (sub_drop (sub_keep (sub_keep sub_nil)))))
        · rintro x10 hr
          show AW Hfaa.prog _ _ _ ⟨[(1, .inl (is (U64 a1))), (2, .inl (is (U64 a2))), (7, .inr (.inl (7, 0))), (8, .inr (.inl (8, 0))), (9, .inl (is (U64 x10)))], [(7, pb 112 [is (Bl x2), is (I8 x3), is (I16 x4), is (U64 x5)]), (8, pb 112 [is (Bl x6), is (I8 x7), is (I16 x8), is (U64 x9)])]⟩
          have hr : r = F88_3 a1 a2 x2 x3 x4 x5 x6 x7 x8 x9 x10 := hr
          refine AW_cut (σ := BitVec 64) (fun v => ⟨[(1, .inl (is (U64 v))), (2, .inl (is (U64 a2))), (7, .inr (.inl (7, 0))), (8, .inr (.inl (8, 0))), (9, .inl (is (U64 x10)))], [(7, pb 112 [is (Bl x2), is (I8 x3), is (I16 x4), is (U64 x5)]), (8, pb 112 [is (Bl x6), is (I8 x7), is (I16 x8), is (U64 x9)])]⟩) (fun v => r = F88_4 a2 x2 x3 x4 x5 x6 x7 x8 x9 x10 v) ?_ ?_
          · skip
            refine AW_region ?_
            refine AL_cons (LR_move (at_tmp 1 _) rfl) (sS (sT1 rfl) sB0 sF0) ?_
            refine AL_cons (LR_move (at_tmp 9 _) rfl) (sS (sT1 rfl) sB0 sF0) ?_
            refine AL_cons (LR_bin (at_tmp 22 _) (at_tmp 23 _) (and_U64 a1 x10) rfl) (sS (sA (sT1 rfl) (sT1 rfl)) sB0 sF0) ?_
            refine AL_cons (LR_assign (at_tmp 24 _) rfl) (sS (sT1 rfl) sB0 sF0) ?_
            refine AL_nil ?_
            exact thenN (cutLeaf (v := a1 &&& x10) hr (weak0 ((sT rfl (sT rfl (sT rfl (sT rfl (sT rfl sT0)))))) (sub_keep (sub_keep sub_nil))))
          · rintro x11 hr
            show AW Hfaa.prog _ _ _ ⟨[(1, .inl (is (U64 x11))), (2, .inl (is (U64 a2))), (7, .inr (.inl (7, 0))), (8, .inr (.inl (8, 0))), (9, .inl (is (U64 x10)))], [(7, pb 112 [is (Bl x2), is (I8 x3), is (I16 x4), is (U64 x5)]), (8, pb 112 [is (Bl x6), is (I8 x7), is (I16 x8), is (U64 x9)])]⟩
            have hr : r = F88_4 a2 x2 x3 x4 x5 x6 x7 x8 x9 x10 x11 := hr
            refine AW_cut (σ := BitVec 64) (fun v => ⟨[(1, .inl (is (U64 x11))), (2, .inl (is (U64 v))), (7, .inr (.inl (7, 0))), (8, .inr (.inl (8, 0)))], [(7, pb 112 [is (Bl x2), is (I8 x3), is (I16 x4), is (U64 x5)]), (8, pb 112 [is (Bl x6), is (I8 x7), is (I16 x8), is (U64 x9)])]⟩) (fun v => r = F88_5 x2 x3 x4 x5 x6 x7 x8 x9 x11 v) ?_ ?_
            · skip
              refine AW_region ?_
              refine AL_cons (LR_move (at_tmp 2 _) rfl) (sS (sT1 rfl) sB0 sF0) ?_
              refine AL_cons (LR_move (at_tmp 9 _) rfl) (sS (sT1 rfl) sB0 sF0) ?_
              refine AL_cons (LR_bin (at_tmp 25 _) (at_tmp 26 _) (and_U64 a2 x10) rfl) (sS (sA (sT1 rfl) (sT1 rfl)) sB0 sF0) ?_
              refine AL_cons (LR_assign (at_tmp 27 _) rfl) (sS (sT1 rfl) sB0 sF0) ?_
              refine AL_nil ?_
              exact thenN (cutLeaf (v := a2 &&& x10) hr (weak0 ((sT rfl (sT rfl (sT rfl (sT rfl sT0))))) (sub_keep (sub_keep sub_nil))))
            · rintro x12 hr
              show AW Hfaa.prog _ _ _ ⟨[(1, .inl (is (U64 x11))), (2, .inl (is (U64 x12))), (7, .inr (.inl (7, 0))), (8, .inr (.inl (8, 0)))], [(7, pb 112 [is (Bl x2), is (I8 x3), is (I16 x4), is (U64 x5)]), (8, pb 112 [is (Bl x6), is (I8 x7), is (I16 x8), is (U64 x9)])]⟩
              have hr : r = F88_5 x2 x3 x4 x5 x6 x7 x8 x9 x11 x12 := hr
              refine AW_seq1 ?_
              refine AW_block ?_
              refine AW_cut (σ := Bool) (fun v => ⟨[(1, .inl (is (U64 x11))), (2, .inl (is (U64 x12))), (7, .inr (.inl (7, 0))), (8, .inr (.inl (8, 0))), (28, .inl (is (Bl v)))], [(7, pb 112 [is (Bl x2), is (I8 x3), is (I16 x4), is (U64 x5)]), (8, pb 112 [is (Bl x6), is (I8 x7), is (I16 x8), is (U64 x9)])]⟩) (fun v => r = F88_6 x2 x3 x4 x5 x6 x7 x8 x9 x11 x12 v) ?_ ?_
              · skip
                refine AW_region ?_
                refine AL_cons (LR_fieldAddr (off := 0) (o := 1) (at_tmp 7 _) (fun b w => fa112_1 b 0 w) rfl) (sS (sT1 rfl) sB0 sF0) ?_
                refine AL_cons (LR_load (at_tmp 29 _) na110 rfl rfl) (sS (sT1 rfl) (sB1 rfl) sF0) ?_
                refine AL_cons (LR_bin (at_tmp 30 _) (at_c (v' := I8 4) rfl) (eql_I8 x3 4) rfl) (sS (sA (sT1 rfl) sT0) sB0 sF0) ?_
                refine AL_cons (LR_move (at_tmp 31 _) rfl) (sS (sT1 rfl) sB0 sF0) ?_
                refine AL_cutAt 4 ⟨[(1, .inl (is (U64 x11))), (2, .inl (is (U64 x12))), (7, .inr (.inl (7, 0))), (8, .inr (.inl (8, 0))), (29, .inr (.inl (7, 1))), (30, .inl (is (I8 x3))), (31, .inl (is (Bl (x3 == 4)))), (32, .inl (is (Bl (x3 == 4)))), (36, .inl (is (Bl ((x3 == 4) || (x7 == 4)))))], [(7, pb 112 [is (Bl x2), is (I8 x3), is (I16 x4), is (U64 x5)]), (8, pb 112 [is (Bl x6), is (I8 x7), is (I16 x8), is (U64 x9)])]⟩ ?_ ?_
                · cases hb : x3 == 4
                  · skip
                    refine AL_cons (LR_on rfl rfl rfl (LR_fieldAddr (off := 0) (o := 1) (at_tmp 8 _) (fun b w => fa112_1 b 0 w) rfl)) (sS (sT rfl (sT1 rfl)) sB0 sF0) ?_
                    refine AL_cons (LR_on rfl rfl rfl (LR_load (at_tmp 33 _) na110 rfl rfl)) (sS (sT rfl (sT1 rfl)) (sB1 rfl) sF0) ?_
                    refine AL_cons (LR_on rfl rfl rfl (LR_bin (at_tmp 34 _) (at_c (v' := I8 4) rfl) (eql_I8 x7 4) rfl)) (sS (sT rfl (sA (sT1 rfl) sT0)) sB0 sF0) ?_
                    refine AL_cons (LR_pick (b := false) (at_tmp 32 _) (at_c (v' := Bl true) rfl) (at_tmp 35 _) rfl) (sS (sA (sT1 rfl) (sA sT0 (sT1 rfl))) sB0 sF0) ?_
                    exact AL_nil ⟨rfl, weak0 ((sT rfl (sT rfl (sT rfl (sT rfl (sT rfl (sT rfl (sT rfl (sT rfl (sT rfl sT0)))))))))) (sub_keep (sub_keep sub_nil))⟩
                  · skip
                    refine AL_cons (LR_off (b := true) rfl rfl rfl rfl) (sS (sT1 rfl) sB0 sF0) ?_
                    refine AL_cons (LR_off (b := true) rfl rfl rfl rfl) (sS (sT1 rfl) sB0 sF0) ?_
                    refine AL_cons (LR_off (b := true) rfl rfl rfl rfl) (sS (sT1 rfl) sB0 sF0) ?_
                    refine AL_cons (LR_pick (b := true) (at_tmp 32 _) (at_c (v' := Bl true) rfl) (at_tmp 35 _) rfl) (sS (sA (sT1 rfl) (sA sT0 (sT1 rfl))) sB0 sF0) ?_
                    exact AL_nil ⟨rfl, weak0 ((sT rfl (sT rfl (sT rfl (sT rfl (sT rfl (sT rfl (sT rfl (sT rfl (sT rfl sT0)))))))))) (sub_keep (sub_keep sub_nil))⟩
                refine AL_cons (LR_assign (at_tmp 36 _) rfl) (sS (sT1 rfl) sB0 sF0) ?_
                refine AL_nil ?_
                exact thenN (cutLeaf (v := (x3 == 4) || (x7 == 4)) hr (weak0 ((sT rfl (sT rfl (sT rfl (sT rfl (sT rfl sT0)))))) (sub_keep (sub_keep sub_nil))))
              · rintro x13 hr
                show AW Hfaa.prog _ _ _ ⟨[(1, .inl (is (U64 x11))), (2, .inl (is (U64 x12))), (7, .inr (.inl (7, 0))), (8, .inr (.inl (8, 0))), (28, .inl (is (Bl x13)))], [(7, pb 112 [is (Bl x2), is (I8 x3), is (I16 x4), is (U64 x5)]), (8, pb 112 [is (Bl x6), is (I8 x7), is (I16 x8), is (U64 x9)])]⟩
                have hr : r = F88_6 x2 x3 x4 x5 x6 x7 x8 x9 x11 x12 x13 := hr
                refine AW_condT (b := x13) rfl (fun h => ?_) (fun h => ?_)
                · have hr := hr.trans (cond_t h)
                  clear h
                  refine AW_seq1 ?_
                  refine AW_region ?_
                  refine AL_cons (LR_assign (at_c (v' := I8 2) rfl) rfl) (sS sT0 sB0 sF0) ?_
                  refine AL_nil ?_
                  refine thenN ?_
                  refine AW_ret ?_
                  refine blR ?_
                  refine thenR ?_
                  subst hr
                  exact res1 rfl (rvT rfl)
                · have hr := hr.trans (cond_f h)
                  clear h
                  refine AW_cut (σ := Bool) (fun v => ⟨[(1, .inl (is (U64 x11))), (2, .inl (is (U64 x12))), (7, .inr (.inl (7, 0))), (8, .inr (.inl (8, 0))), (37, .inl (is (Bl v)))], [(7, pb 112 [is (Bl x2), is (I8 x3), is (I16 x4), is (U64 x5)]), (8, pb 112 [is (Bl x6), is (I8 x7), is (I16 x8), is (U64 x9)])]⟩) (fun v => r = F88_7 x2 x3 x4 x5 x6 x7 x8 x9 x11 x12 v) ?_ ?_
                  · skip
                    refine AW_cut (σ := Bool) (fun v => ⟨[(1, .inl (is (U64 x11))), (2, .inl (is (U64 x12))), (7, .inr (.inl (7, 0))), (8, .inr (.inl (8, 0))), (37, .inl (is (Bl v)))], [(7, pb 112 [is (Bl x2), is (I8 x3), is (I16 x4), is (U64 x5)]), (8, pb 112 [is (Bl x6), is (I8 x7), is (I16 x8), is (U64 x9)])]⟩) (fun v => r = F88_10 x2 x3 x4 x5 x6 x7 x8 x9 x11 x12 v) ?_ ?_
                    · skip
                      refine AW_region ?_
                      refine AL_cons (LR_move (at_tmp 1 _) rfl) (sS (sT1 rfl) sB0 sF0) ?_
                      refine AL_cons (LR_move (at_tmp 2 _) rfl) (sS (sT1 rfl) sB0 sF0) ?_
                      refine AL_cons (LR_bin (at_tmp 38 _) (at_tmp 39 _) (or_U64 x11 x12) rfl) (sS (sA (sT1 rfl) (sT1 rfl)) sB0 sF0) ?_
                      refine AL_cons (LR_bin (at_tmp 40 _) (at_c (v' := U64 (0#64)) rfl) (eql_U64 (x11 ||| x12) (0#64)) rfl) (sS (sA (sT1 rfl) sT0) sB0 sF0) ?_
                      refine AL_cons (LR_assign (at_tmp 41 _) rfl) (sS (sT1 rfl) sB0 sF0) ?_
                      refine AL_nil ?_
                      exact thenN (cutLeaf (v := (x11 ||| x12) == (0#64)) hr (weak0 ((sT rfl (sT rfl (sT rfl (sT rfl (sT rfl sT0)))))) (sub_keep (sub_keep sub_nil))))
                    · rintro x17 hr
                      show AW Hfaa.prog _ _ _ ⟨[(1, .inl (is (U64 x11))), (2, .inl (is (U64 x12))), (7, .inr (.inl (7, 0))), (8, .inr (.inl (8, 0))), (37, .inl (is (Bl x17)))], [(7, pb 112 [is (Bl x2), is (I8 x3), is (I16 x4), is (U64 x5)]), (8, pb 112 [is (Bl x6), is (I8 x7), is (I16 x8), is (U64 x9)])]⟩
                      have hr : r = F88_10 x2 x3 x4 x5 x6 x7 x8 x9 x11 x12 x17 := hr
                      refine AW_condT (b := x17) rfl (fun h => ?_) (fun h => ?_)
                      · have hr := hr.trans (cond_t h)
                        clear h
                        refine AW_skip ?_
                        exact thenN (cutLeaf (v := x17) hr (weak0 ((sT rfl (sT rfl (sT rfl (sT rfl (sT rfl sT0)))))) (sub_keep (sub_keep sub_nil))))
                      · have hr := hr.trans (cond_f h)
                        clear h
                        refine AW_region ?_
                        refine AL_cons (LR_fieldAddr (off := 0) (o := 0) (at_tmp 7 _) (fun b w => fa112_0 b 0 w) rfl) (sS (sT1 rfl) sB0 sF0) ?_
                        refine AL_cons (LR_load (at_tmp 42 _) na4 rfl rfl) (sS (sT1 rfl) (sB1 rfl) sF0) ?_
                        refine AL_cons (LR_fieldAddr (off := 0) (o := 0) (at_tmp 8 _) (fun b w => fa112_0 b 0 w) rfl) (sS (sT1 rfl) sB0 sF0) ?_
                        refine AL_cons (LR_load (at_tmp 44 _) na4 rfl rfl) (sS (sT1 rfl) (sB1 rfl) sF0) ?_
                        refine AL_cons (LR_bin (at_tmp 43 _) (at_tmp 45 _) (eql_Bl Hfaa.underlying4 x2 x6) rfl) (sS (sA (sT1 rfl) (sT1 rfl)) sB0 sF0) ?_
                        refine AL_cons (LR_move (at_tmp 46 _) rfl) (sS (sT1 rfl) sB0 sF0) ?_
                        refine AL_cutAt 4 ⟨[(1, .inl (is (U64 x11))), (2, .inl (is (U64 x12))), (7, .inr (.inl (7, 0))), (8, .inr (.inl (8, 0))), (37, .inl (is (Bl x17))), (42, .inr (.inl (7, 0))), (43, .inl (is (Bl x2))), (44, .inr (.inl (8, 0))), (45, .inl (is (Bl x6))), (46, .inl (is (Bl (x2 == x6)))), (47, .inl (is (Bl (x2 == x6)))), (51, .inl (is (Bl ((x2 == x6) && (x11 == x12)))))], [(7, pb 112 [is (Bl x2), is (I8 x3), is (I16 x4), is (U64 x5)]), (8, pb 112 [is (Bl x6), is (I8 x7), is (I16 x8), is (U64 x9)])]⟩ ?_ ?_
                        · cases hb : x2 == x6
                          · skip
                            refine AL_cons (LR_off (b := false) rfl rfl rfl rfl) (sS (sT1 rfl) sB0 sF0) ?_
                            refine AL_cons (LR_off (b := false) rfl rfl rfl rfl) (sS (sT1 rfl) sB0 sF0) ?_
                            refine AL_cons (LR_off (b := false) rfl rfl rfl rfl) (sS (sT1 rfl) sB0 sF0) ?_
                            refine AL_cons (LR_pick (b := false) (at_tmp 47 _) (at_tmp 50 _) (at_c (v' := Bl false) rfl) rfl) (sS (sA (sT1 rfl) (sA (sT1 rfl) sT0)) sB0 sF0) ?_
                            exact AL_nil ⟨rfl, weak0 ((sT rfl (sT rfl (sT rfl (sT rfl (sT rfl (sT rfl (sT rfl (sT rfl (sT rfl (sT rfl (sT rfl (sT rfl sT0))))))))))))) (sub_keep (sub_keep sub_nil))⟩
                          · skip
                            refine AL_cons (LR_on rfl rfl rfl (LR_move (at_tmp 1 _) rfl)) (sS (sT rfl (sT1 rfl)) sB0 sF0) ?_
                            refine AL_cons (LR_on rfl rfl rfl (LR_move (at_tmp 2 _) rfl)) (sS (sT rfl (sT1 rfl)) sB0 sF0) ?_
                            refine AL_cons (LR_on rfl rfl rfl (LR_bin (at_tmp 48 _) (at_tmp 49 _) (eql_U64 x11 x12) rfl)) (sS (sT rfl (sA (sT1 rfl) (sT1 rfl))) sB0 sF0) ?_
                            refine AL_cons (LR_pick (b := true) (at_tmp 47 _) (at_tmp 50 _) (at_c (v' := Bl false) rfl) rfl) (sS (sA (sT1 rfl) (sA (sT1 rfl) sT0)) sB0 sF0) ?_
                            exact AL_nil ⟨rfl, weak0 ((sT rfl (sT rfl (sT rfl (sT rfl (sT rfl (sT rfl (sT rfl (sT rfl (sT rfl (sT rfl (sT rfl (sT rfl sT0))))))))))))) (sub_keep (sub_keep sub_nil))⟩
                        refine AL_cons (LR_assign (at_tmp 51 _) rfl) (sS (sT1 rfl) sB0 sF0) ?_
                        refine AL_nil ?_
                        exact thenN (cutLeaf (v := (x2 == x6) && (x11 == x12)) hr (weak0 ((sT rfl (sT rfl (sT rfl (sT rfl (sT rfl sT0)))))) (sub_keep (sub_keep sub_nil))))
                  · rintro x14 hr
                    show AW Hfaa.prog _ _ _ ⟨[(1, .inl (is (U64 x11))), (2, .inl (is (U64 x12))), (7, .inr (.inl (7, 0))), (8, .inr (.inl (8, 0))), (37, .inl (is (Bl x14)))], [(7, pb 112 [is (Bl x2), is (I8 x3), is (I16 x4), is (U64 x5)]), (8, pb 112 [is (Bl x6), is (I8 x7), is (I16 x8), is (U64 x9)])]⟩
                    have hr : r = F88_7 x2 x3 x4 x5 x6 x7 x8 x9 x11 x12 x14 := hr
                    refine AW_condT (b := x14) rfl (fun h => ?_) (fun h => ?_)
                    · have hr := hr.trans (cond_t h)
                      clear h
                      refine AW_seq1 ?_
                      refine AW_region ?_
                      refine AL_cons (LR_assign (at_c (v' := I8 0) rfl) rfl) (sS sT0 sB0 sF0) ?_
                      refine AL_nil ?_
                      refine thenN ?_
                      refine AW_ret ?_
                      refine blR ?_
                      refine thenR ?_
                      subst hr
                      exact res1 rfl (rvT rfl)
                    · have hr := hr.trans (cond_f h)
                      clear h
                      refine AW_cut (σ := Bool) (fun v => ⟨[(52, .inl (is (Bl v)))], []⟩) (fun v => r = F88_8 v) ?_ ?_
                      · skip
                        refine AW_cut (σ := Bool) (fun v => ⟨[(1, .inl (is (U64 x11))), (2, .inl (is (U64 x12))), (7, .inr (.inl (7, 0))), (8, .inr (.inl (8, 0))), (52, .inl (is (Bl v)))], [(7, pb 112 [is (Bl x2), is (I8 x3), is (I16 x4), is (U64 x5)]), (8, pb 112 [is (Bl x6), is (I8 x7), is (I16 x8), is (U64 x9)])]⟩) (fun v => r = F88_9 x2 x3 x4 x5 x6 x7 x8 x9 x11 x12 v) ?_ ?_
                        · skip
                          refine AW_region ?_
                          refine AL_cons (LR_fieldAddr (off := 0) (o := 0) (at_tmp 7 _) (fun b w => fa112_0 b 0 w) rfl) (sS (sT1 rfl) sB0 sF0) ?_
                          refine AL_cons (LR_load (at_tmp 53 _) na4 rfl rfl) (sS (sT1 rfl) (sB1 rfl) sF0) ?_
                          refine AL_cons (LR_fieldAddr (off := 0) (o := 0) (at_tmp 8 _) (fun b w => fa112_0 b 0 w) rfl) (sS (sT1 rfl) sB0 sF0) ?_
                          refine AL_cons (LR_load (at_tmp 55 _) na4 rfl rfl) (sS (sT1 rfl) (sB1 rfl) sF0) ?_
                          refine AL_cons (LR_bin (at_tmp 54 _) (at_tmp 56 _) (neq_Bl Hfaa.underlying4 x2 x6) rfl) (sS (sA (sT1 rfl) (sT1 rfl)) sB0 sF0) ?_
                          refine AL_cons (LR_move (at_tmp 57 _) rfl) (sS (sT1 rfl) sB0 sF0) ?_
                          refine AL_cutAt 3 ⟨[(1, .inl (is (U64 x11))), (2, .inl (is (U64 x12))), (7, .inr (.inl (7, 0))), (8, .inr (.inl (8, 0))), (37, .inl (is (Bl x14))), (53, .inr (.inl (7, 0))), (54, .inl (is (Bl x2))), (55, .inr (.inl (8, 0))), (56, .inl (is (Bl x6))), (57, .inl (is (Bl (x2 != x6)))), (58, .inl (is (Bl (x2 != x6)))), (61, .inl (is (Bl ((x2 != x6) && x2))))], [(7, pb 112 [is (Bl x2), is (I8 x3), is (I16 x4), is (U64 x5)]), (8, pb 112 [is (Bl x6), is (I8 x7), is (I16 x8), is (U64 x9)])]⟩ ?_ ?_
                          · cases hb : x2 != x6
                            · skip
                              refine AL_cons (LR_off (b := false) rfl rfl rfl rfl) (sS (sT1 rfl) sB0 sF0) ?_
                              refine AL_cons (LR_off (b := false) rfl rfl rfl rfl) (sS (sT1 rfl) sB0 sF0) ?_
                              refine AL_cons (LR_pick (b := false) (at_tmp 58 _) (at_tmp 60 _) (at_c (v' := Bl false) rfl) rfl) (sS (sA (sT1 rfl) (sA (sT1 rfl) sT0)) sB0 sF0) ?_
                              exact AL_nil ⟨rfl, weak0 ((sT rfl (sT rfl (sT rfl (sT rfl (sT rfl (sT rfl (sT rfl (sT rfl (sT rfl (sT rfl (sT rfl (sT rfl sT0))))))))))))) (sub_keep (sub_keep sub_nil))⟩
                            · skip
                              refine AL_cons (LR_on rfl rfl rfl (LR_fieldAddr (off := 0) (o := 0) (at_tmp 7 _) (fun b w => fa112_0 b 0 w) rfl)) (sS (sT rfl (sT1 rfl)) sB0 sF0) ?_
                              refine AL_cons (LR_on rfl rfl rfl (LR_load (at_tmp 59 _) na4 rfl rfl)) (sS (sT rfl (sT1 rfl)) (sB1 rfl) sF0) ?_
                              refine AL_cons (LR_pick (b := true) (at_tmp 58 _) (at_tmp 60 _) (at_c (v' := Bl false) rfl) rfl) (sS (sA (sT1 rfl) (sA (sT1 rfl) sT0)) sB0 sF0) ?_
                              exact AL_nil ⟨rfl, weak0 ((sT rfl (sT rfl (sT rfl (sT rfl (sT rfl (sT rfl (sT rfl (sT rfl (sT rfl (sT rfl (sT rfl (sT rfl sT0))))))))))))) (sub_keep (sub_keep sub_nil))⟩
                          refine AL_cons (LR_assign (at_tmp 61 _) rfl) (sS (sT1 rfl) sB0 sF0) ?_
                          refine AL_nil ?_
                          exact thenN (cutLeaf (v := (x2 != x6) && x2) hr (weak0 ((sT rfl (sT rfl (sT rfl (sT rfl (sT rfl sT0)))))) (sub_keep (sub_keep sub_nil))))
                        · rintro x16 hr
                          show AW Hfaa.prog _ _ _ ⟨[(1, .inl (is (U64 x11))), (2, .inl (is (U64 x12))), (7, .inr (.inl (7, 0))), (8, .inr (.inl (8, 0))), (52, .inl (is (Bl x16)))], [(7, pb 112 [is (Bl x2), is (I8 x3), is (I16 x4), is (U64 x5)]), (8, pb 112 [is (Bl x6), is (I8 x7), is (I16 x8), is (U64 x9)])]⟩
                          have hr : r = F88_9 x2 x3 x4 x5 x6 x7 x8 x9 x11 x12 x16 := hr
                          refine AW_condT (b := x16) rfl (fun h => ?_) (fun h => ?_)
                          · have hr := hr.trans (cond_t h)
                            clear h
                            refine AW_skip ?_
                            exact thenN (cutLeaf (v := x16) hr (weak0 ((sT rfl sT0)) (sub_drop (sub_drop sub_nil))))
                          · have hr := hr.trans (cond_f h)
                            clear h
                            refine AW_region ?_
                            refine AL_cons (LR_fieldAddr (off := 0) (o := 0) (at_tmp 7 _) (fun b w => fa112_0 b 0 w) rfl) (sS (sT1 rfl) sB0 sF0) ?_
                            refine AL_cons (LR_load (at_tmp 62 _) na4 rfl rfl) (sS (sT1 rfl) (sB1 rfl) sF0) ?_
                            refine AL_cons (LR_fieldAddr (off := 0) (o := 0) (at_tmp 8 _) (fun b w => fa112_0 b 0 w) rfl) (sS (sT1 rfl) sB0 sF0) ?_
                            refine AL_cons (LR_load (at_tmp 64 _) na4 rfl rfl) (sS (sT1 rfl) (sB1 rfl) sF0) ?_
                            refine AL_cons (LR_bin (at_tmp 63 _) (at_tmp 65 _) (eql_Bl Hfaa.underlying4 x2 x6) rfl) (sS (sA (sT1 rfl) (sT1 rfl)) sB0 sF0) ?_
                            refine AL_cons (LR_move (at_tmp 66 _) rfl) (sS (sT1 rfl) sB0 sF0) ?_
                            refine AL_cutAt 7 ⟨[(1, .inl (is (U64 x11))), (2, .inl (is (U64 x12))), (7, .inr (.inl (7, 0))), (8, .inr (.inl (8, 0))), (52, .inl (is (Bl x16))), (62, .inr (.inl (7, 0))), (63, .inl (is (Bl x2))), (64, .inr (.inl (8, 0))), (65, .inl (is (Bl x6))), (66, .inl (is (Bl (x2 == x6)))), (67, .inl (is (Bl (x2 == x6)))), (74, .inl (is (Bl ((x2 == x6) && ((decide (x11.toNat < x12.toNat)) != x2)))))], [(7, pb 112 [is (Bl x2), is (I8 x3), is (I16 x4), is (U64 x5)]), (8, pb 112 [is (Bl x6), is (I8 x7), is (I16 x8), is (U64 x9)])]⟩ ?_ ?_
                            · cases hb : x2 == x6
                              · skip
                                refine AL_cons (LR_off (b := false) rfl rfl rfl rfl) (sS (sT1 rfl) sB0 sF0) ?_
                                refine AL_cons (LR_off (b := false) rfl rfl rfl rfl) (sS (sT1 rfl) sB0 sF0) ?_
                                refine AL_cons (LR_off (b := false) rfl rfl rfl rfl) (sS (sT1 rfl) sB0 sF0) ?_
                                refine AL_cons (LR_off (b := false) rfl rfl rfl rfl) (sS (sT1 rfl) sB0 sF0) ?_
                                refine AL_cons (LR_off (b := false) rfl rfl rfl rfl) (sS (sT1 rfl) sB0 sF0) ?_
                                refine AL_cons (LR_off (b := false) rfl rfl rfl rfl) (sS (sT1 rfl) sB0 sF0) ?_
                                refine AL_cons (LR_pick (b := false) (at_tmp 67 _) (at_tmp 73 _) (at_c (v' := Bl false) rfl) rfl) (sS (sA (sT1 rfl) (sA (sT1 rfl) sT0)) sB0 sF0) ?_
                                exact AL_nil ⟨rfl, weak0 ((sT rfl (sT rfl (sT rfl (sT rfl (sT rfl (sT rfl (sT rfl (sT rfl (sT rfl (sT rfl (sT rfl (sT rfl sT0))))))))))))) (sub_keep (sub_keep sub_nil))⟩
                              · skip
                                refine AL_cons (LR_on rfl rfl rfl (LR_move (at_tmp 1 _) rfl)) (sS (sT rfl (sT1 rfl)) sB0 sF0) ?_
                                refine AL_cons (LR_on rfl rfl rfl (LR_move (at_tmp 2 _) rfl)) (sS (sT rfl (sT1 rfl)) sB0 sF0) ?_
                                refine AL_cons (LR_on rfl rfl rfl (LR_bin (at_tmp 68 _) (at_tmp 69 _) (lss_U64 x11 x12) rfl)) (sS (sT rfl (sA (sT1 rfl) (sT1 rfl))) sB0 sF0) ?_
                                refine AL_cons (LR_on rfl rfl rfl (LR_fieldAddr (off := 0) (o := 0) (at_tmp 7 _) (fun b w => fa112_0 b 0 w) rfl)) (sS (sT rfl (sT1 rfl)) sB0 sF0) ?_
                                refine AL_cons (LR_on rfl rfl rfl (LR_load (at_tmp 71 _) na4 rfl rfl)) (sS (sT rfl (sT1 rfl)) (sB1 rfl) sF0) ?_
                                refine AL_cons (LR_on rfl rfl rfl (LR_bin (at_tmp 70 _) (at_tmp 72 _) (neq_Bl Hfaa.underlying4 (decide (x11.toNat < x12.toNat)) x2) rfl)) (sS (sT rfl (sA (sT1 rfl) (sT1 rfl))) sB0 sF0) ?_
                                refine AL_cons (LR_pick (b := true) (at_tmp 67 _) (at_tmp 73 _) (at_c (v' := Bl false) rfl) rfl) (sS (sA (sT1 rfl) (sA (sT1 rfl) sT0)) sB0 sF0) ?_
                                exact AL_nil ⟨rfl, weak0 ((sT rfl (sT rfl (sT rfl (sT rfl (sT rfl (sT rfl (sT rfl (sT rfl (sT rfl (sT rfl (sT rfl (sT rfl sT0))))))))))))) (sub_keep (sub_keep sub_nil))⟩
                            refine AL_cons (LR_assign (at_tmp 74 _) rfl) (sS (sT1 rfl) sB0 sF0) ?_
                            refine AL_nil ?_
                            exact thenN (cutLeaf (v := (x2 == x6) && ((decide (x11.toNat < x12.toNat)) != x2)) hr (weak0 ((sT rfl sT0)) (sub_drop (sub_drop sub_nil))))
                      · rintro x15 hr
                        show AW Hfaa.prog _ _ _ ⟨[(52, .inl (is (Bl x15)))], []⟩
                        have hr : r = F88_8 x15 := hr
                        refine AW_condT (b := x15) rfl (fun h => ?_) (fun h => ?_)
                        · have hr := hr.trans (cond_t h)
                          clear h
                          refine AW_seq1 ?_
                          refine AW_region ?_
                          refine AL_cons (LR_assign (at_c (v' := I8 (-1)) rfl) rfl) (sS sT0 sB0 sF0) ?_
                          refine AL_nil ?_
                          refine thenN ?_
                          refine AW_ret ?_
                          refine blR ?_
                          refine thenR ?_
                          subst hr
                          exact res1 rfl (rvT rfl)
                        · have hr := hr.trans (cond_f h)
                          clear h
                          refine AW_skip ?_
                          refine blN ?_
                          refine thenN ?_
                          refine AW_seq1 ?_
                          refine AW_region ?_
                          refine AL_cons (LR_assign (at_c (v' := I8 1) rfl) rfl) (sS sT0 sB0 sF0) ?_
                          refine AL_nil ?_
                          refine thenN ?_
                          refine AW_ret ?_
                          subst hr
                          exact res1 rfl (rvT rfl)
/-- calc/so.order -/
def F229_3 (x3 : Bool) : List UInt8 := bif x3 then ([62] : List UInt8) else ([63] : List UInt8)
def F229_2 (a0 : Int) (x2 : Bool) : List UInt8 := bif x2 then ([61] : List UInt8) else F229_3 (a0 == 1)
def F229_1 (a0 : Int) (x1 : Bool) : List UInt8 := bif x1 then ([60] : List UInt8) else F229_2 a0 (a0 == 0)
def F229 (a0 : Int) : List UInt8 := F229_1 a0 (a0 == (-1))
theorem C229 (a0 : Int) (r : List UInt8) (hr : r = F229 a0) : Aw.Fn Hfaa.prog 229 [is (I8 a0)] (is (Sv r)) := by
  refine fn_intro Hfaa.func229 rfl rfl rfl ?_
  intro bn0 w0 H0
  refine AW_seq1 ?_
  refine AW_region ?_
  refine AL_cons (LR_assign (at_c (v' := Sv ([] : List UInt8)) rfl) rfl) (sS sT0 sB0 sF0) ?_
  refine AL_nil ?_
  refine thenN ?_
  refine AW_seq1 ?_
  refine AW_seq1 ?_
  refine AW_region ?_
  refine AL_cons (LR_move (at_tmp 0 _) rfl) (sS (sT1 rfl) sB0 sF0) ?_
  refine AL_nil ?_
  refine thenN ?_
  refine AW_block ?_
  refine AW_cut (σ := Bool) (fun v => ⟨[(3, .inl (is (I8 a0))), (4, .inl (is (Bl v)))], []⟩) (fun v => r = F229_1 a0 v) ?_ ?_
  · skip
    refine AW_region ?_
    refine AL_cons (LR_bin (at_tmp 3 _) (at_c (v' := I8 (-1)) rfl) (eql_I8 a0 (-1)) rfl) (sS (sA (sT1 rfl) sT0) sB0 sF0) ?_
    refine AL_cons (LR_assign (at_tmp 5 _) rfl) (sS (sT1 rfl) sB0 sF0) ?_
    refine AL_nil ?_
    exact thenN (cutLeaf (v := a0 == (-1)) hr (weak0 ((sT rfl (sT rfl sT0))) sub_nil))
  · rintro x1 hr
    show AW Hfaa.prog _ _ _ ⟨[(3, .inl (is (I8 a0))), (4, .inl (is (Bl x1)))], []⟩
    have hr : r = F229_1 a0 x1 := hr
    refine AW_condT (b := x1) rfl (fun h => ?_) (fun h => ?_)
    · have hr := hr.trans (cond_t h)
      clear h
      refine AW_seq1 ?_
      refine AW_region ?_
      refine AL_cons (LR_assign (at_c (v' := Sv ([60] : List UInt8)) rfl) rfl) (sS sT0 sB0 sF0) ?_
      refine AL_nil ?_
      refine thenN ?_
      refine AW_ret ?_
      refine blR ?_
      refine thenR ?_
      subst hr
      exact res1 rfl (rvT rfl)
    · have hr := hr.trans (cond_f h)
      clear h
      refine AW_cut (σ := Bool) (fun v => ⟨[(3, .inl (is (I8 a0))), (6, .inl (is (Bl v)))], []⟩) (fun v => r = F229_2 a0 v) ?_ ?_
      · skip
        refine AW_region ?_
        refine AL_cons (LR_bin (at_tmp 3 _) (at_c (v' := I8 0) rfl) (eql_I8 a0 0) rfl) (sS (sA (sT1 rfl) sT0) sB0 sF0) ?_
        refine AL_cons (LR_assign (at_tmp 7 _) rfl) (sS (sT1 rfl) sB0 sF0) ?_
        refine AL_nil ?_
        exact thenN (cutLeaf (v := a0 == 0) hr (weak0 ((sT rfl (sT rfl sT0))) sub_nil))
      · rintro x2 hr
        show AW Hfaa.prog _ _ _ ⟨[(3, .inl (is (I8 a0))), (6, .inl (is (Bl x2)))], []⟩
        have hr : r = F229_2 a0 x2 := hr
        refine AW_condT (b := x2) rfl (fun h => ?_) (fun h => ?_)
        · have hr := hr.trans (cond_t h)
          clear h
          refine AW_seq1 ?_
          refine AW_region ?_
          refine AL_cons (LR_assign (at_c (v' := Sv ([61] : List UInt8)) rfl) rfl) (sS sT0 sB0 sF0) ?_
          refine AL_nil ?_
          refine thenN ?_
          refine AW_ret ?_
          refine blR ?_
          refine thenR ?_
          subst hr
          exact res1 rfl (rvT rfl)
        · have hr := hr.trans (cond_f h)
          clear h
          refine AW_cut (σ := Bool) (fun v => ⟨[(8, .inl (is (Bl v)))], []⟩) (fun v => r = F229_3 v) ?_ ?_
          · skip
            refine AW_region ?_
            refine AL_cons (LR_bin (at_tmp 3 _) (at_c (v' := I8 1) rfl) (eql_I8 a0 1) rfl) (sS (sA (sT1 rfl) sT0) sB0 sF0) ?_
            refine AL_cons (LR_assign (at_tmp 9 _) rfl) (sS (sT1 rfl) sB0 sF0) ?_
            refine AL_nil ?_
            exact thenN (cutLeaf (v := a0 == 1) hr (weak0 ((sT rfl sT0)) sub_nil))
          · rintro x3 hr
            show AW Hfaa.prog _ _ _ ⟨[(8, .inl (is (Bl x3)))], []⟩
            have hr : r = F229_3 x3 := hr
            refine AW_condT (b := x3) rfl (fun h => ?_) (fun h => ?_)
            · have hr := hr.trans (cond_t h)
              clear h
              refine AW_seq1 ?_
              refine AW_region ?_
              refine AL_cons (LR_assign (at_c (v' := Sv ([62] : List UInt8)) rfl) rfl) (sS sT0 sB0 sF0) ?_
              refine AL_nil ?_
              refine thenN ?_
              refine AW_ret ?_
              refine blR ?_
              refine thenR ?_
              subst hr
              exact res1 rfl (rvT rfl)
            · have hr := hr.trans (cond_f h)
              clear h
              refine AW_skip ?_
              refine blN ?_
              refine thenN ?_
              refine AW_seq1 ?_
              refine AW_region ?_
              refine AL_cons (LR_assign (at_c (v' := Sv ([63] : List UInt8)) rfl) rfl) (sS sT0 sB0 sF0) ?_
              refine AL_nil ?_
              refine thenN ?_
              refine AW_ret ?_
              subst hr
              exact res1 rfl (rvT rfl)
/-- soft.FromInt64Flags -/
def F153_2 (N : Nat) (a0_0 : BitVec 8) (a0_1 : BitVec 8) (a1 : BitVec 8) (a2 : Int) (x2 : Bool) : Option (BitVec 64 × BitVec 8) := bif x2 then (F215 N a0_0 a0_1 a1 true 0 (-(BitVec.ofInt 64 a2))).bind fun y7 => some (y7.1, y7.2) else (F215 N a0_0 a0_1 a1 false 0 (BitVec.ofInt 64 a2)).bind fun y9 => some (y9.1, y9.2)
def F153_1 (N : Nat) (a0_0 : BitVec 8) (a0_1 : BitVec 8) (a1 : BitVec 8) (a2 : Int) (x1 : Bool) : Option (BitVec 64 × BitVec 8) := bif x1 then some (0#64, 0#8) else F153_2 N a0_0 a0_1 a1 a2 (decide (a2 < 0))
def F153 (N : Nat) (a0_0 : BitVec 8) (a0_1 : BitVec 8) (a1 : BitVec 8) (a2 : Int) : Option (BitVec 64 × BitVec 8) := lt (F40 a0_0 a0_1) fun y10 => F153_1 N a0_0 a0_1 a1 a2 (!y10)
theorem C153 (N : Nat) (a0_0 : BitVec 8) (a0_1 : BitVec 8) (a1 : BitVec 8) (a2 : Int) (r : BitVec 64 × BitVec 8) (hr : some r = F153 N a0_0 a0_1 a1 a2) : Aw.Fn Hfaa.prog 153 [agg [is (U8 a0_0), is (U8 a0_1)], is (U8 a1), is (I64 a2)] (tup [is (U64 r.1), is (U8 r.2)]) := by
  refine fn_intro Hfaa.func153 rfl rfl rfl ?_
  intro bn0 w0 H0
  refine AW_seq1 ?_
  refine AW_region ?_
  refine AL_cons (LR_box (at_tmp 0 _) (cells_agg _) rfl) (sS (sT1 rfl) sB0 (sF1 rfl)) ?_
  refine AL_cons (LR_assign (at_c (v' := U64 (0#64)) rfl) rfl) (sS sT0 sB0 sF0) ?_
  refine AL_cons (LR_assign (at_c (v' := U8 (0#8)) rfl) rfl) (sS sT0 sB0 sF0) ?_
  refine AL_nil ?_
  refine thenN ?_
  refine AW_seq1 ?_
  refine AW_cut (σ := Bool) (fun v => ⟨[(1, .inl (is (U8 a1))), (2, .inl (is (I64 a2))), (3, .inr (.inl (3, 0))), (10, .inl (is (Bl v)))], [(3, pb 23 [is (U8 a0_0), is (U8 a0_1)])]⟩) (fun v => some r = F153_1 N a0_0 a0_1 a1 a2 v) ?_ ?_
  · skip
    refine AW_region ?_
    refine AL_cons (LR_loads (at_tmp 3 _) ag23 sz23 rfl rfl rfl) (sS (sT1 rfl) (sB1 rfl) sF0) ?_
    obtain ⟨y10, hy10, hr⟩ := lt_some hr
    refine AL_cons (LR_call Hfaa.func40 rfl rfl (C40 a0_0 a0_1 y10 hy10) (all_cons (at_tmp 8 _) all_nil) rfl) (sS (sA (sT1 rfl) sT0) sB0 sF0) ?_
    refine AL_cons (LR_un (at_tmp 9 _) (not_Bl y10) rfl) (sS (sT1 rfl) sB0 sF0) ?_
    refine AL_nil ?_
    exact thenN (cutLeaf (v := !y10) hr (weak0 ((sT rfl (sT rfl (sT rfl (sT rfl sT0))))) (sub_keep sub_nil)))
  · rintro x1 hr
    show AW Hfaa.prog _ _ _ ⟨[(1, .inl (is (U8 a1))), (2, .inl (is (I64 a2))), (3, .inr (.inl (3, 0))), (10, .inl (is (Bl x1)))], [(3, pb 23 [is (U8 a0_0), is (U8 a0_1)])]⟩
    have hr : some r = F153_1 N a0_0 a0_1 a1 a2 x1 := hr
    refine AW_condT (b := x1) rfl (fun h => ?_) (fun h => ?_)
    · have hr := hr.trans (cond_t h)
      clear h
      refine AW_seq1 ?_
      refine AW_region ?_
      refine AL_cons (LR_assign (at_c (v' := U64 (0#64)) rfl) rfl) (sS sT0 sB0 sF0) ?_
      refine AL_cons (LR_assign (at_c (v' := U8 (0#8)) rfl) rfl) (sS sT0 sB0 sF0) ?_
      refine AL_nil ?_
      refine thenN ?_
      refine AW_ret ?_
      refine thenR ?_
      obtain rfl := Option.some.inj hr
      exact res2 rfl (rvT rfl) (rvT rfl)
    · have hr := hr.trans (cond_f h)
      clear h
      refine AW_skip ?_
      refine thenN ?_
      refine AW_seq1 ?_
      refine AW_cut (σ := Bool) (fun v => ⟨[(1, .inl (is (U8 a1))), (2, .inl (is (I64 a2))), (3, .inr (.inl (3, 0))), (12, .inl (is (Bl v)))], [(3, pb 23 [is (U8 a0_0), is (U8 a0_1)])]⟩) (fun v => some r = F153_2 N a0_0 a0_1 a1 a2 v) ?_ ?_
      · skip
        refine AW_region ?_
        refine AL_cons (LR_move (at_tmp 2 _) rfl) (sS (sT1 rfl) sB0 sF0) ?_
        refine AL_cons (LR_bin (at_tmp 11 _) (at_c (v' := I64 0) rfl) (lss_I64 a2 0) rfl) (sS (sA (sT1 rfl) sT0) sB0 sF0) ?_
        refine AL_nil ?_
        exact thenN (cutLeaf (v := decide (a2 < 0)) hr (weak0 ((sT rfl (sT rfl (sT rfl (sT rfl sT0))))) (sub_keep sub_nil)))
      · rintro x2 hr
        show AW Hfaa.prog _ _ _ ⟨[(1, .inl (is (U8 a1))), (2, .inl (is (I64 a2))), (3, .inr (.inl (3, 0))), (12, .inl (is (Bl x2)))], [(3, pb 23 [is (U8 a0_0), is (U8 a0_1)])]⟩
        have hr : some r = F153_2 N a0_0 a0_1 a1 a2 x2 := hr
        refine AW_condT (b := x2) rfl (fun h => ?_) (fun h => ?_)
        · have hr := hr.trans (cond_t h)
          clear h
          refine AW_seq1 ?_
          refine AW_region ?_
          refine AL_cons (LR_loads (at_tmp 3 _) ag23 sz23 rfl rfl rfl) (sS (sT1 rfl) (sB1 rfl) sF0) ?_
          refine AL_cons (LR_move (at_tmp 1 _) rfl) (sS (sT1 rfl) sB0 sF0) ?_
          refine AL_cons (LR_move (at_tmp 2 _) rfl) (sS (sT1 rfl) sB0 sF0) ?_
          refine AL_cons (LR_conv (vx := I64 a2) (at_tmp 15 _) (conv_U64 Hfaa.underlying2 Hfaa.underlying30 a2) rfl) (sS (sT1 rfl) sB0 sF0) ?_
          refine AL_cons (LR_un (at_tmp 16 _) (neg_U64 (BitVec.ofInt 64 a2)) rfl) (sS (sT1 rfl) sB0 sF0) ?_
          obtain ⟨y7, hy7, hr⟩ := bind_some hr
          refine AL_cons (LR_call Hfaa.func215 rfl rfl (C215 N a0_0 a0_1 a1 true 0 (-(BitVec.ofInt 64 a2)) y7 hy7) (all_cons (at_tmp 13 _) (all_cons (at_tmp 14 _) (all_cons (at_c (v' := Bl true) rfl) (all_cons (at_c (v' := I16 0) rfl) (all_cons (at_tmp 17 _) all_nil))))) rfl) (sS (sA (sT1 rfl) (sA (sT1 rfl) (sA sT0 (sA sT0 (sA (sT1 rfl) sT0))))) sB0 sF0) ?_
          refine AL_cons (LR_extract (at_tmp 18 _) rfl rfl) (sS (sT1 rfl) sB0 sF0) ?_
          refine AL_cons (LR_extract (at_tmp 18 _) rfl rfl) (sS (sT1 rfl) sB0 sF0) ?_
          refine AL_cons (LR_assign (at_tmp 19 _) rfl) (sS (sT1 rfl) sB0 sF0) ?_
          refine AL_cons (LR_assign (at_tmp 20 _) rfl) (sS (sT1 rfl) sB0 sF0) ?_
          refine AL_nil ?_
          refine thenN ?_
          refine AW_ret ?_
          refine thenR ?_
          obtain rfl := Option.some.inj hr
          exact res2 rfl (rvT rfl) (rvT rfl)
        · have hr := hr.trans (cond_f h)
          clear h
          refine AW_skip ?_
          refine thenN ?_
          refine AW_seq1 ?_
          refine AW_region ?_
          refine AL_cons (LR_loads (at_tmp 3 _) ag23 sz23 rfl rfl rfl) (sS (sT1 rfl) (sB1 rfl) sF0) ?_
          refine AL_cons (LR_move (at_tmp 1 _) rfl) (sS (sT1 rfl) sB0 sF0) ?_
          refine AL_cons (LR_move (at_tmp 2 _) rfl) (sS (sT1 rfl) sB0 sF0) ?_
          refine AL_cons (LR_conv (vx := I64 a2) (at_tmp 23 _) (conv_U64 Hfaa.underlying2 Hfaa.underlying30 a2) rfl) (sS (sT1 rfl) sB0 sF0) ?_
          obtain ⟨y9, hy9, hr⟩ := bind_some hr
          refine AL_cons (LR_call Hfaa.func215 rfl rfl (C215 N a0_0 a0_1 a1 false 0 (BitVec.ofInt 64 a2) y9 hy9) (all_cons (at_tmp 21 _) (all_cons (at_tmp 22 _) (all_cons (at_c (v' := Bl false) rfl) (all_cons (at_c (v' := I16 0) rfl) (all_cons (at_tmp 24 _) all_nil))))) rfl) (sS (sA (sT1 rfl) (sA (sT1 rfl) (sA sT0 (sA sT0 (sA (sT1 rfl) sT0))))) sB0 sF0) ?_
          refine AL_cons (LR_extract (at_tmp 25 _) rfl rfl) (sS (sT1 rfl) sB0 sF0) ?_
          refine AL_cons (LR_extract (at_tmp 25 _) rfl rfl) (sS (sT1 rfl) sB0 sF0) ?_
          refine AL_cons (LR_assign (at_tmp 26 _) rfl) (sS (sT1 rfl) sB0 sF0) ?_
          refine AL_cons (LR_assign (at_tmp 27 _) rfl) (sS (sT1 rfl) sB0 sF0) ?_
          refine AL_nil ?_
          refine thenN ?_
          refine AW_ret ?_
          obtain rfl := Option.some.inj hr
          exact res2 rfl (rvT rfl) (rvT rfl)
/-- soft.FromInt64 -/
def F85_1 (N : Nat) (x1 : BitVec 64) : Option (BitVec 64) := some x1
def F85 (N : Nat) (a0_0 : BitVec 8) (a0_1 : BitVec 8) (a1 : BitVec 8) (a2 : Int) : Option (BitVec 64) := (F153 N a0_0 a0_1 a1 a2).bind fun y2 => F85_1 N y2.1
theorem C85 (N : Nat) (a0_0 : BitVec 8) (a0_1 : BitVec 8) (a1 : BitVec 8) (a2 : Int) (r : BitVec 64) (hr : some r = F85 N a0_0 a0_1 a1 a2) : Aw.Fn Hfaa.prog 85 [agg [is (U8 a0_0), is (U8 a0_1)], is (U8 a1), is (I64 a2)] (is (U64 r)) := by
  refine fn_intro Hfaa.func85 rfl rfl rfl ?_
  intro bn0 w0 H0
  refine AW_seq1 ?_
  refine AW_region ?_
  refine AL_cons (LR_box (at_tmp 0 _) (cells_agg _) rfl) (sS (sT1 rfl) sB0 (sF1 rfl)) ?_
  refine AL_cons (LR_assign (at_c (v' := U64 (0#64)) rfl) rfl) (sS sT0 sB0 sF0) ?_
  refine AL_nil ?_
  refine thenN ?_
  refine AW_cut (σ := BitVec 64) (fun v => ⟨[(7, .inl (is (U64 v)))], []⟩) (fun v => some r = F85_1 N v) ?_ ?_
  · skip
    refine AW_region ?_
    refine AL_cons (LR_loads (at_tmp 3 _) ag23 sz23 rfl rfl rfl) (sS (sT1 rfl) (sB1 rfl) sF0) ?_
    refine AL_cons (LR_move (at_tmp 1 _) rfl) (sS (sT1 rfl) sB0 sF0) ?_
    refine AL_cons (LR_move (at_tmp 2 _) rfl) (sS (sT1 rfl) sB0 sF0) ?_
    obtain ⟨y2, hy2, hr⟩ := bind_some hr
    refine AL_cons (LR_call Hfaa.func153 rfl rfl (C153 N a0_0 a0_1 a1 a2 y2 hy2) (all_cons (at_tmp 10 _) (all_cons (at_tmp 11 _) (all_cons (at_tmp 12 _) all_nil))) rfl) (sS (sA (sT1 rfl) (sA (sT1 rfl) (sA (sT1 rfl) sT0))) sB0 sF0) ?_
    refine AL_cons (LR_move (at_tmp 13 _) rfl) (sS (sT1 rfl) sB0 sF0) ?_
    refine AL_cons (LR_extract (at_tmp 9 _) rfl rfl) (sS (sT1 rfl) sB0 sF0) ?_
    refine AL_cons (LR_extract (at_tmp 9 _) rfl rfl) (sS (sT1 rfl) sB0 sF0) ?_
    refine AL_cons (LR_assign (at_tmp 14 _) rfl) (sS (sT1 rfl) sB0 sF0) ?_
    refine AL_cons (LR_assign (at_tmp 15 _) rfl) (sS (sT1 rfl) sB0 sF0) ?_
    refine AL_nil ?_
    exact thenN (cutLeaf (v := y2.1) hr (weak0 ((sT rfl sT0)) (sub_drop sub_nil)))
  · rintro x1 hr
    show AW Hfaa.prog _ _ _ ⟨[(7, .inl (is (U64 x1)))], []⟩
    have hr : some r = F85_1 N x1 := hr
    refine AW_seq1 ?_
    refine AW_region ?_
    refine AL_cons (LR_move (at_tmp 7 _) rfl) (sS (sT1 rfl) sB0 sF0) ?_
    refine AL_cons (LR_assign (at_tmp 16 _) rfl) (sS (sT1 rfl) sB0 sF0) ?_
    refine AL_nil ?_
    refine thenN ?_
    refine AW_ret ?_
    obtain rfl := Option.some.inj hr
    exact res1 rfl (rvT rfl)
/-- soft.FromUint64Flags -/
def F154_1 (N : Nat) (a0_0 : BitVec 8) (a0_1 : BitVec 8) (a1 : BitVec 8) (a2 : BitVec 64) (x1 : Bool) : Option (BitVec 64 × BitVec 8) := bif x1 then some (0#64, 0#8) else (F215 N a0_0 a0_1 a1 false 0 a2).bind fun y5 => some (y5.1, y5.2)
def F154 (N : Nat) (a0_0 : BitVec 8) (a0_1 : BitVec 8) (a1 : BitVec 8) (a2 : BitVec 64) : Option (BitVec 64 × BitVec 8) := lt (F40 a0_0 a0_1) fun y6 => F154_1 N a0_0 a0_1 a1 a2 (!y6)
theorem C154 (N : Nat) (a0_0 : BitVec 8) (a0_1 : BitVec 8) (a1 : BitVec 8) (a2 : BitVec 64) (r : BitVec 64 × BitVec 8) (hr : some r = F154 N a0_0 a0_1 a1 a2) : Aw.Fn Hfaa.prog 154 [agg [is (U8 a0_0), is (U8 a0_1)], is (U8 a1), is (U64 a2)] (tup [is (U64 r.1), is (U8 r.2)]) := by
  refine fn_intro Hfaa.func154 rfl rfl rfl ?_
  intro bn0 w0 H0
  refine AW_seq1 ?_
  refine AW_region ?_
  refine AL_cons (LR_box (at_tmp 0 _) (cells_agg _) rfl) (sS (sT1 rfl) sB0 (sF1 rfl)) ?_
  refine AL_cons (LR_assign (at_c (v' := U64 (0#64)) rfl) rfl) (sS sT0 sB0 sF0) ?_
  refine AL_cons (LR_assign (at_c (v' := U8 (0#8)) rfl) rfl) (sS sT0 sB0 sF0) ?_
  refine AL_nil ?_
  refine thenN ?_
  refine AW_seq1 ?_
  refine AW_cut (σ := Bool) (fun v => ⟨[(1, .inl (is (U8 a1))), (2, .inl (is (U64 a2))), (3, .inr (.inl (3, 0))), (10, .inl (is (Bl v)))], [(3, pb 23 [is (U8 a0_0), is (U8 a0_1)])]⟩) (fun v => some r = F154_1 N a0_0 a0_1 a1 a2 v) ?_ ?_
  · skip
    refine AW_region ?_
    refine AL_cons (LR_loads (at_tmp 3 _) ag23 sz23 rfl rfl rfl) (sS (sT1 rfl) (sB1 rfl) sF0) ?_
    obtain ⟨y6, hy6, hr⟩ := lt_some hr
    refine AL_cons (LR_call Hfaa.func40 rfl rfl (C40 a0_0 a0_1 y6 hy6) (all_cons (at_tmp 8 _) all_nil) rfl) (sS (sA (sT1 rfl) sT0) sB0 sF0) ?_
    refine AL_cons (LR_un (at_tmp 9 _) (not_Bl y6) rfl) (sS (sT1 rfl) sB0 sF0) ?_
    refine AL_nil ?_
    exact thenN (cutLeaf (v := !y6) hr (weak0 ((sT rfl (sT rfl (sT rfl (sT rfl sT0))))) (sub_keep sub_nil)))
  · rintro x1 hr
    show AW Hfaa.prog _ _ _ ⟨[(1, .inl (is (U8 a1))), (2, .inl (is (U64 a2))), (3, .inr (.inl (3, 0))), (10, .inl (is (Bl x1)))], [(3, pb 23 [is (U8 a0_0), is (U8 a0_1)])]⟩
    have hr : some r = F154_1 N a0_0 a0_1 a1 a2 x1 := hr
    refine AW_condT (b := x1) rfl (fun h => ?_) (fun h => ?_)
    · have hr := hr.trans (cond_t h)
      clear h
      refine AW_seq1 ?_
      refine AW_region ?_
      refine AL_cons (LR_assign (at_c (v' := U64 (0#64)) rfl) rfl) (sS sT0 sB0 sF0) ?_
      refine AL_cons (LR_assign (at_c (v' := U8 (0#8)) rfl) rfl) (sS sT0 sB0 sF0) ?_
      refine AL_nil ?_
      refine thenN ?_
      refine AW_ret ?_
      refine thenR ?_
      obtain rfl := Option.some.inj hr
      exact res2 rfl (rvT rfl) (rvT rfl)
    · have hr := hr.trans (cond_f h)
      clear h
      refine AW_skip ?_
      refine thenN ?_
      refine AW_seq1 ?_
      refine AW_region ?_
      refine AL_cons (LR_loads (at_tmp 3 _) ag23 sz23 rfl rfl rfl) (sS (sT1 rfl) (sB1 rfl) sF0) ?_
      refine AL_cons (LR_move (at_tmp 1 _) rfl) (sS (sT1 rfl) sB0 sF0) ?_
      refine AL_cons (LR_move (at_tmp 2 _) rfl) (sS (sT1 rfl) sB0 sF0) ?_
      obtain ⟨y5, hy5, hr⟩ := bind_some hr
      refine AL_cons (LR_call Hfaa.func215 rfl rfl (C215 N a0_0 a0_1 a1 false 0 a2 y5 hy5) (all_cons (at_tmp 11 _) (all_cons (at_tmp 12 _) (all_cons (at_c (v' := Bl false) rfl) (all_cons (at_c (v' := I16 0) rfl) (all_cons (at_tmp 13 _) all_nil))))) rfl) (sS (sA (sT1 rfl) (sA (sT1 rfl) (sA sT0 (sA sT0 (sA (sT1 rfl) sT0))))) sB0 sF0) ?_
      refine AL_cons (LR_extract (at_tmp 14 _) rfl rfl) (sS (sT1 rfl) sB0 sF0) ?_
      refine AL_cons (LR_extract (at_tmp 14 _) rfl rfl) (sS (sT1 rfl) sB0 sF0) ?_
      refine AL_cons (LR_assign (at_tmp 15 _) rfl) (sS (sT1 rfl) sB0 sF0) ?_
      refine AL_cons (LR_assign (at_tmp 16 _) rfl) (sS (sT1 rfl) sB0 sF0) ?_
      refine AL_nil ?_
      refine thenN ?_
      refine AW_ret ?_
      obtain rfl := Option.some.inj hr
      exact res2 rfl (rvT rfl) (rvT rfl)
/-- soft.FromUint64 -/
def F86_1 (N : Nat) (x1 : BitVec 64) : Option (BitVec 64) := some x1
def F86 (N : Nat) (a0_0 : BitVec 8) (a0_1 : BitVec 8) (a1 : BitVec 8) (a2 : BitVec 64) : Option (BitVec 64) := (F154 N a0_0 a0_1 a1 a2).bind fun y2 => F86_1 N y2.1
theorem C86 (N : Nat) (a0_0 : BitVec 8) (a0_1 : BitVec 8) (a1 : BitVec 8) (a2 : BitVec 64) (r : BitVec 64) (hr : some r = F86 N a0_0 a0_1 a1 a2) : Aw.Fn Hfaa.prog 86 [agg [is (U8 a0_0), is (U8 a0_1)], is (U8 a1), is (U64 a2)] (is (U64 r)) := by
  refine fn_intro Hfaa.func86 rfl rfl rfl ?_
  intro bn0 w0 H0
  refine AW_seq1 ?_
  refine AW_region ?_
  refine AL_cons (LR_box (at_tmp 0 _) (cells_agg _) rfl) (sS (sT1 rfl) sB0 (sF1 rfl)) ?_
  refine AL_cons (LR_assign (at_c (v' := U64 (0#64)) rfl) rfl) (sS sT0 sB0 sF0) ?_
  refine AL_nil ?_
  refine thenN ?_
  refine AW_cut (σ := BitVec 64) (fun v => ⟨[(7, .inl (is (U64 v)))], []⟩) (fun v => some r = F86_1 N v) ?_ ?_
  · skip
    refine AW_region ?_
    refine AL_cons (LR_loads (at_tmp 3 _) ag23 sz23 rfl rfl rfl) (sS (sT1 rfl) (sB1 rfl) sF0) ?_
    refine AL_cons (LR_move (at_tmp 1 _) rfl) (sS (sT1 rfl) sB0 sF0) ?_
    refine AL_cons (LR_move (at_tmp 2 _) rfl) (sS (sT1 rfl) sB0 sF0) ?_
    obtain ⟨y2, hy2, hr⟩ := bind_some hr
    refine AL_cons (LR_call Hfaa.func154 rfl rfl (C154 N a0_0 a0_1 a1 a2 y2 hy2) (all_cons (at_tmp 10 _) (all_cons (at_tmp 11 _) (all_cons (at_tmp 12 _) all_nil))) rfl) (sS (sA (sT1 rfl) (sA (sT1 rfl) (sA (sT1 rfl) sT0))) sB0 sF0) ?_
    refine AL_cons (LR_move (at_tmp 13 _) rfl) (sS (sT1 rfl) sB0 sF0) ?_
    refine AL_cons (LR_extract (at_tmp 9 _) rfl rfl) (sS (sT1 rfl) sB0 sF0) ?_
    refine AL_cons (LR_extract (at_tmp 9 _) rfl rfl) (sS (sT1 rfl) sB0 sF0) ?_
    refine AL_cons (LR_assign (at_tmp 14 _) rfl) (sS (sT1 rfl) sB0 sF0) ?_
    refine AL_cons (LR_assign (at_tmp 15 _) rfl) (sS (sT1 rfl) sB0 sF0) ?_
    refine AL_nil ?_
    exact thenN (cutLeaf (v := y2.1) hr (weak0 ((sT rfl sT0)) (sub_drop sub_nil)))
  · rintro x1 hr
    show AW Hfaa.prog _ _ _ ⟨[(7, .inl (is (U64 x1)))], []⟩
    have hr : some r = F86_1 N x1 := hr
    refine AW_seq1 ?_
    refine AW_region ?_
    refine AL_cons (LR_move (at_tmp 7 _) rfl) (sS (sT1 rfl) sB0 sF0) ?_
    refine AL_cons (LR_assign (at_tmp 16 _) rfl) (sS (sT1 rfl) sB0 sF0) ?_
    refine AL_nil ?_
    refine thenN ?_
    refine AW_ret ?_
    obtain rfl := Option.some.inj hr
    exact res1 rfl (rvT rfl)
/-- soft.ToInt64Flags -/
def F151_8 (N : Nat) (x8 : BitVec 64) (x10 : BitVec 8) (x12 : Bool) : Option (Int × Bool × BitVec 8) := bif x12 then some ((w64 (x8.toNat : Int), true, x10)) else some (0, false, 1#8)
def F151_7 (N : Nat) (x1 : Bool) (x2 : Int) (x3 : Int) (x4 : BitVec 64) (x8 : BitVec 64) (x10 : BitVec 8) (x11 : Bool) : Option (Int × Bool × BitVec 8) := bif x11 then some ((w64 (0 - (w64 (x8.toNat : Int))), true, x10)) else F151_8 N x8 x10 ((!x1) && (decide (x8.toNat < (9223372036854775808#64).toNat)))
def F151_6 (N : Nat) (x1 : Bool) (x2 : Int) (x3 : Int) (x4 : BitVec 64) (x8 : BitVec 64) (x10 : BitVec 8) : Option (Int × Bool × BitVec 8) := F151_7 N x1 x2 x3 x4 x8 x10 (x1 && (decide (x8.toNat ≤ (9223372036854775808#64).toNat)))
def F151_9 (N : Nat) (x1 : Bool) (x2 : Int) (x3 : Int) (x4 : BitVec 64) (x8 : BitVec 64) (x13 : Bool) : Option (Int × Bool × BitVec 8) := bif x13 then F151_6 N x1 x2 x3 x4 x8 (16#8) else F151_6 N x1 x2 x3 x4 x8 (0#8)
def F151_5 (N : Nat) (x1 : Bool) (x2 : Int) (x3 : Int) (x4 : BitVec 64) (x8 : BitVec 64) (x9 : BitVec 64) : Option (Int × Bool × BitVec 8) := F151_9 N x1 x2 x3 x4 x8 (x9 != (0#64))
def F151_12 (N : Nat) (x1 : Bool) (x2 : Int) (x3 : Int) (x4 : BitVec 64) (x15 : BitVec 64) (x16 : BitVec 64) (x17 : Bool) : Option (Int × Bool × BitVec 8) := bif x17 then F151_5 N x1 x2 x3 x4 (x15 + (1#64)) x16 else F151_5 N x1 x2 x3 x4 x15 x16
def F151_11 (N : Nat) (a1 : BitVec 8) (x1 : Bool) (x2 : Int) (x3 : Int) (x4 : BitVec 64) (x15 : BitVec 64) (x16 : BitVec 64) : Option (Int × Bool × BitVec 8) := lt (F258 a1 x1 x15 x16) fun y11 => F151_12 N x1 x2 x3 x4 x15 x16 y11
def F151_10 (N : Nat) (a1 : BitVec 8) (x1 : Bool) (x2 : Int) (x3 : Int) (x4 : BitVec 64) (x14 : Bool) : Option (Int × Bool × BitVec 8) := bif x14 then bif decide (0 ≤ x3) then F151_5 N x1 x2 x3 x4 (x4 <<< x3.toNat) (0#64) else none else (F257 N x4 (w16 (0 - x3))).bind fun y12 => F151_11 N a1 x1 x2 x3 x4 y12.1 y12.2
def F151_4 (N : Nat) (a1 : BitVec 8) (x1 : Bool) (x2 : Int) (x3 : Int) (x4 : BitVec 64) (x7 : Bool) : Option (Int × Bool × BitVec 8) := bif x7 then some (0, false, 1#8) else F151_10 N a1 x1 x2 x3 x4 (decide (x3 ≥ 0))
def F151_14 (N : Nat) (a0_0 : BitVec 8) (a0_1 : BitVec 8) (a1 : BitVec 8) (x1 : Bool) (x2 : Int) (x3 : Int) (x4 : BitVec 64) (x19 : Bool) : Option (Int × Bool × BitVec 8) := bif x19 then F151_4 N a1 x1 x2 x3 x4 x19 else F151_4 N a1 x1 x2 x3 x4 (decide ((w16 (x3 + (w16 (a0_1.toNat : Int)))) > 63))
def F151_13 (N : Nat) (a0_0 : BitVec 8) (a0_1 : BitVec 8) (a1 : BitVec 8) (x1 : Bool) (x2 : Int) (x3 : Int) (x4 : BitVec 64) (x18 : Bool) : Option (Int × Bool × BitVec 8) := bif x18 then F151_4 N a1 x1 x2 x3 x4 x18 else F151_14 N a0_0 a0_1 a1 x1 x2 x3 x4 (x2 == 3)
def F151_3 (N : Nat) (a0_0 : BitVec 8) (a0_1 : BitVec 8) (a1 : BitVec 8) (x1 : Bool) (x2 : Int) (x3 : Int) (x4 : BitVec 64) (x6 : Bool) : Option (Int × Bool × BitVec 8) := bif x6 then some (0, true, 0#8) else F151_13 N a0_0 a0_1 a1 x1 x2 x3 x4 (x2 == 4)
def F151_2 (N : Nat) (a0_0 : BitVec 8) (a0_1 : BitVec 8) (a1 : BitVec 8) (x1 : Bool) (x2 : Int) (x3 : Int) (x4 : BitVec 64) (x5 : Bool) : Option (Int × Bool × BitVec 8) := bif x5 then some (0, false, 0#8) else F151_3 N a0_0 a0_1 a1 x1 x2 x3 x4 (x2 == 0)
def F151_1 (N : Nat) (a0_0 : BitVec 8) (a0_1 : BitVec 8) (a1 : BitVec 8) (x1 : Bool) (x2 : Int) (x3 : Int) (x4 : BitVec 64) : Option (Int × Bool × BitVec 8) := lt (F40 a0_0 a0_1) fun y13 => F151_2 N a0_0 a0_1 a1 x1 x2 x3 x4 (!y13)
def F151 (N : Nat) (a0_0 : BitVec 8) (a0_1 : BitVec 8) (a1 : BitVec 8) (a2 : BitVec 64) : Option (Int × Bool × BitVec 8) := lt (F65 a0_0 a0_1 a2) fun y14 => F151_1 N a0_0 a0_1 a1 y14.1 y14.2.1 y14.2.2.1 y14.2.2.2
theorem C151 (N : Nat) (a0_0 : BitVec 8) (a0_1 : BitVec 8) (a1 : BitVec 8) (a2 : BitVec 64) (r : Int × Bool × BitVec 8) (hr : some r = F151 N a0_0 a0_1 a1 a2) : Aw.Fn Hfaa.prog 151 [agg [is (U8 a0_0), is (U8 a0_1)], is (U8 a1), is (U64 a2)] (tup [is (I64 r.1), is (Bl r.2.1), is (U8 r.2.2)]) := by
  refine fn_intro Hfaa.func151 rfl rfl rfl ?_
  intro bn0 w0 H0
  refine AW_seq1 ?_
  refine AW_region ?_
  refine AL_cons (LR_box (at_tmp 0 _) (cells_agg _) rfl) (sS (sT1 rfl) sB0 (sF1 rfl)) ?_
  refine AL_cons (LR_assign (at_c (v' := I64 0) rfl) rfl) (sS sT0 sB0 sF0) ?_
  refine AL_cons (LR_assign (at_c (v' := Bl false) rfl) rfl) (sS sT0 sB0 sF0) ?_
  refine AL_cons (LR_assign (at_c (v' := U8 (0#8)) rfl) rfl) (sS sT0 sB0 sF0) ?_
  refine AL_nil ?_
  refine thenN ?_
  refine AW_cut (σ := Bool × Int × Int × BitVec 64) (fun v => ⟨[(1, .inl (is (U8 a1))), (3, .inr (.inl (3, 0))), (9, .inr (.inl (9, 0)))], [(3, pb 23 [is (U8 a0_0), is (U8 a0_1)]), (9, pb 112 [is (Bl v.1), is (I8 v.2.1), is (I16 v.2.2.1), is (U64 v.2.2.2)])]⟩) (fun v => some r = F151_1 N a0_0 a0_1 a1 v.1 v.2.1 v.2.2.1 v.2.2.2) ?_ ?_
  · skip
    refine AW_region ?_
    refine AL_cons (LR_loads (at_tmp 3 _) ag23 sz23 rfl rfl rfl) (sS (sT1 rfl) (sB1 rfl) sF0) ?_
    refine AL_cons (LR_move (at_tmp 2 _) rfl) (sS (sT1 rfl) sB0 sF0) ?_
    obtain ⟨y14, hy14, hr⟩ := lt_some hr
    refine AL_cons (LR_call Hfaa.func65 rfl rfl (C65 a0_0 a0_1 a2 y14 hy14) (all_cons (at_tmp 13 _) (all_cons (at_tmp 14 _) all_nil)) rfl) (sS (sA (sT1 rfl) (sA (sT1 rfl) sT0)) sB0 sF0) ?_
    refine AL_cons (zl112 rfl) (sS sT0 sB0 (sF1 rfl)) ?_
    refine AL_cons (LR_store (at_tmp 9 _) (at_tmp 15 _) (cells_agg _) (onC (one_is rfl) (onC (one_is rfl) (onC (one_is rfl) (onC (one_is rfl) onN)))) sz112 rfl rfl) (sS (sA (sT1 rfl) (sT1 rfl)) (sB1 rfl) sF0) ?_
    refine AL_nil ?_
    exact thenN (cutLeaf (v := (y14.1, y14.2.1, y14.2.2.1, y14.2.2.2)) hr (weak0 ((sT rfl (sT rfl (sT rfl sT0)))) (sub_keep (sub_keep sub_nil))))
  · rintro ⟨x1, x2, x3, x4⟩ hr
    show AW Hfaa.prog _ _ _ ⟨[(1, .inl (is (U8 a1))), (3, .inr (.inl (3, 0))), (9, .inr (.inl (9, 0)))], [(3, pb 23 [is (U8 a0_0), is (U8 a0_1)]), (9, pb 112 [is (Bl x1), is (I8 x2), is (I16 x3), is (U64 x4)])]⟩
    have hr : some r = F151_1 N a0_0 a0_1 a1 x1 x2 x3 x4 := hr
    refine AW_seq1 ?_
    refine AW_block ?_
    refine AW_cut (σ := Bool) (fun v => ⟨[(1, .inl (is (U8 a1))), (3, .inr (.inl (3, 0))), (9, .inr (.inl (9, 0))), (16, .inl (is (Bl v)))], [(3, pb 23 [is (U8 a0_0), is (U8 a0_1)]), (9, pb 112 [is (Bl x1), is (I8 x2), is (I16 x3), is (U64 x4)])]⟩) (fun v => some r = F151_2 N a0_0 a0_1 a1 x1 x2 x3 x4 v) ?_ ?_
    · skip
      refine AW_region ?_
      refine AL_cons (LR_loads (at_tmp 3 _) ag23 sz23 rfl rfl rfl) (sS (sT1 rfl) (sB1 rfl) sF0) ?_
      obtain ⟨y13, hy13, hr⟩ := lt_some hr
      refine AL_cons (LR_call Hfaa.func40 rfl rfl (C40 a0_0 a0_1 y13 hy13) (all_cons (at_tmp 17 _) all_nil) rfl) (sS (sA (sT1 rfl) sT0) sB0 sF0) ?_
      refine AL_cons (LR_un (at_tmp 18 _) (not_Bl y13) rfl) (sS (sT1 rfl) sB0 sF0) ?_
      refine AL_cons (LR_assign (at_tmp 19 _) rfl) (sS (sT1 rfl) sB0 sF0) ?_
      refine AL_nil ?_
      exact thenN (cutLeaf (v := !y13) hr (weak0 ((sT rfl (sT rfl (sT rfl (sT rfl sT0))))) (sub_keep (sub_keep sub_nil))))
    · rintro x5 hr
      show AW Hfaa.prog _ _ _ ⟨[(1, .inl (is (U8 a1))), (3, .inr (.inl (3, 0))), (9, .inr (.inl (9, 0))), (16, .inl (is (Bl x5)))], [(3, pb 23 [is (U8 a0_0), is (U8 a0_1)]), (9, pb 112 [is (Bl x1), is (I8 x2), is (I16 x3), is (U64 x4)])]⟩
      have hr : some r = F151_2 N a0_0 a0_1 a1 x1 x2 x3 x4 x5 := hr
      refine AW_condT (b := x5) rfl (fun h => ?_) (fun h => ?_)
      · have hr := hr.trans (cond_t h)
        clear h
        refine AW_seq1 ?_
        refine AW_region ?_
        refine AL_cons (LR_assign (at_c (v' := I64 0) rfl) rfl) (sS sT0 sB0 sF0) ?_
        refine AL_cons (LR_assign (at_c (v' := Bl false) rfl) rfl) (sS sT0 sB0 sF0) ?_
        refine AL_cons (LR_assign (at_c (v' := U8 (0#8)) rfl) rfl) (sS sT0 sB0 sF0) ?_
        refine AL_nil ?_
        refine thenN ?_
        refine AW_ret ?_
        refine blR ?_
        refine thenR ?_
        obtain rfl := Option.some.inj hr
        exact res3 rfl (rvT rfl) (rvT rfl) (rvT rfl)
      · have hr := hr.trans (cond_f h)
        clear h
        refine AW_cut (σ := Bool) (fun v => ⟨[(1, .inl (is (U8 a1))), (3, .inr (.inl (3, 0))), (9, .inr (.inl (9, 0))), (20, .inl (is (Bl v)))], [(3, pb 23 [is (U8 a0_0), is (U8 a0_1)]), (9, pb 112 [is (Bl x1), is (I8 x2), is (I16 x3), is (U64 x4)])]⟩) (fun v => some r = F151_3 N a0_0 a0_1 a1 x1 x2 x3 x4 v) ?_ ?_
        · skip
          refine AW_region ?_
          refine AL_cons (LR_fieldAddr (off := 0) (o := 1) (at_tmp 9 _) (fun b w => fa112_1 b 0 w) rfl) (sS (sT1 rfl) sB0 sF0) ?_
          refine AL_cons (LR_load (at_tmp 21 _) na110 rfl rfl) (sS (sT1 rfl) (sB1 rfl) sF0) ?_
          refine AL_cons (LR_bin (at_tmp 22 _) (at_c (v' := I8 0) rfl) (eql_I8 x2 0) rfl) (sS (sA (sT1 rfl) sT0) sB0 sF0) ?_
          refine AL_cons (LR_assign (at_tmp 23 _) rfl) (sS (sT1 rfl) sB0 sF0) ?_
          refine AL_nil ?_
          exact thenN (cutLeaf (v := x2 == 0) hr (weak0 ((sT rfl (sT rfl (sT rfl (sT rfl sT0))))) (sub_keep (sub_keep sub_nil))))
        · rintro x6 hr
          show AW Hfaa.prog _ _ _ ⟨[(1, .inl (is (U8 a1))), (3, .inr (.inl (3, 0))), (9, .inr (.inl (9, 0))), (20, .inl (is (Bl x6)))], [(3, pb 23 [is (U8 a0_0), is (U8 a0_1)]), (9, pb 112 [is (Bl x1), is (I8 x2), is (I16 x3), is (U64 x4)])]⟩
          have hr : some r = F151_3 N a0_0 a0_1 a1 x1 x2 x3 x4 x6 := hr
          refine AW_condT (b := x6) rfl (fun h => ?_) (fun h => ?_)
          · have hr := hr.trans (cond_t h)
            clear h
            refine AW_seq1 ?_
            refine AW_region ?_
            refine AL_cons (LR_assign (at_c (v' := I64 0) rfl) rfl) (sS sT0 sB0 sF0) ?_
            refine AL_cons (LR_assign (at_c (v' := Bl true) rfl) rfl) (sS sT0 sB0 sF0) ?_
            refine AL_cons (LR_assign (at_c (v' := U8 (0#8)) rfl) rfl) (sS sT0 sB0 sF0) ?_
            refine AL_nil ?_
            refine thenN ?_
            refine AW_ret ?_
            refine blR ?_
            refine thenR ?_
            obtain rfl := Option.some.inj hr
            exact res3 rfl (rvT rfl) (rvT rfl) (rvT rfl)
          · have hr := hr.trans (cond_f h)
            clear h
            refine AW_cut (σ := Bool) (fun v => ⟨[(1, .inl (is (U8 a1))), (9, .inr (.inl (9, 0))), (24, .inl (is (Bl v)))], [(9, pb 112 [is (Bl x1), is (I8 x2), is (I16 x3), is (U64 x4)])]⟩) (fun v => some r = F151_4 N a1 x1 x2 x3 x4 v) ?_ ?_
            · skip
              refine AW_cut (σ := Bool) (fun v => ⟨[(1, .inl (is (U8 a1))), (3, .inr (.inl (3, 0))), (9, .inr (.inl (9, 0))), (24, .inl (is (Bl v)))], [(3, pb 23 [is (U8 a0_0), is (U8 a0_1)]), (9, pb 112 [is (Bl x1), is (I8 x2), is (I16 x3), is (U64 x4)])]⟩) (fun v => some r = F151_13 N a0_0 a0_1 a1 x1 x2 x3 x4 v) ?_ ?_
              · skip
                refine AW_region ?_
                refine AL_cons (LR_fieldAddr (off := 0) (o := 1) (at_tmp 9 _) (fun b w => fa112_1 b 0 w) rfl) (sS (sT1 rfl) sB0 sF0) ?_
                refine AL_cons (LR_load (at_tmp 25 _) na110 rfl rfl) (sS (sT1 rfl) (sB1 rfl) sF0) ?_
                refine AL_cons (LR_bin (at_tmp 26 _) (at_c (v' := I8 4) rfl) (eql_I8 x2 4) rfl) (sS (sA (sT1 rfl) sT0) sB0 sF0) ?_
                refine AL_cons (LR_assign (at_tmp 27 _) rfl) (sS (sT1 rfl) sB0 sF0) ?_
                refine AL_nil ?_
                exact thenN (cutLeaf (v := x2 == 4) hr (weak0 ((sT rfl (sT rfl (sT rfl (sT rfl sT0))))) (sub_keep (sub_keep sub_nil))))
              · rintro x18 hr
                show AW Hfaa.prog _ _ _ ⟨[(1, .inl (is (U8 a1))), (3, .inr (.inl (3, 0))), (9, .inr (.inl (9, 0))), (24, .inl (is (Bl x18)))], [(3, pb 23 [is (U8 a0_0), is (U8 a0_1)]), (9, pb 112 [is (Bl x1), is (I8 x2), is (I16 x3), is (U64 x4)])]⟩
                have hr : some r = F151_13 N a0_0 a0_1 a1 x1 x2 x3 x4 x18 := hr
                refine AW_condT (b := x18) rfl (fun h => ?_) (fun h => ?_)
                · have hr := hr.trans (cond_t h)
                  clear h
                  refine AW_skip ?_
                  exact thenN (cutLeaf (v := x18) hr (weak0 ((sT rfl (sT rfl (sT rfl sT0)))) (sub_drop (sub_keep sub_nil))))
                · have hr := hr.trans (cond_f h)
                  clear h
                  refine AW_cut (σ := Bool) (fun v => ⟨[(1, .inl (is (U8 a1))), (3, .inr (.inl (3, 0))), (9, .inr (.inl (9, 0))), (24, .inl (is (Bl v)))], [(3, pb 23 [is (U8 a0_0), is (U8 a0_1)]), (9, pb 112 [is (Bl x1), is (I8 x2), is (I16 x3), is (U64 x4)])]⟩) (fun v => some r = F151_14 N a0_0 a0_1 a1 x1 x2 x3 x4 v) ?_ ?_
                  · skip
                    refine AW_region ?_
                    refine AL_cons (LR_fieldAddr (off := 0) (o := 1) (at_tmp 9 _) (fun b w => fa112_1 b 0 w) rfl) (sS (sT1 rfl) sB0 sF0) ?_
                    refine AL_cons (LR_load (at_tmp 28 _) na110 rfl rfl) (sS (sT1 rfl) (sB1 rfl) sF0) ?_
                    refine AL_cons (LR_bin (at_tmp 29 _) (at_c (v' := I8 3) rfl) (eql_I8 x2 3) rfl) (sS (sA (sT1 rfl) sT0) sB0 sF0) ?_
                    refine AL_cons (LR_assign (at_tmp 30 _) rfl) (sS (sT1 rfl) sB0 sF0) ?_
                    refine AL_nil ?_
                    exact thenN (cutLeaf (v := x2 == 3) hr (weak0 ((sT rfl (sT rfl (sT rfl (sT rfl sT0))))) (sub_keep (sub_keep sub_nil))))
                  · rintro x19 hr
                    show AW Hfaa.prog _ _ _ ⟨[(1, .inl (is (U8 a1))), (3, .inr (.inl (3, 0))), (9, .inr (.inl (9, 0))), (24, .inl (is (Bl x19)))], [(3, pb 23 [is (U8 a0_0), is (U8 a0_1)]), (9, pb 112 [is (Bl x1), is (I8 x2), is (I16 x3), is (U64 x4)])]⟩
                    have hr : some r = F151_14 N a0_0 a0_1 a1 x1 x2 x3 x4 x19 := hr
                    refine AW_condT (b := x19) rfl (fun h => ?_) (fun h => ?_)
                    · have hr := hr.trans (cond_t h)
                      clear h
                      refine AW_skip ?_
                      exact thenN (cutLeaf (v := x19) hr (weak0 ((sT rfl (sT rfl (sT rfl sT0)))) (sub_drop (sub_keep sub_nil))))
                    · have hr := hr.trans (cond_f h)
                      clear h
                      refine AW_region ?_
                      refine AL_cons (LR_fieldAddr (off := 0) (o := 2) (at_tmp 9 _) (fun b w => fa112_2 b 0 w) rfl) (sS (sT1 rfl) sB0 sF0) ?_
                      refine AL_cons (LR_load (at_tmp 31 _) na44 rfl rfl) (sS (sT1 rfl) (sB1 rfl) sF0) ?_
                      refine AL_cons (LR_fieldAddr (off := 0) (o := 1) (at_tmp 3 _) (fun b w => fa23_1 b 0 w) rfl) (sS (sT1 rfl) sB0 sF0) ?_
                      refine AL_cons (LR_load (at_tmp 33 _) na5 rfl rfl) (sS (sT1 rfl) (sB1 rfl) sF0) ?_
                      refine AL_cons (LR_conv (vx := U8 a0_1) (at_tmp 34 _) (conv_I16 Hfaa.underlying5 Hfaa.underlying44 (a0_1.toNat : Int)) rfl) (sS (sT1 rfl) sB0 sF0) ?_
                      refine AL_cons (LR_bin (at_tmp 32 _) (at_tmp 35 _) (add_I16 x3 (w16 (a0_1.toNat : Int))) rfl) (sS (sA (sT1 rfl) (sT1 rfl)) sB0 sF0) ?_
                      refine AL_cons (LR_bin (at_tmp 36 _) (at_c (v' := I16 63) rfl) (gtr_I16 (w16 (x3 + (w16 (a0_1.toNat : Int)))) 63) rfl) (sS (sA (sT1 rfl) sT0) sB0 sF0) ?_
                      refine AL_cons (LR_assign (at_tmp 37 _) rfl) (sS (sT1 rfl) sB0 sF0) ?_
                      refine AL_nil ?_
                      exact thenN (cutLeaf (v := decide ((w16 (x3 + (w16 (a0_1.toNat : Int)))) > 63)) hr (weak0 ((sT rfl (sT rfl (sT rfl sT0)))) (sub_drop (sub_keep sub_nil))))
            · rintro x7 hr
              show AW Hfaa.prog _ _ _ ⟨[(1, .inl (is (U8 a1))), (9, .inr (.inl (9, 0))), (24, .inl (is (Bl x7)))], [(9, pb 112 [is (Bl x1), is (I8 x2), is (I16 x3), is (U64 x4)])]⟩
              have hr : some r = F151_4 N a1 x1 x2 x3 x4 x7 := hr
              refine AW_condT (b := x7) rfl (fun h => ?_) (fun h => ?_)
              · have hr := hr.trans (cond_t h)
                clear h
                refine AW_seq1 ?_
                refine AW_region ?_
                refine AL_cons (LR_assign (at_c (v' := I64 0) rfl) rfl) (sS sT0 sB0 sF0) ?_
                refine AL_cons (LR_assign (at_c (v' := Bl false) rfl) rfl) (sS sT0 sB0 sF0) ?_
                refine AL_cons (LR_assign (at_c (v' := U8 (1#8)) rfl) rfl) (sS sT0 sB0 sF0) ?_
                refine AL_nil ?_
                refine thenN ?_
                refine AW_ret ?_
                refine blR ?_
                refine thenR ?_
                obtain rfl := Option.some.inj hr
                exact res3 rfl (rvT rfl) (rvT rfl) (rvT rfl)
              · have hr := hr.trans (cond_f h)
                clear h
                refine AW_skip ?_
                refine blN ?_
                refine thenN ?_
                refine AW_seq1 ?_
                refine AW_region ?_
                refine AL_cons (LR_fieldAddr (off := 0) (o := 3) (at_tmp 9 _) (fun b w => fa112_3 b 0 w) rfl) (sS (sT1 rfl) sB0 sF0) ?_
                refine AL_cons (LR_load (at_tmp 38 _) na30 rfl rfl) (sS (sT1 rfl) (sB1 rfl) sF0) ?_
                refine AL_cons (LR_assign (at_tmp 39 _) rfl) (sS (sT1 rfl) sB0 sF0) ?_
                refine AL_cons (LR_assign (at_c (v' := U64 (0#64)) rfl) rfl) (sS sT0 sB0 sF0) ?_
                refine AL_nil ?_
                refine thenN ?_
                refine AW_cut (σ := BitVec 64 × BitVec 64) (fun v => ⟨[(9, .inr (.inl (9, 0))), (10, .inl (is (U64 v.1))), (11, .inl (is (U64 v.2)))], [(9, pb 112 [is (Bl x1), is (I8 x2), is (I16 x3), is (U64 x4)])]⟩) (fun v => some r = F151_5 N x1 x2 x3 x4 v.1 v.2) ?_ ?_
                · skip
                  refine AW_cut (σ := Bool) (fun v => ⟨[(1, .inl (is (U8 a1))), (9, .inr (.inl (9, 0))), (10, .inl (is (U64 x4))), (11, .inl (is (U64 (0#64)))), (42, .inl (is (Bl v)))], [(9, pb 112 [is (Bl x1), is (I8 x2), is (I16 x3), is (U64 x4)])]⟩) (fun v => some r = F151_10 N a1 x1 x2 x3 x4 v) ?_ ?_
                  · skip
                    refine AW_region ?_
                    refine AL_cons (LR_fieldAddr (off := 0) (o := 2) (at_tmp 9 _) (fun b w => fa112_2 b 0 w) rfl) (sS (sT1 rfl) sB0 sF0) ?_
                    refine AL_cons (LR_load (at_tmp 40 _) na44 rfl rfl) (sS (sT1 rfl) (sB1 rfl) sF0) ?_
                    refine AL_cons (LR_bin (at_tmp 41 _) (at_c (v' := I16 0) rfl) (geq_I16 x3 0) rfl) (sS (sA (sT1 rfl) sT0) sB0 sF0) ?_
                    refine AL_nil ?_
                    exact thenN (cutLeaf (v := decide (x3 ≥ 0)) hr (weak0 ((sT rfl (sT rfl (sT rfl (sT rfl (sT rfl sT0)))))) (sub_keep sub_nil)))
                  · rintro x14 hr
                    show AW Hfaa.prog _ _ _ ⟨[(1, .inl (is (U8 a1))), (9, .inr (.inl (9, 0))), (10, .inl (is (U64 x4))), (11, .inl (is (U64 (0#64)))), (42, .inl (is (Bl x14)))], [(9, pb 112 [is (Bl x1), is (I8 x2), is (I16 x3), is (U64 x4)])]⟩
                    have hr : some r = F151_10 N a1 x1 x2 x3 x4 x14 := hr
                    refine AW_condT (b := x14) rfl (fun h => ?_) (fun h => ?_)
                    · have hr := hr.trans (cond_t h)
                      clear h
                      refine AW_region ?_
                      refine AL_cons (LR_move (at_tmp 10 _) rfl) (sS (sT1 rfl) sB0 sF0) ?_
                      refine AL_cons (LR_fieldAddr (off := 0) (o := 2) (at_tmp 9 _) (fun b w => fa112_2 b 0 w) rfl) (sS (sT1 rfl) sB0 sF0) ?_
                      refine AL_cons (LR_load (at_tmp 44 _) na44 rfl rfl) (sS (sT1 rfl) (sB1 rfl) sF0) ?_
                      obtain ⟨hg2, hr⟩ := guard_some hr
                      refine AL_cons (LR_bin (at_tmp 43 _) (at_tmp 45 _) (shl_U64 x4 x3 (of_decide_eq_true hg2)) rfl) (sS (sA (sT1 rfl) (sT1 rfl)) sB0 sF0) ?_
                      refine AL_cons (LR_assign (at_tmp 46 _) rfl) (sS (sT1 rfl) sB0 sF0) ?_
                      refine AL_nil ?_
                      exact thenN (cutLeaf (v := (x4 <<< x3.toNat, 0#64)) hr (weak0 ((sT rfl (sT rfl (sT rfl sT0)))) (sub_keep sub_nil)))
                    · have hr := hr.trans (cond_f h)
                      clear h
                      refine AW_cut (σ := BitVec 64 × BitVec 64) (fun v => ⟨[(1, .inl (is (U8 a1))), (9, .inr (.inl (9, 0))), (10, .inl (is (U64 v.1))), (11, .inl (is (U64 v.2)))], [(9, pb 112 [is (Bl x1), is (I8 x2), is (I16 x3), is (U64 x4)])]⟩) (fun v => some r = F151_11 N a1 x1 x2 x3 x4 v.1 v.2) ?_ ?_
                      · skip
                        refine AW_region ?_
                        refine AL_cons (LR_fieldAddr (off := 0) (o := 3) (at_tmp 9 _) (fun b w => fa112_3 b 0 w) rfl) (sS (sT1 rfl) sB0 sF0) ?_
                        refine AL_cons (LR_load (at_tmp 48 _) na30 rfl rfl) (sS (sT1 rfl) (sB1 rfl) sF0) ?_
                        refine AL_cons (LR_fieldAddr (off := 0) (o := 2) (at_tmp 9 _) (fun b w => fa112_2 b 0 w) rfl) (sS (sT1 rfl) sB0 sF0) ?_
                        refine AL_cons (LR_load (at_tmp 50 _) na44 rfl rfl) (sS (sT1 rfl) (sB1 rfl) sF0) ?_
                        refine AL_cons (LR_un (at_tmp 51 _) (neg_I16 x3) rfl) (sS (sT1 rfl) sB0 sF0) ?_
                        obtain ⟨y12, hy12, hr⟩ := bind_some hr
                        refine AL_cons (LR_call Hfaa.func257 rfl rfl (C257 N x4 (w16 (0 - x3)) y12 hy12) (all_cons (at_tmp 49 _) (all_cons (at_tmp 52 _) all_nil)) rfl) (sS (sA (sT1 rfl) (sA (sT1 rfl) sT0)) sB0 sF0) ?_
                        refine AL_cons (LR_move (at_tmp 53 _) rfl) (sS (sT1 rfl) sB0 sF0) ?_
                        refine AL_cons (LR_extract (at_tmp 47 _) rfl rfl) (sS (sT1 rfl) sB0 sF0) ?_
                        refine AL_cons (LR_extract (at_tmp 47 _) rfl rfl) (sS (sT1 rfl) sB0 sF0) ?_
                        refine AL_cons (LR_assign (at_tmp 54 _) rfl) (sS (sT1 rfl) sB0 sF0) ?_
                        refine AL_cons (LR_assign (at_tmp 55 _) rfl) (sS (sT1 rfl) sB0 sF0) ?_
                        refine AL_nil ?_
                        exact thenN (cutLeaf (v := (y12.1, y12.2)) hr (weak0 ((sT rfl (sT rfl (sT rfl (sT rfl sT0))))) (sub_keep sub_nil)))
                      · rintro ⟨x15, x16⟩ hr
                        show AW Hfaa.prog _ _ _ ⟨[(1, .inl (is (U8 a1))), (9, .inr (.inl (9, 0))), (10, .inl (is (U64 x15))), (11, .inl (is (U64 x16)))], [(9, pb 112 [is (Bl x1), is (I8 x2), is (I16 x3), is (U64 x4)])]⟩
                        have hr : some r = F151_11 N a1 x1 x2 x3 x4 x15 x16 := hr
                        refine AW_cut (σ := Bool) (fun v => ⟨[(9, .inr (.inl (9, 0))), (10, .inl (is (U64 x15))), (11, .inl (is (U64 x16))), (61, .inl (is (Bl v)))], [(9, pb 112 [is (Bl x1), is (I8 x2), is (I16 x3), is (U64 x4)])]⟩) (fun v => some r = F151_12 N x1 x2 x3 x4 x15 x16 v) ?_ ?_
                        · skip
                          refine AW_region ?_
                          refine AL_cons (LR_move (at_tmp 1 _) rfl) (sS (sT1 rfl) sB0 sF0) ?_
                          refine AL_cons (LR_fieldAddr (off := 0) (o := 0) (at_tmp 9 _) (fun b w => fa112_0 b 0 w) rfl) (sS (sT1 rfl) sB0 sF0) ?_
                          refine AL_cons (LR_load (at_tmp 57 _) na4 rfl rfl) (sS (sT1 rfl) (sB1 rfl) sF0) ?_
                          refine AL_cons (LR_move (at_tmp 10 _) rfl) (sS (sT1 rfl) sB0 sF0) ?_
                          refine AL_cons (LR_move (at_tmp 11 _) rfl) (sS (sT1 rfl) sB0 sF0) ?_
                          obtain ⟨y11, hy11, hr⟩ := lt_some hr
                          refine AL_cons (LR_call Hfaa.func258 rfl rfl (C258 a1 x1 x15 x16 y11 hy11) (all_cons (at_tmp 56 _) (all_cons (at_tmp 58 _) (all_cons (at_tmp 59 _) (all_cons (at_tmp 60 _) all_nil)))) rfl) (sS (sA (sT1 rfl) (sA (sT1 rfl) (sA (sT1 rfl) (sA (sT1 rfl) sT0)))) sB0 sF0) ?_
                          refine AL_nil ?_
                          exact thenN (cutLeaf (v := y11) hr (weak0 ((sT rfl (sT rfl (sT rfl (sT rfl sT0))))) (sub_keep sub_nil)))
                        · rintro x17 hr
                          show AW Hfaa.prog _ _ _ ⟨[(9, .inr (.inl (9, 0))), (10, .inl (is (U64 x15))), (11, .inl (is (U64 x16))), (61, .inl (is (Bl x17)))], [(9, pb 112 [is (Bl x1), is (I8 x2), is (I16 x3), is (U64 x4)])]⟩
                          have hr : some r = F151_12 N x1 x2 x3 x4 x15 x16 x17 := hr
                          refine AW_condT (b := x17) rfl (fun h => ?_) (fun h => ?_)
                          · have hr := hr.trans (cond_t h)
                            clear h
                            refine AW_region ?_
                            refine AL_cons (LR_move (at_tmp 10 _) rfl) (sS (sT1 rfl) sB0 sF0) ?_
                            refine AL_cons (LR_bin (at_tmp 62 _) (at_c (v' := U64 (1#64)) rfl) (add_U64 x15 (1#64)) rfl) (sS (sA (sT1 rfl) sT0) sB0 sF0) ?_
                            refine AL_cons (LR_assign (at_tmp 63 _) rfl) (sS (sT1 rfl) sB0 sF0) ?_
                            refine AL_nil ?_
                            exact thenN (cutLeaf (v := (x15 + (1#64), x16)) hr (weak0 ((sT rfl (sT rfl (sT rfl sT0)))) (sub_keep sub_nil)))
                          · have hr := hr.trans (cond_f h)
                            clear h
                            refine AW_skip ?_
                            exact thenN (cutLeaf (v := (x15, x16)) hr (weak0 ((sT rfl (sT rfl (sT rfl sT0)))) (sub_keep sub_nil)))
                · rintro ⟨x8, x9⟩ hr
                  show AW Hfaa.prog _ _ _ ⟨[(9, .inr (.inl (9, 0))), (10, .inl (is (U64 x8))), (11, .inl (is (U64 x9)))], [(9, pb 112 [is (Bl x1), is (I8 x2), is (I16 x3), is (U64 x4)])]⟩
                  have hr : some r = F151_5 N x1 x2 x3 x4 x8 x9 := hr
                  refine AW_seq1 ?_
                  refine AW_region ?_
                  refine AL_cons (LR_assign (at_c (v' := U8 (0#8)) rfl) rfl) (sS sT0 sB0 sF0) ?_
                  refine AL_nil ?_
                  refine thenN ?_
                  refine AW_cut (σ := BitVec 8) (fun v => ⟨[(9, .inr (.inl (9, 0))), (10, .inl (is (U64 x8))), (12, .inl (is (U8 v)))], [(9, pb 112 [is (Bl x1), is (I8 x2), is (I16 x3), is (U64 x4)])]⟩) (fun v => some r = F151_6 N x1 x2 x3 x4 x8 v) ?_ ?_
                  · skip
                    refine AW_cut (σ := Bool) (fun v => ⟨[(9, .inr (.inl (9, 0))), (10, .inl (is (U64 x8))), (12, .inl (is (U8 (0#8)))), (65, .inl (is (Bl v)))], [(9, pb 112 [is (Bl x1), is (I8 x2), is (I16 x3), is (U64 x4)])]⟩) (fun v => some r = F151_9 N x1 x2 x3 x4 x8 v) ?_ ?_
                    · skip
                      refine AW_region ?_
                      refine AL_cons (LR_move (at_tmp 11 _) rfl) (sS (sT1 rfl) sB0 sF0) ?_
                      refine AL_cons (LR_bin (at_tmp 64 _) (at_c (v' := U64 (0#64)) rfl) (neq_U64 x9 (0#64)) rfl) (sS (sA (sT1 rfl) sT0) sB0 sF0) ?_
                      refine AL_nil ?_
                      exact thenN (cutLeaf (v := x9 != (0#64)) hr (weak0 ((sT rfl (sT rfl (sT rfl (sT rfl sT0))))) (sub_keep sub_nil)))
                    · rintro x13 hr
                      show AW Hfaa.prog _ _ _ ⟨[(9, .inr (.inl (9, 0))), (10, .inl (is (U64 x8))), (12, .inl (is (U8 (0#8)))), (65, .inl (is (Bl x13)))], [(9, pb 112 [is (Bl x1), is (I8 x2), is (I16 x3), is (U64 x4)])]⟩
                      have hr : some r = F151_9 N x1 x2 x3 x4 x8 x13 := hr
                      refine AW_condT (b := x13) rfl (fun h => ?_) (fun h => ?_)
                      · have hr := hr.trans (cond_t h)
                        clear h
                        refine AW_region ?_
                        refine AL_cons (LR_assign (at_c (v' := U8 (16#8)) rfl) rfl) (sS sT0 sB0 sF0) ?_
                        refine AL_nil ?_
                        exact thenN (cutLeaf (v := 16#8) hr (weak0 ((sT rfl (sT rfl (sT rfl sT0)))) (sub_keep sub_nil)))
                      · have hr := hr.trans (cond_f h)
                        clear h
                        refine AW_skip ?_
                        exact thenN (cutLeaf (v := 0#8) hr (weak0 ((sT rfl (sT rfl (sT rfl sT0)))) (sub_keep sub_nil)))
                  · rintro x10 hr
                    show AW Hfaa.prog _ _ _ ⟨[(9, .inr (.inl (9, 0))), (10, .inl (is (U64 x8))), (12, .inl (is (U8 x10)))], [(9, pb 112 [is (Bl x1), is (I8 x2), is (I16 x3), is (U64 x4)])]⟩
                    have hr : some r = F151_6 N x1 x2 x3 x4 x8 x10 := hr
                    refine AW_seq1 ?_
                    refine AW_block ?_
                    refine AW_cut (σ := Bool) (fun v => ⟨[(9, .inr (.inl (9, 0))), (10, .inl (is (U64 x8))), (12, .inl (is (U8 x10))), (66, .inl (is (Bl v)))], [(9, pb 112 [is (Bl x1), is (I8 x2), is (I16 x3), is (U64 x4)])]⟩) (fun v => some r = F151_7 N x1 x2 x3 x4 x8 x10 v) ?_ ?_
                    · skip
                      refine AW_region ?_
                      refine AL_cons (LR_fieldAddr (off := 0) (o := 0) (at_tmp 9 _) (fun b w => fa112_0 b 0 w) rfl) (sS (sT1 rfl) sB0 sF0) ?_
                      refine AL_cons (LR_load (at_tmp 67 _) na4 rfl rfl) (sS (sT1 rfl) (sB1 rfl) sF0) ?_
                      refine AL_cons (LR_move (at_tmp 68 _) rfl) (sS (sT1 rfl) sB0 sF0) ?_
                      refine AL_cutAt 3 ⟨[(9, .inr (.inl (9, 0))), (10, .inl (is (U64 x8))), (12, .inl (is (U8 x10))), (67, .inr (.inl (9, 0))), (68, .inl (is (Bl x1))), (69, .inl (is (Bl x1))), (72, .inl (is (Bl (x1 && (decide (x8.toNat ≤ (9223372036854775808#64).toNat))))))], [(9, pb 112 [is (Bl x1), is (I8 x2), is (I16 x3), is (U64 x4)])]⟩ ?_ ?_
                      · cases hb : x1
                        · skip
                          refine AL_cons (LR_off (b := false) rfl rfl rfl rfl) (sS (sT1 rfl) sB0 sF0) ?_
                          refine AL_cons (LR_off (b := false) rfl rfl rfl rfl) (sS (sT1 rfl) sB0 sF0) ?_
                          refine AL_cons (LR_pick (b := false) (at_tmp 69 _) (at_tmp 71 _) (at_c (v' := Bl false) rfl) rfl) (sS (sA (sT1 rfl) (sA (sT1 rfl) sT0)) sB0 sF0) ?_
                          exact AL_nil ⟨rfl, weak0 ((sT rfl (sT rfl (sT rfl (sT rfl (sT rfl (sT rfl (sT rfl sT0)))))))) (sub_keep sub_nil)⟩
                        · skip
                          refine AL_cons (LR_on rfl rfl rfl (LR_move (at_tmp 10 _) rfl)) (sS (sT rfl (sT1 rfl)) sB0 sF0) ?_
                          refine AL_cons (LR_on rfl rfl rfl (LR_bin (at_tmp 70 _) (at_c (v' := U64 (9223372036854775808#64)) rfl) (leq_U64 x8 (9223372036854775808#64)) rfl)) (sS (sT rfl (sA (sT1 rfl) sT0)) sB0 sF0) ?_
                          refine AL_cons (LR_pick (b := true) (at_tmp 69 _) (at_tmp 71 _) (at_c (v' := Bl false) rfl) rfl) (sS (sA (sT1 rfl) (sA (sT1 rfl) sT0)) sB0 sF0) ?_
                          exact AL_nil ⟨rfl, weak0 ((sT rfl (sT rfl (sT rfl (sT rfl (sT rfl (sT rfl (sT rfl sT0)))))))) (sub_keep sub_nil)⟩
                      refine AL_cons (LR_assign (at_tmp 72 _) rfl) (sS (sT1 rfl) sB0 sF0) ?_
                      refine AL_nil ?_
                      exact thenN (cutLeaf (v := x1 && (decide (x8.toNat ≤ (9223372036854775808#64).toNat))) hr (weak0 ((sT rfl (sT rfl (sT rfl (sT rfl sT0))))) (sub_keep sub_nil)))
                    · rintro x11 hr
                      show AW Hfaa.prog _ _ _ ⟨[(9, .inr (.inl (9, 0))), (10, .inl (is (U64 x8))), (12, .inl (is (U8 x10))), (66, .inl (is (Bl x11)))], [(9, pb 112 [is (Bl x1), is (I8 x2), is (I16 x3), is (U64 x4)])]⟩
                      have hr : some r = F151_7 N x1 x2 x3 x4 x8 x10 x11 := hr
                      refine AW_condT (b := x11) rfl (fun h => ?_) (fun h => ?_)
                      · have hr := hr.trans (cond_t h)
                        clear h
                        refine AW_seq1 ?_
                        refine AW_region ?_
                        refine AL_cons (LR_move (at_tmp 10 _) rfl) (sS (sT1 rfl) sB0 sF0) ?_
                        refine AL_cons (LR_conv (vx := U64 x8) (at_tmp 73 _) (conv_I64 Hfaa.underlying30 Hfaa.underlying2 (x8.toNat : Int)) rfl) (sS (sT1 rfl) sB0 sF0) ?_
                        refine AL_cons (LR_un (at_tmp 74 _) (neg_I64 (w64 (x8.toNat : Int))) rfl) (sS (sT1 rfl) sB0 sF0) ?_
                        refine AL_cons (LR_move (at_tmp 12 _) rfl) (sS (sT1 rfl) sB0 sF0) ?_
                        refine AL_cons (LR_assign (at_tmp 75 _) rfl) (sS (sT1 rfl) sB0 sF0) ?_
                        refine AL_cons (LR_assign (at_c (v' := Bl true) rfl) rfl) (sS sT0 sB0 sF0) ?_
                        refine AL_cons (LR_assign (at_tmp 76 _) rfl) (sS (sT1 rfl) sB0 sF0) ?_
                        refine AL_nil ?_
                        refine thenN ?_
                        refine AW_ret ?_
                        refine blR ?_
                        refine thenR ?_
                        obtain rfl := Option.some.inj hr
                        exact res3 rfl (rvT rfl) (rvT rfl) (rvT rfl)
                      · have hr := hr.trans (cond_f h)
                        clear h
                        refine AW_cut (σ := Bool) (fun v => ⟨[(10, .inl (is (U64 x8))), (12, .inl (is (U8 x10))), (77, .inl (is (Bl v)))], []⟩) (fun v => some r = F151_8 N x8 x10 v) ?_ ?_
                        · skip
                          refine AW_region ?_
                          refine AL_cons (LR_fieldAddr (off := 0) (o := 0) (at_tmp 9 _) (fun b w => fa112_0 b 0 w) rfl) (sS (sT1 rfl) sB0 sF0) ?_
                          refine AL_cons (LR_load (at_tmp 78 _) na4 rfl rfl) (sS (sT1 rfl) (sB1 rfl) sF0) ?_
                          refine AL_cons (LR_un (at_tmp 79 _) (not_Bl x1) rfl) (sS (sT1 rfl) sB0 sF0) ?_
                          refine AL_cons (LR_move (at_tmp 80 _) rfl) (sS (sT1 rfl) sB0 sF0) ?_
                          refine AL_cutAt 3 ⟨[(9, .inr (.inl (9, 0))), (10, .inl (is (U64 x8))), (12, .inl (is (U8 x10))), (66, .inl (is (Bl x11))), (78, .inr (.inl (9, 0))), (79, .inl (is (Bl x1))), (80, .inl (is (Bl (!x1)))), (81, .inl (is (Bl (!x1)))), (84, .inl (is (Bl ((!x1) && (decide (x8.toNat < (9223372036854775808#64).toNat))))))], [(9, pb 112 [is (Bl x1), is (I8 x2), is (I16 x3), is (U64 x4)])]⟩ ?_ ?_
                          · cases hb : !x1
                            · skip
                              refine AL_cons (LR_off (b := false) rfl rfl rfl rfl) (sS (sT1 rfl) sB0 sF0) ?_
                              refine AL_cons (LR_off (b := false) rfl rfl rfl rfl) (sS (sT1 rfl) sB0 sF0) ?_
                              refine AL_cons (LR_pick (b := false) (at_tmp 81 _) (at_tmp 83 _) (at_c (v' := Bl false) rfl) rfl) (sS (sA (sT1 rfl) (sA (sT1 rfl) sT0)) sB0 sF0) ?_
                              exact AL_nil ⟨rfl, weak0 ((sT rfl (sT rfl (sT rfl (sT rfl (sT rfl (sT rfl (sT rfl (sT rfl (sT rfl sT0)))))))))) (sub_keep sub_nil)⟩
                            · skip
                              refine AL_cons (LR_on rfl rfl rfl (LR_move (at_tmp 10 _) rfl)) (sS (sT rfl (sT1 rfl)) sB0 sF0) ?_
                              refine AL_cons (LR_on rfl rfl rfl (LR_bin (at_tmp 82 _) (at_c (v' := U64 (9223372036854775808#64)) rfl) (lss_U64 x8 (9223372036854775808#64)) rfl)) (sS (sT rfl (sA (sT1 rfl) sT0)) sB0 sF0) ?_
                              refine AL_cons (LR_pick (b := true) (at_tmp 81 _) (at_tmp 83 _) (at_c (v' := Bl false) rfl) rfl) (sS (sA (sT1 rfl) (sA (sT1 rfl) sT0)) sB0 sF0) ?_
                              exact AL_nil ⟨rfl, weak0 ((sT rfl (sT rfl (sT rfl (sT rfl (sT rfl (sT rfl (sT rfl (sT rfl (sT rfl sT0)))))))))) (sub_keep sub_nil)⟩
                          refine AL_cons (LR_assign (at_tmp 84 _) rfl) (sS (sT1 rfl) sB0 sF0) ?_
                          refine AL_nil ?_
                          exact thenN (cutLeaf (v := (!x1) && (decide (x8.toNat < (9223372036854775808#64).toNat))) hr (weak0 ((sT rfl (sT rfl (sT rfl sT0)))) (sub_drop sub_nil)))
                        · rintro x12 hr
                          show AW Hfaa.prog _ _ _ ⟨[(10, .inl (is (U64 x8))), (12, .inl (is (U8 x10))), (77, .inl (is (Bl x12)))], []⟩
                          have hr : some r = F151_8 N x8 x10 x12 := hr
                          refine AW_condT (b := x12) rfl (fun h => ?_) (fun h => ?_)
                          · have hr := hr.trans (cond_t h)
                            clear h
                            refine AW_seq1 ?_
                            refine AW_region ?_
                            refine AL_cons (LR_move (at_tmp 10 _) rfl) (sS (sT1 rfl) sB0 sF0) ?_
                            refine AL_cons (LR_conv (vx := U64 x8) (at_tmp 85 _) (conv_I64 Hfaa.underlying30 Hfaa.underlying2 (x8.toNat : Int)) rfl) (sS (sT1 rfl) sB0 sF0) ?_
                            refine AL_cons (LR_move (at_tmp 12 _) rfl) (sS (sT1 rfl) sB0 sF0) ?_
                            refine AL_cons (LR_assign (at_tmp 86 _) rfl) (sS (sT1 rfl) sB0 sF0) ?_
                            refine AL_cons (LR_assign (at_c (v' := Bl true) rfl) rfl) (sS sT0 sB0 sF0) ?_
                            refine AL_cons (LR_assign (at_tmp 87 _) rfl) (sS (sT1 rfl) sB0 sF0) ?_
                            refine AL_nil ?_
                            refine thenN ?_
                            refine AW_ret ?_
                            refine blR ?_
                            refine thenR ?_
                            obtain rfl := Option.some.inj hr
                            exact res3 rfl (rvT rfl) (rvT rfl) (rvT rfl)
                          · have hr := hr.trans (cond_f h)
                            clear h
                            refine AW_skip ?_
                            refine blN ?_
                            refine thenN ?_
                            refine AW_seq1 ?_
                            refine AW_region ?_
                            refine AL_cons (LR_assign (at_c (v' := I64 0) rfl) rfl) (sS sT0 sB0 sF0) ?_
                            refine AL_cons (LR_assign (at_c (v' := Bl false) rfl) rfl) (sS sT0 sB0 sF0) ?_
                            refine AL_cons (LR_assign (at_c (v' := U8 (1#8)) rfl) rfl) (sS sT0 sB0 sF0) ?_
                            refine AL_nil ?_
                            refine thenN ?_
                            refine AW_ret ?_
                            obtain rfl := Option.some.inj hr
                            exact res3 rfl (rvT rfl) (rvT rfl) (rvT rfl)
end Go.Proofs.YfwaawGreat
