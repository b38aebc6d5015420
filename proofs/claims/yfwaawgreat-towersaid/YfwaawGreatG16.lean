import Derived.Test.YfwaawGreatG1
import Derived.Test.YfwaawGreatG2
import Derived.Test.YfwaawGreatG4
import Derived.Test.YfwaawGreatG5
import Derived.Test.YfwaawGreatG6
import Derived.Test.YfwaawGreatG13
import Derived.Test.YfwaawGreatG14
import Derived.Test.YfwaawGreatG15
namespace Go.Proofs.YfwaawGreat
open Go.Aw
set_option linter.unusedVariables false
set_option maxRecDepth 100000
set_option maxHeartbeats 1000000
/-- exact.NextUpFlags -/
def F185_3 (N : Nat) (a0_0 : BitVec 8) (a0_1 : BitVec 8) (a1 : BitVec 64) (x2 : BitVec 64) (x3 : Bool) (x4 : Int) (x5 : Bool) (x6 : Nat) (x7 : Nat) (x8 : Bool) : Option (BitVec 64 × BitVec 8) := bif x8 then lt (F66 a0_0 a0_1) fun y11 => lt (F216 a0_0 a0_1 a1 a1) fun y12 => some (y11, y12) else (F279 N a0_0 a0_1 x2 x3 x4 x5 x6 x7).bind fun y14 => some (y14, 0#8)
def F185_2 (N : Nat) (a0_0 : BitVec 8) (a0_1 : BitVec 8) (a1 : BitVec 64) (x2 : BitVec 64) (x3 : Bool) (x4 : Int) (x5 : Bool) (x6 : Nat) (x7 : Nat) : Option (BitVec 64 × BitVec 8) := F185_3 N a0_0 a0_1 a1 x2 x3 x4 x5 x6 x7 (x4 == 4)
def F185_1 (N : Nat) (a0_0 : BitVec 8) (a0_1 : BitVec 8) (a1 : BitVec 64) (x1 : Bool) : Option (BitVec 64 × BitVec 8) := bif x1 then some (0#64, 0#8) else (F144 N a0_0 a0_1 a1).bind fun y15 => F185_2 N a0_0 a0_1 a1 y15.1 y15.2.1 y15.2.2.1 y15.2.2.2.1 y15.2.2.2.2.1 y15.2.2.2.2.2
def F185 (N : Nat) (a0_0 : BitVec 8) (a0_1 : BitVec 8) (a1 : BitVec 64) : Option (BitVec 64 × BitVec 8) := lt (F40 a0_0 a0_1) fun y16 => F185_1 N a0_0 a0_1 a1 (!y16)
theorem C185 (N : Nat) (a0_0 : BitVec 8) (a0_1 : BitVec 8) (a1 : BitVec 64) (r : BitVec 64 × BitVec 8) (hr : some r = F185 N a0_0 a0_1 a1) : Aw.Fn Hfaa.prog 185 [agg [is (U8 a0_0), is (U8 a0_1)], is (U64 a1)] (tup [is (U64 r.1), is (U8 r.2)]) := by
  refine fn_intro Hfaa.func185 rfl rfl rfl ?_
  intro bn0 w0 H0
  refine AW_seq1 ?_
  refine AW_region ?_
  refine AL_cons (LR_box (at_tmp 0 _) (cells_agg _) rfl) (sS (sT1 rfl) sB0 (sF1 rfl)) ?_
  refine AL_cons (LR_assign (at_c (v' := U64 (0#64)) rfl) rfl) (sS sT0 sB0 sF0) ?_
  refine AL_cons (LR_assign (at_c (v' := U8 (0#8)) rfl) rfl) (sS sT0 sB0 sF0) ?_
  refine AL_nil ?_
  refine thenN ?_
  refine AW_seq1 ?_
  refine AW_cut (σ := Bool) (fun v => ⟨[(1, .inl (is (U64 a1))), (2, .inr (.inl (2, 0))), (9, .inl (is (Bl v)))], [(2, pb 23 [is (U8 a0_0), is (U8 a0_1)])]⟩) (fun v => some r = F185_1 N a0_0 a0_1 a1 v) ?_ ?_
  · skip
    refine AW_region ?_
    refine AL_cons (LR_loads (at_tmp 2 _) ag23 sz23 rfl rfl rfl) (sS (sT1 rfl) (sB1 rfl) sF0) ?_
    obtain ⟨y16, hy16, hr⟩ := lt_some hr
    refine AL_cons (LR_call Hfaa.func40 rfl rfl (C40 a0_0 a0_1 y16 hy16) (all_cons (at_tmp 7 _) all_nil) rfl) (sS (sA (sT1 rfl) sT0) sB0 sF0) ?_
    refine AL_cons (LR_un (at_tmp 8 _) (not_Bl y16) rfl) (sS (sT1 rfl) sB0 sF0) ?_
    refine AL_nil ?_
    exact thenN (cutLeaf (v := !y16) hr (weak0 ((sT rfl (sT rfl (sT rfl sT0)))) (sub_keep sub_nil)))
  · rintro x1 hr
    show AW Hfaa.prog _ _ _ ⟨[(1, .inl (is (U64 a1))), (2, .inr (.inl (2, 0))), (9, .inl (is (Bl x1)))], [(2, pb 23 [is (U8 a0_0), is (U8 a0_1)])]⟩
    have hr : some r = F185_1 N a0_0 a0_1 a1 x1 := hr
    refine AW_condT (b := x1) rfl (fun h => ?_) (fun h => ?_)
    · have hr := hr.trans (cond_t h)
      clear h
      refine AW_seq1 ?_
      refine AW_region ?_
      refine AL_cons (LR_assign (at_c (v' := U64 (0#64)) rfl) rfl) (sS sT0 sB0 sF0) ?_
      refine AL_cons (LR_assign (at_c (v' := U8 (0#8)) rfl) rfl) (sS sT0 sB0 sF0) ?_
      refine AL_nil ?_
      refine thenN ?_
      refine AW_ret ?_
      refine thenR ?_
      obtain rfl := Option.some.inj hr
      exact res2 rfl (rvT rfl) (rvT rfl)
    · have hr := hr.trans (cond_f h)
      clear h
      refine AW_skip ?_
      refine thenN ?_
      refine AW_cut (σ := BitVec 64 × Bool × Int × Bool × Nat × Nat) (fun v => ⟨[(1, .inl (is (U64 a1))), (2, .inr (.inl (2, 0))), (6, .inr (.inl (6, 0)))], [(2, pb 23 [is (U8 a0_0), is (U8 a0_1)]), (6, pb 175 [is (U64 v.1), is (Bl v.2.1), is (I8 v.2.2.1), is (Bl v.2.2.2.1), big v.2.2.2.2.1, big v.2.2.2.2.2])]⟩) (fun v => some r = F185_2 N a0_0 a0_1 a1 v.1 v.2.1 v.2.2.1 v.2.2.2.1 v.2.2.2.2.1 v.2.2.2.2.2) ?_ ?_
      · skip
        refine AW_region ?_
        refine AL_cons (LR_loads (at_tmp 2 _) ag23 sz23 rfl rfl rfl) (sS (sT1 rfl) (sB1 rfl) sF0) ?_
        refine AL_cons (LR_move (at_tmp 1 _) rfl) (sS (sT1 rfl) sB0 sF0) ?_
        obtain ⟨y15, hy15, hr⟩ := bind_some hr
        refine AL_cons (LR_call Hfaa.func144 rfl rfl (C144 N a0_0 a0_1 a1 y15 hy15) (all_cons (at_tmp 10 _) (all_cons (at_tmp 11 _) all_nil)) rfl) (sS (sA (sT1 rfl) (sA (sT1 rfl) sT0)) sB0 sF0) ?_
        refine AL_cons (zl175 rfl) (sS sT0 sB0 (sF1 rfl)) ?_
        refine AL_cons (LR_store (at_tmp 6 _) (at_tmp 12 _) (cells_agg _) (onC (one_is rfl) (onC (one_is rfl) (onC (one_is rfl) (onC (one_is rfl) (onC (one_big _) (onC (one_big _) onN)))))) sz175 rfl rfl) (sS (sA (sT1 rfl) (sT1 rfl)) (sB1 rfl) sF0) ?_
        refine AL_nil ?_
        exact thenN (cutLeaf (v := (y15.1, y15.2.1, y15.2.2.1, y15.2.2.2.1, y15.2.2.2.2.1, y15.2.2.2.2.2)) hr (weak0 ((sT rfl (sT rfl (sT rfl sT0)))) (sub_keep (sub_keep sub_nil))))
      · rintro ⟨x2, x3, x4, x5, x6, x7⟩ hr
        show AW Hfaa.prog _ _ _ ⟨[(1, .inl (is (U64 a1))), (2, .inr (.inl (2, 0))), (6, .inr (.inl (6, 0)))], [(2, pb 23 [is (U8 a0_0), is (U8 a0_1)]), (6, pb 175 [is (U64 x2), is (Bl x3), is (I8 x4), is (Bl x5), big x6, big x7])]⟩
        have hr : some r = F185_2 N a0_0 a0_1 a1 x2 x3 x4 x5 x6 x7 := hr
        refine AW_seq1 ?_
        refine AW_cut (σ := Bool) (fun v => ⟨[(1, .inl (is (U64 a1))), (2, .inr (.inl (2, 0))), (6, .inr (.inl (6, 0))), (15, .inl (is (Bl v)))], [(2, pb 23 [is (U8 a0_0), is (U8 a0_1)]), (6, pb 175 [is (U64 x2), is (Bl x3), is (I8 x4), is (Bl x5), big x6, big x7])]⟩) (fun v => some r = F185_3 N a0_0 a0_1 a1 x2 x3 x4 x5 x6 x7 v) ?_ ?_
        · skip
          refine AW_region ?_
          refine AL_cons (LR_fieldAddr (off := 0) (o := 2) (at_tmp 6 _) (fun b w => fa175_2 b 0 w) rfl) (sS (sT1 rfl) sB0 sF0) ?_
          refine AL_cons (LR_load (at_tmp 13 _) na110 rfl rfl) (sS (sT1 rfl) (sB1 rfl) sF0) ?_
          refine AL_cons (LR_bin (at_tmp 14 _) (at_c (v' := I8 4) rfl) (eql_I8 x4 4) rfl) (sS (sA (sT1 rfl) sT0) sB0 sF0) ?_
          refine AL_nil ?_
          exact thenN (cutLeaf (v := x4 == 4) hr (weak0 ((sT rfl (sT rfl (sT rfl (sT rfl sT0))))) (sub_keep (sub_keep sub_nil))))
        · rintro x8 hr
          show AW Hfaa.prog _ _ _ ⟨[(1, .inl (is (U64 a1))), (2, .inr (.inl (2, 0))), (6, .inr (.inl (6, 0))), (15, .inl (is (Bl x8)))], [(2, pb 23 [is (U8 a0_0), is (U8 a0_1)]), (6, pb 175 [is (U64 x2), is (Bl x3), is (I8 x4), is (Bl x5), big x6, big x7])]⟩
          have hr : some r = F185_3 N a0_0 a0_1 a1 x2 x3 x4 x5 x6 x7 x8 := hr
          refine AW_condT (b := x8) rfl (fun h => ?_) (fun h => ?_)
          · have hr := hr.trans (cond_t h)
            clear h
            refine AW_seq1 ?_
            obtain ⟨y11, hy11, hr⟩ := lt_some hr
            obtain ⟨y12, hy12, hr⟩ := lt_some hr
            refine AW_draw mixed
              (lrC (LR_loads (at_tmp 2 _) ag23 sz23 rfl rfl rfl)
              (lrC (LR_call Hfaa.func66 rfl rfl (C66 a0_0 a0_1 y11 hy11) (all_cons (at_tmp 16 _) all_nil) rfl)
              (lrC (LR_loads (at_tmp 2 _) ag23 sz23 rfl rfl rfl)
              (lrC (LR_move (at_tmp 1 _) rfl)
              (lrC (LR_move (at_tmp 1 _) rfl)
              (lrC (LR_call Hfaa.func216 rfl rfl (C216 a0_0 a0_1 a1 a1 y12 hy12) (all_cons (at_tmp 18 _) (all_cons (at_tmp 19 _) (all_cons (at_tmp 20 _) all_nil))) rfl)
              (lrC (LR_assign (at_tmp 17 _) rfl)
              (lrC (LR_assign (at_tmp 21 _) rfl)
              lrN))))))))
              (by kernel_rfl)
              (saC (sS (sT1 rfl) (sB1 rfl) sF0) (saC (sS (sA (sT1 rfl) sT0) sB0 sF0) (saC (sS (sT1 rfl) (sB1 rfl) sF0) (saC (sS (sT1 rfl) sB0 sF0) (saC (sS (sT1 rfl) sB0 sF0) (saC (sS (sA (sT1 rfl) (sA (sT1 rfl) (sA (sT1 rfl) sT0))) sB0 sF0) (saC (sS (sT1 rfl) sB0 sF0) (saC (sS (sT1 rfl) sB0 sF0) saN)))))))) ?_
            refine thenN ?_
            refine AW_ret ?_
            refine thenR ?_
            obtain rfl := Option.some.inj hr
            exact res2 rfl (rvT rfl) (rvT rfl)
          · have hr := hr.trans (cond_f h)
            clear h
            refine AW_skip ?_
            refine thenN ?_
            refine AW_seq1 ?_
            refine AW_region ?_
            refine AL_cons (LR_loads (at_tmp 2 _) ag23 sz23 rfl rfl rfl) (sS (sT1 rfl) (sB1 rfl) sF0) ?_
            refine AL_cons (LR_loads (at_tmp 6 _) ag175 sz175 rfl rfl rfl) (sS (sT1 rfl) (sB1 rfl) sF0) ?_
            obtain ⟨y14, hy14, hr⟩ := bind_some hr
            refine AL_cons (LR_call Hfaa.func279 rfl rfl (C279 N a0_0 a0_1 x2 x3 x4 x5 x6 x7 y14 hy14) (all_cons (at_tmp 22 _) (all_cons (at_tmp 23 _) all_nil)) rfl) (sS (sA (sT1 rfl) (sA (sT1 rfl) sT0)) sB0 sF0) ?_
            refine AL_cons (LR_assign (at_tmp 24 _) rfl) (sS (sT1 rfl) sB0 sF0) ?_
            refine AL_cons (LR_assign (at_c (v' := U8 (0#8)) rfl) rfl) (sS sT0 sB0 sF0) ?_
            refine AL_nil ?_
            refine thenN ?_
            refine AW_ret ?_
            obtain rfl := Option.some.inj hr
            exact res2 rfl (rvT rfl) (rvT rfl)
/-- exact.NextUp -/
def F299_1 (N : Nat) (x1 : BitVec 64) : Option (BitVec 64) := some x1
def F299 (N : Nat) (a0_0 : BitVec 8) (a0_1 : BitVec 8) (a1 : BitVec 64) : Option (BitVec 64) := (F185 N a0_0 a0_1 a1).bind fun y2 => F299_1 N y2.1
theorem C299 (N : Nat) (a0_0 : BitVec 8) (a0_1 : BitVec 8) (a1 : BitVec 64) (r : BitVec 64) (hr : some r = F299 N a0_0 a0_1 a1) : Aw.Fn Hfaa.prog 299 [agg [is (U8 a0_0), is (U8 a0_1)], is (U64 a1)] (is (U64 r)) := by
  refine fn_intro Hfaa.func299 rfl rfl rfl ?_
  intro bn0 w0 H0
  refine AW_seq1 ?_
  refine AW_region ?_
  refine AL_cons (LR_box (at_tmp 0 _) (cells_agg _) rfl) (sS (sT1 rfl) sB0 (sF1 rfl)) ?_
  refine AL_cons (LR_assign (at_c (v' := U64 (0#64)) rfl) rfl) (sS sT0 sB0 sF0) ?_
  refine AL_nil ?_
  refine thenN ?_
  refine AW_cut (σ := BitVec 64) (fun v => ⟨[(5, .inl (is (U64 v)))], []⟩) (fun v => some r = F299_1 N v) ?_ ?_
  · skip
    refine AW_region ?_
    refine AL_cons (LR_loads (at_tmp 2 _) ag23 sz23 rfl rfl rfl) (sS (sT1 rfl) (sB1 rfl) sF0) ?_
    refine AL_cons (LR_move (at_tmp 1 _) rfl) (sS (sT1 rfl) sB0 sF0) ?_
    obtain ⟨y2, hy2, hr⟩ := bind_some hr
    refine AL_cons (LR_call Hfaa.func185 rfl rfl (C185 N a0_0 a0_1 a1 y2 hy2) (all_cons (at_tmp 8 _) (all_cons (at_tmp 9 _) all_nil)) rfl) (sS (sA (sT1 rfl) (sA (sT1 rfl) sT0)) sB0 sF0) ?_
    refine AL_cons (LR_move (at_tmp 10 _) rfl) (sS (sT1 rfl) sB0 sF0) ?_
    refine AL_cons (LR_extract (at_tmp 7 _) rfl rfl) (sS (sT1 rfl) sB0 sF0) ?_
    refine AL_cons (LR_extract (at_tmp 7 _) rfl rfl) (sS (sT1 rfl) sB0 sF0) ?_
    refine AL_cons (LR_assign (at_tmp 11 _) rfl) (sS (sT1 rfl) sB0 sF0) ?_
    refine AL_cons (LR_assign (at_tmp 12 _) rfl) (sS (sT1 rfl) sB0 sF0) ?_
    refine AL_nil ?_
    exact thenN (cutLeaf (v := y2.1) hr (weak0 ((sT rfl sT0)) (sub_drop sub_nil)))
  · rintro x1 hr
    show AW Hfaa.prog _ _ _ ⟨[(5, .inl (is (U64 x1)))], []⟩
    have hr : some r = F299_1 N x1 := hr
    refine AW_seq1 ?_
    refine AW_region ?_
    refine AL_cons (LR_move (at_tmp 5 _) rfl) (sS (sT1 rfl) sB0 sF0) ?_
    refine AL_cons (LR_assign (at_tmp 13 _) rfl) (sS (sT1 rfl) sB0 sF0) ?_
    refine AL_nil ?_
    refine thenN ?_
    refine AW_ret ?_
    obtain rfl := Option.some.inj hr
    exact res1 rfl (rvT rfl)
/-- exact.NextDownFlags -/
def F186_3 (N : Nat) (a0_0 : BitVec 8) (a0_1 : BitVec 8) (a1 : BitVec 64) (x2 : BitVec 64) (x3 : Bool) (x4 : Int) (x5 : Bool) (x6 : Nat) (x7 : Nat) (x8 : Bool) : Option (BitVec 64 × BitVec 8) := bif x8 then lt (F66 a0_0 a0_1) fun y12 => lt (F216 a0_0 a0_1 a1 a1) fun y13 => some (y12, y13) else (F279 N a0_0 a0_1 x2 x3 x4 x5 x6 x7).bind fun y16 => lt (F70 a0_0 a0_1) fun y17 => some (y16 ^^^ y17, 0#8)
def F186_2 (N : Nat) (a0_0 : BitVec 8) (a0_1 : BitVec 8) (a1 : BitVec 64) (x2 : BitVec 64) (x3 : Bool) (x4 : Int) (x5 : Bool) (x6 : Nat) (x7 : Nat) : Option (BitVec 64 × BitVec 8) := F186_3 N a0_0 a0_1 a1 x2 x3 x4 x5 x6 x7 (x4 == 4)
def F186_1 (N : Nat) (a0_0 : BitVec 8) (a0_1 : BitVec 8) (a1 : BitVec 64) (x1 : Bool) : Option (BitVec 64 × BitVec 8) := bif x1 then some (0#64, 0#8) else lt (F70 a0_0 a0_1) fun y18 => (F144 N a0_0 a0_1 (a1 ^^^ y18)).bind fun y19 => F186_2 N a0_0 a0_1 a1 y19.1 y19.2.1 y19.2.2.1 y19.2.2.2.1 y19.2.2.2.2.1 y19.2.2.2.2.2
def F186 (N : Nat) (a0_0 : BitVec 8) (a0_1 : BitVec 8) (a1 : BitVec 64) : Option (BitVec 64 × BitVec 8) := lt (F40 a0_0 a0_1) fun y20 => F186_1 N a0_0 a0_1 a1 (!y20)
theorem C186 (N : Nat) (a0_0 : BitVec 8) (a0_1 : BitVec 8) (a1 : BitVec 64) (r : BitVec 64 × BitVec 8) (hr : some r = F186 N a0_0 a0_1 a1) : Aw.Fn Hfaa.prog 186 [agg [is (U8 a0_0), is (U8 a0_1)], is (U64 a1)] (tup [is (U64 r.1), is (U8 r.2)]) := by
  refine fn_intro Hfaa.func186 rfl rfl rfl ?_
  intro bn0 w0 H0
  refine AW_seq1 ?_
  refine AW_region ?_
  refine AL_cons (LR_box (at_tmp 0 _) (cells_agg _) rfl) (sS (sT1 rfl) sB0 (sF1 rfl)) ?_
  refine AL_cons (LR_assign (at_c (v' := U64 (0#64)) rfl) rfl) (sS sT0 sB0 sF0) ?_
  refine AL_cons (LR_assign (at_c (v' := U8 (0#8)) rfl) rfl) (sS sT0 sB0 sF0) ?_
  refine AL_nil ?_
  refine thenN ?_
  refine AW_seq1 ?_
  refine AW_cut (σ := Bool) (fun v => ⟨[(1, .inl (is (U64 a1))), (2, .inr (.inl (2, 0))), (9, .inl (is (Bl v)))], [(2, pb 23 [is (U8 a0_0), is (U8 a0_1)])]⟩) (fun v => some r = F186_1 N a0_0 a0_1 a1 v) ?_ ?_
  · skip
    refine AW_region ?_
    refine AL_cons (LR_loads (at_tmp 2 _) ag23 sz23 rfl rfl rfl) (sS (sT1 rfl) (sB1 rfl) sF0) ?_
    obtain ⟨y20, hy20, hr⟩ := lt_some hr
    refine AL_cons (LR_call Hfaa.func40 rfl rfl (C40 a0_0 a0_1 y20 hy20) (all_cons (at_tmp 7 _) all_nil) rfl) (sS (sA (sT1 rfl) sT0) sB0 sF0) ?_
    refine AL_cons (LR_un (at_tmp 8 _) (not_Bl y20) rfl) (sS (sT1 rfl) sB0 sF0) ?_
    refine AL_nil ?_
    exact thenN (cutLeaf (v := !y20) hr (weak0 ((sT rfl (sT rfl (sT rfl sT0)))) (sub_keep sub_nil)))
  · rintro x1 hr
    show AW Hfaa.prog _ _ _ ⟨[(1, .inl (is (U64 a1))), (2, .inr (.inl (2, 0))), (9, .inl (is (Bl x1)))], [(2, pb 23 [is (U8 a0_0), is (U8 a0_1)])]⟩
    have hr : some r = F186_1 N a0_0 a0_1 a1 x1 := hr
    refine AW_condT (b := x1) rfl (fun h => ?_) (fun h => ?_)
    · have hr := hr.trans (cond_t h)
      clear h
      refine AW_seq1 ?_
      refine AW_region ?_
      refine AL_cons (LR_assign (at_c (v' := U64 (0#64)) rfl) rfl) (sS sT0 sB0 sF0) ?_
      refine AL_cons (LR_assign (at_c (v' := U8 (0#8)) rfl) rfl) (sS sT0 sB0 sF0) ?_
      refine AL_nil ?_
      refine thenN ?_
      refine AW_ret ?_
      refine thenR ?_
      obtain rfl := Option.some.inj hr
      exact res2 rfl (rvT rfl) (rvT rfl)
    · have hr := hr.trans (cond_f h)
      clear h
      refine AW_skip ?_
      refine thenN ?_
      refine AW_cut (σ := BitVec 64 × Bool × Int × Bool × Nat × Nat) (fun v => ⟨[(1, .inl (is (U64 a1))), (2, .inr (.inl (2, 0))), (6, .inr (.inl (6, 0)))], [(2, pb 23 [is (U8 a0_0), is (U8 a0_1)]), (6, pb 175 [is (U64 v.1), is (Bl v.2.1), is (I8 v.2.2.1), is (Bl v.2.2.2.1), big v.2.2.2.2.1, big v.2.2.2.2.2])]⟩) (fun v => some r = F186_2 N a0_0 a0_1 a1 v.1 v.2.1 v.2.2.1 v.2.2.2.1 v.2.2.2.2.1 v.2.2.2.2.2) ?_ ?_
      · skip
        obtain ⟨y18, hy18, hr⟩ := lt_some hr
        obtain ⟨y19, hy19, hr⟩ := bind_some hr
        refine AW_draw mixed
          (lrC (LR_loads (at_tmp 2 _) ag23 sz23 rfl rfl rfl)
          (lrC (LR_move (at_tmp 1 _) rfl)
          (lrC (LR_loads (at_tmp 2 _) ag23 sz23 rfl rfl rfl)
          (lrC (LR_call Hfaa.func70 rfl rfl (C70 a0_0 a0_1 y18 hy18) (all_cons (at_tmp 12 _) all_nil) rfl)
          (lrC (LR_bin (at_tmp 11 _) (at_tmp 13 _) (xor_U64 a1 y18) rfl)
          (lrC (LR_call Hfaa.func144 rfl rfl (C144 N a0_0 a0_1 (a1 ^^^ y18) y19 hy19) (all_cons (at_tmp 10 _) (all_cons (at_tmp 14 _) all_nil)) rfl)
          (lrC (zl175 rfl)
          (lrC (LR_store (at_tmp 6 _) (at_tmp 15 _) (cells_agg _) (onC (one_is rfl) (onC (one_is rfl) (onC (one_is rfl) (onC (one_is rfl) (onC (one_big _) (onC (one_big _) onN)))))) sz175 rfl rfl)
          lrN))))))))
          (by kernel_rfl)
          (saC (sS (sT1 rfl) (sB1 rfl) sF0) (saC (sS (sT1 rfl) sB0 sF0) (saC (sS (sT1 rfl) (sB1 rfl) sF0) (saC (sS (sA (sT1 rfl) sT0) sB0 sF0) (saC (sS (sA (sT1 rfl) (sT1 rfl)) sB0 sF0) (saC (sS (sA (sT1 rfl) (sA (sT1 rfl) sT0)) sB0 sF0) (saC (sS sT0 sB0 (sF1 rfl)) (saC (sS (sA (sT1 rfl) (sT1 rfl)) (sB1 rfl) sF0) saN)))))))) ?_
        exact thenN (cutLeaf (v := (y19.1, y19.2.1, y19.2.2.1, y19.2.2.2.1, y19.2.2.2.2.1, y19.2.2.2.2.2)) hr (weak0 ((sT rfl (sT rfl (sT rfl sT0)))) (sub_keep (sub_keep sub_nil))))
      · rintro ⟨x2, x3, x4, x5, x6, x7⟩ hr
        show AW Hfaa.prog _ _ _ ⟨[(1, .inl (is (U64 a1))), (2, .inr (.inl (2, 0))), (6, .inr (.inl (6, 0)))], [(2, pb 23 [is (U8 a0_0), is (U8 a0_1)]), (6, pb 175 [is (U64 x2), is (Bl x3), is (I8 x4), is (Bl x5), big x6, big x7])]⟩
        have hr : some r = F186_2 N a0_0 a0_1 a1 x2 x3 x4 x5 x6 x7 := hr
        refine AW_seq1 ?_
        refine AW_cut (σ := Bool) (fun v => ⟨[(1, .inl (is (U64 a1))), (2, .inr (.inl (2, 0))), (6, .inr (.inl (6, 0))), (18, .inl (is (Bl v)))], [(2, pb 23 [is (U8 a0_0), is (U8 a0_1)]), (6, pb 175 [is (U64 x2), is (Bl x3), is (I8 x4), is (Bl x5), big x6, big x7])]⟩) (fun v => some r = F186_3 N a0_0 a0_1 a1 x2 x3 x4 x5 x6 x7 v) ?_ ?_
        · skip
          refine AW_region ?_
          refine AL_cons (LR_fieldAddr (off := 0) (o := 2) (at_tmp 6 _) (fun b w => fa175_2 b 0 w) rfl) (sS (sT1 rfl) sB0 sF0) ?_
          refine AL_cons (LR_load (at_tmp 16 _) na110 rfl rfl) (sS (sT1 rfl) (sB1 rfl) sF0) ?_
          refine AL_cons (LR_bin (at_tmp 17 _) (at_c (v' := I8 4) rfl) (eql_I8 x4 4) rfl) (sS (sA (sT1 rfl) sT0) sB0 sF0) ?_
          refine AL_nil ?_
          exact thenN (cutLeaf (v := x4 == 4) hr (weak0 ((sT rfl (sT rfl (sT rfl (sT rfl sT0))))) (sub_keep (sub_keep sub_nil))))
        · rintro x8 hr
          show AW Hfaa.prog _ _ _ ⟨[(1, .inl (is (U64 a1))), (2, .inr (.inl (2, 0))), (6, .inr (.inl (6, 0))), (18, .inl (is (Bl x8)))], [(2, pb 23 [is (U8 a0_0), is (U8 a0_1)]), (6, pb 175 [is (U64 x2), is (Bl x3), is (I8 x4), is (Bl x5), big x6, big x7])]⟩
          have hr : some r = F186_3 N a0_0 a0_1 a1 x2 x3 x4 x5 x6 x7 x8 := hr
          refine AW_condT (b := x8) rfl (fun h => ?_) (fun h => ?_)
          · have hr := hr.trans (cond_t h)
            clear h
            refine AW_seq1 ?_
            obtain ⟨y12, hy12, hr⟩ := lt_some hr
            obtain ⟨y13, hy13, hr⟩ := lt_some hr
            refine AW_draw mixed
              (lrC (LR_loads (at_tmp 2 _) ag23 sz23 rfl rfl rfl)
              (lrC (LR_call Hfaa.func66 rfl rfl (C66 a0_0 a0_1 y12 hy12) (all_cons (at_tmp 19 _) all_nil) rfl)
              (lrC (LR_loads (at_tmp 2 _) ag23 sz23 rfl rfl rfl)
              (lrC (LR_move (at_tmp 1 _) rfl)
              (lrC (LR_move (at_tmp 1 _) rfl)
              (lrC (LR_call Hfaa.func216 rfl rfl (C216 a0_0 a0_1 a1 a1 y13 hy13) (all_cons (at_tmp 21 _) (all_cons (at_tmp 22 _) (all_cons (at_tmp 23 _) all_nil))) rfl)
              (lrC (LR_assign (at_tmp 20 _) rfl)
              (lrC (LR_assign (at_tmp 24 _) rfl)
              lrN))))))))
              (by kernel_rfl)
              (saC (sS (sT1 rfl) (sB1 rfl) sF0) (saC (sS (sA (sT1 rfl) sT0) sB0 sF0) (saC (sS (sT1 rfl) (sB1 rfl) sF0) (saC (sS (sT1 rfl) sB0 sF0) (saC (sS (sT1 rfl) sB0 sF0) (saC (sS (sA (sT1 rfl) (sA (sT1 rfl) (sA (sT1 rfl) sT0))) sB0 sF0) (saC (sS (sT1 rfl) sB0 sF0) (saC (sS (sT1 rfl) sB0 sF0) saN)))))))) ?_
            refine thenN ?_
            refine AW_ret ?_
            refine thenR ?_
            obtain rfl := Option.some.inj hr
            exact res2 rfl (rvT rfl) (rvT rfl)
          · have hr := hr.trans (cond_f h)
            clear h
            refine AW_skip ?_
            refine thenN ?_
            refine AW_seq1 ?_
            obtain ⟨y16, hy16, hr⟩ := bind_some hr
            obtain ⟨y17, hy17, hr⟩ := lt_some hr
            refine AW_draw mixed
              (lrC (LR_loads (at_tmp 2 _) ag23 sz23 rfl rfl rfl)
              (lrC (LR_loads (at_tmp 6 _) ag175 sz175 rfl rfl rfl)
              (lrC (LR_call Hfaa.func279 rfl rfl (C279 N a0_0 a0_1 x2 x3 x4 x5 x6 x7 y16 hy16) (all_cons (at_tmp 25 _) (all_cons (at_tmp 26 _) all_nil)) rfl)
              (lrC (LR_loads (at_tmp 2 _) ag23 sz23 rfl rfl rfl)
              (lrC (LR_call Hfaa.func70 rfl rfl (C70 a0_0 a0_1 y17 hy17) (all_cons (at_tmp 28 _) all_nil) rfl)
              (lrC (LR_bin (at_tmp 27 _) (at_tmp 29 _) (xor_U64 y16 y17) rfl)
              (lrC (LR_assign (at_tmp 30 _) rfl)
              (lrC (LR_assign (at_c (v' := U8 (0#8)) rfl) rfl)
              lrN))))))))
              (by kernel_rfl)
              (saC (sS (sT1 rfl) (sB1 rfl) sF0) (saC (sS (sT1 rfl) (sB1 rfl) sF0) (saC (sS (sA (sT1 rfl) (sA (sT1 rfl) sT0)) sB0 sF0) (saC (sS (sT1 rfl) (sB1 rfl) sF0) (saC (sS (sA (sT1 rfl) sT0) sB0 sF0) (saC (sS (sA (sT1 rfl) (sT1 rfl)) sB0 sF0) (saC (sS (sT1 rfl) sB0 sF0) (saC (sS sT0 sB0 sF0) saN)))))))) ?_
            refine thenN ?_
            refine AW_ret ?_
            obtain rfl := Option.some.inj hr
            exact res2 rfl (rvT rfl) (rvT rfl)
/-- exact.NextDown -/
def F300_1 (N : Nat) (x1 : BitVec 64) : Option (BitVec 64) := some x1
def F300 (N : Nat) (a0_0 : BitVec 8) (a0_1 : BitVec 8) (a1 : BitVec 64) : Option (BitVec 64) := (F186 N a0_0 a0_1 a1).bind fun y2 => F300_1 N y2.1
theorem C300 (N : Nat) (a0_0 : BitVec 8) (a0_1 : BitVec 8) (a1 : BitVec 64) (r : BitVec 64) (hr : some r = F300 N a0_0 a0_1 a1) : Aw.Fn Hfaa.prog 300 [agg [is (U8 a0_0), is (U8 a0_1)], is (U64 a1)] (is (U64 r)) := by
  refine fn_intro Hfaa.func300 rfl rfl rfl ?_
  intro bn0 w0 H0
  refine AW_seq1 ?_
  refine AW_region ?_
  refine AL_cons (LR_box (at_tmp 0 _) (cells_agg _) rfl) (sS (sT1 rfl) sB0 (sF1 rfl)) ?_
  refine AL_cons (LR_assign (at_c (v' := U64 (0#64)) rfl) rfl) (sS sT0 sB0 sF0) ?_
  refine AL_nil ?_
  refine thenN ?_
  refine AW_cut (σ := BitVec 64) (fun v => ⟨[(5, .inl (is (U64 v)))], []⟩) (fun v => some r = F300_1 N v) ?_ ?_
  · skip
    refine AW_region ?_
    refine AL_cons (LR_loads (at_tmp 2 _) ag23 sz23 rfl rfl rfl) (sS (sT1 rfl) (sB1 rfl) sF0) ?_
    refine AL_cons (LR_move (at_tmp 1 _) rfl) (sS (sT1 rfl) sB0 sF0) ?_
    obtain ⟨y2, hy2, hr⟩ := bind_some hr
    refine AL_cons (LR_call Hfaa.func186 rfl rfl (C186 N a0_0 a0_1 a1 y2 hy2) (all_cons (at_tmp 8 _) (all_cons (at_tmp 9 _) all_nil)) rfl) (sS (sA (sT1 rfl) (sA (sT1 rfl) sT0)) sB0 sF0) ?_
    refine AL_cons (LR_move (at_tmp 10 _) rfl) (sS (sT1 rfl) sB0 sF0) ?_
    refine AL_cons (LR_extract (at_tmp 7 _) rfl rfl) (sS (sT1 rfl) sB0 sF0) ?_
    refine AL_cons (LR_extract (at_tmp 7 _) rfl rfl) (sS (sT1 rfl) sB0 sF0) ?_
    refine AL_cons (LR_assign (at_tmp 11 _) rfl) (sS (sT1 rfl) sB0 sF0) ?_
    refine AL_cons (LR_assign (at_tmp 12 _) rfl) (sS (sT1 rfl) sB0 sF0) ?_
    refine AL_nil ?_
    exact thenN (cutLeaf (v := y2.1) hr (weak0 ((sT rfl sT0)) (sub_drop sub_nil)))
  · rintro x1 hr
    show AW Hfaa.prog _ _ _ ⟨[(5, .inl (is (U64 x1)))], []⟩
    have hr : some r = F300_1 N x1 := hr
    refine AW_seq1 ?_
    refine AW_region ?_
    refine AL_cons (LR_move (at_tmp 5 _) rfl) (sS (sT1 rfl) sB0 sF0) ?_
    refine AL_cons (LR_assign (at_tmp 13 _) rfl) (sS (sT1 rfl) sB0 sF0) ?_
    refine AL_nil ?_
    refine thenN ?_
    refine AW_ret ?_
    obtain rfl := Option.some.inj hr
    exact res1 rfl (rvT rfl)
/-- calc/ex.flags -/
def F302_1 (N : Nat) (x1 : BitVec 8) : Option (BitVec 8) := some x1
def F302_10 (N : Nat) (a0_0 : BitVec 8) (a0_1 : BitVec 8) (a1 : BitVec 8) (a3 : BitVec 64) (x10 : Bool) : Option (BitVec 8) := bif x10 then (F182 N a0_0 a0_1 a1 a3).bind fun y16 => F302_1 N y16.2 else F302_1 N (0#8)
def F302_9 (N : Nat) (a0_0 : BitVec 8) (a0_1 : BitVec 8) (a1 : BitVec 8) (a3 : BitVec 64) (a4 : BitVec 64) (x2 : BitVec 64) (x9 : Bool) : Option (BitVec 8) := bif x9 then (F181 N a0_0 a0_1 a3 a4).bind fun y15 => F302_1 N y15.2 else F302_10 N a0_0 a0_1 a1 a3 (x2 == (7#64))
def F302_8 (N : Nat) (a0_0 : BitVec 8) (a0_1 : BitVec 8) (a1 : BitVec 8) (a3 : BitVec 64) (a4 : BitVec 64) (a5 : BitVec 64) (x2 : BitVec 64) (x8 : Bool) : Option (BitVec 8) := bif x8 then (F180 N a0_0 a0_1 a1 a3 a4 a5).bind fun y14 => F302_1 N y14.2 else F302_9 N a0_0 a0_1 a1 a3 a4 x2 (x2 == (6#64))
def F302_7 (N : Nat) (a0_0 : BitVec 8) (a0_1 : BitVec 8) (a1 : BitVec 8) (a3 : BitVec 64) (a4 : BitVec 64) (a5 : BitVec 64) (x2 : BitVec 64) (x7 : Bool) : Option (BitVec 8) := bif x7 then (F132 N a0_0 a0_1 a1 a3).bind fun y13 => F302_1 N y13.2 else F302_8 N a0_0 a0_1 a1 a3 a4 a5 x2 (x2 == (5#64))
def F302_6 (N : Nat) (a0_0 : BitVec 8) (a0_1 : BitVec 8) (a1 : BitVec 8) (a3 : BitVec 64) (a4 : BitVec 64) (a5 : BitVec 64) (x2 : BitVec 64) (x6 : Bool) : Option (BitVec 8) := bif x6 then (F195 N a0_0 a0_1 a1 a3 a4).bind fun y12 => F302_1 N y12.2 else F302_7 N a0_0 a0_1 a1 a3 a4 a5 x2 (x2 == (4#64))
def F302_5 (N : Nat) (a0_0 : BitVec 8) (a0_1 : BitVec 8) (a1 : BitVec 8) (a3 : BitVec 64) (a4 : BitVec 64) (a5 : BitVec 64) (x2 : BitVec 64) (x5 : Bool) : Option (BitVec 8) := bif x5 then (F194 N a0_0 a0_1 a1 a3 a4).bind fun y11 => F302_1 N y11.2 else F302_6 N a0_0 a0_1 a1 a3 a4 a5 x2 (x2 == (3#64))
def F302_4 (N : Nat) (a0_0 : BitVec 8) (a0_1 : BitVec 8) (a1 : BitVec 8) (a3 : BitVec 64) (a4 : BitVec 64) (a5 : BitVec 64) (x2 : BitVec 64) (x4 : Bool) : Option (BitVec 8) := bif x4 then (F193 N a0_0 a0_1 a1 a3 a4).bind fun y10 => F302_1 N y10.2 else F302_5 N a0_0 a0_1 a1 a3 a4 a5 x2 (x2 == (2#64))
def F302_3 (N : Nat) (a0_0 : BitVec 8) (a0_1 : BitVec 8) (a1 : BitVec 8) (a3 : BitVec 64) (a4 : BitVec 64) (a5 : BitVec 64) (x2 : BitVec 64) (x3 : Bool) : Option (BitVec 8) := bif x3 then (F192 N a0_0 a0_1 a1 a3 a4).bind fun y9 => F302_1 N y9.2 else F302_4 N a0_0 a0_1 a1 a3 a4 a5 x2 (x2 == (1#64))
def F302_2 (N : Nat) (a0_0 : BitVec 8) (a0_1 : BitVec 8) (a1 : BitVec 8) (a3 : BitVec 64) (a4 : BitVec 64) (a5 : BitVec 64) (x2 : BitVec 64) : Option (BitVec 8) := F302_3 N a0_0 a0_1 a1 a3 a4 a5 x2 (x2 == (0#64))
def F302 (N : Nat) (a0_0 : BitVec 8) (a0_1 : BitVec 8) (a1 : BitVec 8) (a2 : BitVec 64) (a3 : BitVec 64) (a4 : BitVec 64) (a5 : BitVec 64) : Option (BitVec 8) := F302_2 N a0_0 a0_1 a1 a3 a4 a5 (a2 &&& (7#64))
theorem C302 (N : Nat) (a0_0 : BitVec 8) (a0_1 : BitVec 8) (a1 : BitVec 8) (a2 : BitVec 64) (a3 : BitVec 64) (a4 : BitVec 64) (a5 : BitVec 64) (r : BitVec 8) (hr : some r = F302 N a0_0 a0_1 a1 a2 a3 a4 a5) : Aw.Fn Hfaa.prog 302 [agg [is (U8 a0_0), is (U8 a0_1)], is (U8 a1), is (U64 a2), is (U64 a3), is (U64 a4), is (U64 a5)] (is (U8 r)) := by
  refine fn_intro Hfaa.func302 rfl rfl rfl ?_
  intro bn0 w0 H0
  refine AW_seq1 ?_
  refine AW_region ?_
  refine AL_cons (LR_box (at_tmp 0 _) (cells_agg _) rfl) (sS (sT1 rfl) sB0 (sF1 rfl)) ?_
  refine AL_cons (LR_assign (at_c (v' := U8 (0#8)) rfl) rfl) (sS sT0 sB0 sF0) ?_
  refine AL_nil ?_
  refine thenN ?_
  refine AW_seq1 ?_
  refine AW_region ?_
  refine AL_cons (LR_assign (at_c (v' := U8 (0#8)) rfl) rfl) (sS sT0 sB0 sF0) ?_
  refine AL_nil ?_
  refine thenN ?_
  refine AW_cut (σ := BitVec 8) (fun v => ⟨[(13, .inl (is (U8 v)))], []⟩) (fun v => some r = F302_1 N v) ?_ ?_
  · skip
    refine AW_cut (σ := BitVec 64) (fun v => ⟨[(1, .inl (is (U8 a1))), (3, .inl (is (U64 a3))), (4, .inl (is (U64 a4))), (5, .inl (is (U64 a5))), (6, .inr (.inl (6, 0))), (13, .inl (is (U8 (0#8)))), (15, .inl (is (U64 v)))], [(6, pb 23 [is (U8 a0_0), is (U8 a0_1)])]⟩) (fun v => some r = F302_2 N a0_0 a0_1 a1 a3 a4 a5 v) ?_ ?_
    · skip
      refine AW_region ?_
      refine AL_cons (LR_move (at_tmp 2 _) rfl) (sS (sT1 rfl) sB0 sF0) ?_
      refine AL_cons (LR_bin (at_tmp 14 _) (at_c (v' := U64 (7#64)) rfl) (and_U64 a2 (7#64)) rfl) (sS (sA (sT1 rfl) sT0) sB0 sF0) ?_
      refine AL_nil ?_
      exact thenN (cutLeaf (v := a2 &&& (7#64)) hr (weak0 ((sT rfl (sT rfl (sT rfl (sT rfl (sT rfl (sT rfl (sT rfl sT0)))))))) (sub_keep sub_nil)))
    · rintro x2 hr
      show AW Hfaa.prog _ _ _ ⟨[(1, .inl (is (U8 a1))), (3, .inl (is (U64 a3))), (4, .inl (is (U64 a4))), (5, .inl (is (U64 a5))), (6, .inr (.inl (6, 0))), (13, .inl (is (U8 (0#8)))), (15, .inl (is (U64 x2)))], [(6, pb 23 [is (U8 a0_0), is (U8 a0_1)])]⟩
      have hr : some r = F302_2 N a0_0 a0_1 a1 a3 a4 a5 x2 := hr
      refine AW_block ?_
      refine AW_cut (σ := Bool) (fun v => ⟨[(1, .inl (is (U8 a1))), (3, .inl (is (U64 a3))), (4, .inl (is (U64 a4))), (5, .inl (is (U64 a5))), (6, .inr (.inl (6, 0))), (13, .inl (is (U8 (0#8)))), (15, .inl (is (U64 x2))), (16, .inl (is (Bl v)))], [(6, pb 23 [is (U8 a0_0), is (U8 a0_1)])]⟩) (fun v => some r = F302_3 N a0_0 a0_1 a1 a3 a4 a5 x2 v) ?_ ?_
      · skip
        refine AW_region ?_
        refine AL_cons (LR_bin (at_tmp 15 _) (at_c (v' := U64 (0#64)) rfl) (eql_U64 x2 (0#64)) rfl) (sS (sA (sT1 rfl) sT0) sB0 sF0) ?_
        refine AL_cons (LR_assign (at_tmp 17 _) rfl) (sS (sT1 rfl) sB0 sF0) ?_
        refine AL_nil ?_
        exact thenN (cutLeaf (v := x2 == (0#64)) hr (weak0 ((sT rfl (sT rfl (sT rfl (sT rfl (sT rfl (sT rfl (sT rfl (sT rfl sT0))))))))) (sub_keep sub_nil)))
      · rintro x3 hr
        show AW Hfaa.prog _ _ _ ⟨[(1, .inl (is (U8 a1))), (3, .inl (is (U64 a3))), (4, .inl (is (U64 a4))), (5, .inl (is (U64 a5))), (6, .inr (.inl (6, 0))), (13, .inl (is (U8 (0#8)))), (15, .inl (is (U64 x2))), (16, .inl (is (Bl x3)))], [(6, pb 23 [is (U8 a0_0), is (U8 a0_1)])]⟩
        have hr : some r = F302_3 N a0_0 a0_1 a1 a3 a4 a5 x2 x3 := hr
        refine AW_condT (b := x3) rfl (fun h => ?_) (fun h => ?_)
        · have hr := hr.trans (cond_t h)
          clear h
          refine AW_region ?_
          refine AL_cons (LR_loads (at_tmp 6 _) ag23 sz23 rfl rfl rfl) (sS (sT1 rfl) (sB1 rfl) sF0) ?_
          refine AL_cons (LR_move (at_tmp 1 _) rfl) (sS (sT1 rfl) sB0 sF0) ?_
          refine AL_cons (LR_move (at_tmp 3 _) rfl) (sS (sT1 rfl) sB0 sF0) ?_
          refine AL_cons (LR_move (at_tmp 4 _) rfl) (sS (sT1 rfl) sB0 sF0) ?_
          obtain ⟨y9, hy9, hr⟩ := bind_some hr
          refine AL_cons (LR_call Hfaa.func192 rfl rfl (C192 N a0_0 a0_1 a1 a3 a4 y9 hy9) (all_cons (at_tmp 19 _) (all_cons (at_tmp 20 _) (all_cons (at_tmp 21 _) (all_cons (at_tmp 22 _) all_nil)))) rfl) (sS (sA (sT1 rfl) (sA (sT1 rfl) (sA (sT1 rfl) (sA (sT1 rfl) sT0)))) sB0 sF0) ?_
          refine AL_cons (LR_move (at_tmp 23 _) rfl) (sS (sT1 rfl) sB0 sF0) ?_
          refine AL_cons (LR_extract (at_tmp 18 _) rfl rfl) (sS (sT1 rfl) sB0 sF0) ?_
          refine AL_cons (LR_extract (at_tmp 18 _) rfl rfl) (sS (sT1 rfl) sB0 sF0) ?_
          refine AL_cons (LR_assign (at_tmp 25 _) rfl) (sS (sT1 rfl) sB0 sF0) ?_
          refine AL_nil ?_
          refine blN ?_
          exact thenN (cutLeaf (v := y9.2) hr (weak0 ((sT rfl sT0)) (sub_drop sub_nil)))
        · have hr := hr.trans (cond_f h)
          clear h
          refine AW_cut (σ := Bool) (fun v => ⟨[(1, .inl (is (U8 a1))), (3, .inl (is (U64 a3))), (4, .inl (is (U64 a4))), (5, .inl (is (U64 a5))), (6, .inr (.inl (6, 0))), (13, .inl (is (U8 (0#8)))), (15, .inl (is (U64 x2))), (26, .inl (is (Bl v)))], [(6, pb 23 [is (U8 a0_0), is (U8 a0_1)])]⟩) (fun v => some r = F302_4 N a0_0 a0_1 a1 a3 a4 a5 x2 v) ?_ ?_
          · skip
            refine AW_region ?_
            refine AL_cons (LR_bin (at_tmp 15 _) (at_c (v' := U64 (1#64)) rfl) (eql_U64 x2 (1#64)) rfl) (sS (sA (sT1 rfl) sT0) sB0 sF0) ?_
            refine AL_cons (LR_assign (at_tmp 27 _) rfl) (sS (sT1 rfl) sB0 sF0) ?_
            refine AL_nil ?_
            exact thenN (cutLeaf (v := x2 == (1#64)) hr (weak0 ((sT rfl (sT rfl (sT rfl (sT rfl (sT rfl (sT rfl (sT rfl (sT rfl sT0))))))))) (sub_keep sub_nil)))
          · rintro x4 hr
            show AW Hfaa.prog _ _ _ ⟨[(1, .inl (is (U8 a1))), (3, .inl (is (U64 a3))), (4, .inl (is (U64 a4))), (5, .inl (is (U64 a5))), (6, .inr (.inl (6, 0))), (13, .inl (is (U8 (0#8)))), (15, .inl (is (U64 x2))), (26, .inl (is (Bl x4)))], [(6, pb 23 [is (U8 a0_0), is (U8 a0_1)])]⟩
            have hr : some r = F302_4 N a0_0 a0_1 a1 a3 a4 a5 x2 x4 := hr
            refine AW_condT (b := x4) rfl (fun h => ?_) (fun h => ?_)
            · have hr := hr.trans (cond_t h)
              clear h
              refine AW_region ?_
              refine AL_cons (LR_loads (at_tmp 6 _) ag23 sz23 rfl rfl rfl) (sS (sT1 rfl) (sB1 rfl) sF0) ?_
              refine AL_cons (LR_move (at_tmp 1 _) rfl) (sS (sT1 rfl) sB0 sF0) ?_
              refine AL_cons (LR_move (at_tmp 3 _) rfl) (sS (sT1 rfl) sB0 sF0) ?_
              refine AL_cons (LR_move (at_tmp 4 _) rfl) (sS (sT1 rfl) sB0 sF0) ?_
              obtain ⟨y10, hy10, hr⟩ := bind_some hr
              refine AL_cons (LR_call Hfaa.func193 rfl rfl (C193 N a0_0 a0_1 a1 a3 a4 y10 hy10) (all_cons (at_tmp 29 _) (all_cons (at_tmp 30 _) (all_cons (at_tmp 31 _) (all_cons (at_tmp 32 _) all_nil)))) rfl) (sS (sA (sT1 rfl) (sA (sT1 rfl) (sA (sT1 rfl) (sA (sT1 rfl) sT0)))) sB0 sF0) ?_
              refine AL_cons (LR_move (at_tmp 33 _) rfl) (sS (sT1 rfl) sB0 sF0) ?_
              refine AL_cons (LR_extract (at_tmp 28 _) rfl rfl) (sS (sT1 rfl) sB0 sF0) ?_
              refine AL_cons (LR_extract (at_tmp 28 _) rfl rfl) (sS (sT1 rfl) sB0 sF0) ?_
              refine AL_cons (LR_assign (at_tmp 35 _) rfl) (sS (sT1 rfl) sB0 sF0) ?_
              refine AL_nil ?_
              refine blN ?_
              exact thenN (cutLeaf (v := y10.2) hr (weak0 ((sT rfl sT0)) (sub_drop sub_nil)))
            · have hr := hr.trans (cond_f h)
              clear h
              refine AW_cut (σ := Bool) (fun v => ⟨[(1, .inl (is (U8 a1))), (3, .inl (is (U64 a3))), (4, .inl (is (U64 a4))), (5, .inl (is (U64 a5))), (6, .inr (.inl (6, 0))), (13, .inl (is (U8 (0#8)))), (15, .inl (is (U64 x2))), (36, .inl (is (Bl v)))], [(6, pb 23 [is (U8 a0_0), is (U8 a0_1)])]⟩) (fun v => some r = F302_5 N a0_0 a0_1 a1 a3 a4 a5 x2 v) ?_ ?_
              · skip
                refine AW_region ?_
                refine AL_cons (LR_bin (at_tmp 15 _) (at_c (v' := U64 (2#64)) rfl) (eql_U64 x2 (2#64)) rfl) (sS (sA (sT1 rfl) sT0) sB0 sF0) ?_
                refine AL_cons (LR_assign (at_tmp 37 _) rfl) (sS (sT1 rfl) sB0 sF0) ?_
                refine AL_nil ?_
                exact thenN (cutLeaf (v := x2 == (2#64)) hr (weak0 ((sT rfl (sT rfl (sT rfl (sT rfl (sT rfl (sT rfl (sT rfl (sT rfl sT0))))))))) (sub_keep sub_nil)))
              · rintro x5 hr
                show AW Hfaa.prog _ _ _ ⟨[(1, .inl (is (U8 a1))), (3, .inl (is (U64 a3))), (4, .inl (is (U64 a4))), (5, .inl (is (U64 a5))), (6, .inr (.inl (6, 0))), (13, .inl (is (U8 (0#8)))), (15, .inl (is (U64 x2))), (36, .inl (is (Bl x5)))], [(6, pb 23 [is (U8 a0_0), is (U8 a0_1)])]⟩
                have hr : some r = F302_5 N a0_0 a0_1 a1 a3 a4 a5 x2 x5 := hr
                refine AW_condT (b := x5) rfl (fun h => ?_) (fun h => ?_)
                · have hr := hr.trans (cond_t h)
                  clear h
                  refine AW_region ?_
                  refine AL_cons (LR_loads (at_tmp 6 _) ag23 sz23 rfl rfl rfl) (sS (sT1 rfl) (sB1 rfl) sF0) ?_
                  refine AL_cons (LR_move (at_tmp 1 _) rfl) (sS (sT1 rfl) sB0 sF0) ?_
                  refine AL_cons (LR_move (at_tmp 3 _) rfl) (sS (sT1 rfl) sB0 sF0) ?_
                  refine AL_cons (LR_move (at_tmp 4 _) rfl) (sS (sT1 rfl) sB0 sF0) ?_
                  obtain ⟨y11, hy11, hr⟩ := bind_some hr
                  refine AL_cons (LR_call Hfaa.func194 rfl rfl (C194 N a0_0 a0_1 a1 a3 a4 y11 hy11) (all_cons (at_tmp 39 _) (all_cons (at_tmp 40 _) (all_cons (at_tmp 41 _) (all_cons (at_tmp 42 _) all_nil)))) rfl) (sS (sA (sT1 rfl) (sA (sT1 rfl) (sA (sT1 rfl) (sA (sT1 rfl) sT0)))) sB0 sF0) ?_
                  refine AL_cons (LR_move (at_tmp 43 _) rfl) (sS (sT1 rfl) sB0 sF0) ?_
                  refine AL_cons (LR_extract (at_tmp 38 _) rfl rfl) (sS (sT1 rfl) sB0 sF0) ?_
                  refine AL_cons (LR_extract (at_tmp 38 _) rfl rfl) (sS (sT1 rfl) sB0 sF0) ?_
                  refine AL_cons (LR_assign (at_tmp 45 _) rfl) (sS (sT1 rfl) sB0 sF0) ?_
                  refine AL_nil ?_
                  refine blN ?_
                  exact thenN (cutLeaf (v := y11.2) hr (weak0 ((sT rfl sT0)) (sub_drop sub_nil)))
                · have hr := hr.trans (cond_f h)
                  clear h
                  refine AW_cut (σ := Bool) (fun v => ⟨[(1, .inl (is (U8 a1))), (3, .inl (is (U64 a3))), (4, .inl (is (U64 a4))), (5, .inl (is (U64 a5))), (6, .inr (.inl (6, 0))), (13, .inl (is (U8 (0#8)))), (15, .inl (is (U64 x2))), (46, .inl (is (Bl v)))], [(6, pb 23 [is (U8 a0_0), is (U8 a0_1)])]⟩) (fun v => some r = F302_6 N a0_0 a0_1 a1 a3 a4 a5 x2 v) ?_ ?_
                  · skip
                    refine AW_region ?_
                    refine AL_cons (LR_bin (at_tmp 15 _) (at_c (v' := U64 (3#64)) rfl) (eql_U64 x2 (3#64)) rfl) (sS (sA (sT1 rfl) sT0) sB0 sF0) ?_
                    refine AL_cons (LR_assign (at_tmp 47 _) rfl) (sS (sT1 rfl) sB0 sF0) ?_
                    refine AL_nil ?_
                    exact thenN (cutLeaf (v := x2 == (3#64)) hr (weak0 ((sT rfl (sT rfl (sT rfl (sT rfl (sT rfl (sT rfl (sT rfl (sT rfl sT0))))))))) (sub_keep sub_nil)))
                  · rintro x6 hr
                    show AW Hfaa.prog _ _ _ ⟨[(1, .inl (is (U8 a1))), (3, .inl (is (U64 a3))), (4, .inl (is (U64 a4))), (5, .inl (is (U64 a5))), (6, .inr (.inl (6, 0))), (13, .inl (is (U8 (0#8)))), (15, .inl (is (U64 x2))), (46, .inl (is (Bl x6)))], [(6, pb 23 [is (U8 a0_0), is (U8 a0_1)])]⟩
                    have hr : some r = F302_6 N a0_0 a0_1 a1 a3 a4 a5 x2 x6 := hr
                    refine AW_condT (b := x6) rfl (fun h => ?_) (fun h => ?_)
                    · have hr := hr.trans (cond_t h)
                      clear h
                      refine AW_region ?_
                      refine AL_cons (LR_loads (at_tmp 6 _) ag23 sz23 rfl rfl rfl) (sS (sT1 rfl) (sB1 rfl) sF0) ?_
                      refine AL_cons (LR_move (at_tmp 1 _) rfl) (sS (sT1 rfl) sB0 sF0) ?_
                      refine AL_cons (LR_move (at_tmp 3 _) rfl) (sS (sT1 rfl) sB0 sF0) ?_
                      refine AL_cons (LR_move (at_tmp 4 _) rfl) (sS (sT1 rfl) sB0 sF0) ?_
                      obtain ⟨y12, hy12, hr⟩ := bind_some hr
                      refine AL_cons (LR_call Hfaa.func195 rfl rfl (C195 N a0_0 a0_1 a1 a3 a4 y12 hy12) (all_cons (at_tmp 49 _) (all_cons (at_tmp 50 _) (all_cons (at_tmp 51 _) (all_cons (at_tmp 52 _) all_nil)))) rfl) (sS (sA (sT1 rfl) (sA (sT1 rfl) (sA (sT1 rfl) (sA (sT1 rfl) sT0)))) sB0 sF0) ?_
                      refine AL_cons (LR_move (at_tmp 53 _) rfl) (sS (sT1 rfl) sB0 sF0) ?_
                      refine AL_cons (LR_extract (at_tmp 48 _) rfl rfl) (sS (sT1 rfl) sB0 sF0) ?_
                      refine AL_cons (LR_extract (at_tmp 48 _) rfl rfl) (sS (sT1 rfl) sB0 sF0) ?_
                      refine AL_cons (LR_assign (at_tmp 55 _) rfl) (sS (sT1 rfl) sB0 sF0) ?_
                      refine AL_nil ?_
                      refine blN ?_
                      exact thenN (cutLeaf (v := y12.2) hr (weak0 ((sT rfl sT0)) (sub_drop sub_nil)))
                    · have hr := hr.trans (cond_f h)
                      clear h
                      refine AW_cut (σ := Bool) (fun v => ⟨[(1, .inl (is (U8 a1))), (3, .inl (is (U64 a3))), (4, .inl (is (U64 a4))), (5, .inl (is (U64 a5))), (6, .inr (.inl (6, 0))), (13, .inl (is (U8 (0#8)))), (15, .inl (is (U64 x2))), (56, .inl (is (Bl v)))], [(6, pb 23 [is (U8 a0_0), is (U8 a0_1)])]⟩) (fun v => some r = F302_7 N a0_0 a0_1 a1 a3 a4 a5 x2 v) ?_ ?_
                      · skip
                        refine AW_region ?_
                        refine AL_cons (LR_bin (at_tmp 15 _) (at_c (v' := U64 (4#64)) rfl) (eql_U64 x2 (4#64)) rfl) (sS (sA (sT1 rfl) sT0) sB0 sF0) ?_
                        refine AL_cons (LR_assign (at_tmp 57 _) rfl) (sS (sT1 rfl) sB0 sF0) ?_
                        refine AL_nil ?_
                        exact thenN (cutLeaf (v := x2 == (4#64)) hr (weak0 ((sT rfl (sT rfl (sT rfl (sT rfl (sT rfl (sT rfl (sT rfl (sT rfl sT0))))))))) (sub_keep sub_nil)))
                      · rintro x7 hr
                        show AW Hfaa.prog _ _ _ ⟨[(1, .inl (is (U8 a1))), (3, .inl (is (U64 a3))), (4, .inl (is (U64 a4))), (5, .inl (is (U64 a5))), (6, .inr (.inl (6, 0))), (13, .inl (is (U8 (0#8)))), (15, .inl (is (U64 x2))), (56, .inl (is (Bl x7)))], [(6, pb 23 [is (U8 a0_0), is (U8 a0_1)])]⟩
                        have hr : some r = F302_7 N a0_0 a0_1 a1 a3 a4 a5 x2 x7 := hr
                        refine AW_condT (b := x7) rfl (fun h => ?_) (fun h => ?_)
                        · have hr := hr.trans (cond_t h)
                          clear h
                          refine AW_region ?_
                          refine AL_cons (LR_loads (at_tmp 6 _) ag23 sz23 rfl rfl rfl) (sS (sT1 rfl) (sB1 rfl) sF0) ?_
                          refine AL_cons (LR_move (at_tmp 1 _) rfl) (sS (sT1 rfl) sB0 sF0) ?_
                          refine AL_cons (LR_move (at_tmp 3 _) rfl) (sS (sT1 rfl) sB0 sF0) ?_
                          obtain ⟨y13, hy13, hr⟩ := bind_some hr
                          refine AL_cons (LR_call Hfaa.func132 rfl rfl (C132 N a0_0 a0_1 a1 a3 y13 hy13) (all_cons (at_tmp 59 _) (all_cons (at_tmp 60 _) (all_cons (at_tmp 61 _) all_nil))) rfl) (sS (sA (sT1 rfl) (sA (sT1 rfl) (sA (sT1 rfl) sT0))) sB0 sF0) ?_
                          refine AL_cons (LR_move (at_tmp 62 _) rfl) (sS (sT1 rfl) sB0 sF0) ?_
                          refine AL_cons (LR_extract (at_tmp 58 _) rfl rfl) (sS (sT1 rfl) sB0 sF0) ?_
                          refine AL_cons (LR_extract (at_tmp 58 _) rfl rfl) (sS (sT1 rfl) sB0 sF0) ?_
                          refine AL_cons (LR_assign (at_tmp 64 _) rfl) (sS (sT1 rfl) sB0 sF0) ?_
                          refine AL_nil ?_
                          refine blN ?_
                          exact thenN (cutLeaf (v := y13.2) hr (weak0 ((sT rfl sT0)) (sub_drop sub_nil)))
                        · have hr := hr.trans (cond_f h)
                          clear h
                          refine AW_cut (σ := Bool) (fun v => ⟨[(1, .inl (is (U8 a1))), (3, .inl (is (U64 a3))), (4, .inl (is (U64 a4))), (5, .inl (is (U64 a5))), (6, .inr (.inl (6, 0))), (13, .inl (is (U8 (0#8)))), (15, .inl (is (U64 x2))), (65, .inl (is (Bl v)))], [(6, pb 23 [is (U8 a0_0), is (U8 a0_1)])]⟩) (fun v => some r = F302_8 N a0_0 a0_1 a1 a3 a4 a5 x2 v) ?_ ?_
                          · skip
                            refine AW_region ?_
                            refine AL_cons (LR_bin (at_tmp 15 _) (at_c (v' := U64 (5#64)) rfl) (eql_U64 x2 (5#64)) rfl) (sS (sA (sT1 rfl) sT0) sB0 sF0) ?_
                            refine AL_cons (LR_assign (at_tmp 66 _) rfl) (sS (sT1 rfl) sB0 sF0) ?_
                            refine AL_nil ?_
                            exact thenN (cutLeaf (v := x2 == (5#64)) hr (weak0 ((sT rfl (sT rfl (sT rfl (sT rfl (sT rfl (sT rfl (sT rfl (sT rfl sT0))))))))) (sub_keep sub_nil)))
                          · rintro x8 hr
                            show AW Hfaa.prog _ _ _ ⟨[(1, .inl (is (U8 a1))), (3, .inl (is (U64 a3))), (4, .inl (is (U64 a4))), (5, .inl (is (U64 a5))), (6, .inr (.inl (6, 0))), (13, .inl (is (U8 (0#8)))), (15, .inl (is (U64 x2))), (65, .inl (is (Bl x8)))], [(6, pb 23 [is (U8 a0_0), is (U8 a0_1)])]⟩
                            have hr : some r = F302_8 N a0_0 a0_1 a1 a3 a4 a5 x2 x8 := hr
                            refine AW_condT (b := x8) rfl (fun h => ?_) (fun h => ?_)
                            · have hr := hr.trans (cond_t h)
                              clear h
                              refine AW_region ?_
                              refine AL_cons (LR_loads (at_tmp 6 _) ag23 sz23 rfl rfl rfl) (sS (sT1 rfl) (sB1 rfl) sF0) ?_
                              refine AL_cons (LR_move (at_tmp 1 _) rfl) (sS (sT1 rfl) sB0 sF0) ?_
                              refine AL_cons (LR_move (at_tmp 3 _) rfl) (sS (sT1 rfl) sB0 sF0) ?_
                              refine AL_cons (LR_move (at_tmp 4 _) rfl) (sS (sT1 rfl) sB0 sF0) ?_
                              refine AL_cons (LR_move (at_tmp 5 _) rfl) (sS (sT1 rfl) sB0 sF0) ?_
                              obtain ⟨y14, hy14, hr⟩ := bind_some hr
                              refine AL_cons (LR_call Hfaa.func180 rfl rfl (C180 N a0_0 a0_1 a1 a3 a4 a5 y14 hy14) (all_cons (at_tmp 68 _) (all_cons (at_tmp 69 _) (all_cons (at_tmp 70 _) (all_cons (at_tmp 71 _) (all_cons (at_tmp 72 _) all_nil))))) rfl) (sS (sA (sT1 rfl) (sA (sT1 rfl) (sA (sT1 rfl) (sA (sT1 rfl) (sA (sT1 rfl) sT0))))) sB0 sF0) ?_
                              refine AL_cons (LR_move (at_tmp 73 _) rfl) (sS (sT1 rfl) sB0 sF0) ?_
                              refine AL_cons (LR_extract (at_tmp 67 _) rfl rfl) (sS (sT1 rfl) sB0 sF0) ?_
                              refine AL_cons (LR_extract (at_tmp 67 _) rfl rfl) (sS (sT1 rfl) sB0 sF0) ?_
                              refine AL_cons (LR_assign (at_tmp 75 _) rfl) (sS (sT1 rfl) sB0 sF0) ?_
                              refine AL_nil ?_
                              refine blN ?_
                              exact thenN (cutLeaf (v := y14.2) hr (weak0 ((sT rfl sT0)) (sub_drop sub_nil)))
                            · have hr := hr.trans (cond_f h)
                              clear h
                              refine AW_cut (σ := Bool) (fun v => ⟨[(1, .inl (is (U8 a1))), (3, .inl (is (U64 a3))), (4, .inl (is (U64 a4))), (6, .inr (.inl (6, 0))), (13, .inl (is (U8 (0#8)))), (15, .inl (is (U64 x2))), (76, .inl (is (Bl v)))], [(6, pb 23 [is (U8 a0_0), is (U8 a0_1)])]⟩) (fun v => some r = F302_9 N a0_0 a0_1 a1 a3 a4 x2 v) ?_ ?_
                              · skip
                                refine AW_region ?_
                                refine AL_cons (LR_bin (at_tmp 15 _) (at_c (v' := U64 (6#64)) rfl) (eql_U64 x2 (6#64)) rfl) (sS (sA (sT1 rfl) sT0) sB0 sF0) ?_
                                refine AL_cons (LR_assign (at_tmp 77 _) rfl) (sS (sT1 rfl) sB0 sF0) ?_
                                refine AL_nil ?_
                                exact thenN (cutLeaf (v := x2 == (6#64)) hr (weak0 ((sT rfl (sT rfl (sT rfl (sT rfl (sT rfl (sT rfl (sT rfl sT0)))))))) (sub_keep sub_nil)))
                              · rintro x9 hr
                                show AW Hfaa.prog _ _ _ ⟨[(1, .inl (is (U8 a1))), (3, .inl (is (U64 a3))), (4, .inl (is (U64 a4))), (6, .inr (.inl (6, 0))), (13, .inl (is (U8 (0#8)))), (15, .inl (is (U64 x2))), (76, .inl (is (Bl x9)))], [(6, pb 23 [is (U8 a0_0), is (U8 a0_1)])]⟩
                                have hr : some r = F302_9 N a0_0 a0_1 a1 a3 a4 x2 x9 := hr
                                refine AW_condT (b := x9) rfl (fun h => ?_) (fun h => ?_)
                                · have hr := hr.trans (cond_t h)
                                  clear h
                                  refine AW_region ?_
                                  refine AL_cons (LR_loads (at_tmp 6 _) ag23 sz23 rfl rfl rfl) (sS (sT1 rfl) (sB1 rfl) sF0) ?_
                                  refine AL_cons (LR_move (at_tmp 3 _) rfl) (sS (sT1 rfl) sB0 sF0) ?_
                                  refine AL_cons (LR_move (at_tmp 4 _) rfl) (sS (sT1 rfl) sB0 sF0) ?_
                                  obtain ⟨y15, hy15, hr⟩ := bind_some hr
                                  refine AL_cons (LR_call Hfaa.func181 rfl rfl (C181 N a0_0 a0_1 a3 a4 y15 hy15) (all_cons (at_tmp 79 _) (all_cons (at_tmp 80 _) (all_cons (at_tmp 81 _) all_nil))) rfl) (sS (sA (sT1 rfl) (sA (sT1 rfl) (sA (sT1 rfl) sT0))) sB0 sF0) ?_
                                  refine AL_cons (LR_move (at_tmp 82 _) rfl) (sS (sT1 rfl) sB0 sF0) ?_
                                  refine AL_cons (LR_extract (at_tmp 78 _) rfl rfl) (sS (sT1 rfl) sB0 sF0) ?_
                                  refine AL_cons (LR_extract (at_tmp 78 _) rfl rfl) (sS (sT1 rfl) sB0 sF0) ?_
                                  refine AL_cons (LR_assign (at_tmp 84 _) rfl) (sS (sT1 rfl) sB0 sF0) ?_
                                  refine AL_nil ?_
                                  refine blN ?_
                                  exact thenN (cutLeaf (v := y15.2) hr (weak0 ((sT rfl sT0)) (sub_drop sub_nil)))
                                · have hr := hr.trans (cond_f h)
                                  clear h
                                  refine AW_cut (σ := Bool) (fun v => ⟨[(1, .inl (is (U8 a1))), (3, .inl (is (U64 a3))), (6, .inr (.inl (6, 0))), (13, .inl (is (U8 (0#8)))), (85, .inl (is (Bl v)))], [(6, pb 23 [is (U8 a0_0), is (U8 a0_1)])]⟩) (fun v => some r = F302_10 N a0_0 a0_1 a1 a3 v) ?_ ?_
                                  · skip
                                    refine AW_region ?_
                                    refine AL_cons (LR_bin (at_tmp 15 _) (at_c (v' := U64 (7#64)) rfl) (eql_U64 x2 (7#64)) rfl) (sS (sA (sT1 rfl) sT0) sB0 sF0) ?_
                                    refine AL_cons (LR_assign (at_tmp 86 _) rfl) (sS (sT1 rfl) sB0 sF0) ?_
                                    refine AL_nil ?_
                                    exact thenN (cutLeaf (v := x2 == (7#64)) hr (weak0 ((sT rfl (sT rfl (sT rfl (sT rfl (sT rfl sT0)))))) (sub_keep sub_nil)))
                                  · rintro x10 hr
                                    show AW Hfaa.prog _ _ _ ⟨[(1, .inl (is (U8 a1))), (3, .inl (is (U64 a3))), (6, .inr (.inl (6, 0))), (13, .inl (is (U8 (0#8)))), (85, .inl (is (Bl x10)))], [(6, pb 23 [is (U8 a0_0), is (U8 a0_1)])]⟩
                                    have hr : some r = F302_10 N a0_0 a0_1 a1 a3 x10 := hr
                                    refine AW_condT (b := x10) rfl (fun h => ?_) (fun h => ?_)
                                    · have hr := hr.trans (cond_t h)
                                      clear h
                                      refine AW_region ?_
                                      refine AL_cons (LR_loads (at_tmp 6 _) ag23 sz23 rfl rfl rfl) (sS (sT1 rfl) (sB1 rfl) sF0) ?_
                                      refine AL_cons (LR_move (at_tmp 1 _) rfl) (sS (sT1 rfl) sB0 sF0) ?_
                                      refine AL_cons (LR_move (at_tmp 3 _) rfl) (sS (sT1 rfl) sB0 sF0) ?_
                                      obtain ⟨y16, hy16, hr⟩ := bind_some hr
                                      refine AL_cons (LR_call Hfaa.func182 rfl rfl (C182 N a0_0 a0_1 a1 a3 y16 hy16) (all_cons (at_tmp 88 _) (all_cons (at_tmp 89 _) (all_cons (at_tmp 90 _) all_nil))) rfl) (sS (sA (sT1 rfl) (sA (sT1 rfl) (sA (sT1 rfl) sT0))) sB0 sF0) ?_
                                      refine AL_cons (LR_move (at_tmp 91 _) rfl) (sS (sT1 rfl) sB0 sF0) ?_
                                      refine AL_cons (LR_extract (at_tmp 87 _) rfl rfl) (sS (sT1 rfl) sB0 sF0) ?_
                                      refine AL_cons (LR_extract (at_tmp 87 _) rfl rfl) (sS (sT1 rfl) sB0 sF0) ?_
                                      refine AL_cons (LR_assign (at_tmp 93 _) rfl) (sS (sT1 rfl) sB0 sF0) ?_
                                      refine AL_nil ?_
                                      refine blN ?_
                                      exact thenN (cutLeaf (v := y16.2) hr (weak0 ((sT rfl sT0)) (sub_drop sub_nil)))
                                    · have hr := hr.trans (cond_f h)
                                      clear h
                                      refine AW_skip ?_
                                      refine blN ?_
                                      exact thenN (cutLeaf (v := 0#8) hr (weak0 ((sT rfl sT0)) (sub_drop sub_nil)))
  · rintro x1 hr
    show AW Hfaa.prog _ _ _ ⟨[(13, .inl (is (U8 x1)))], []⟩
    have hr : some r = F302_1 N x1 := hr
    refine AW_seq1 ?_
    refine AW_region ?_
    refine AL_cons (LR_move (at_tmp 13 _) rfl) (sS (sT1 rfl) sB0 sF0) ?_
    refine AL_cons (LR_assign (at_tmp 94 _) rfl) (sS (sT1 rfl) sB0 sF0) ?_
    refine AL_nil ?_
    refine thenN ?_
    refine AW_ret ?_
    obtain rfl := Option.some.inj hr
    exact res1 rfl (rvT rfl)
/-- calc/kit.FlagText -/
def F301_2 (N : Nat) (x1 : List UInt8) (x2 : Bool) : Option (List UInt8) := bif x2 then some ([45] : List UInt8) else some x1
def F301_1 (N : Nat) (x1 : List UInt8) : Option (List UInt8) := F301_2 N x1 (x1 == ([] : List UInt8))
def F301_5 (N : Nat) (a0 : BitVec 8) (x4 : Int) (x6 : List UInt8) : Option ((List UInt8 × Int) ⊕ (List UInt8)) := some (.inl ((x6, w64 (x4 + 1))))
def F301_7 (N : Nat) (a0 : BitVec 8) (x3 : List UInt8) (x4 : Int) (x7 : List UInt8) (x8 : Bool) : Option ((List UInt8 × Int) ⊕ (List UInt8)) := bif x8 then bif decide (x3.length + x7.length ≤ 9223372036854775807) then F301_5 N a0 x4 (x3 ++ x7) else none else F301_5 N a0 x4 x3
def F301_6 (N : Nat) (a0 : BitVec 8) (x3 : List UInt8) (x4 : Int) (x7 : List UInt8) : Option ((List UInt8 × Int) ⊕ (List UInt8)) := bif decide (0 ≤ x4) then F301_7 N a0 x3 x4 x7 (((a0 >>> x4.toNat) &&& (1#8)) == (1#8)) else none
def F301_4 (N : Nat) (a0 : BitVec 8) (x3 : List UInt8) (x4 : Int) (x5 : Bool) : Option ((List UInt8 × Int) ⊕ (List UInt8)) := bif x5 then bif (decide (0 ≤ x4) && decide (x4 < (5 : Int))) then F301_6 N a0 x3 x4 (ba346f x4.toNat) else none else (F301_1 N x3).map Sum.inr
def F301_L3b (N : Nat) (a0 : BitVec 8) (x3 : List UInt8) (x4 : Int) : Option ((List UInt8 × Int) ⊕ (List UInt8)) := F301_4 N a0 x3 x4 (decide (x4 < 5))
def F301_L3 (N : Nat) (a0 : BitVec 8) : (List UInt8 × Int) → Option ((List UInt8 × Int) ⊕ (List UInt8)) := fun v => F301_L3b N a0 v.1 v.2
def F301 (N : Nat) (a0 : BitVec 8) : Option (List UInt8) := iterL (F301_L3 N a0) N ((([] : List UInt8), 0))
theorem C301 (N : Nat) (a0 : BitVec 8) (r : List UInt8) (hr : some r = F301 N a0) : Aw.Fn Hfaa.prog 301 [is (U8 a0)] (is (Sv r)) := by
  refine fn_intro Hfaa.func301 rfl rfl rfl ?_
  intro bn0 w0 H0
  refine AW_seq1 ?_
  refine AW_region ?_
  refine AL_cons (LR_assign (at_c (v' := Sv ([] : List UInt8)) rfl) rfl) (sS sT0 sB0 sF0) ?_
  refine AL_nil ?_
  refine thenN ?_
  refine AW_seq1 ?_
  refine AW_region ?_
  refine AL_cons (LR_assign (at_c (v' := Sv ([] : List UInt8)) rfl) rfl) (sS sT0 sB0 sF0) ?_
  refine AL_nil ?_
  refine thenN ?_
  refine AW_cut (σ := List UInt8) (fun v => ⟨[(3, .inl (is (Sv v)))], []⟩) (fun v => some r = F301_1 N v) ?_ ?_
  · skip
    refine AW_seq1 ?_
    refine AW_region ?_
    refine AL_cons (ba346 rfl) (sS sT0 sB0 sF0) ?_
    refine AL_cons (LR_move (at_c (v' := I64 0) rfl) rfl) (sS sT0 sB0 sF0) ?_
    refine AL_nil ?_
    refine thenN ?_
    refine AW_block ?_
    refine AW_iterR (σ := List UInt8 × Int) (r := r) (x0 := (([] : List UInt8), 0)) (emb := fun v => ⟨[(0, .inl (is (U8 a0))), (3, .inl (is (Sv v.1))), (6, .inl (agg (ar Sv 5 ba346f ++ []))), (7, .inl (is (I64 v.2)))], []⟩) ?_ hr ?_
    · exact weak0 ((sT rfl (sT rfl (sT rfl (sT rfl sT0))))) sub_nil
    rintro ⟨x3, x4⟩ out2 hr
    show AW Hfaa.prog _ _ _ ⟨[(0, .inl (is (U8 a0))), (3, .inl (is (Sv x3))), (6, .inl (agg (ar Sv 5 ba346f ++ []))), (7, .inl (is (I64 x4)))], []⟩
    have hr : some out2 = F301_L3b N a0 x3 x4 := hr
    refine AW_cut (σ := Bool) (fun v => ⟨[(0, .inl (is (U8 a0))), (3, .inl (is (Sv x3))), (6, .inl (agg (ar Sv 5 ba346f ++ []))), (7, .inl (is (I64 x4))), (8, .inl (is (Bl v)))], []⟩) (fun v => some out2 = F301_4 N a0 x3 x4 v) ?_ ?_
    · skip
      refine AW_region ?_
      refine AL_cons (LR_bin (at_tmp 7 _) (at_c (v' := I64 5) rfl) (lss_I64 x4 5) rfl) (sS (sA (sT1 rfl) sT0) sB0 sF0) ?_
      refine AL_nil ?_
      exact thenN (cutLeaf (v := decide (x4 < 5)) hr (weak0 ((sT rfl (sT rfl (sT rfl (sT rfl (sT rfl sT0)))))) sub_nil))
    · rintro x5 hr
      show AW Hfaa.prog _ _ _ ⟨[(0, .inl (is (U8 a0))), (3, .inl (is (Sv x3))), (6, .inl (agg (ar Sv 5 ba346f ++ []))), (7, .inl (is (I64 x4))), (8, .inl (is (Bl x5)))], []⟩
      have hr : some out2 = F301_4 N a0 x3 x4 x5 := hr
      refine AW_seq1 ?_
      refine AW_condT (b := x5) rfl (fun h => ?_) (fun h => ?_)
      · have hr := hr.trans (cond_t h)
        clear h
        refine AW_skip ?_
        refine thenN ?_
        refine AW_cut (σ := List UInt8) (fun v => ⟨[(0, .inl (is (U8 a0))), (3, .inl (is (Sv v))), (6, .inl (agg (ar Sv 5 ba346f ++ []))), (7, .inl (is (I64 x4)))], []⟩) (fun v => some out2 = F301_5 N a0 x4 v) ?_ ?_
        · skip
          refine AW_block ?_
          refine AW_cut (σ := List UInt8) (fun v => ⟨[(0, .inl (is (U8 a0))), (3, .inl (is (Sv x3))), (6, .inl (agg (ar Sv 5 ba346f ++ []))), (7, .inl (is (I64 x4))), (4, .inl (is (I64 x4))), (5, .inl (is (Sv v)))], []⟩) (fun v => some out2 = F301_6 N a0 x3 x4 v) ?_ ?_
          · skip
            refine AW_region ?_
            refine AL_cons (LR_move (at_tmp 7 _) rfl) (sS (sT1 rfl) sB0 sF0) ?_
            obtain ⟨hg40, hr⟩ := guard_some hr
            refine AL_cons (LR_indexA Hfaa.underlying346 sz9 na9 (at_agg0 (at_tmp 6 _)) (at_tmp 7 _) (dand hg40) rfl) (sS (sA (sT1 rfl) (sT1 rfl)) sB0 sF0) ?_
            refine AL_cons (LR_assign (at_tmp 9 _) rfl) (sS (sT1 rfl) sB0 sF0) ?_
            refine AL_cons (LR_assign (at_tmp 10 _) rfl) (sS (sT1 rfl) sB0 sF0) ?_
            refine AL_nil ?_
            exact thenN (cutLeaf (v := ba346f x4.toNat) hr (weak0 ((sT rfl (sT rfl (sT rfl (sT rfl (sT rfl (sT rfl sT0))))))) sub_nil))
          · rintro x7 hr
            show AW Hfaa.prog _ _ _ ⟨[(0, .inl (is (U8 a0))), (3, .inl (is (Sv x3))), (6, .inl (agg (ar Sv 5 ba346f ++ []))), (7, .inl (is (I64 x4))), (4, .inl (is (I64 x4))), (5, .inl (is (Sv x7)))], []⟩
            have hr : some out2 = F301_6 N a0 x3 x4 x7 := hr
            refine AW_cut (σ := Bool) (fun v => ⟨[(0, .inl (is (U8 a0))), (3, .inl (is (Sv x3))), (6, .inl (agg (ar Sv 5 ba346f ++ []))), (7, .inl (is (I64 x4))), (5, .inl (is (Sv x7))), (15, .inl (is (Bl v)))], []⟩) (fun v => some out2 = F301_7 N a0 x3 x4 x7 v) ?_ ?_
            · skip
              refine AW_region ?_
              refine AL_cons (LR_move (at_tmp 0 _) rfl) (sS (sT1 rfl) sB0 sF0) ?_
              refine AL_cons (LR_move (at_tmp 4 _) rfl) (sS (sT1 rfl) sB0 sF0) ?_
              obtain ⟨hg39, hr⟩ := guard_some hr
              refine AL_cons (LR_bin (at_tmp 11 _) (at_tmp 12 _) (shr_U8 a0 x4 (of_decide_eq_true hg39)) rfl) (sS (sA (sT1 rfl) (sT1 rfl)) sB0 sF0) ?_
              refine AL_cons (LR_bin (at_tmp 13 _) (at_c (v' := U8 (1#8)) rfl) (and_U8 (a0 >>> x4.toNat) (1#8)) rfl) (sS (sA (sT1 rfl) sT0) sB0 sF0) ?_
              refine AL_cons (LR_bin (at_tmp 14 _) (at_c (v' := U8 (1#8)) rfl) (eql_U8 ((a0 >>> x4.toNat) &&& (1#8)) (1#8)) rfl) (sS (sA (sT1 rfl) sT0) sB0 sF0) ?_
              refine AL_nil ?_
              exact thenN (cutLeaf (v := ((a0 >>> x4.toNat) &&& (1#8)) == (1#8)) hr (weak0 ((sT rfl (sT rfl (sT rfl (sT rfl (sT rfl (sT rfl sT0))))))) sub_nil))
            · rintro x8 hr
              show AW Hfaa.prog _ _ _ ⟨[(0, .inl (is (U8 a0))), (3, .inl (is (Sv x3))), (6, .inl (agg (ar Sv 5 ba346f ++ []))), (7, .inl (is (I64 x4))), (5, .inl (is (Sv x7))), (15, .inl (is (Bl x8)))], []⟩
              have hr : some out2 = F301_7 N a0 x3 x4 x7 x8 := hr
              refine AW_condT (b := x8) rfl (fun h => ?_) (fun h => ?_)
              · have hr := hr.trans (cond_t h)
                clear h
                refine AW_region ?_
                refine AL_cons (LR_move (at_tmp 3 _) rfl) (sS (sT1 rfl) sB0 sF0) ?_
                refine AL_cons (LR_move (at_tmp 5 _) rfl) (sS (sT1 rfl) sB0 sF0) ?_
                obtain ⟨hg38, hr⟩ := guard_some hr
                refine AL_cons (LR_bin (at_tmp 16 _) (at_tmp 17 _) (add_S x3 x7 (of_decide_eq_true hg38)) rfl) (sS (sA (sT1 rfl) (sT1 rfl)) sB0 sF0) ?_
                refine AL_cons (LR_assign (at_tmp 18 _) rfl) (sS (sT1 rfl) sB0 sF0) ?_
                refine AL_nil ?_
                refine blN ?_
                exact thenN (cutLeaf (v := x3 ++ x7) hr (weak0 ((sT rfl (sT rfl (sT rfl (sT rfl sT0))))) sub_nil))
              · have hr := hr.trans (cond_f h)
                clear h
                refine AW_skip ?_
                refine blN ?_
                exact thenN (cutLeaf (v := x3) hr (weak0 ((sT rfl (sT rfl (sT rfl (sT rfl sT0))))) sub_nil))
        · rintro x6 hr
          show AW Hfaa.prog _ _ _ ⟨[(0, .inl (is (U8 a0))), (3, .inl (is (Sv x6))), (6, .inl (agg (ar Sv 5 ba346f ++ []))), (7, .inl (is (I64 x4)))], []⟩
          have hr : some out2 = F301_5 N a0 x4 x6 := hr
          refine AW_region ?_
          refine AL_cons (LR_bin (at_tmp 7 _) (at_c (v' := I64 1) rfl) (add_I64 x4 1) rfl) (sS (sA (sT1 rfl) sT0) sB0 sF0) ?_
          refine AL_cons (LR_move (at_tmp 19 _) rfl) (sS (sT1 rfl) sB0 sF0) ?_
          refine AL_nil ?_
          exact thenN (loopNext (x' := (x6, w64 (x4 + 1))) hr (weak0 ((sT rfl (sT rfl (sT rfl (sT rfl sT0))))) sub_nil))
      · have hr := hr.trans (cond_f h)
        clear h
        refine AW_exit ?_
        refine thenX ?_
        obtain ⟨r', hro, hr⟩ := map_inr hr
        refine thenX (loopOut hro (fun he => ?_))
        rw [he] at hr
        refine blH ?_
        exact thenN (cutLeaf (v := x3) hr (weak0 ((sT rfl sT0)) sub_nil))
  · rintro x1 hr
    show AW Hfaa.prog _ _ _ ⟨[(3, .inl (is (Sv x1)))], []⟩
    have hr : some r = F301_1 N x1 := hr
    refine AW_seq1 ?_
    refine AW_cut (σ := Bool) (fun v => ⟨[(3, .inl (is (Sv x1))), (21, .inl (is (Bl v)))], []⟩) (fun v => some r = F301_2 N x1 v) ?_ ?_
    · skip
      refine AW_region ?_
      refine AL_cons (LR_move (at_tmp 3 _) rfl) (sS (sT1 rfl) sB0 sF0) ?_
      refine AL_cons (LR_bin (at_tmp 20 _) (at_c (v' := Sv ([] : List UInt8)) rfl) (eql_S x1 ([] : List UInt8)) rfl) (sS (sA (sT1 rfl) sT0) sB0 sF0) ?_
      refine AL_nil ?_
      exact thenN (cutLeaf (v := x1 == ([] : List UInt8)) hr (weak0 ((sT rfl (sT rfl sT0))) sub_nil))
    · rintro x2 hr
      show AW Hfaa.prog _ _ _ ⟨[(3, .inl (is (Sv x1))), (21, .inl (is (Bl x2)))], []⟩
      have hr : some r = F301_2 N x1 x2 := hr
      refine AW_condT (b := x2) rfl (fun h => ?_) (fun h => ?_)
      · have hr := hr.trans (cond_t h)
        clear h
        refine AW_seq1 ?_
        refine AW_region ?_
        refine AL_cons (LR_assign (at_c (v' := Sv ([45] : List UInt8)) rfl) rfl) (sS sT0 sB0 sF0) ?_
        refine AL_nil ?_
        refine thenN ?_
        refine AW_ret ?_
        refine thenR ?_
        obtain rfl := Option.some.inj hr
        exact res1 rfl (rvT rfl)
      · have hr := hr.trans (cond_f h)
        clear h
        refine AW_skip ?_
        refine thenN ?_
        refine AW_seq1 ?_
        refine AW_region ?_
        refine AL_cons (LR_move (at_tmp 3 _) rfl) (sS (sT1 rfl) sB0 sF0) ?_
        refine AL_cons (LR_assign (at_tmp 22 _) rfl) (sS (sT1 rfl) sB0 sF0) ?_
        refine AL_nil ?_
        refine thenN ?_
        refine AW_ret ?_
        obtain rfl := Option.some.inj hr
        exact res1 rfl (rvT rfl)
end Go.Proofs.YfwaawGreat
