import Derived.Test.YfwaawGreatG1
import Derived.Test.YfwaawGreatG2
import Derived.Test.YfwaawGreatG3
import Derived.Test.YfwaawGreatG4
import Derived.Test.YfwaawGreatG7
import Derived.Test.YfwaawGreatG14
namespace Go.Proofs.YfwaawGreat
open Go.Aw
set_option linter.unusedVariables false
set_option maxRecDepth 100000
set_option maxHeartbeats 1000000
/-- exact.RoundInt -/
def F296_1 (N : Nat) (x1 : BitVec 64) : Option (BitVec 64) := some x1
def F296 (N : Nat) (a0_0 : BitVec 8) (a0_1 : BitVec 8) (a1 : BitVec 8) (a2 : BitVec 64) : Option (BitVec 64) := (F182 N a0_0 a0_1 a1 a2).bind fun y2 => F296_1 N y2.1
theorem C296 (N : Nat) (a0_0 : BitVec 8) (a0_1 : BitVec 8) (a1 : BitVec 8) (a2 : BitVec 64) (r : BitVec 64) (hr : some r = F296 N a0_0 a0_1 a1 a2) : Aw.Fn Hfaa.prog 296 [agg [is (U8 a0_0), is (U8 a0_1)], is (U8 a1), is (U64 a2)] (is (U64 r)) := by
  refine fn_intro Hfaa.func296 rfl rfl rfl ?_
  intro bn0 w0 H0
  refine AW_seq1 ?_
  refine AW_region ?_
  refine AL_cons (LR_box (at_tmp 0 _) (cells_agg _) rfl) (sS (sT1 rfl) sB0 (sF1 rfl)) ?_
  refine AL_cons (LR_assign (at_c (v' := U64 (0#64)) rfl) rfl) (sS sT0 sB0 sF0) ?_
  refine AL_nil ?_
  refine thenN ?_
  refine AW_cut (σ := BitVec 64) (fun v => ⟨[(7, .inl (is (U64 v)))], []⟩) (fun v => some r = F296_1 N v) ?_ ?_
  · skip
    refine AW_region ?_
    refine AL_cons (LR_loads (at_tmp 3 _) ag23 sz23 rfl rfl rfl) (sS (sT1 rfl) (sB1 rfl) sF0) ?_
    refine AL_cons (LR_move (at_tmp 1 _) rfl) (sS (sT1 rfl) sB0 sF0) ?_
    refine AL_cons (LR_move (at_tmp 2 _) rfl) (sS (sT1 rfl) sB0 sF0) ?_
    obtain ⟨y2, hy2, hr⟩ := bind_some hr
    refine AL_cons (LR_call Hfaa.func182 rfl rfl (C182 N a0_0 a0_1 a1 a2 y2 hy2) (all_cons (at_tmp 10 _) (all_cons (at_tmp 11 _) (all_cons (at_tmp 12 _) all_nil))) rfl) (sS (sA (sT1 rfl) (sA (sT1 rfl) (sA (sT1 rfl) sT0))) sB0 sF0) ?_
    refine AL_cons (LR_move (at_tmp 13 _) rfl) (sS (sT1 rfl) sB0 sF0) ?_
    refine AL_cons (LR_extract (at_tmp 9 _) rfl rfl) (sS (sT1 rfl) sB0 sF0) ?_
    refine AL_cons (LR_extract (at_tmp 9 _) rfl rfl) (sS (sT1 rfl) sB0 sF0) ?_
    refine AL_cons (LR_assign (at_tmp 14 _) rfl) (sS (sT1 rfl) sB0 sF0) ?_
    refine AL_cons (LR_assign (at_tmp 15 _) rfl) (sS (sT1 rfl) sB0 sF0) ?_
    refine AL_nil ?_
    exact thenN (cutLeaf (v := y2.1) hr (weak0 ((sT rfl sT0)) (sub_drop sub_nil)))
  · rintro x1 hr
    show AW Hfaa.prog _ _ _ ⟨[(7, .inl (is (U64 x1)))], []⟩
    have hr : some r = F296_1 N x1 := hr
    refine AW_seq1 ?_
    refine AW_region ?_
    refine AL_cons (LR_move (at_tmp 7 _) rfl) (sS (sT1 rfl) sB0 sF0) ?_
    refine AL_cons (LR_assign (at_tmp 16 _) rfl) (sS (sT1 rfl) sB0 sF0) ?_
    refine AL_nil ?_
    refine thenN ?_
    refine AW_ret ?_
    obtain rfl := Option.some.inj hr
    exact res1 rfl (rvT rfl)
/-- exact.MinFlags -/
def F183_3 (N : Nat) (x2 : BitVec 64) (x3 : Bool) (x4 : Int) (x5 : Bool) (x6 : Nat) (x7 : Nat) : Option (BitVec 64 × BitVec 8) := some (x2, 0#8)
def F183_8 (N : Nat) (x2 : BitVec 64) (x3 : Bool) (x4 : Int) (x5 : Bool) (x6 : Nat) (x7 : Nat) (x8 : BitVec 64) (x9 : Bool) (x10 : Int) (x11 : Bool) (x12 : Nat) (x13 : Nat) (x18 : Bool) : Option (BitVec 64 × BitVec 8) := bif x18 then some (x8, 0#8) else F183_3 N x2 x3 x4 x5 x6 x7
def F183_7 (N : Nat) (x2 : BitVec 64) (x3 : Bool) (x4 : Int) (x5 : Bool) (x6 : Nat) (x7 : Nat) (x8 : BitVec 64) (x9 : Bool) (x10 : Int) (x11 : Bool) (x12 : Nat) (x13 : Nat) (x17 : Bool) : Option (BitVec 64 × BitVec 8) := bif x17 then F183_8 N x2 x3 x4 x5 x6 x7 x8 x9 x10 x11 x12 x13 (!x3) else F183_3 N x2 x3 x4 x5 x6 x7
def F183_6 (N : Nat) (x2 : BitVec 64) (x3 : Bool) (x4 : Int) (x5 : Bool) (x6 : Nat) (x7 : Nat) (x8 : BitVec 64) (x9 : Bool) (x10 : Int) (x11 : Bool) (x12 : Nat) (x13 : Nat) (x14 : Int) (x16 : Bool) : Option (BitVec 64 × BitVec 8) := bif x16 then some (x8, 0#8) else F183_7 N x2 x3 x4 x5 x6 x7 x8 x9 x10 x11 x12 x13 (x14 == 0)
def F183_5 (N : Nat) (a0_0 : BitVec 8) (a0_1 : BitVec 8) (a1 : BitVec 64) (a2 : BitVec 64) (x2 : BitVec 64) (x3 : Bool) (x4 : Int) (x5 : Bool) (x6 : Nat) (x7 : Nat) (x8 : BitVec 64) (x9 : Bool) (x10 : Int) (x11 : Bool) (x12 : Nat) (x13 : Nat) (x14 : Int) (x15 : Bool) : Option (BitVec 64 × BitVec 8) := bif x15 then lt (F66 a0_0 a0_1) fun y15 => lt (F216 a0_0 a0_1 a1 a2) fun y16 => some (y15, y16) else F183_6 N x2 x3 x4 x5 x6 x7 x8 x9 x10 x11 x12 x13 x14 (x14 == 1)
def F183_4 (N : Nat) (a0_0 : BitVec 8) (a0_1 : BitVec 8) (a1 : BitVec 64) (a2 : BitVec 64) (x2 : BitVec 64) (x3 : Bool) (x4 : Int) (x5 : Bool) (x6 : Nat) (x7 : Nat) (x8 : BitVec 64) (x9 : Bool) (x10 : Int) (x11 : Bool) (x12 : Nat) (x13 : Nat) (x14 : Int) : Option (BitVec 64 × BitVec 8) := F183_5 N a0_0 a0_1 a1 a2 x2 x3 x4 x5 x6 x7 x8 x9 x10 x11 x12 x13 x14 (x14 == 2)
def F183_2 (N : Nat) (a0_0 : BitVec 8) (a0_1 : BitVec 8) (a1 : BitVec 64) (a2 : BitVec 64) (x2 : BitVec 64) (x3 : Bool) (x4 : Int) (x5 : Bool) (x6 : Nat) (x7 : Nat) (x8 : BitVec 64) (x9 : Bool) (x10 : Int) (x11 : Bool) (x12 : Nat) (x13 : Nat) : Option (BitVec 64 × BitVec 8) := (F81 N a0_0 a0_1 a1 a2).bind fun y17 => F183_4 N a0_0 a0_1 a1 a2 x2 x3 x4 x5 x6 x7 x8 x9 x10 x11 x12 x13 y17
def F183_1 (N : Nat) (a0_0 : BitVec 8) (a0_1 : BitVec 8) (a1 : BitVec 64) (a2 : BitVec 64) (x1 : Bool) : Option (BitVec 64 × BitVec 8) := bif x1 then some (0#64, 0#8) else (F144 N a0_0 a0_1 a1).bind fun y18 => (F144 N a0_0 a0_1 a2).bind fun y19 => F183_2 N a0_0 a0_1 a1 a2 y18.1 y18.2.1 y18.2.2.1 y18.2.2.2.1 y18.2.2.2.2.1 y18.2.2.2.2.2 y19.1 y19.2.1 y19.2.2.1 y19.2.2.2.1 y19.2.2.2.2.1 y19.2.2.2.2.2
def F183 (N : Nat) (a0_0 : BitVec 8) (a0_1 : BitVec 8) (a1 : BitVec 64) (a2 : BitVec 64) : Option (BitVec 64 × BitVec 8) := lt (F40 a0_0 a0_1) fun y20 => F183_1 N a0_0 a0_1 a1 a2 (!y20)
theorem C183 (N : Nat) (a0_0 : BitVec 8) (a0_1 : BitVec 8) (a1 : BitVec 64) (a2 : BitVec 64) (r : BitVec 64 × BitVec 8) (hr : some r = F183 N a0_0 a0_1 a1 a2) : Aw.Fn Hfaa.prog 183 [agg [is (U8 a0_0), is (U8 a0_1)], is (U64 a1), is (U64 a2)] (tup [is (U64 r.1), is (U8 r.2)]) := by
  refine fn_intro Hfaa.func183 rfl rfl rfl ?_
  intro bn0 w0 H0
  refine AW_seq1 ?_
  refine AW_region ?_
  refine AL_cons (LR_box (at_tmp 0 _) (cells_agg _) rfl) (sS (sT1 rfl) sB0 (sF1 rfl)) ?_
  refine AL_cons (LR_assign (at_c (v' := U64 (0#64)) rfl) rfl) (sS sT0 sB0 sF0) ?_
  refine AL_cons (LR_assign (at_c (v' := U8 (0#8)) rfl) rfl) (sS sT0 sB0 sF0) ?_
  refine AL_nil ?_
  refine thenN ?_
  refine AW_seq1 ?_
  refine AW_cut (σ := Bool) (fun v => ⟨[(1, .inl (is (U64 a1))), (2, .inl (is (U64 a2))), (3, .inr (.inl (3, 0))), (12, .inl (is (Bl v)))], [(3, pb 23 [is (U8 a0_0), is (U8 a0_1)])]⟩) (fun v => some r = F183_1 N a0_0 a0_1 a1 a2 v) ?_ ?_
  · skip
    refine AW_region ?_
    refine AL_cons (LR_loads (at_tmp 3 _) ag23 sz23 rfl rfl rfl) (sS (sT1 rfl) (sB1 rfl) sF0) ?_
    obtain ⟨y20, hy20, hr⟩ := lt_some hr
    refine AL_cons (LR_call Hfaa.func40 rfl rfl (C40 a0_0 a0_1 y20 hy20) (all_cons (at_tmp 10 _) all_nil) rfl) (sS (sA (sT1 rfl) sT0) sB0 sF0) ?_
    refine AL_cons (LR_un (at_tmp 11 _) (not_Bl y20) rfl) (sS (sT1 rfl) sB0 sF0) ?_
    refine AL_nil ?_
    exact thenN (cutLeaf (v := !y20) hr (weak0 ((sT rfl (sT rfl (sT rfl (sT rfl sT0))))) (sub_keep sub_nil)))
  · rintro x1 hr
    show AW Hfaa.prog _ _ _ ⟨[(1, .inl (is (U64 a1))), (2, .inl (is (U64 a2))), (3, .inr (.inl (3, 0))), (12, .inl (is (Bl x1)))], [(3, pb 23 [is (U8 a0_0), is (U8 a0_1)])]⟩
    have hr : some r = F183_1 N a0_0 a0_1 a1 a2 x1 := hr
    refine AW_condT (b := x1) rfl (fun h => ?_) (fun h => ?_)
    · have hr := hr.trans (cond_t h)
      clear h
      refine AW_seq1 ?_
      refine AW_region ?_
      refine AL_cons (LR_assign (at_c (v' := U64 (0#64)) rfl) rfl) (sS sT0 sB0 sF0) ?_
      refine AL_cons (LR_assign (at_c (v' := U8 (0#8)) rfl) rfl) (sS sT0 sB0 sF0) ?_
      refine AL_nil ?_
      refine thenN ?_
      refine AW_ret ?_
      refine thenR ?_
      obtain rfl := Option.some.inj hr
      exact res2 rfl (rvT rfl) (rvT rfl)
    · have hr := hr.trans (cond_f h)
      clear h
      refine AW_skip ?_
      refine thenN ?_
      refine AW_cut (σ := BitVec 64 × Bool × Int × Bool × Nat × Nat × BitVec 64 × Bool × Int × Bool × Nat × Nat) (fun v => ⟨[(1, .inl (is (U64 a1))), (2, .inl (is (U64 a2))), (3, .inr (.inl (3, 0))), (8, .inr (.inl (8, 0))), (9, .inr (.inl (9, 0)))], [(3, pb 23 [is (U8 a0_0), is (U8 a0_1)]), (8, pb 175 [is (U64 v.1), is (Bl v.2.1), is (I8 v.2.2.1), is (Bl v.2.2.2.1), big v.2.2.2.2.1, big v.2.2.2.2.2.1]), (9, pb 175 [is (U64 v.2.2.2.2.2.2.1), is (Bl v.2.2.2.2.2.2.2.1), is (I8 v.2.2.2.2.2.2.2.2.1), is (Bl v.2.2.2.2.2.2.2.2.2.1), big v.2.2.2.2.2.2.2.2.2.2.1, big v.2.2.2.2.2.2.2.2.2.2.2])]⟩) (fun v => some r = F183_2 N a0_0 a0_1 a1 a2 v.1 v.2.1 v.2.2.1 v.2.2.2.1 v.2.2.2.2.1 v.2.2.2.2.2.1 v.2.2.2.2.2.2.1 v.2.2.2.2.2.2.2.1 v.2.2.2.2.2.2.2.2.1 v.2.2.2.2.2.2.2.2.2.1 v.2.2.2.2.2.2.2.2.2.2.1 v.2.2.2.2.2.2.2.2.2.2.2) ?_ ?_
      · skip
        obtain ⟨y18, hy18, hr⟩ := bind_some hr
        obtain ⟨y19, hy19, hr⟩ := bind_some hr
        refine AW_draw mixed
          (lrC (LR_loads (at_tmp 3 _) ag23 sz23 rfl rfl rfl)
          (lrC (LR_move (at_tmp 1 _) rfl)
          (lrC (LR_call Hfaa.func144 rfl rfl (C144 N a0_0 a0_1 a1 y18 hy18) (all_cons (at_tmp 13 _) (all_cons (at_tmp 14 _) all_nil)) rfl)
          (lrC (LR_loads (at_tmp 3 _) ag23 sz23 rfl rfl rfl)
          (lrC (LR_move (at_tmp 2 _) rfl)
          (lrC (LR_call Hfaa.func144 rfl rfl (C144 N a0_0 a0_1 a2 y19 hy19) (all_cons (at_tmp 16 _) (all_cons (at_tmp 17 _) all_nil)) rfl)
          (lrC (zl175 rfl)
          (lrC (zl175 rfl)
          (lrC (LR_store (at_tmp 8 _) (at_tmp 15 _) (cells_agg _) (onC (one_is rfl) (onC (one_is rfl) (onC (one_is rfl) (onC (one_is rfl) (onC (one_big _) (onC (one_big _) onN)))))) sz175 rfl rfl)
          (lrC (LR_store (at_tmp 9 _) (at_tmp 18 _) (cells_agg _) (onC (one_is rfl) (onC (one_is rfl) (onC (one_is rfl) (onC (one_is rfl) (onC (one_big _) (onC (one_big _) onN)))))) sz175 rfl rfl)
          lrN))))))))))
          (by kernel_rfl)
          (saC (sS (sT1 rfl) (sB1 rfl) sF0) (saC (sS (sT1 rfl) sB0 sF0) (saC (sS (sA (sT1 rfl) (sA (sT1 rfl) sT0)) sB0 sF0) (saC (sS (sT1 rfl) (sB1 rfl) sF0) (saC (sS (sT1 rfl) sB0 sF0) (saC (sS (sA (sT1 rfl) (sA (sT1 rfl) sT0)) sB0 sF0) (saC (sS sT0 sB0 (sF1 rfl)) (saC (sS sT0 sB0 (sF1 rfl)) (saC (sS (sA (sT1 rfl) (sT1 rfl)) (sB1 rfl) sF0) (saC (sS (sA (sT1 rfl) (sT1 rfl)) (sB1 rfl) sF0) saN)))))))))) ?_
        exact thenN (cutLeaf (v := (y18.1, y18.2.1, y18.2.2.1, y18.2.2.2.1, y18.2.2.2.2.1, y18.2.2.2.2.2, y19.1, y19.2.1, y19.2.2.1, y19.2.2.2.1, y19.2.2.2.2.1, y19.2.2.2.2.2)) hr (weak0 ((sT rfl (sT rfl (sT rfl (sT rfl (sT rfl sT0)))))) (sub_keep (sub_keep (sub_keep sub_nil)))))
      · rintro ⟨x2, x3, x4, x5, x6, x7, x8, x9, x10, x11, x12, x13⟩ hr
        show AW Hfaa.prog _ _ _ ⟨[(1, .inl (is (U64 a1))), (2, .inl (is (U64 a2))), (3, .inr (.inl (3, 0))), (8, .inr (.inl (8, 0))), (9, .inr (.inl (9, 0)))], [(3, pb 23 [is (U8 a0_0), is (U8 a0_1)]), (8, pb 175 [is (U64 x2), is (Bl x3), is (I8 x4), is (Bl x5), big x6, big x7]), (9, pb 175 [is (U64 x8), is (Bl x9), is (I8 x10), is (Bl x11), big x12, big x13])]⟩
        have hr : some r = F183_2 N a0_0 a0_1 a1 a2 x2 x3 x4 x5 x6 x7 x8 x9 x10 x11 x12 x13 := hr
        refine AW_cut (σ := Unit) (fun _ => ⟨[(8, .inr (.inl (8, 0)))], [(8, pb 175 [is (U64 x2), is (Bl x3), is (I8 x4), is (Bl x5), big x6, big x7])]⟩) (fun _ => some r = F183_3 N x2 x3 x4 x5 x6 x7) ?_ ?_
        · skip
          refine AW_cut (σ := Int) (fun v => ⟨[(1, .inl (is (U64 a1))), (2, .inl (is (U64 a2))), (3, .inr (.inl (3, 0))), (8, .inr (.inl (8, 0))), (9, .inr (.inl (9, 0))), (22, .inl (is (I8 v)))], [(3, pb 23 [is (U8 a0_0), is (U8 a0_1)]), (8, pb 175 [is (U64 x2), is (Bl x3), is (I8 x4), is (Bl x5), big x6, big x7]), (9, pb 175 [is (U64 x8), is (Bl x9), is (I8 x10), is (Bl x11), big x12, big x13])]⟩) (fun v => some r = F183_4 N a0_0 a0_1 a1 a2 x2 x3 x4 x5 x6 x7 x8 x9 x10 x11 x12 x13 v) ?_ ?_
          · skip
            refine AW_region ?_
            refine AL_cons (LR_loads (at_tmp 3 _) ag23 sz23 rfl rfl rfl) (sS (sT1 rfl) (sB1 rfl) sF0) ?_
            refine AL_cons (LR_move (at_tmp 1 _) rfl) (sS (sT1 rfl) sB0 sF0) ?_
            refine AL_cons (LR_move (at_tmp 2 _) rfl) (sS (sT1 rfl) sB0 sF0) ?_
            obtain ⟨y17, hy17, hr⟩ := bind_some hr
            refine AL_cons (LR_call Hfaa.func81 rfl rfl (C81 N a0_0 a0_1 a1 a2 y17 hy17) (all_cons (at_tmp 19 _) (all_cons (at_tmp 20 _) (all_cons (at_tmp 21 _) all_nil))) rfl) (sS (sA (sT1 rfl) (sA (sT1 rfl) (sA (sT1 rfl) sT0))) sB0 sF0) ?_
            refine AL_nil ?_
            exact thenN (cutLeaf (v := y17) hr (weak0 ((sT rfl (sT rfl (sT rfl (sT rfl (sT rfl (sT rfl sT0))))))) (sub_keep (sub_keep (sub_keep sub_nil)))))
          · rintro x14 hr
            show AW Hfaa.prog _ _ _ ⟨[(1, .inl (is (U64 a1))), (2, .inl (is (U64 a2))), (3, .inr (.inl (3, 0))), (8, .inr (.inl (8, 0))), (9, .inr (.inl (9, 0))), (22, .inl (is (I8 x14)))], [(3, pb 23 [is (U8 a0_0), is (U8 a0_1)]), (8, pb 175 [is (U64 x2), is (Bl x3), is (I8 x4), is (Bl x5), big x6, big x7]), (9, pb 175 [is (U64 x8), is (Bl x9), is (I8 x10), is (Bl x11), big x12, big x13])]⟩
            have hr : some r = F183_4 N a0_0 a0_1 a1 a2 x2 x3 x4 x5 x6 x7 x8 x9 x10 x11 x12 x13 x14 := hr
            refine AW_block ?_
            refine AW_cut (σ := Bool) (fun v => ⟨[(1, .inl (is (U64 a1))), (2, .inl (is (U64 a2))), (3, .inr (.inl (3, 0))), (8, .inr (.inl (8, 0))), (9, .inr (.inl (9, 0))), (22, .inl (is (I8 x14))), (23, .inl (is (Bl v)))], [(3, pb 23 [is (U8 a0_0), is (U8 a0_1)]), (8, pb 175 [is (U64 x2), is (Bl x3), is (I8 x4), is (Bl x5), big x6, big x7]), (9, pb 175 [is (U64 x8), is (Bl x9), is (I8 x10), is (Bl x11), big x12, big x13])]⟩) (fun v => some r = F183_5 N a0_0 a0_1 a1 a2 x2 x3 x4 x5 x6 x7 x8 x9 x10 x11 x12 x13 x14 v) ?_ ?_
            · skip
              refine AW_region ?_
              refine AL_cons (LR_bin (at_tmp 22 _) (at_c (v' := I8 2) rfl) (eql_I8 x14 2) rfl) (sS (sA (sT1 rfl) sT0) sB0 sF0) ?_
              refine AL_cons (LR_assign (at_tmp 24 _) rfl) (sS (sT1 rfl) sB0 sF0) ?_
              refine AL_nil ?_
              exact thenN (cutLeaf (v := x14 == 2) hr (weak0 ((sT rfl (sT rfl (sT rfl (sT rfl (sT rfl (sT rfl (sT rfl sT0)))))))) (sub_keep (sub_keep (sub_keep sub_nil)))))
            · rintro x15 hr
              show AW Hfaa.prog _ _ _ ⟨[(1, .inl (is (U64 a1))), (2, .inl (is (U64 a2))), (3, .inr (.inl (3, 0))), (8, .inr (.inl (8, 0))), (9, .inr (.inl (9, 0))), (22, .inl (is (I8 x14))), (23, .inl (is (Bl x15)))], [(3, pb 23 [is (U8 a0_0), is (U8 a0_1)]), (8, pb 175 [is (U64 x2), is (Bl x3), is (I8 x4), is (Bl x5), big x6, big x7]), (9, pb 175 [is (U64 x8), is (Bl x9), is (I8 x10), is (Bl x11), big x12, big x13])]⟩
              have hr : some r = F183_5 N a0_0 a0_1 a1 a2 x2 x3 x4 x5 x6 x7 x8 x9 x10 x11 x12 x13 x14 x15 := hr
              refine AW_condT (b := x15) rfl (fun h => ?_) (fun h => ?_)
              · have hr := hr.trans (cond_t h)
                clear h
                refine AW_seq1 ?_
                obtain ⟨y15, hy15, hr⟩ := lt_some hr
                obtain ⟨y16, hy16, hr⟩ := lt_some hr
                refine AW_draw mixed
                  (lrC (LR_loads (at_tmp 3 _) ag23 sz23 rfl rfl rfl)
                  (lrC (LR_call Hfaa.func66 rfl rfl (C66 a0_0 a0_1 y15 hy15) (all_cons (at_tmp 25 _) all_nil) rfl)
                  (lrC (LR_loads (at_tmp 3 _) ag23 sz23 rfl rfl rfl)
                  (lrC (LR_move (at_tmp 1 _) rfl)
                  (lrC (LR_move (at_tmp 2 _) rfl)
                  (lrC (LR_call Hfaa.func216 rfl rfl (C216 a0_0 a0_1 a1 a2 y16 hy16) (all_cons (at_tmp 27 _) (all_cons (at_tmp 28 _) (all_cons (at_tmp 29 _) all_nil))) rfl)
                  (lrC (LR_assign (at_tmp 26 _) rfl)
                  (lrC (LR_assign (at_tmp 30 _) rfl)
                  lrN))))))))
                  (by kernel_rfl)
                  (saC (sS (sT1 rfl) (sB1 rfl) sF0) (saC (sS (sA (sT1 rfl) sT0) sB0 sF0) (saC (sS (sT1 rfl) (sB1 rfl) sF0) (saC (sS (sT1 rfl) sB0 sF0) (saC (sS (sT1 rfl) sB0 sF0) (saC (sS (sA (sT1 rfl) (sA (sT1 rfl) (sA (sT1 rfl) sT0))) sB0 sF0) (saC (sS (sT1 rfl) sB0 sF0) (saC (sS (sT1 rfl) sB0 sF0) saN)))))))) ?_
                refine thenN ?_
                refine AW_ret ?_
                refine blR ?_
                refine thenR ?_
                obtain rfl := Option.some.inj hr
                exact res2 rfl (rvT rfl) (rvT rfl)
              · have hr := hr.trans (cond_f h)
                clear h
                refine AW_cut (σ := Bool) (fun v => ⟨[(8, .inr (.inl (8, 0))), (9, .inr (.inl (9, 0))), (22, .inl (is (I8 x14))), (31, .inl (is (Bl v)))], [(8, pb 175 [is (U64 x2), is (Bl x3), is (I8 x4), is (Bl x5), big x6, big x7]), (9, pb 175 [is (U64 x8), is (Bl x9), is (I8 x10), is (Bl x11), big x12, big x13])]⟩) (fun v => some r = F183_6 N x2 x3 x4 x5 x6 x7 x8 x9 x10 x11 x12 x13 x14 v) ?_ ?_
                · skip
                  refine AW_region ?_
                  refine AL_cons (LR_bin (at_tmp 22 _) (at_c (v' := I8 1) rfl) (eql_I8 x14 1) rfl) (sS (sA (sT1 rfl) sT0) sB0 sF0) ?_
                  refine AL_cons (LR_assign (at_tmp 32 _) rfl) (sS (sT1 rfl) sB0 sF0) ?_
                  refine AL_nil ?_
                  exact thenN (cutLeaf (v := x14 == 1) hr (weak0 ((sT rfl (sT rfl (sT rfl (sT rfl sT0))))) (sub_drop (sub_keep (sub_keep sub_nil)))))
                · rintro x16 hr
                  show AW Hfaa.prog _ _ _ ⟨[(8, .inr (.inl (8, 0))), (9, .inr (.inl (9, 0))), (22, .inl (is (I8 x14))), (31, .inl (is (Bl x16)))], [(8, pb 175 [is (U64 x2), is (Bl x3), is (I8 x4), is (Bl x5), big x6, big x7]), (9, pb 175 [is (U64 x8), is (Bl x9), is (I8 x10), is (Bl x11), big x12, big x13])]⟩
                  have hr : some r = F183_6 N x2 x3 x4 x5 x6 x7 x8 x9 x10 x11 x12 x13 x14 x16 := hr
                  refine AW_condT (b := x16) rfl (fun h => ?_) (fun h => ?_)
                  · have hr := hr.trans (cond_t h)
                    clear h
                    refine AW_seq1 ?_
                    refine AW_region ?_
                    refine AL_cons (LR_fieldAddr (off := 0) (o := 0) (at_tmp 9 _) (fun b w => fa175_0 b 0 w) rfl) (sS (sT1 rfl) sB0 sF0) ?_
                    refine AL_cons (LR_load (at_tmp 33 _) na30 rfl rfl) (sS (sT1 rfl) (sB1 rfl) sF0) ?_
                    refine AL_cons (LR_assign (at_tmp 34 _) rfl) (sS (sT1 rfl) sB0 sF0) ?_
                    refine AL_cons (LR_assign (at_c (v' := U8 (0#8)) rfl) rfl) (sS sT0 sB0 sF0) ?_
                    refine AL_nil ?_
                    refine thenN ?_
                    refine AW_ret ?_
                    refine blR ?_
                    refine thenR ?_
                    obtain rfl := Option.some.inj hr
                    exact res2 rfl (rvT rfl) (rvT rfl)
                  · have hr := hr.trans (cond_f h)
                    clear h
                    refine AW_cut (σ := Bool) (fun v => ⟨[(8, .inr (.inl (8, 0))), (9, .inr (.inl (9, 0))), (35, .inl (is (Bl v)))], [(8, pb 175 [is (U64 x2), is (Bl x3), is (I8 x4), is (Bl x5), big x6, big x7]), (9, pb 175 [is (U64 x8), is (Bl x9), is (I8 x10), is (Bl x11), big x12, big x13])]⟩) (fun v => some r = F183_7 N x2 x3 x4 x5 x6 x7 x8 x9 x10 x11 x12 x13 v) ?_ ?_
                    · skip
                      refine AW_region ?_
                      refine AL_cons (LR_bin (at_tmp 22 _) (at_c (v' := I8 0) rfl) (eql_I8 x14 0) rfl) (sS (sA (sT1 rfl) sT0) sB0 sF0) ?_
                      refine AL_cons (LR_assign (at_tmp 36 _) rfl) (sS (sT1 rfl) sB0 sF0) ?_
                      refine AL_nil ?_
                      exact thenN (cutLeaf (v := x14 == 0) hr (weak0 ((sT rfl (sT rfl (sT rfl sT0)))) (sub_keep (sub_keep sub_nil))))
                    · rintro x17 hr
                      show AW Hfaa.prog _ _ _ ⟨[(8, .inr (.inl (8, 0))), (9, .inr (.inl (9, 0))), (35, .inl (is (Bl x17)))], [(8, pb 175 [is (U64 x2), is (Bl x3), is (I8 x4), is (Bl x5), big x6, big x7]), (9, pb 175 [is (U64 x8), is (Bl x9), is (I8 x10), is (Bl x11), big x12, big x13])]⟩
                      have hr : some r = F183_7 N x2 x3 x4 x5 x6 x7 x8 x9 x10 x11 x12 x13 x17 := hr
                      refine AW_condT (b := x17) rfl (fun h => ?_) (fun h => ?_)
                      · have hr := hr.trans (cond_t h)
                        clear h
                        refine AW_cut (σ := Bool) (fun v => ⟨[(8, .inr (.inl (8, 0))), (9, .inr (.inl (9, 0))), (39, .inl (is (Bl v)))], [(8, pb 175 [is (U64 x2), is (Bl x3), is (I8 x4), is (Bl x5), big x6, big x7]), (9, pb 175 [is (U64 x8), is (Bl x9), is (I8 x10), is (Bl x11), big x12, big x13])]⟩) (fun v => some r = F183_8 N x2 x3 x4 x5 x6 x7 x8 x9 x10 x11 x12 x13 v) ?_ ?_
                        · skip
                          refine AW_region ?_
                          refine AL_cons (LR_fieldAddr (off := 0) (o := 1) (at_tmp 8 _) (fun b w => fa175_1 b 0 w) rfl) (sS (sT1 rfl) sB0 sF0) ?_
                          refine AL_cons (LR_load (at_tmp 37 _) na4 rfl rfl) (sS (sT1 rfl) (sB1 rfl) sF0) ?_
                          refine AL_cons (LR_un (at_tmp 38 _) (not_Bl x3) rfl) (sS (sT1 rfl) sB0 sF0) ?_
                          refine AL_nil ?_
                          exact thenN (cutLeaf (v := !x3) hr (weak0 ((sT rfl (sT rfl (sT rfl sT0)))) (sub_keep (sub_keep sub_nil))))
                        · rintro x18 hr
                          show AW Hfaa.prog _ _ _ ⟨[(8, .inr (.inl (8, 0))), (9, .inr (.inl (9, 0))), (39, .inl (is (Bl x18)))], [(8, pb 175 [is (U64 x2), is (Bl x3), is (I8 x4), is (Bl x5), big x6, big x7]), (9, pb 175 [is (U64 x8), is (Bl x9), is (I8 x10), is (Bl x11), big x12, big x13])]⟩
                          have hr : some r = F183_8 N x2 x3 x4 x5 x6 x7 x8 x9 x10 x11 x12 x13 x18 := hr
                          refine AW_condT (b := x18) rfl (fun h => ?_) (fun h => ?_)
                          · have hr := hr.trans (cond_t h)
                            clear h
                            refine AW_seq1 ?_
                            refine AW_region ?_
                            refine AL_cons (LR_fieldAddr (off := 0) (o := 0) (at_tmp 9 _) (fun b w => fa175_0 b 0 w) rfl) (sS (sT1 rfl) sB0 sF0) ?_
                            refine AL_cons (LR_load (at_tmp 40 _) na30 rfl rfl) (sS (sT1 rfl) (sB1 rfl) sF0) ?_
                            refine AL_cons (LR_assign (at_tmp 41 _) rfl) (sS (sT1 rfl) sB0 sF0) ?_
                            refine AL_cons (LR_assign (at_c (v' := U8 (0#8)) rfl) rfl) (sS sT0 sB0 sF0) ?_
                            refine AL_nil ?_
                            refine thenN ?_
                            refine AW_ret ?_
                            refine blR ?_
                            refine thenR ?_
                            obtain rfl := Option.some.inj hr
                            exact res2 rfl (rvT rfl) (rvT rfl)
                          · have hr := hr.trans (cond_f h)
                            clear h
                            refine AW_skip ?_
                            refine blN ?_
                            exact thenN (cutLeaf (v := ()) hr (weak0 ((sT rfl sT0)) (sub_keep (sub_drop sub_nil))))
                      · have hr := hr.trans (cond_f h)
                        clear h
                        refine AW_skip ?_
                        refine blN ?_
                        exact thenN (cutLeaf (v := ()) hr (weak0 ((sT rfl sT0)) (sub_keep (sub_drop sub_nil))))
        · rintro _ hr
          show AW Hfaa.prog _ _ _ ⟨[(8, .inr (.inl (8, 0)))], [(8, pb 175 [is (U64 x2), is (Bl x3), is (I8 x4), is (Bl x5), big x6, big x7])]⟩
          have hr : some r = F183_3 N x2 x3 x4 x5 x6 x7 := hr
          refine AW_seq1 ?_
          refine AW_region ?_
          refine AL_cons (LR_fieldAddr (off := 0) (o := 0) (at_tmp 8 _) (fun b w => fa175_0 b 0 w) rfl) (sS (sT1 rfl) sB0 sF0) ?_
          refine AL_cons (LR_load (at_tmp 42 _) na30 rfl rfl) (sS (sT1 rfl) (sB1 rfl) sF0) ?_
          refine AL_cons (LR_assign (at_tmp 43 _) rfl) (sS (sT1 rfl) sB0 sF0) ?_
          refine AL_cons (LR_assign (at_c (v' := U8 (0#8)) rfl) rfl) (sS sT0 sB0 sF0) ?_
          refine AL_nil ?_
          refine thenN ?_
          refine AW_ret ?_
          obtain rfl := Option.some.inj hr
          exact res2 rfl (rvT rfl) (rvT rfl)
/-- exact.Min -/
def F297_1 (N : Nat) (x1 : BitVec 64) : Option (BitVec 64) := some x1
def F297 (N : Nat) (a0_0 : BitVec 8) (a0_1 : BitVec 8) (a1 : BitVec 64) (a2 : BitVec 64) : Option (BitVec 64) := (F183 N a0_0 a0_1 a1 a2).bind fun y2 => F297_1 N y2.1
theorem C297 (N : Nat) (a0_0 : BitVec 8) (a0_1 : BitVec 8) (a1 : BitVec 64) (a2 : BitVec 64) (r : BitVec 64) (hr : some r = F297 N a0_0 a0_1 a1 a2) : Aw.Fn Hfaa.prog 297 [agg [is (U8 a0_0), is (U8 a0_1)], is (U64 a1), is (U64 a2)] (is (U64 r)) := by
  refine fn_intro Hfaa.func297 rfl rfl rfl ?_
  intro bn0 w0 H0
  refine AW_seq1 ?_
  refine AW_region ?_
  refine AL_cons (LR_box (at_tmp 0 _) (cells_agg _) rfl) (sS (sT1 rfl) sB0 (sF1 rfl)) ?_
  refine AL_cons (LR_assign (at_c (v' := U64 (0#64)) rfl) rfl) (sS sT0 sB0 sF0) ?_
  refine AL_nil ?_
  refine thenN ?_
  refine AW_cut (σ := BitVec 64) (fun v => ⟨[(7, .inl (is (U64 v)))], []⟩) (fun v => some r = F297_1 N v) ?_ ?_
  · skip
    refine AW_region ?_
    refine AL_cons (LR_loads (at_tmp 3 _) ag23 sz23 rfl rfl rfl) (sS (sT1 rfl) (sB1 rfl) sF0) ?_
    refine AL_cons (LR_move (at_tmp 1 _) rfl) (sS (sT1 rfl) sB0 sF0) ?_
    refine AL_cons (LR_move (at_tmp 2 _) rfl) (sS (sT1 rfl) sB0 sF0) ?_
    obtain ⟨y2, hy2, hr⟩ := bind_some hr
    refine AL_cons (LR_call Hfaa.func183 rfl rfl (C183 N a0_0 a0_1 a1 a2 y2 hy2) (all_cons (at_tmp 10 _) (all_cons (at_tmp 11 _) (all_cons (at_tmp 12 _) all_nil))) rfl) (sS (sA (sT1 rfl) (sA (sT1 rfl) (sA (sT1 rfl) sT0))) sB0 sF0) ?_
    refine AL_cons (LR_move (at_tmp 13 _) rfl) (sS (sT1 rfl) sB0 sF0) ?_
    refine AL_cons (LR_extract (at_tmp 9 _) rfl rfl) (sS (sT1 rfl) sB0 sF0) ?_
    refine AL_cons (LR_extract (at_tmp 9 _) rfl rfl) (sS (sT1 rfl) sB0 sF0) ?_
    refine AL_cons (LR_assign (at_tmp 14 _) rfl) (sS (sT1 rfl) sB0 sF0) ?_
    refine AL_cons (LR_assign (at_tmp 15 _) rfl) (sS (sT1 rfl) sB0 sF0) ?_
    refine AL_nil ?_
    exact thenN (cutLeaf (v := y2.1) hr (weak0 ((sT rfl sT0)) (sub_drop sub_nil)))
  · rintro x1 hr
    show AW Hfaa.prog _ _ _ ⟨[(7, .inl (is (U64 x1)))], []⟩
    have hr : some r = F297_1 N x1 := hr
    refine AW_seq1 ?_
    refine AW_region ?_
    refine AL_cons (LR_move (at_tmp 7 _) rfl) (sS (sT1 rfl) sB0 sF0) ?_
    refine AL_cons (LR_assign (at_tmp 16 _) rfl) (sS (sT1 rfl) sB0 sF0) ?_
    refine AL_nil ?_
    refine thenN ?_
    refine AW_ret ?_
    obtain rfl := Option.some.inj hr
    exact res1 rfl (rvT rfl)
/-- exact.MaxFlags -/
def F184_3 (N : Nat) (x2 : BitVec 64) (x3 : Bool) (x4 : Int) (x5 : Bool) (x6 : Nat) (x7 : Nat) : Option (BitVec 64 × BitVec 8) := some (x2, 0#8)
def F184_7 (N : Nat) (x2 : BitVec 64) (x3 : Bool) (x4 : Int) (x5 : Bool) (x6 : Nat) (x7 : Nat) (x8 : BitVec 64) (x9 : Bool) (x10 : Int) (x11 : Bool) (x12 : Nat) (x13 : Nat) (x17 : Bool) : Option (BitVec 64 × BitVec 8) := bif x17 then bif x3 then some (x8, 0#8) else F184_3 N x2 x3 x4 x5 x6 x7 else F184_3 N x2 x3 x4 x5 x6 x7
def F184_6 (N : Nat) (x2 : BitVec 64) (x3 : Bool) (x4 : Int) (x5 : Bool) (x6 : Nat) (x7 : Nat) (x8 : BitVec 64) (x9 : Bool) (x10 : Int) (x11 : Bool) (x12 : Nat) (x13 : Nat) (x14 : Int) (x16 : Bool) : Option (BitVec 64 × BitVec 8) := bif x16 then some (x8, 0#8) else F184_7 N x2 x3 x4 x5 x6 x7 x8 x9 x10 x11 x12 x13 (x14 == 0)
def F184_5 (N : Nat) (a0_0 : BitVec 8) (a0_1 : BitVec 8) (a1 : BitVec 64) (a2 : BitVec 64) (x2 : BitVec 64) (x3 : Bool) (x4 : Int) (x5 : Bool) (x6 : Nat) (x7 : Nat) (x8 : BitVec 64) (x9 : Bool) (x10 : Int) (x11 : Bool) (x12 : Nat) (x13 : Nat) (x14 : Int) (x15 : Bool) : Option (BitVec 64 × BitVec 8) := bif x15 then lt (F66 a0_0 a0_1) fun y15 => lt (F216 a0_0 a0_1 a1 a2) fun y16 => some (y15, y16) else F184_6 N x2 x3 x4 x5 x6 x7 x8 x9 x10 x11 x12 x13 x14 (x14 == (-1))
def F184_4 (N : Nat) (a0_0 : BitVec 8) (a0_1 : BitVec 8) (a1 : BitVec 64) (a2 : BitVec 64) (x2 : BitVec 64) (x3 : Bool) (x4 : Int) (x5 : Bool) (x6 : Nat) (x7 : Nat) (x8 : BitVec 64) (x9 : Bool) (x10 : Int) (x11 : Bool) (x12 : Nat) (x13 : Nat) (x14 : Int) : Option (BitVec 64 × BitVec 8) := F184_5 N a0_0 a0_1 a1 a2 x2 x3 x4 x5 x6 x7 x8 x9 x10 x11 x12 x13 x14 (x14 == 2)
def F184_2 (N : Nat) (a0_0 : BitVec 8) (a0_1 : BitVec 8) (a1 : BitVec 64) (a2 : BitVec 64) (x2 : BitVec 64) (x3 : Bool) (x4 : Int) (x5 : Bool) (x6 : Nat) (x7 : Nat) (x8 : BitVec 64) (x9 : Bool) (x10 : Int) (x11 : Bool) (x12 : Nat) (x13 : Nat) : Option (BitVec 64 × BitVec 8) := (F81 N a0_0 a0_1 a1 a2).bind fun y17 => F184_4 N a0_0 a0_1 a1 a2 x2 x3 x4 x5 x6 x7 x8 x9 x10 x11 x12 x13 y17
def F184_1 (N : Nat) (a0_0 : BitVec 8) (a0_1 : BitVec 8) (a1 : BitVec 64) (a2 : BitVec 64) (x1 : Bool) : Option (BitVec 64 × BitVec 8) := bif x1 then some (0#64, 0#8) else (F144 N a0_0 a0_1 a1).bind fun y18 => (F144 N a0_0 a0_1 a2).bind fun y19 => F184_2 N a0_0 a0_1 a1 a2 y18.1 y18.2.1 y18.2.2.1 y18.2.2.2.1 y18.2.2.2.2.1 y18.2.2.2.2.2 y19.1 y19.2.1 y19.2.2.1 y19.2.2.2.1 y19.2.2.2.2.1 y19.2.2.2.2.2
def F184 (N : Nat) (a0_0 : BitVec 8) (a0_1 : BitVec 8) (a1 : BitVec 64) (a2 : BitVec 64) : Option (BitVec 64 × BitVec 8) := lt (F40 a0_0 a0_1) fun y20 => F184_1 N a0_0 a0_1 a1 a2 (!y20)
theorem C184 (N : Nat) (a0_0 : BitVec 8) (a0_1 : BitVec 8) (a1 : BitVec 64) (a2 : BitVec 64) (r : BitVec 64 × BitVec 8) (hr : some r = F184 N a0_0 a0_1 a1 a2) : Aw.Fn Hfaa.prog 184 [agg [is (U8 a0_0), is (U8 a0_1)], is (U64 a1), is (U64 a2)] (tup [is (U64 r.1), is (U8 r.2)]) := by
  refine fn_intro Hfaa.func184 rfl rfl rfl ?_
  intro bn0 w0 H0
  refine AW_seq1 ?_
  refine AW_region ?_
  refine AL_cons (LR_box (at_tmp 0 _) (cells_agg _) rfl) (sS (sT1 rfl) sB0 (sF1 rfl)) ?_
  refine AL_cons (LR_assign (at_c (v' := U64 (0#64)) rfl) rfl) (sS sT0 sB0 sF0) ?_
  refine AL_cons (LR_assign (at_c (v' := U8 (0#8)) rfl) rfl) (sS sT0 sB0 sF0) ?_
  refine AL_nil ?_
  refine thenN ?_
  refine AW_seq1 ?_
  refine AW_cut (σ := Bool) (fun v => ⟨[(1, .inl (is (U64 a1))), (2, .inl (is (U64 a2))), (3, .inr (.inl (3, 0))), (12, .inl (is (Bl v)))], [(3, pb 23 [is (U8 a0_0), is (U8 a0_1)])]⟩) (fun v => some r = F184_1 N a0_0 a0_1 a1 a2 v) ?_ ?_
  · skip
    refine AW_region ?_
    refine AL_cons (LR_loads (at_tmp 3 _) ag23 sz23 rfl rfl rfl) (sS (sT1 rfl) (sB1 rfl) sF0) ?_
    obtain ⟨y20, hy20, hr⟩ := lt_some hr
    refine AL_cons (LR_call Hfaa.func40 rfl rfl (C40 a0_0 a0_1 y20 hy20) (all_cons (at_tmp 10 _) all_nil) rfl) (sS (sA (sT1 rfl) sT0) sB0 sF0) ?_
    refine AL_cons (LR_un (at_tmp 11 _) (not_Bl y20) rfl) (sS (sT1 rfl) sB0 sF0) ?_
    refine AL_nil ?_
    exact thenN (cutLeaf (v := !y20) hr (weak0 ((sT rfl (sT rfl (sT rfl (sT rfl sT0))))) (sub_keep sub_nil)))
  · rintro x1 hr
    show AW Hfaa.prog _ _ _ ⟨[(1, .inl (is (U64 a1))), (2, .inl (is (U64 a2))), (3, .inr (.inl (3, 0))), (12, .inl (is (Bl x1)))], [(3, pb 23 [is (U8 a0_0), is (U8 a0_1)])]⟩
    have hr : some r = F184_1 N a0_0 a0_1 a1 a2 x1 := hr
    refine AW_condT (b := x1) rfl (fun h => ?_) (fun h => ?_)
    · have hr := hr.trans (cond_t h)
      clear h
      refine AW_seq1 ?_
      refine AW_region ?_
      refine AL_cons (LR_assign (at_c (v' := U64 (0#64)) rfl) rfl) (sS sT0 sB0 sF0) ?_
      refine AL_cons (LR_assign (at_c (v' := U8 (0#8)) rfl) rfl) (sS sT0 sB0 sF0) ?_
      refine AL_nil ?_
      refine thenN ?_
      refine AW_ret ?_
      refine thenR ?_
      obtain rfl := Option.some.inj hr
      exact res2 rfl (rvT rfl) (rvT rfl)
    · have hr := hr.trans (cond_f h)
      clear h
      refine AW_skip ?_
      refine thenN ?_
      refine AW_cut (σ := BitVec 64 × Bool × Int × Bool × Nat × Nat × BitVec 64 × Bool × Int × Bool × Nat × Nat) (fun v => ⟨[(1, .inl (is (U64 a1))), (2, .inl (is (U64 a2))), (3, .inr (.inl (3, 0))), (8, .inr (.inl (8, 0))), (9, .inr (.inl (9, 0)))], [(3, pb 23 [is (U8 a0_0), is (U8 a0_1)]), (8, pb 175 [is (U64 v.1), is (Bl v.2.1), is (I8 v.2.2.1), is (Bl v.2.2.2.1), big v.2.2.2.2.1, big v.2.2.2.2.2.1]), (9, pb 175 [is (U64 v.2.2.2.2.2.2.1), is (Bl v.2.2.2.2.2.2.2.1), is (I8 v.2.2.2.2.2.2.2.2.1), is (Bl v.2.2.2.2.2.2.2.2.2.1), big v.2.2.2.2.2.2.2.2.2.2.1, big v.2.2.2.2.2.2.2.2.2.2.2])]⟩) (fun v => some r = F184_2 N a0_0 a0_1 a1 a2 v.1 v.2.1 v.2.2.1 v.2.2.2.1 v.2.2.2.2.1 v.2.2.2.2.2.1 v.2.2.2.2.2.2.1 v.2.2.2.2.2.2.2.1 v.2.2.2.2.2.2.2.2.1 v.2.2.2.2.2.2.2.2.2.1 v.2.2.2.2.2.2.2.2.2.2.1 v.2.2.2.2.2.2.2.2.2.2.2) ?_ ?_
      · skip
        obtain ⟨y18, hy18, hr⟩ := bind_some hr
        obtain ⟨y19, hy19, hr⟩ := bind_some hr
        refine AW_draw mixed
          (lrC (LR_loads (at_tmp 3 _) ag23 sz23 rfl rfl rfl)
          (lrC (LR_move (at_tmp 1 _) rfl)
          (lrC (LR_call Hfaa.func144 rfl rfl (C144 N a0_0 a0_1 a1 y18 hy18) (all_cons (at_tmp 13 _) (all_cons (at_tmp 14 _) all_nil)) rfl)
          (lrC (LR_loads (at_tmp 3 _) ag23 sz23 rfl rfl rfl)
          (lrC (LR_move (at_tmp 2 _) rfl)
          (lrC (LR_call Hfaa.func144 rfl rfl (C144 N a0_0 a0_1 a2 y19 hy19) (all_cons (at_tmp 16 _) (all_cons (at_tmp 17 _) all_nil)) rfl)
          (lrC (zl175 rfl)
          (lrC (zl175 rfl)
          (lrC (LR_store (at_tmp 8 _) (at_tmp 15 _) (cells_agg _) (onC (one_is rfl) (onC (one_is rfl) (onC (one_is rfl) (onC (one_is rfl) (onC (one_big _) (onC (one_big _) onN)))))) sz175 rfl rfl)
          (lrC (LR_store (at_tmp 9 _) (at_tmp 18 _) (cells_agg _) (onC (one_is rfl) (onC (one_is rfl) (onC (one_is rfl) (onC (one_is rfl) (onC (one_big _) (onC (one_big _) onN)))))) sz175 rfl rfl)
          lrN))))))))))
          (by kernel_rfl)
          (saC (sS (sT1 rfl) (sB1 rfl) sF0) (saC (sS (sT1 rfl) sB0 sF0) (saC (sS (sA (sT1 rfl) (sA (sT1 rfl) sT0)) sB0 sF0) (saC (sS (sT1 rfl) (sB1 rfl) sF0) (saC (sS (sT1 rfl) sB0 sF0) (saC (sS (sA (sT1 rfl) (sA (sT1 rfl) sT0)) sB0 sF0) (saC (sS sT0 sB0 (sF1 rfl)) (saC (sS sT0 sB0 (sF1 rfl)) (saC (sS (sA (sT1 rfl) (sT1 rfl)) (sB1 rfl) sF0) (saC (sS (sA (sT1 rfl) (sT1 rfl)) (sB1 rfl) sF0) saN)))))))))) ?_
        exact thenN (cutLeaf (v := (y18.1, y18.2.1, y18.2.2.1, y18.2.2.2.1, y18.2.2.2.2.1, y18.2.2.2.2.2, y19.1, y19.2.1, y19.2.2.1, y19.2.2.2.1, y19.2.2.2.2.1, y19.2.2.2.2.2)) hr (weak0 ((sT rfl (sT rfl (sT rfl (sT rfl (sT rfl sT0)))))) (sub_keep (sub_keep (sub_keep sub_nil)))))
      · rintro ⟨x2, x3, x4, x5, x6, x7, x8, x9, x10, x11, x12, x13⟩ hr
        show AW Hfaa.prog _ _ _ ⟨[(1, .inl (is (U64 a1))), (2, .inl (is (U64 a2))), (3, .inr (.inl (3, 0))), (8, .inr (.inl (8, 0))), (9, .inr (.inl (9, 0)))], [(3, pb 23 [is (U8 a0_0), is (U8 a0_1)]), (8, pb 175 [is (U64 x2), is (Bl x3), is (I8 x4), is (Bl x5), big x6, big x7]), (9, pb 175 [is (U64 x8), is (Bl x9), is (I8 x10), is (Bl x11), big x12, big x13])]⟩
        have hr : some r = F184_2 N a0_0 a0_1 a1 a2 x2 x3 x4 x5 x6 x7 x8 x9 x10 x11 x12 x13 := hr
        refine AW_cut (σ := Unit) (fun _ => ⟨[(8, .inr (.inl (8, 0)))], [(8, pb 175 [is (U64 x2), is (Bl x3), is (I8 x4), is (Bl x5), big x6, big x7])]⟩) (fun _ => some r = F184_3 N x2 x3 x4 x5 x6 x7) ?_ ?_
        · skip
          refine AW_cut (σ := Int) (fun v => ⟨[(1, .inl (is (U64 a1))), (2, .inl (is (U64 a2))), (3, .inr (.inl (3, 0))), (8, .inr (.inl (8, 0))), (9, .inr (.inl (9, 0))), (22, .inl (is (I8 v)))], [(3, pb 23 [is (U8 a0_0), is (U8 a0_1)]), (8, pb 175 [is (U64 x2), is (Bl x3), is (I8 x4), is (Bl x5), big x6, big x7]), (9, pb 175 [is (U64 x8), is (Bl x9), is (I8 x10), is (Bl x11), big x12, big x13])]⟩) (fun v => some r = F184_4 N a0_0 a0_1 a1 a2 x2 x3 x4 x5 x6 x7 x8 x9 x10 x11 x12 x13 v) ?_ ?_
          · skip
            refine AW_region ?_
            refine AL_cons (LR_loads (at_tmp 3 _) ag23 sz23 rfl rfl rfl) (sS (sT1 rfl) (sB1 rfl) sF0) ?_
            refine AL_cons (LR_move (at_tmp 1 _) rfl) (sS (sT1 rfl) sB0 sF0) ?_
            refine AL_cons (LR_move (at_tmp 2 _) rfl) (sS (sT1 rfl) sB0 sF0) ?_
            obtain ⟨y17, hy17, hr⟩ := bind_some hr
            refine AL_cons (LR_call Hfaa.func81 rfl rfl (C81 N a0_0 a0_1 a1 a2 y17 hy17) (all_cons (at_tmp 19 _) (all_cons (at_tmp 20 _) (all_cons (at_tmp 21 _) all_nil))) rfl) (sS (sA (sT1 rfl) (sA (sT1 rfl) (sA (sT1 rfl) sT0))) sB0 sF0) ?_
            refine AL_nil ?_
            exact thenN (cutLeaf (v := y17) hr (weak0 ((sT rfl (sT rfl (sT rfl (sT rfl (sT rfl (sT rfl sT0))))))) (sub_keep (sub_keep (sub_keep sub_nil)))))
          · rintro x14 hr
            show AW Hfaa.prog _ _ _ ⟨[(1, .inl (is (U64 a1))), (2, .inl (is (U64 a2))), (3, .inr (.inl (3, 0))), (8, .inr (.inl (8, 0))), (9, .inr (.inl (9, 0))), (22, .inl (is (I8 x14)))], [(3, pb 23 [is (U8 a0_0), is (U8 a0_1)]), (8, pb 175 [is (U64 x2), is (Bl x3), is (I8 x4), is (Bl x5), big x6, big x7]), (9, pb 175 [is (U64 x8), is (Bl x9), is (I8 x10), is (Bl x11), big x12, big x13])]⟩
            have hr : some r = F184_4 N a0_0 a0_1 a1 a2 x2 x3 x4 x5 x6 x7 x8 x9 x10 x11 x12 x13 x14 := hr
            refine AW_block ?_
            refine AW_cut (σ := Bool) (fun v => ⟨[(1, .inl (is (U64 a1))), (2, .inl (is (U64 a2))), (3, .inr (.inl (3, 0))), (8, .inr (.inl (8, 0))), (9, .inr (.inl (9, 0))), (22, .inl (is (I8 x14))), (23, .inl (is (Bl v)))], [(3, pb 23 [is (U8 a0_0), is (U8 a0_1)]), (8, pb 175 [is (U64 x2), is (Bl x3), is (I8 x4), is (Bl x5), big x6, big x7]), (9, pb 175 [is (U64 x8), is (Bl x9), is (I8 x10), is (Bl x11), big x12, big x13])]⟩) (fun v => some r = F184_5 N a0_0 a0_1 a1 a2 x2 x3 x4 x5 x6 x7 x8 x9 x10 x11 x12 x13 x14 v) ?_ ?_
            · skip
              refine AW_region ?_
              refine AL_cons (LR_bin (at_tmp 22 _) (at_c (v' := I8 2) rfl) (eql_I8 x14 2) rfl) (sS (sA (sT1 rfl) sT0) sB0 sF0) ?_
              refine AL_cons (LR_assign (at_tmp 24 _) rfl) (sS (sT1 rfl) sB0 sF0) ?_
              refine AL_nil ?_
              exact thenN (cutLeaf (v := x14 == 2) hr (weak0 ((sT rfl (sT rfl (sT rfl (sT rfl (sT rfl (sT rfl (sT rfl sT0)))))))) (sub_keep (sub_keep (sub_keep sub_nil)))))
            · rintro x15 hr
              show AW Hfaa.prog _ _ _ ⟨[(1, .inl (is (U64 a1))), (2, .inl (is (U64 a2))), (3, .inr (.inl (3, 0))), (8, .inr (.inl (8, 0))), (9, .inr (.inl (9, 0))), (22, .inl (is (I8 x14))), (23, .inl (is (Bl x15)))], [(3, pb 23 [is (U8 a0_0), is (U8 a0_1)]), (8, pb 175 [is (U64 x2), is (Bl x3), is (I8 x4), is (Bl x5), big x6, big x7]), (9, pb 175 [is (U64 x8), is (Bl x9), is (I8 x10), is (Bl x11), big x12, big x13])]⟩
              have hr : some r = F184_5 N a0_0 a0_1 a1 a2 x2 x3 x4 x5 x6 x7 x8 x9 x10 x11 x12 x13 x14 x15 := hr
              refine AW_condT (b := x15) rfl (fun h => ?_) (fun h => ?_)
              · have hr := hr.trans (cond_t h)
                clear h
                refine AW_seq1 ?_
                obtain ⟨y15, hy15, hr⟩ := lt_some hr
                obtain ⟨y16, hy16, hr⟩ := lt_some hr
                refine AW_draw mixed
                  (lrC (LR_loads (at_tmp 3 _) ag23 sz23 rfl rfl rfl)
                  (lrC (LR_call Hfaa.func66 rfl rfl (C66 a0_0 a0_1 y15 hy15) (all_cons (at_tmp 25 _) all_nil) rfl)
                  (lrC (LR_loads (at_tmp 3 _) ag23 sz23 rfl rfl rfl)
                  (lrC (LR_move (at_tmp 1 _) rfl)
                  (lrC (LR_move (at_tmp 2 _) rfl)
                  (lrC (LR_call Hfaa.func216 rfl rfl (C216 a0_0 a0_1 a1 a2 y16 hy16) (all_cons (at_tmp 27 _) (all_cons (at_tmp 28 _) (all_cons (at_tmp 29 _) all_nil))) rfl)
                  (lrC (LR_assign (at_tmp 26 _) rfl)
                  (lrC (LR_assign (at_tmp 30 _) rfl)
                  lrN))))))))
                  (by kernel_rfl)
                  (saC (sS (sT1 rfl) (sB1 rfl) sF0) (saC (sS (sA (sT1 rfl) sT0) sB0 sF0) (saC (sS (sT1 rfl) (sB1 rfl) sF0) (saC (sS (sT1 rfl) sB0 sF0) (saC (sS (sT1 rfl) sB0 sF0) (saC (sS (sA (sT1 rfl) (sA (sT1 rfl) (sA (sT1 rfl) sT0))) sB0 sF0) (saC (sS (sT1 rfl) sB0 sF0) (saC (sS (sT1 rfl) sB0 sF0) saN)))))))) ?_
                refine thenN ?_
                refine AW_ret ?_
                refine blR ?_
                refine thenR ?_
                obtain rfl := Option.some.inj hr
                exact res2 rfl (rvT rfl) (rvT rfl)
              · have hr := hr.trans (cond_f h)
                clear h
                refine AW_cut (σ := Bool) (fun v => ⟨[(8, .inr (.inl (8, 0))), (9, .inr (.inl (9, 0))), (22, .inl (is (I8 x14))), (31, .inl (is (Bl v)))], [(8, pb 175 [is (U64 x2), is (Bl x3), is (I8 x4), is (Bl x5), big x6, big x7]), (9, pb 175 [is (U64 x8), is (Bl x9), is (I8 x10), is (Bl x11), big x12, big x13])]⟩) (fun v => some r = F184_6 N x2 x3 x4 x5 x6 x7 x8 x9 x10 x11 x12 x13 x14 v) ?_ ?_
                · skip
                  refine AW_region ?_
                  refine AL_cons (LR_bin (at_tmp 22 _) (at_c (v' := I8 (-1)) rfl) (eql_I8 x14 (-1)) rfl) (sS (sA (sT1 rfl) sT0) sB0 sF0) ?_
                  refine AL_cons (LR_assign (at_tmp 32 _) rfl) (sS (sT1 rfl) sB0 sF0) ?_
                  refine AL_nil ?_
                  exact thenN (cutLeaf (v := x14 == (-1)) hr (weak0 ((sT rfl (sT rfl (sT rfl (sT rfl sT0))))) (sub_drop (sub_keep (sub_keep sub_nil)))))
                · rintro x16 hr
                  show AW Hfaa.prog _ _ _ ⟨[(8, .inr (.inl (8, 0))), (9, .inr (.inl (9, 0))), (22, .inl (is (I8 x14))), (31, .inl (is (Bl x16)))], [(8, pb 175 [is (U64 x2), is (Bl x3), is (I8 x4), is (Bl x5), big x6, big x7]), (9, pb 175 [is (U64 x8), is (Bl x9), is (I8 x10), is (Bl x11), big x12, big x13])]⟩
                  have hr : some r = F184_6 N x2 x3 x4 x5 x6 x7 x8 x9 x10 x11 x12 x13 x14 x16 := hr
                  refine AW_condT (b := x16) rfl (fun h => ?_) (fun h => ?_)
                  · have hr := hr.trans (cond_t h)
                    clear h
                    refine AW_seq1 ?_
                    refine AW_region ?_
                    refine AL_cons (LR_fieldAddr (off := 0) (o := 0) (at_tmp 9 _) (fun b w => fa175_0 b 0 w) rfl) (sS (sT1 rfl) sB0 sF0) ?_
                    refine AL_cons (LR_load (at_tmp 33 _) na30 rfl rfl) (sS (sT1 rfl) (sB1 rfl) sF0) ?_
                    refine AL_cons (LR_assign (at_tmp 34 _) rfl) (sS (sT1 rfl) sB0 sF0) ?_
                    refine AL_cons (LR_assign (at_c (v' := U8 (0#8)) rfl) rfl) (sS sT0 sB0 sF0) ?_
                    refine AL_nil ?_
                    refine thenN ?_
                    refine AW_ret ?_
                    refine blR ?_
                    refine thenR ?_
                    obtain rfl := Option.some.inj hr
                    exact res2 rfl (rvT rfl) (rvT rfl)
                  · have hr := hr.trans (cond_f h)
                    clear h
                    refine AW_cut (σ := Bool) (fun v => ⟨[(8, .inr (.inl (8, 0))), (9, .inr (.inl (9, 0))), (35, .inl (is (Bl v)))], [(8, pb 175 [is (U64 x2), is (Bl x3), is (I8 x4), is (Bl x5), big x6, big x7]), (9, pb 175 [is (U64 x8), is (Bl x9), is (I8 x10), is (Bl x11), big x12, big x13])]⟩) (fun v => some r = F184_7 N x2 x3 x4 x5 x6 x7 x8 x9 x10 x11 x12 x13 v) ?_ ?_
                    · skip
                      refine AW_region ?_
                      refine AL_cons (LR_bin (at_tmp 22 _) (at_c (v' := I8 0) rfl) (eql_I8 x14 0) rfl) (sS (sA (sT1 rfl) sT0) sB0 sF0) ?_
                      refine AL_cons (LR_assign (at_tmp 36 _) rfl) (sS (sT1 rfl) sB0 sF0) ?_
                      refine AL_nil ?_
                      exact thenN (cutLeaf (v := x14 == 0) hr (weak0 ((sT rfl (sT rfl (sT rfl sT0)))) (sub_keep (sub_keep sub_nil))))
                    · rintro x17 hr
                      show AW Hfaa.prog _ _ _ ⟨[(8, .inr (.inl (8, 0))), (9, .inr (.inl (9, 0))), (35, .inl (is (Bl x17)))], [(8, pb 175 [is (U64 x2), is (Bl x3), is (I8 x4), is (Bl x5), big x6, big x7]), (9, pb 175 [is (U64 x8), is (Bl x9), is (I8 x10), is (Bl x11), big x12, big x13])]⟩
                      have hr : some r = F184_7 N x2 x3 x4 x5 x6 x7 x8 x9 x10 x11 x12 x13 x17 := hr
                      refine AW_condT (b := x17) rfl (fun h => ?_) (fun h => ?_)
                      · have hr := hr.trans (cond_t h)
                        clear h
                        refine AW_seq1 ?_
                        refine AW_region ?_
                        refine AL_cons (LR_fieldAddr (off := 0) (o := 1) (at_tmp 8 _) (fun b w => fa175_1 b 0 w) rfl) (sS (sT1 rfl) sB0 sF0) ?_
                        refine AL_cons (LR_load (at_tmp 37 _) na4 rfl rfl) (sS (sT1 rfl) (sB1 rfl) sF0) ?_
                        refine AL_nil ?_
                        refine thenN ?_
                        refine AW_condT (b := x3) rfl (fun h => ?_) (fun h => ?_)
                        · have hr := hr.trans (cond_t h)
                          clear h
                          refine AW_seq1 ?_
                          refine AW_region ?_
                          refine AL_cons (LR_fieldAddr (off := 0) (o := 0) (at_tmp 9 _) (fun b w => fa175_0 b 0 w) rfl) (sS (sT1 rfl) sB0 sF0) ?_
                          refine AL_cons (LR_load (at_tmp 39 _) na30 rfl rfl) (sS (sT1 rfl) (sB1 rfl) sF0) ?_
                          refine AL_cons (LR_assign (at_tmp 40 _) rfl) (sS (sT1 rfl) sB0 sF0) ?_
                          refine AL_cons (LR_assign (at_c (v' := U8 (0#8)) rfl) rfl) (sS sT0 sB0 sF0) ?_
                          refine AL_nil ?_
                          refine thenN ?_
                          refine AW_ret ?_
                          refine blR ?_
                          refine thenR ?_
                          obtain rfl := Option.some.inj hr
                          exact res2 rfl (rvT rfl) (rvT rfl)
                        · have hr := hr.trans (cond_f h)
                          clear h
                          refine AW_skip ?_
                          refine blN ?_
                          exact thenN (cutLeaf (v := ()) hr (weak0 ((sT rfl sT0)) (sub_keep (sub_drop sub_nil))))
                      · have hr := hr.trans (cond_f h)
                        clear h
                        refine AW_skip ?_
                        refine blN ?_
                        exact thenN (cutLeaf (v := ()) hr (weak0 ((sT rfl sT0)) (sub_keep (sub_drop sub_nil))))
        · rintro _ hr
          show AW Hfaa.prog _ _ _ ⟨[(8, .inr (.inl (8, 0)))], [(8, pb 175 [is (U64 x2), is (Bl x3), is (I8 x4), is (Bl x5), big x6, big x7])]⟩
          have hr : some r = F184_3 N x2 x3 x4 x5 x6 x7 := hr
          refine AW_seq1 ?_
          refine AW_region ?_
          refine AL_cons (LR_fieldAddr (off := 0) (o := 0) (at_tmp 8 _) (fun b w => fa175_0 b 0 w) rfl) (sS (sT1 rfl) sB0 sF0) ?_
          refine AL_cons (LR_load (at_tmp 41 _) na30 rfl rfl) (sS (sT1 rfl) (sB1 rfl) sF0) ?_
          refine AL_cons (LR_assign (at_tmp 42 _) rfl) (sS (sT1 rfl) sB0 sF0) ?_
          refine AL_cons (LR_assign (at_c (v' := U8 (0#8)) rfl) rfl) (sS sT0 sB0 sF0) ?_
          refine AL_nil ?_
          refine thenN ?_
          refine AW_ret ?_
          obtain rfl := Option.some.inj hr
          exact res2 rfl (rvT rfl) (rvT rfl)
/-- exact.Max -/
def F298_1 (N : Nat) (x1 : BitVec 64) : Option (BitVec 64) := some x1
def F298 (N : Nat) (a0_0 : BitVec 8) (a0_1 : BitVec 8) (a1 : BitVec 64) (a2 : BitVec 64) : Option (BitVec 64) := (F184 N a0_0 a0_1 a1 a2).bind fun y2 => F298_1 N y2.1
theorem C298 (N : Nat) (a0_0 : BitVec 8) (a0_1 : BitVec 8) (a1 : BitVec 64) (a2 : BitVec 64) (r : BitVec 64) (hr : some r = F298 N a0_0 a0_1 a1 a2) : Aw.Fn Hfaa.prog 298 [agg [is (U8 a0_0), is (U8 a0_1)], is (U64 a1), is (U64 a2)] (is (U64 r)) := by
  refine fn_intro Hfaa.func298 rfl rfl rfl ?_
  intro bn0 w0 H0
  refine AW_seq1 ?_
  refine AW_region ?_
  refine AL_cons (LR_box (at_tmp 0 _) (cells_agg _) rfl) (sS (sT1 rfl) sB0 (sF1 rfl)) ?_
  refine AL_cons (LR_assign (at_c (v' := U64 (0#64)) rfl) rfl) (sS sT0 sB0 sF0) ?_
  refine AL_nil ?_
  refine thenN ?_
  refine AW_cut (σ := BitVec 64) (fun v => ⟨[(7, .inl (is (U64 v)))], []⟩) (fun v => some r = F298_1 N v) ?_ ?_
  · skip
    refine AW_region ?_
    refine AL_cons (LR_loads (at_tmp 3 _) ag23 sz23 rfl rfl rfl) (sS (sT1 rfl) (sB1 rfl) sF0) ?_
    refine AL_cons (LR_move (at_tmp 1 _) rfl) (sS (sT1 rfl) sB0 sF0) ?_
    refine AL_cons (LR_move (at_tmp 2 _) rfl) (sS (sT1 rfl) sB0 sF0) ?_
    obtain ⟨y2, hy2, hr⟩ := bind_some hr
    refine AL_cons (LR_call Hfaa.func184 rfl rfl (C184 N a0_0 a0_1 a1 a2 y2 hy2) (all_cons (at_tmp 10 _) (all_cons (at_tmp 11 _) (all_cons (at_tmp 12 _) all_nil))) rfl) (sS (sA (sT1 rfl) (sA (sT1 rfl) (sA (sT1 rfl) sT0))) sB0 sF0) ?_
    refine AL_cons (LR_move (at_tmp 13 _) rfl) (sS (sT1 rfl) sB0 sF0) ?_
    refine AL_cons (LR_extract (at_tmp 9 _) rfl rfl) (sS (sT1 rfl) sB0 sF0) ?_
    refine AL_cons (LR_extract (at_tmp 9 _) rfl rfl) (sS (sT1 rfl) sB0 sF0) ?_
    refine AL_cons (LR_assign (at_tmp 14 _) rfl) (sS (sT1 rfl) sB0 sF0) ?_
    refine AL_cons (LR_assign (at_tmp 15 _) rfl) (sS (sT1 rfl) sB0 sF0) ?_
    refine AL_nil ?_
    exact thenN (cutLeaf (v := y2.1) hr (weak0 ((sT rfl sT0)) (sub_drop sub_nil)))
  · rintro x1 hr
    show AW Hfaa.prog _ _ _ ⟨[(7, .inl (is (U64 x1)))], []⟩
    have hr : some r = F298_1 N x1 := hr
    refine AW_seq1 ?_
    refine AW_region ?_
    refine AL_cons (LR_move (at_tmp 7 _) rfl) (sS (sT1 rfl) sB0 sF0) ?_
    refine AL_cons (LR_assign (at_tmp 16 _) rfl) (sS (sT1 rfl) sB0 sF0) ?_
    refine AL_nil ?_
    refine thenN ?_
    refine AW_ret ?_
    obtain rfl := Option.some.inj hr
    exact res1 rfl (rvT rfl)
/-- exact.Round -/
def F78_1 (N : Nat) (x1 : BitVec 64) : Option (BitVec 64) := some x1
def F78 (N : Nat) (a0_0 : BitVec 8) (a0_1 : BitVec 8) (a1 : BitVec 8) (a2_0 : Bool) (a2_1 : Nat) (a2_2 : Nat) : Option (BitVec 64) := (F136 N a0_0 a0_1 a1 a2_0 a2_1 a2_2).bind fun y2 => F78_1 N y2.1
theorem C78 (N : Nat) (a0_0 : BitVec 8) (a0_1 : BitVec 8) (a1 : BitVec 8) (a2_0 : Bool) (a2_1 : Nat) (a2_2 : Nat) (r : BitVec 64) (hr : some r = F78 N a0_0 a0_1 a1 a2_0 a2_1 a2_2) : Aw.Fn Hfaa.prog 78 [agg [is (U8 a0_0), is (U8 a0_1)], is (U8 a1), agg [is (Bl a2_0), big a2_1, big a2_2]] (is (U64 r)) := by
  refine fn_intro Hfaa.func78 rfl rfl rfl ?_
  intro bn0 w0 H0
  refine AW_seq1 ?_
  refine AW_region ?_
  refine AL_cons (LR_box (at_tmp 0 _) (cells_agg _) rfl) (sS (sT1 rfl) sB0 (sF1 rfl)) ?_
  refine AL_cons (LR_box (at_tmp 2 _) (cells_agg _) rfl) (sS (sT1 rfl) sB0 (sF1 rfl)) ?_
  refine AL_cons (LR_assign (at_c (v' := U64 (0#64)) rfl) rfl) (sS sT0 sB0 sF0) ?_
  refine AL_nil ?_
  refine thenN ?_
  refine AW_cut (σ := BitVec 64) (fun v => ⟨[(7, .inl (is (U64 v)))], []⟩) (fun v => some r = F78_1 N v) ?_ ?_
  · skip
    refine AW_region ?_
    refine AL_cons (LR_loads (at_tmp 3 _) ag23 sz23 rfl rfl rfl) (sS (sT1 rfl) (sB1 rfl) sF0) ?_
    refine AL_cons (LR_move (at_tmp 1 _) rfl) (sS (sT1 rfl) sB0 sF0) ?_
    refine AL_cons (LR_loads (at_tmp 5 _) ag119 sz119 rfl rfl rfl) (sS (sT1 rfl) (sB1 rfl) sF0) ?_
    obtain ⟨y2, hy2, hr⟩ := bind_some hr
    refine AL_cons (LR_call Hfaa.func136 rfl rfl (C136 N a0_0 a0_1 a1 a2_0 a2_1 a2_2 y2 hy2) (all_cons (at_tmp 10 _) (all_cons (at_tmp 11 _) (all_cons (at_tmp 12 _) all_nil))) rfl) (sS (sA (sT1 rfl) (sA (sT1 rfl) (sA (sT1 rfl) sT0))) sB0 sF0) ?_
    refine AL_cons (LR_move (at_tmp 13 _) rfl) (sS (sT1 rfl) sB0 sF0) ?_
    refine AL_cons (LR_extract (at_tmp 9 _) rfl rfl) (sS (sT1 rfl) sB0 sF0) ?_
    refine AL_cons (LR_extract (at_tmp 9 _) rfl rfl) (sS (sT1 rfl) sB0 sF0) ?_
    refine AL_cons (LR_assign (at_tmp 14 _) rfl) (sS (sT1 rfl) sB0 sF0) ?_
    refine AL_cons (LR_assign (at_tmp 15 _) rfl) (sS (sT1 rfl) sB0 sF0) ?_
    refine AL_nil ?_
    exact thenN (cutLeaf (v := y2.1) hr (weak0 ((sT rfl sT0)) (sub_drop (sub_drop sub_nil))))
  · rintro x1 hr
    show AW Hfaa.prog _ _ _ ⟨[(7, .inl (is (U64 x1)))], []⟩
    have hr : some r = F78_1 N x1 := hr
    refine AW_seq1 ?_
    refine AW_region ?_
    refine AL_cons (LR_move (at_tmp 7 _) rfl) (sS (sT1 rfl) sB0 sF0) ?_
    refine AL_cons (LR_assign (at_tmp 16 _) rfl) (sS (sT1 rfl) sB0 sF0) ?_
    refine AL_nil ?_
    refine thenN ?_
    refine AW_ret ?_
    obtain rfl := Option.some.inj hr
    exact res1 rfl (rvT rfl)
/-- exact.nextUp -/
def F279_2 (N : Nat) (a0_0 : BitVec 8) (a0_1 : BitVec 8) (a1_0 : BitVec 64) (a1_1 : Bool) (a1_2 : Int) (a1_3 : Bool) (a1_4 : Nat) (a1_5 : Nat) (x2 : Bool) : Option (BitVec 64) := bif x2 then some a1_0 else lt (F246 a0_0 a0_1) fun y9 => (F130 N false ((1#64).toNat) (w64 ((w64 (y9 - (w64 (a0_1.toNat : Int)))) - 1))).bind fun y10 => (F146 N a1_3 a1_4 a1_5 y10.1 y10.2.1 y10.2.2).bind fun y11 => (F78 N a0_0 a0_1 (3#8) y11.1 y11.2.1 y11.2.2).bind fun y12 => some y12
def F279_1 (N : Nat) (a0_0 : BitVec 8) (a0_1 : BitVec 8) (a1_0 : BitVec 64) (a1_1 : Bool) (a1_2 : Int) (a1_3 : Bool) (a1_4 : Nat) (a1_5 : Nat) (x1 : Bool) : Option (BitVec 64) := bif x1 then lt (F68 a0_0 a0_1 true) fun y4 => some y4 else F279_2 N a0_0 a0_1 a1_0 a1_1 a1_2 a1_3 a1_4 a1_5 (a1_2 == 3)
def F279 (N : Nat) (a0_0 : BitVec 8) (a0_1 : BitVec 8) (a1_0 : BitVec 64) (a1_1 : Bool) (a1_2 : Int) (a1_3 : Bool) (a1_4 : Nat) (a1_5 : Nat) : Option (BitVec 64) := F279_1 N a0_0 a0_1 a1_0 a1_1 a1_2 a1_3 a1_4 a1_5 ((a1_2 == 3) && a1_1)
theorem C279 (N : Nat) (a0_0 : BitVec 8) (a0_1 : BitVec 8) (a1_0 : BitVec 64) (a1_1 : Bool) (a1_2 : Int) (a1_3 : Bool) (a1_4 : Nat) (a1_5 : Nat) (r : BitVec 64) (hr : some r = F279 N a0_0 a0_1 a1_0 a1_1 a1_2 a1_3 a1_4 a1_5) : Aw.Fn Hfaa.prog 279 [agg [is (U8 a0_0), is (U8 a0_1)], agg [is (U64 a1_0), is (Bl a1_1), is (I8 a1_2), is (Bl a1_3), big a1_4, big a1_5]] (is (U64 r)) := by
  refine fn_intro Hfaa.func279 rfl rfl rfl ?_
  intro bn0 w0 H0
  refine AW_seq1 ?_
  refine AW_region ?_
  refine AL_cons (LR_box (at_tmp 0 _) (cells_agg _) rfl) (sS (sT1 rfl) sB0 (sF1 rfl)) ?_
  refine AL_cons (LR_box (at_tmp 1 _) (cells_agg _) rfl) (sS (sT1 rfl) sB0 (sF1 rfl)) ?_
  refine AL_cons (LR_assign (at_c (v' := U64 (0#64)) rfl) rfl) (sS sT0 sB0 sF0) ?_
  refine AL_nil ?_
  refine thenN ?_
  refine AW_seq1 ?_
  refine AW_block ?_
  refine AW_cut (σ := Bool) (fun v => ⟨[(2, .inr (.inl (2, 0))), (3, .inr (.inl (3, 0))), (5, .inl (is (Bl v)))], [(2, pb 23 [is (U8 a0_0), is (U8 a0_1)]), (3, pb 175 [is (U64 a1_0), is (Bl a1_1), is (I8 a1_2), is (Bl a1_3), big a1_4, big a1_5])]⟩) (fun v => some r = F279_1 N a0_0 a0_1 a1_0 a1_1 a1_2 a1_3 a1_4 a1_5 v) ?_ ?_
  · skip
    refine AW_region ?_
    refine AL_cons (LR_fieldAddr (off := 0) (o := 2) (at_tmp 3 _) (fun b w => fa175_2 b 0 w) rfl) (sS (sT1 rfl) sB0 sF0) ?_
    refine AL_cons (LR_load (at_tmp 6 _) na110 rfl rfl) (sS (sT1 rfl) (sB1 rfl) sF0) ?_
    refine AL_cons (LR_bin (at_tmp 7 _) (at_c (v' := I8 3) rfl) (eql_I8 a1_2 3) rfl) (sS (sA (sT1 rfl) sT0) sB0 sF0) ?_
    refine AL_cons (LR_move (at_tmp 8 _) rfl) (sS (sT1 rfl) sB0 sF0) ?_
    refine AL_cutAt 3 ⟨[(0, .inl (agg [is (U8 a0_0), is (U8 a0_1)])), (1, .inl (agg [is (U64 a1_0), is (Bl a1_1), is (I8 a1_2), is (Bl a1_3), big a1_4, big a1_5])), (2, .inr (.inl (2, 0))), (3, .inr (.inl (3, 0))), (4, .inl (is (U64 (0#64)))), (6, .inr (.inl (3, 2))), (7, .inl (is (I8 a1_2))), (8, .inl (is (Bl (a1_2 == 3)))), (9, .inl (is (Bl (a1_2 == 3)))), (12, .inl (is (Bl ((a1_2 == 3) && a1_1))))], [(2, pb 23 [is (U8 a0_0), is (U8 a0_1)]), (3, pb 175 [is (U64 a1_0), is (Bl a1_1), is (I8 a1_2), is (Bl a1_3), big a1_4, big a1_5])]⟩ ?_ ?_
    · cases hb : a1_2 == 3
      · skip
        refine AL_cons (LR_off (b := false) rfl rfl rfl rfl) (sS (sT1 rfl) sB0 sF0) ?_
        refine AL_cons (LR_off (b := false) rfl rfl rfl rfl) (sS (sT1 rfl) sB0 sF0) ?_
        refine AL_cons (LR_pick (b := false) (at_tmp 9 _) (at_tmp 11 _) (at_c (v' := Bl false) rfl) rfl) (sS (sA (sT1 rfl) (sA (sT1 rfl) sT0)) sB0 sF0) ?_
        exact AL_nil ⟨rfl, weak0 ((sT rfl (sT rfl (sT rfl (sT rfl (sT rfl (sT rfl (sT rfl (sT rfl (sT rfl (sT rfl sT0))))))))))) (sub_keep (sub_keep sub_nil))⟩
      · skip
        refine AL_cons (LR_on rfl rfl rfl (LR_fieldAddr (off := 0) (o := 1) (at_tmp 3 _) (fun b w => fa175_1 b 0 w) rfl)) (sS (sT rfl (sT1 rfl)) sB0 sF0) ?_
        refine AL_cons (LR_on rfl rfl rfl (LR_load (at_tmp 10 _) na4 rfl rfl)) (sS (sT rfl (sT1 rfl)) (sB1 rfl) sF0) ?_
        refine AL_cons (LR_pick (b := true) (at_tmp 9 _) (at_tmp 11 _) (at_c (v' := Bl false) rfl) rfl) (sS (sA (sT1 rfl) (sA (sT1 rfl) sT0)) sB0 sF0) ?_
        exact AL_nil ⟨rfl, weak0 ((sT rfl (sT rfl (sT rfl (sT rfl (sT rfl (sT rfl (sT rfl (sT rfl (sT rfl (sT rfl sT0))))))))))) (sub_keep (sub_keep sub_nil))⟩
    refine AL_cons (LR_assign (at_tmp 12 _) rfl) (sS (sT1 rfl) sB0 sF0) ?_
    refine AL_nil ?_
    exact thenN (cutLeaf (v := (a1_2 == 3) && a1_1) hr (weak0 ((sT rfl (sT rfl (sT rfl sT0)))) (sub_keep (sub_keep sub_nil))))
  · rintro x1 hr
    show AW Hfaa.prog _ _ _ ⟨[(2, .inr (.inl (2, 0))), (3, .inr (.inl (3, 0))), (5, .inl (is (Bl x1)))], [(2, pb 23 [is (U8 a0_0), is (U8 a0_1)]), (3, pb 175 [is (U64 a1_0), is (Bl a1_1), is (I8 a1_2), is (Bl a1_3), big a1_4, big a1_5])]⟩
    have hr : some r = F279_1 N a0_0 a0_1 a1_0 a1_1 a1_2 a1_3 a1_4 a1_5 x1 := hr
    refine AW_condT (b := x1) rfl (fun h => ?_) (fun h => ?_)
    · have hr := hr.trans (cond_t h)
      clear h
      refine AW_seq1 ?_
      refine AW_region ?_
      refine AL_cons (LR_loads (at_tmp 2 _) ag23 sz23 rfl rfl rfl) (sS (sT1 rfl) (sB1 rfl) sF0) ?_
      obtain ⟨y4, hy4, hr⟩ := lt_some hr
      refine AL_cons (LR_call Hfaa.func68 rfl rfl (C68 a0_0 a0_1 true y4 hy4) (all_cons (at_tmp 13 _) (all_cons (at_c (v' := Bl true) rfl) all_nil)) rfl) (sS (sA (sT1 rfl) (sA sT0 sT0)) sB0 sF0) ?_
      refine AL_cons (LR_assign (at_tmp 14 _) rfl) (sS (sT1 rfl) sB0 sF0) ?_
      refine AL_nil ?_
      refine thenN ?_
      refine AW_ret ?_
      refine blR ?_
      refine thenR ?_
      obtain rfl := Option.some.inj hr
      exact res1 rfl (rvT rfl)
    · have hr := hr.trans (cond_f h)
      clear h
      refine AW_cut (σ := Bool) (fun v => ⟨[(2, .inr (.inl (2, 0))), (3, .inr (.inl (3, 0))), (15, .inl (is (Bl v)))], [(2, pb 23 [is (U8 a0_0), is (U8 a0_1)]), (3, pb 175 [is (U64 a1_0), is (Bl a1_1), is (I8 a1_2), is (Bl a1_3), big a1_4, big a1_5])]⟩) (fun v => some r = F279_2 N a0_0 a0_1 a1_0 a1_1 a1_2 a1_3 a1_4 a1_5 v) ?_ ?_
      · skip
        refine AW_region ?_
        refine AL_cons (LR_fieldAddr (off := 0) (o := 2) (at_tmp 3 _) (fun b w => fa175_2 b 0 w) rfl) (sS (sT1 rfl) sB0 sF0) ?_
        refine AL_cons (LR_load (at_tmp 16 _) na110 rfl rfl) (sS (sT1 rfl) (sB1 rfl) sF0) ?_
        refine AL_cons (LR_bin (at_tmp 17 _) (at_c (v' := I8 3) rfl) (eql_I8 a1_2 3) rfl) (sS (sA (sT1 rfl) sT0) sB0 sF0) ?_
        refine AL_cons (LR_assign (at_tmp 18 _) rfl) (sS (sT1 rfl) sB0 sF0) ?_
        refine AL_nil ?_
        exact thenN (cutLeaf (v := a1_2 == 3) hr (weak0 ((sT rfl (sT rfl (sT rfl sT0)))) (sub_keep (sub_keep sub_nil))))
      · rintro x2 hr
        show AW Hfaa.prog _ _ _ ⟨[(2, .inr (.inl (2, 0))), (3, .inr (.inl (3, 0))), (15, .inl (is (Bl x2)))], [(2, pb 23 [is (U8 a0_0), is (U8 a0_1)]), (3, pb 175 [is (U64 a1_0), is (Bl a1_1), is (I8 a1_2), is (Bl a1_3), big a1_4, big a1_5])]⟩
        have hr : some r = F279_2 N a0_0 a0_1 a1_0 a1_1 a1_2 a1_3 a1_4 a1_5 x2 := hr
        refine AW_condT (b := x2) rfl (fun h => ?_) (fun h => ?_)
        · have hr := hr.trans (cond_t h)
          clear h
          refine AW_seq1 ?_
          refine AW_region ?_
          refine AL_cons (LR_fieldAddr (off := 0) (o := 0) (at_tmp 3 _) (fun b w => fa175_0 b 0 w) rfl) (sS (sT1 rfl) sB0 sF0) ?_
          refine AL_cons (LR_load (at_tmp 19 _) na30 rfl rfl) (sS (sT1 rfl) (sB1 rfl) sF0) ?_
          refine AL_cons (LR_assign (at_tmp 20 _) rfl) (sS (sT1 rfl) sB0 sF0) ?_
          refine AL_nil ?_
          refine thenN ?_
          refine AW_ret ?_
          refine blR ?_
          refine thenR ?_
          obtain rfl := Option.some.inj hr
          exact res1 rfl (rvT rfl)
        · have hr := hr.trans (cond_f h)
          clear h
          refine AW_skip ?_
          refine blN ?_
          refine thenN ?_
          refine AW_seq1 ?_
          obtain ⟨y9, hy9, hr⟩ := lt_some hr
          obtain ⟨y10, hy10, hr⟩ := bind_some hr
          obtain ⟨y11, hy11, hr⟩ := bind_some hr
          obtain ⟨y12, hy12, hr⟩ := bind_some hr
          refine AW_draw mixed
            (lrC (LR_loads (at_tmp 2 _) ag23 sz23 rfl rfl rfl)
            (lrC (LR_fieldAddr (off := 0) (o := 3) (at_tmp 3 _) (fun b w => fa175_3 b 0 w) rfl)
            (lrC (LR_loads (at_tmp 22 _) ag119 sz119 rfl rfl rfl)
            (lrC (LR_call Hfaa.func20 rfl rfl (B20 (1#64)) (all_cons (at_c (v' := U64 (1#64)) rfl) all_nil) rfl)
            (lrC (LR_loads (at_tmp 2 _) ag23 sz23 rfl rfl rfl)
            (lrC (LR_call Hfaa.func246 rfl rfl (C246 a0_0 a0_1 y9 hy9) (all_cons (at_tmp 25 _) all_nil) rfl)
            (lrC (LR_fieldAddr (off := 0) (o := 1) (at_tmp 2 _) (fun b w => fa23_1 b 0 w) rfl)
            (lrC (LR_load (at_tmp 27 _) na5 rfl rfl)
            (lrC (LR_conv (vx := U8 a0_1) (at_tmp 28 _) (conv_I64 Hfaa.underlying5 Hfaa.underlying3 (a0_1.toNat : Int)) rfl)
            (lrC (LR_bin (at_tmp 26 _) (at_tmp 29 _) (sub_I64 y9 (w64 (a0_1.toNat : Int))) rfl)
            (lrC (LR_bin (at_tmp 30 _) (at_c (v' := I64 1) rfl) (sub_I64 (w64 (y9 - (w64 (a0_1.toNat : Int)))) 1) rfl)
            (lrC (LR_call Hfaa.func130 rfl rfl (C130 N false ((1#64).toNat) (w64 ((w64 (y9 - (w64 (a0_1.toNat : Int)))) - 1)) y10 hy10) (all_cons (at_c (v' := Bl false) rfl) (all_cons (at_tmp 24 _) (all_cons (at_tmp 31 _) all_nil))) rfl)
            (lrC (LR_call Hfaa.func146 rfl rfl (C146 N a1_3 a1_4 a1_5 y10.1 y10.2.1 y10.2.2 y11 hy11) (all_cons (at_tmp 23 _) (all_cons (at_tmp 32 _) all_nil)) rfl)
            (lrC (LR_call Hfaa.func78 rfl rfl (C78 N a0_0 a0_1 (3#8) y11.1 y11.2.1 y11.2.2 y12 hy12) (all_cons (at_tmp 21 _) (all_cons (at_c (v' := U8 (3#8)) rfl) (all_cons (at_tmp 33 _) all_nil))) rfl)
            (lrC (LR_assign (at_tmp 34 _) rfl)
            lrN)))))))))))))))
            (by kernel_rfl)
            (saC (sS (sT1 rfl) (sB1 rfl) sF0) (saC (sS (sT1 rfl) sB0 sF0) (saC (sS (sT1 rfl) (sB1 rfl) sF0) (saC (sS (sA sT0 sT0) sB0 sF0) (saC (sS (sT1 rfl) (sB1 rfl) sF0) (saC (sS (sA (sT1 rfl) sT0) sB0 sF0) (saC (sS (sT1 rfl) sB0 sF0) (saC (sS (sT1 rfl) (sB1 rfl) sF0) (saC (sS (sT1 rfl) sB0 sF0) (saC (sS (sA (sT1 rfl) (sT1 rfl)) sB0 sF0) (saC (sS (sA (sT1 rfl) sT0) sB0 sF0) (saC (sS (sA sT0 (sA (sT1 rfl) (sA (sT1 rfl) sT0))) sB0 sF0) (saC (sS (sA (sT1 rfl) (sA (sT1 rfl) sT0)) sB0 sF0) (saC (sS (sA (sT1 rfl) (sA sT0 (sA (sT1 rfl) sT0))) sB0 sF0) (saC (sS (sT1 rfl) sB0 sF0) saN))))))))))))))) ?_
          refine thenN ?_
          refine AW_ret ?_
          obtain rfl := Option.some.inj hr
          exact res1 rfl (rvT rfl)
end Go.Proofs.YfwaawGreat
