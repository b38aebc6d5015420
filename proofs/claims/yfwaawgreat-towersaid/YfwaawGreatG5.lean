import Derived.Test.YfwaawGreatG1
import Derived.Test.YfwaawGreatG2
import Derived.Test.YfwaawGreatG3
import Derived.Test.YfwaawGreatG4
namespace Go.Proofs.YfwaawGreat
open Go.Aw
set_option linter.unusedVariables false
set_option maxRecDepth 100000
set_option maxHeartbeats 1000000
/-- exact.Add -/
def F140_1 (N : Nat) (x1 : BitVec 64) : Option (BitVec 64) := some x1
def F140 (N : Nat) (a0_0 : BitVec 8) (a0_1 : BitVec 8) (a1 : BitVec 8) (a2 : BitVec 64) (a3 : BitVec 64) : Option (BitVec 64) := (F192 N a0_0 a0_1 a1 a2 a3).bind fun y2 => F140_1 N y2.1
theorem C140 (N : Nat) (a0_0 : BitVec 8) (a0_1 : BitVec 8) (a1 : BitVec 8) (a2 : BitVec 64) (a3 : BitVec 64) (r : BitVec 64) (hr : some r = F140 N a0_0 a0_1 a1 a2 a3) : Aw.Fn Hfaa.prog 140 [agg [is (U8 a0_0), is (U8 a0_1)], is (U8 a1), is (U64 a2), is (U64 a3)] (is (U64 r)) := by
  refine fn_intro Hfaa.func140 rfl rfl rfl ?_
  intro bn0 w0 H0
  refine AW_seq1 ?_
  refine AW_region ?_
  refine AL_cons (LR_box (at_tmp 0 _) (cells_agg _) rfl) (sS (sT1 rfl) sB0 (sF1 rfl)) ?_
  refine AL_cons (LR_assign (at_c (v' := U64 (0#64)) rfl) rfl) (sS sT0 sB0 sF0) ?_
  refine AL_nil ?_
  refine thenN ?_
  refine AW_cut (σ := BitVec 64) (fun v => ⟨[(9, .inl (is (U64 v)))], []⟩) (fun v => some r = F140_1 N v) ?_ ?_
  · skip
    refine AW_region ?_
    refine AL_cons (LR_loads (at_tmp 4 _) ag23 sz23 rfl rfl rfl) (sS (sT1 rfl) (sB1 rfl) sF0) ?_
    refine AL_cons (LR_move (at_tmp 1 _) rfl) (sS (sT1 rfl) sB0 sF0) ?_
    refine AL_cons (LR_move (at_tmp 2 _) rfl) (sS (sT1 rfl) sB0 sF0) ?_
    refine AL_cons (LR_move (at_tmp 3 _) rfl) (sS (sT1 rfl) sB0 sF0) ?_
    obtain ⟨y2, hy2, hr⟩ := bind_some hr
    refine AL_cons (LR_call Hfaa.func192 rfl rfl (C192 N a0_0 a0_1 a1 a2 a3 y2 hy2) (all_cons (at_tmp 12 _) (all_cons (at_tmp 13 _) (all_cons (at_tmp 14 _) (all_cons (at_tmp 15 _) all_nil)))) rfl) (sS (sA (sT1 rfl) (sA (sT1 rfl) (sA (sT1 rfl) (sA (sT1 rfl) sT0)))) sB0 sF0) ?_
    refine AL_cons (LR_move (at_tmp 16 _) rfl) (sS (sT1 rfl) sB0 sF0) ?_
    refine AL_cons (LR_extract (at_tmp 11 _) rfl rfl) (sS (sT1 rfl) sB0 sF0) ?_
    refine AL_cons (LR_extract (at_tmp 11 _) rfl rfl) (sS (sT1 rfl) sB0 sF0) ?_
    refine AL_cons (LR_assign (at_tmp 17 _) rfl) (sS (sT1 rfl) sB0 sF0) ?_
    refine AL_cons (LR_assign (at_tmp 18 _) rfl) (sS (sT1 rfl) sB0 sF0) ?_
    refine AL_nil ?_
    exact thenN (cutLeaf (v := y2.1) hr (weak0 ((sT rfl sT0)) (sub_drop sub_nil)))
  · rintro x1 hr
    show AW Hfaa.prog _ _ _ ⟨[(9, .inl (is (U64 x1)))], []⟩
    have hr : some r = F140_1 N x1 := hr
    refine AW_seq1 ?_
    refine AW_region ?_
    refine AL_cons (LR_move (at_tmp 9 _) rfl) (sS (sT1 rfl) sB0 sF0) ?_
    refine AL_cons (LR_assign (at_tmp 19 _) rfl) (sS (sT1 rfl) sB0 sF0) ?_
    refine AL_nil ?_
    refine thenN ?_
    refine AW_ret ?_
    obtain rfl := Option.some.inj hr
    exact res1 rfl (rvT rfl)
/-- exact.SubFlags -/
def F193 (N : Nat) (a0_0 : BitVec 8) (a0_1 : BitVec 8) (a1 : BitVec 8) (a2 : BitVec 64) (a3 : BitVec 64) : Option (BitVec 64 × BitVec 8) := lt (F70 a0_0 a0_1) fun y3 => (F192 N a0_0 a0_1 a1 a2 (a3 ^^^ y3)).bind fun y4 => some (y4.1, y4.2)
theorem C193 (N : Nat) (a0_0 : BitVec 8) (a0_1 : BitVec 8) (a1 : BitVec 8) (a2 : BitVec 64) (a3 : BitVec 64) (r : BitVec 64 × BitVec 8) (hr : some r = F193 N a0_0 a0_1 a1 a2 a3) : Aw.Fn Hfaa.prog 193 [agg [is (U8 a0_0), is (U8 a0_1)], is (U8 a1), is (U64 a2), is (U64 a3)] (tup [is (U64 r.1), is (U8 r.2)]) := by
  refine fn_intro Hfaa.func193 rfl rfl rfl ?_
  intro bn0 w0 H0
  refine AW_seq1 ?_
  refine AW_region ?_
  refine AL_cons (LR_box (at_tmp 0 _) (cells_agg _) rfl) (sS (sT1 rfl) sB0 (sF1 rfl)) ?_
  refine AL_cons (LR_assign (at_c (v' := U64 (0#64)) rfl) rfl) (sS sT0 sB0 sF0) ?_
  refine AL_cons (LR_assign (at_c (v' := U8 (0#8)) rfl) rfl) (sS sT0 sB0 sF0) ?_
  refine AL_nil ?_
  refine thenN ?_
  refine AW_seq1 ?_
  obtain ⟨y3, hy3, hr⟩ := lt_some hr
  obtain ⟨y4, hy4, hr⟩ := bind_some hr
  refine AW_draw mixed
    (lrC (LR_loads (at_tmp 4 _) ag23 sz23 rfl rfl rfl)
    (lrC (LR_move (at_tmp 1 _) rfl)
    (lrC (LR_move (at_tmp 2 _) rfl)
    (lrC (LR_move (at_tmp 3 _) rfl)
    (lrC (LR_loads (at_tmp 4 _) ag23 sz23 rfl rfl rfl)
    (lrC (LR_call Hfaa.func70 rfl rfl (C70 a0_0 a0_1 y3 hy3) (all_cons (at_tmp 14 _) all_nil) rfl)
    (lrC (LR_bin (at_tmp 13 _) (at_tmp 15 _) (xor_U64 a3 y3) rfl)
    (lrC (LR_call Hfaa.func192 rfl rfl (C192 N a0_0 a0_1 a1 a2 (a3 ^^^ y3) y4 hy4) (all_cons (at_tmp 10 _) (all_cons (at_tmp 11 _) (all_cons (at_tmp 12 _) (all_cons (at_tmp 16 _) all_nil)))) rfl)
    (lrC (LR_extract (at_tmp 17 _) rfl rfl)
    (lrC (LR_extract (at_tmp 17 _) rfl rfl)
    (lrC (LR_assign (at_tmp 18 _) rfl)
    (lrC (LR_assign (at_tmp 19 _) rfl)
    lrN))))))))))))
    (by kernel_rfl)
    (saC (sS (sT1 rfl) (sB1 rfl) sF0) (saC (sS (sT1 rfl) sB0 sF0) (saC (sS (sT1 rfl) sB0 sF0) (saC (sS (sT1 rfl) sB0 sF0) (saC (sS (sT1 rfl) (sB1 rfl) sF0) (saC (sS (sA (sT1 rfl) sT0) sB0 sF0) (saC (sS (sA (sT1 rfl) (sT1 rfl)) sB0 sF0) (saC (sS (sA (sT1 rfl) (sA (sT1 rfl) (sA (sT1 rfl) (sA (sT1 rfl) sT0)))) sB0 sF0) (saC (sS (sT1 rfl) sB0 sF0) (saC (sS (sT1 rfl) sB0 sF0) (saC (sS (sT1 rfl) sB0 sF0) (saC (sS (sT1 rfl) sB0 sF0) saN)))))))))))) ?_
  refine thenN ?_
  refine AW_ret ?_
  obtain rfl := Option.some.inj hr
  exact res2 rfl (rvT rfl) (rvT rfl)
/-- exact.Sub -/
def F141_1 (N : Nat) (x1 : BitVec 64) : Option (BitVec 64) := some x1
def F141 (N : Nat) (a0_0 : BitVec 8) (a0_1 : BitVec 8) (a1 : BitVec 8) (a2 : BitVec 64) (a3 : BitVec 64) : Option (BitVec 64) := (F193 N a0_0 a0_1 a1 a2 a3).bind fun y2 => F141_1 N y2.1
theorem C141 (N : Nat) (a0_0 : BitVec 8) (a0_1 : BitVec 8) (a1 : BitVec 8) (a2 : BitVec 64) (a3 : BitVec 64) (r : BitVec 64) (hr : some r = F141 N a0_0 a0_1 a1 a2 a3) : Aw.Fn Hfaa.prog 141 [agg [is (U8 a0_0), is (U8 a0_1)], is (U8 a1), is (U64 a2), is (U64 a3)] (is (U64 r)) := by
  refine fn_intro Hfaa.func141 rfl rfl rfl ?_
  intro bn0 w0 H0
  refine AW_seq1 ?_
  refine AW_region ?_
  refine AL_cons (LR_box (at_tmp 0 _) (cells_agg _) rfl) (sS (sT1 rfl) sB0 (sF1 rfl)) ?_
  refine AL_cons (LR_assign (at_c (v' := U64 (0#64)) rfl) rfl) (sS sT0 sB0 sF0) ?_
  refine AL_nil ?_
  refine thenN ?_
  refine AW_cut (σ := BitVec 64) (fun v => ⟨[(9, .inl (is (U64 v)))], []⟩) (fun v => some r = F141_1 N v) ?_ ?_
  · skip
    refine AW_region ?_
    refine AL_cons (LR_loads (at_tmp 4 _) ag23 sz23 rfl rfl rfl) (sS (sT1 rfl) (sB1 rfl) sF0) ?_
    refine AL_cons (LR_move (at_tmp 1 _) rfl) (sS (sT1 rfl) sB0 sF0) ?_
    refine AL_cons (LR_move (at_tmp 2 _) rfl) (sS (sT1 rfl) sB0 sF0) ?_
    refine AL_cons (LR_move (at_tmp 3 _) rfl) (sS (sT1 rfl) sB0 sF0) ?_
    obtain ⟨y2, hy2, hr⟩ := bind_some hr
    refine AL_cons (LR_call Hfaa.func193 rfl rfl (C193 N a0_0 a0_1 a1 a2 a3 y2 hy2) (all_cons (at_tmp 12 _) (all_cons (at_tmp 13 _) (all_cons (at_tmp 14 _) (all_cons (at_tmp 15 _) all_nil)))) rfl) (sS (sA (sT1 rfl) (sA (sT1 rfl) (sA (sT1 rfl) (sA (sT1 rfl) sT0)))) sB0 sF0) ?_
    refine AL_cons (LR_move (at_tmp 16 _) rfl) (sS (sT1 rfl) sB0 sF0) ?_
    refine AL_cons (LR_extract (at_tmp 11 _) rfl rfl) (sS (sT1 rfl) sB0 sF0) ?_
    refine AL_cons (LR_extract (at_tmp 11 _) rfl rfl) (sS (sT1 rfl) sB0 sF0) ?_
    refine AL_cons (LR_assign (at_tmp 17 _) rfl) (sS (sT1 rfl) sB0 sF0) ?_
    refine AL_cons (LR_assign (at_tmp 18 _) rfl) (sS (sT1 rfl) sB0 sF0) ?_
    refine AL_nil ?_
    exact thenN (cutLeaf (v := y2.1) hr (weak0 ((sT rfl sT0)) (sub_drop sub_nil)))
  · rintro x1 hr
    show AW Hfaa.prog _ _ _ ⟨[(9, .inl (is (U64 x1)))], []⟩
    have hr : some r = F141_1 N x1 := hr
    refine AW_seq1 ?_
    refine AW_region ?_
    refine AL_cons (LR_move (at_tmp 9 _) rfl) (sS (sT1 rfl) sB0 sF0) ?_
    refine AL_cons (LR_assign (at_tmp 19 _) rfl) (sS (sT1 rfl) sB0 sF0) ?_
    refine AL_nil ?_
    refine thenN ?_
    refine AW_ret ?_
    obtain rfl := Option.some.inj hr
    exact res1 rfl (rvT rfl)
/-- exact.MulFlags -/
def F194_6 (N : Nat) (a0_0 : BitVec 8) (a0_1 : BitVec 8) (a1 : BitVec 8) (x2 : BitVec 64) (x3 : Bool) (x4 : Int) (x5 : Bool) (x6 : Nat) (x7 : Nat) (x8 : BitVec 64) (x9 : Bool) (x10 : Int) (x11 : Bool) (x12 : Nat) (x13 : Nat) (x14 : Bool) (x17 : Bool) : Option (BitVec 64 × BitVec 8) := bif x17 then lt (F67 a0_0 a0_1 x14) fun y21 => some (y21, 0#8) else bif lim x6 && lim x12 then bif lim x7 && lim x13 then (F136 N a0_0 a0_1 a1 x14 (x6 * x12) (x7 * x13)).bind fun y23 => some (y23.1, y23.2) else none else none
def F194_5 (N : Nat) (a0_0 : BitVec 8) (a0_1 : BitVec 8) (a1 : BitVec 8) (x2 : BitVec 64) (x3 : Bool) (x4 : Int) (x5 : Bool) (x6 : Nat) (x7 : Nat) (x8 : BitVec 64) (x9 : Bool) (x10 : Int) (x11 : Bool) (x12 : Nat) (x13 : Nat) (x14 : Bool) (x16 : Bool) : Option (BitVec 64 × BitVec 8) := bif x16 then lt (F66 a0_0 a0_1) fun y19 => some (y19, 1#8) else F194_6 N a0_0 a0_1 a1 x2 x3 x4 x5 x6 x7 x8 x9 x10 x11 x12 x13 x14 ((x4 == 3) || (x10 == 3))
def F194_7 (N : Nat) (a0_0 : BitVec 8) (a0_1 : BitVec 8) (a1 : BitVec 8) (x2 : BitVec 64) (x3 : Bool) (x4 : Int) (x5 : Bool) (x6 : Nat) (x7 : Nat) (x8 : BitVec 64) (x9 : Bool) (x10 : Int) (x11 : Bool) (x12 : Nat) (x13 : Nat) (x14 : Bool) (x18 : Bool) : Option (BitVec 64 × BitVec 8) := bif x18 then F194_5 N a0_0 a0_1 a1 x2 x3 x4 x5 x6 x7 x8 x9 x10 x11 x12 x13 x14 x18 else F194_5 N a0_0 a0_1 a1 x2 x3 x4 x5 x6 x7 x8 x9 x10 x11 x12 x13 x14 ((x4 == 0) && (x10 == 3))
def F194_4 (N : Nat) (a0_0 : BitVec 8) (a0_1 : BitVec 8) (a1 : BitVec 8) (a2 : BitVec 64) (a3 : BitVec 64) (x2 : BitVec 64) (x3 : Bool) (x4 : Int) (x5 : Bool) (x6 : Nat) (x7 : Nat) (x8 : BitVec 64) (x9 : Bool) (x10 : Int) (x11 : Bool) (x12 : Nat) (x13 : Nat) (x14 : Bool) (x15 : Bool) : Option (BitVec 64 × BitVec 8) := bif x15 then lt (F66 a0_0 a0_1) fun y16 => lt (F216 a0_0 a0_1 a2 a3) fun y17 => some (y16, y17) else F194_7 N a0_0 a0_1 a1 x2 x3 x4 x5 x6 x7 x8 x9 x10 x11 x12 x13 x14 ((x4 == 3) && (x10 == 0))
def F194_3 (N : Nat) (a0_0 : BitVec 8) (a0_1 : BitVec 8) (a1 : BitVec 8) (a2 : BitVec 64) (a3 : BitVec 64) (x2 : BitVec 64) (x3 : Bool) (x4 : Int) (x5 : Bool) (x6 : Nat) (x7 : Nat) (x8 : BitVec 64) (x9 : Bool) (x10 : Int) (x11 : Bool) (x12 : Nat) (x13 : Nat) (x14 : Bool) : Option (BitVec 64 × BitVec 8) := F194_4 N a0_0 a0_1 a1 a2 a3 x2 x3 x4 x5 x6 x7 x8 x9 x10 x11 x12 x13 x14 ((x4 == 4) || (x10 == 4))
def F194_2 (N : Nat) (a0_0 : BitVec 8) (a0_1 : BitVec 8) (a1 : BitVec 8) (a2 : BitVec 64) (a3 : BitVec 64) (x2 : BitVec 64) (x3 : Bool) (x4 : Int) (x5 : Bool) (x6 : Nat) (x7 : Nat) (x8 : BitVec 64) (x9 : Bool) (x10 : Int) (x11 : Bool) (x12 : Nat) (x13 : Nat) : Option (BitVec 64 × BitVec 8) := F194_3 N a0_0 a0_1 a1 a2 a3 x2 x3 x4 x5 x6 x7 x8 x9 x10 x11 x12 x13 (x3 != x9)
def F194_1 (N : Nat) (a0_0 : BitVec 8) (a0_1 : BitVec 8) (a1 : BitVec 8) (a2 : BitVec 64) (a3 : BitVec 64) (x1 : Bool) : Option (BitVec 64 × BitVec 8) := bif x1 then some (0#64, 0#8) else (F144 N a0_0 a0_1 a2).bind fun y24 => (F144 N a0_0 a0_1 a3).bind fun y25 => F194_2 N a0_0 a0_1 a1 a2 a3 y24.1 y24.2.1 y24.2.2.1 y24.2.2.2.1 y24.2.2.2.2.1 y24.2.2.2.2.2 y25.1 y25.2.1 y25.2.2.1 y25.2.2.2.1 y25.2.2.2.2.1 y25.2.2.2.2.2
def F194 (N : Nat) (a0_0 : BitVec 8) (a0_1 : BitVec 8) (a1 : BitVec 8) (a2 : BitVec 64) (a3 : BitVec 64) : Option (BitVec 64 × BitVec 8) := lt (F40 a0_0 a0_1) fun y26 => F194_1 N a0_0 a0_1 a1 a2 a3 (!y26)
theorem C194 (N : Nat) (a0_0 : BitVec 8) (a0_1 : BitVec 8) (a1 : BitVec 8) (a2 : BitVec 64) (a3 : BitVec 64) (r : BitVec 64 × BitVec 8) (hr : some r = F194 N a0_0 a0_1 a1 a2 a3) : Aw.Fn Hfaa.prog 194 [agg [is (U8 a0_0), is (U8 a0_1)], is (U8 a1), is (U64 a2), is (U64 a3)] (tup [is (U64 r.1), is (U8 r.2)]) := by
  refine fn_intro Hfaa.func194 rfl rfl rfl ?_
  intro bn0 w0 H0
  refine AW_seq1 ?_
  refine AW_region ?_
  refine AL_cons (LR_box (at_tmp 0 _) (cells_agg _) rfl) (sS (sT1 rfl) sB0 (sF1 rfl)) ?_
  refine AL_cons (LR_assign (at_c (v' := U64 (0#64)) rfl) rfl) (sS sT0 sB0 sF0) ?_
  refine AL_cons (LR_assign (at_c (v' := U8 (0#8)) rfl) rfl) (sS sT0 sB0 sF0) ?_
  refine AL_nil ?_
  refine thenN ?_
  refine AW_seq1 ?_
  refine AW_cut (σ := Bool) (fun v => ⟨[(1, .inl (is (U8 a1))), (2, .inl (is (U64 a2))), (3, .inl (is (U64 a3))), (4, .inr (.inl (4, 0))), (15, .inl (is (Bl v)))], [(4, pb 23 [is (U8 a0_0), is (U8 a0_1)])]⟩) (fun v => some r = F194_1 N a0_0 a0_1 a1 a2 a3 v) ?_ ?_
  · skip
    refine AW_region ?_
    refine AL_cons (LR_loads (at_tmp 4 _) ag23 sz23 rfl rfl rfl) (sS (sT1 rfl) (sB1 rfl) sF0) ?_
    obtain ⟨y26, hy26, hr⟩ := lt_some hr
    refine AL_cons (LR_call Hfaa.func40 rfl rfl (C40 a0_0 a0_1 y26 hy26) (all_cons (at_tmp 13 _) all_nil) rfl) (sS (sA (sT1 rfl) sT0) sB0 sF0) ?_
    refine AL_cons (LR_un (at_tmp 14 _) (not_Bl y26) rfl) (sS (sT1 rfl) sB0 sF0) ?_
    refine AL_nil ?_
    exact thenN (cutLeaf (v := !y26) hr (weak0 ((sT rfl (sT rfl (sT rfl (sT rfl (sT rfl sT0)))))) (sub_keep sub_nil)))
  · rintro x1 hr
    show AW Hfaa.prog _ _ _ ⟨[(1, .inl (is (U8 a1))), (2, .inl (is (U64 a2))), (3, .inl (is (U64 a3))), (4, .inr (.inl (4, 0))), (15, .inl (is (Bl x1)))], [(4, pb 23 [is (U8 a0_0), is (U8 a0_1)])]⟩
    have hr : some r = F194_1 N a0_0 a0_1 a1 a2 a3 x1 := hr
    refine AW_condT (b := x1) rfl (fun h => ?_) (fun h => ?_)
    · have hr := hr.trans (cond_t h)
      clear h
      refine AW_seq1 ?_
      refine AW_region ?_
      refine AL_cons (LR_assign (at_c (v' := U64 (0#64)) rfl) rfl) (sS sT0 sB0 sF0) ?_
      refine AL_cons (LR_assign (at_c (v' := U8 (0#8)) rfl) rfl) (sS sT0 sB0 sF0) ?_
      refine AL_nil ?_
      refine thenN ?_
      refine AW_ret ?_
      refine thenR ?_
      obtain rfl := Option.some.inj hr
      exact res2 rfl (rvT rfl) (rvT rfl)
    · have hr := hr.trans (cond_f h)
      clear h
      refine AW_skip ?_
      refine thenN ?_
      refine AW_cut (σ := BitVec 64 × Bool × Int × Bool × Nat × Nat × BitVec 64 × Bool × Int × Bool × Nat × Nat) (fun v => ⟨[(1, .inl (is (U8 a1))), (2, .inl (is (U64 a2))), (3, .inl (is (U64 a3))), (4, .inr (.inl (4, 0))), (10, .inr (.inl (10, 0))), (11, .inr (.inl (11, 0)))], [(4, pb 23 [is (U8 a0_0), is (U8 a0_1)]), (10, pb 175 [is (U64 v.1), is (Bl v.2.1), is (I8 v.2.2.1), is (Bl v.2.2.2.1), big v.2.2.2.2.1, big v.2.2.2.2.2.1]), (11, pb 175 [is (U64 v.2.2.2.2.2.2.1), is (Bl v.2.2.2.2.2.2.2.1), is (I8 v.2.2.2.2.2.2.2.2.1), is (Bl v.2.2.2.2.2.2.2.2.2.1), big v.2.2.2.2.2.2.2.2.2.2.1, big v.2.2.2.2.2.2.2.2.2.2.2])]⟩) (fun v => some r = F194_2 N a0_0 a0_1 a1 a2 a3 v.1 v.2.1 v.2.2.1 v.2.2.2.1 v.2.2.2.2.1 v.2.2.2.2.2.1 v.2.2.2.2.2.2.1 v.2.2.2.2.2.2.2.1 v.2.2.2.2.2.2.2.2.1 v.2.2.2.2.2.2.2.2.2.1 v.2.2.2.2.2.2.2.2.2.2.1 v.2.2.2.2.2.2.2.2.2.2.2) ?_ ?_
      · skip
        obtain ⟨y24, hy24, hr⟩ := bind_some hr
        obtain ⟨y25, hy25, hr⟩ := bind_some hr
        refine AW_draw mixed
          (lrC (LR_loads (at_tmp 4 _) ag23 sz23 rfl rfl rfl)
          (lrC (LR_move (at_tmp 2 _) rfl)
          (lrC (LR_call Hfaa.func144 rfl rfl (C144 N a0_0 a0_1 a2 y24 hy24) (all_cons (at_tmp 16 _) (all_cons (at_tmp 17 _) all_nil)) rfl)
          (lrC (LR_loads (at_tmp 4 _) ag23 sz23 rfl rfl rfl)
          (lrC (LR_move (at_tmp 3 _) rfl)
          (lrC (LR_call Hfaa.func144 rfl rfl (C144 N a0_0 a0_1 a3 y25 hy25) (all_cons (at_tmp 19 _) (all_cons (at_tmp 20 _) all_nil)) rfl)
          (lrC (zl175 rfl)
          (lrC (zl175 rfl)
          (lrC (LR_store (at_tmp 10 _) (at_tmp 18 _) (cells_agg _) (onC (one_is rfl) (onC (one_is rfl) (onC (one_is rfl) (onC (one_is rfl) (onC (one_big _) (onC (one_big _) onN)))))) sz175 rfl rfl)
          (lrC (LR_store (at_tmp 11 _) (at_tmp 21 _) (cells_agg _) (onC (one_is rfl) (onC (one_is rfl) (onC (one_is rfl) (onC (one_is rfl) (onC (one_big _) (onC (one_big _) onN)))))) sz175 rfl rfl)
          lrN))))))))))
          (by kernel_rfl)
          (saC (sS (sT1 rfl) (sB1 rfl) sF0) (saC (sS (sT1 rfl) sB0 sF0) (saC (sS (sA (sT1 rfl) (sA (sT1 rfl) sT0)) sB0 sF0) (saC (sS (sT1 rfl) (sB1 rfl) sF0) (saC (sS (sT1 rfl) sB0 sF0) (saC (sS (sA (sT1 rfl) (sA (sT1 rfl) sT0)) sB0 sF0) (saC (sS sT0 sB0 (sF1 rfl)) (saC (sS sT0 sB0 (sF1 rfl)) (saC (sS (sA (sT1 rfl) (sT1 rfl)) (sB1 rfl) sF0) (saC (sS (sA (sT1 rfl) (sT1 rfl)) (sB1 rfl) sF0) saN)))))))))) ?_
        exact thenN (cutLeaf (v := (y24.1, y24.2.1, y24.2.2.1, y24.2.2.2.1, y24.2.2.2.2.1, y24.2.2.2.2.2, y25.1, y25.2.1, y25.2.2.1, y25.2.2.2.1, y25.2.2.2.2.1, y25.2.2.2.2.2)) hr (weak0 ((sT rfl (sT rfl (sT rfl (sT rfl (sT rfl (sT rfl sT0))))))) (sub_keep (sub_keep (sub_keep sub_nil)))))
      · rintro ⟨x2, x3, x4, x5, x6, x7, x8, x9, x10, x11, x12, x13⟩ hr
        show AW Hfaa.prog _ _ _ ⟨[(1, .inl (is (U8 a1))), (2, .inl (is (U64 a2))), (3, .inl (is (U64 a3))), (4, .inr (.inl (4, 0))), (10, .inr (.inl (10, 0))), (11, .inr (.inl (11, 0)))], [(4, pb 23 [is (U8 a0_0), is (U8 a0_1)]), (10, pb 175 [is (U64 x2), is (Bl x3), is (I8 x4), is (Bl x5), big x6, big x7]), (11, pb 175 [is (U64 x8), is (Bl x9), is (I8 x10), is (Bl x11), big x12, big x13])]⟩
        have hr : some r = F194_2 N a0_0 a0_1 a1 a2 a3 x2 x3 x4 x5 x6 x7 x8 x9 x10 x11 x12 x13 := hr
        refine AW_cut (σ := Bool) (fun v => ⟨[(1, .inl (is (U8 a1))), (2, .inl (is (U64 a2))), (3, .inl (is (U64 a3))), (4, .inr (.inl (4, 0))), (10, .inr (.inl (10, 0))), (11, .inr (.inl (11, 0))), (12, .inl (is (Bl v)))], [(4, pb 23 [is (U8 a0_0), is (U8 a0_1)]), (10, pb 175 [is (U64 x2), is (Bl x3), is (I8 x4), is (Bl x5), big x6, big x7]), (11, pb 175 [is (U64 x8), is (Bl x9), is (I8 x10), is (Bl x11), big x12, big x13])]⟩) (fun v => some r = F194_3 N a0_0 a0_1 a1 a2 a3 x2 x3 x4 x5 x6 x7 x8 x9 x10 x11 x12 x13 v) ?_ ?_
        · skip
          refine AW_region ?_
          refine AL_cons (LR_fieldAddr (off := 0) (o := 1) (at_tmp 10 _) (fun b w => fa175_1 b 0 w) rfl) (sS (sT1 rfl) sB0 sF0) ?_
          refine AL_cons (LR_load (at_tmp 22 _) na4 rfl rfl) (sS (sT1 rfl) (sB1 rfl) sF0) ?_
          refine AL_cons (LR_fieldAddr (off := 0) (o := 1) (at_tmp 11 _) (fun b w => fa175_1 b 0 w) rfl) (sS (sT1 rfl) sB0 sF0) ?_
          refine AL_cons (LR_load (at_tmp 24 _) na4 rfl rfl) (sS (sT1 rfl) (sB1 rfl) sF0) ?_
          refine AL_cons (LR_bin (at_tmp 23 _) (at_tmp 25 _) (neq_Bl Hfaa.underlying4 x3 x9) rfl) (sS (sA (sT1 rfl) (sT1 rfl)) sB0 sF0) ?_
          refine AL_cons (LR_assign (at_tmp 26 _) rfl) (sS (sT1 rfl) sB0 sF0) ?_
          refine AL_nil ?_
          exact thenN (cutLeaf (v := x3 != x9) hr (weak0 ((sT rfl (sT rfl (sT rfl (sT rfl (sT rfl (sT rfl (sT rfl sT0)))))))) (sub_keep (sub_keep (sub_keep sub_nil)))))
        · rintro x14 hr
          show AW Hfaa.prog _ _ _ ⟨[(1, .inl (is (U8 a1))), (2, .inl (is (U64 a2))), (3, .inl (is (U64 a3))), (4, .inr (.inl (4, 0))), (10, .inr (.inl (10, 0))), (11, .inr (.inl (11, 0))), (12, .inl (is (Bl x14)))], [(4, pb 23 [is (U8 a0_0), is (U8 a0_1)]), (10, pb 175 [is (U64 x2), is (Bl x3), is (I8 x4), is (Bl x5), big x6, big x7]), (11, pb 175 [is (U64 x8), is (Bl x9), is (I8 x10), is (Bl x11), big x12, big x13])]⟩
          have hr : some r = F194_3 N a0_0 a0_1 a1 a2 a3 x2 x3 x4 x5 x6 x7 x8 x9 x10 x11 x12 x13 x14 := hr
          refine AW_seq1 ?_
          refine AW_block ?_
          refine AW_cut (σ := Bool) (fun v => ⟨[(1, .inl (is (U8 a1))), (2, .inl (is (U64 a2))), (3, .inl (is (U64 a3))), (4, .inr (.inl (4, 0))), (10, .inr (.inl (10, 0))), (11, .inr (.inl (11, 0))), (12, .inl (is (Bl x14))), (27, .inl (is (Bl v)))], [(4, pb 23 [is (U8 a0_0), is (U8 a0_1)]), (10, pb 175 [is (U64 x2), is (Bl x3), is (I8 x4), is (Bl x5), big x6, big x7]), (11, pb 175 [is (U64 x8), is (Bl x9), is (I8 x10), is (Bl x11), big x12, big x13])]⟩) (fun v => some r = F194_4 N a0_0 a0_1 a1 a2 a3 x2 x3 x4 x5 x6 x7 x8 x9 x10 x11 x12 x13 x14 v) ?_ ?_
          · skip
            refine AW_region ?_
            refine AL_cons (LR_fieldAddr (off := 0) (o := 2) (at_tmp 10 _) (fun b w => fa175_2 b 0 w) rfl) (sS (sT1 rfl) sB0 sF0) ?_
            refine AL_cons (LR_load (at_tmp 28 _) na110 rfl rfl) (sS (sT1 rfl) (sB1 rfl) sF0) ?_
            refine AL_cons (LR_bin (at_tmp 29 _) (at_c (v' := I8 4) rfl) (eql_I8 x4 4) rfl) (sS (sA (sT1 rfl) sT0) sB0 sF0) ?_
            refine AL_cons (LR_move (at_tmp 30 _) rfl) (sS (sT1 rfl) sB0 sF0) ?_
            refine AL_cutAt 4 ⟨[(1, .inl (is (U8 a1))), (2, .inl (is (U64 a2))), (3, .inl (is (U64 a3))), (4, .inr (.inl (4, 0))), (10, .inr (.inl (10, 0))), (11, .inr (.inl (11, 0))), (12, .inl (is (Bl x14))), (28, .inr (.inl (10, 2))), (29, .inl (is (I8 x4))), (30, .inl (is (Bl (x4 == 4)))), (31, .inl (is (Bl (x4 == 4)))), (35, .inl (is (Bl ((x4 == 4) || (x10 == 4)))))], [(4, pb 23 [is (U8 a0_0), is (U8 a0_1)]), (10, pb 175 [is (U64 x2), is (Bl x3), is (I8 x4), is (Bl x5), big x6, big x7]), (11, pb 175 [is (U64 x8), is (Bl x9), is (I8 x10), is (Bl x11), big x12, big x13])]⟩ ?_ ?_
            · cases hb : x4 == 4
              · skip
                refine AL_cons (LR_on rfl rfl rfl (LR_fieldAddr (off := 0) (o := 2) (at_tmp 11 _) (fun b w => fa175_2 b 0 w) rfl)) (sS (sT rfl (sT1 rfl)) sB0 sF0) ?_
                refine AL_cons (LR_on rfl rfl rfl (LR_load (at_tmp 32 _) na110 rfl rfl)) (sS (sT rfl (sT1 rfl)) (sB1 rfl) sF0) ?_
                refine AL_cons (LR_on rfl rfl rfl (LR_bin (at_tmp 33 _) (at_c (v' := I8 4) rfl) (eql_I8 x10 4) rfl)) (sS (sT rfl (sA (sT1 rfl) sT0)) sB0 sF0) ?_
                refine AL_cons (LR_pick (b := false) (at_tmp 31 _) (at_c (v' := Bl true) rfl) (at_tmp 34 _) rfl) (sS (sA (sT1 rfl) (sA sT0 (sT1 rfl))) sB0 sF0) ?_
                exact AL_nil ⟨rfl, weak0 ((sT rfl (sT rfl (sT rfl (sT rfl (sT rfl (sT rfl (sT rfl (sT rfl (sT rfl (sT rfl (sT rfl (sT rfl sT0))))))))))))) (sub_keep (sub_keep (sub_keep sub_nil)))⟩
              · skip
                refine AL_cons (LR_off (b := true) rfl rfl rfl rfl) (sS (sT1 rfl) sB0 sF0) ?_
                refine AL_cons (LR_off (b := true) rfl rfl rfl rfl) (sS (sT1 rfl) sB0 sF0) ?_
                refine AL_cons (LR_off (b := true) rfl rfl rfl rfl) (sS (sT1 rfl) sB0 sF0) ?_
                refine AL_cons (LR_pick (b := true) (at_tmp 31 _) (at_c (v' := Bl true) rfl) (at_tmp 34 _) rfl) (sS (sA (sT1 rfl) (sA sT0 (sT1 rfl))) sB0 sF0) ?_
                exact AL_nil ⟨rfl, weak0 ((sT rfl (sT rfl (sT rfl (sT rfl (sT rfl (sT rfl (sT rfl (sT rfl (sT rfl (sT rfl (sT rfl (sT rfl sT0))))))))))))) (sub_keep (sub_keep (sub_keep sub_nil)))⟩
            refine AL_cons (LR_assign (at_tmp 35 _) rfl) (sS (sT1 rfl) sB0 sF0) ?_
            refine AL_nil ?_
            exact thenN (cutLeaf (v := (x4 == 4) || (x10 == 4)) hr (weak0 ((sT rfl (sT rfl (sT rfl (sT rfl (sT rfl (sT rfl (sT rfl (sT rfl sT0))))))))) (sub_keep (sub_keep (sub_keep sub_nil)))))
          · rintro x15 hr
            show AW Hfaa.prog _ _ _ ⟨[(1, .inl (is (U8 a1))), (2, .inl (is (U64 a2))), (3, .inl (is (U64 a3))), (4, .inr (.inl (4, 0))), (10, .inr (.inl (10, 0))), (11, .inr (.inl (11, 0))), (12, .inl (is (Bl x14))), (27, .inl (is (Bl x15)))], [(4, pb 23 [is (U8 a0_0), is (U8 a0_1)]), (10, pb 175 [is (U64 x2), is (Bl x3), is (I8 x4), is (Bl x5), big x6, big x7]), (11, pb 175 [is (U64 x8), is (Bl x9), is (I8 x10), is (Bl x11), big x12, big x13])]⟩
            have hr : some r = F194_4 N a0_0 a0_1 a1 a2 a3 x2 x3 x4 x5 x6 x7 x8 x9 x10 x11 x12 x13 x14 x15 := hr
            refine AW_condT (b := x15) rfl (fun h => ?_) (fun h => ?_)
            · have hr := hr.trans (cond_t h)
              clear h
              refine AW_seq1 ?_
              obtain ⟨y16, hy16, hr⟩ := lt_some hr
              obtain ⟨y17, hy17, hr⟩ := lt_some hr
              refine AW_draw mixed
                (lrC (LR_loads (at_tmp 4 _) ag23 sz23 rfl rfl rfl)
                (lrC (LR_call Hfaa.func66 rfl rfl (C66 a0_0 a0_1 y16 hy16) (all_cons (at_tmp 36 _) all_nil) rfl)
                (lrC (LR_loads (at_tmp 4 _) ag23 sz23 rfl rfl rfl)
                (lrC (LR_move (at_tmp 2 _) rfl)
                (lrC (LR_move (at_tmp 3 _) rfl)
                (lrC (LR_call Hfaa.func216 rfl rfl (C216 a0_0 a0_1 a2 a3 y17 hy17) (all_cons (at_tmp 38 _) (all_cons (at_tmp 39 _) (all_cons (at_tmp 40 _) all_nil))) rfl)
                (lrC (LR_assign (at_tmp 37 _) rfl)
                (lrC (LR_assign (at_tmp 41 _) rfl)
                lrN))))))))
                (by kernel_rfl)
                (saC (sS (sT1 rfl) (sB1 rfl) sF0) (saC (sS (sA (sT1 rfl) sT0) sB0 sF0) (saC (sS (sT1 rfl) (sB1 rfl) sF0) (saC (sS (sT1 rfl) sB0 sF0) (saC (sS (sT1 rfl) sB0 sF0) (saC (sS (sA (sT1 rfl) (sA (sT1 rfl) (sA (sT1 rfl) sT0))) sB0 sF0) (saC (sS (sT1 rfl) sB0 sF0) (saC (sS (sT1 rfl) sB0 sF0) saN)))))))) ?_
              refine thenN ?_
              refine AW_ret ?_
              refine blR ?_
              refine thenR ?_
              obtain rfl := Option.some.inj hr
              exact res2 rfl (rvT rfl) (rvT rfl)
            · have hr := hr.trans (cond_f h)
              clear h
              refine AW_cut (σ := Bool) (fun v => ⟨[(1, .inl (is (U8 a1))), (4, .inr (.inl (4, 0))), (10, .inr (.inl (10, 0))), (11, .inr (.inl (11, 0))), (12, .inl (is (Bl x14))), (42, .inl (is (Bl v)))], [(4, pb 23 [is (U8 a0_0), is (U8 a0_1)]), (10, pb 175 [is (U64 x2), is (Bl x3), is (I8 x4), is (Bl x5), big x6, big x7]), (11, pb 175 [is (U64 x8), is (Bl x9), is (I8 x10), is (Bl x11), big x12, big x13])]⟩) (fun v => some r = F194_5 N a0_0 a0_1 a1 x2 x3 x4 x5 x6 x7 x8 x9 x10 x11 x12 x13 x14 v) ?_ ?_
              · skip
                refine AW_cut (σ := Bool) (fun v => ⟨[(1, .inl (is (U8 a1))), (4, .inr (.inl (4, 0))), (10, .inr (.inl (10, 0))), (11, .inr (.inl (11, 0))), (12, .inl (is (Bl x14))), (42, .inl (is (Bl v)))], [(4, pb 23 [is (U8 a0_0), is (U8 a0_1)]), (10, pb 175 [is (U64 x2), is (Bl x3), is (I8 x4), is (Bl x5), big x6, big x7]), (11, pb 175 [is (U64 x8), is (Bl x9), is (I8 x10), is (Bl x11), big x12, big x13])]⟩) (fun v => some r = F194_7 N a0_0 a0_1 a1 x2 x3 x4 x5 x6 x7 x8 x9 x10 x11 x12 x13 x14 v) ?_ ?_
                · skip
                  refine AW_region ?_
                  refine AL_cons (LR_fieldAddr (off := 0) (o := 2) (at_tmp 10 _) (fun b w => fa175_2 b 0 w) rfl) (sS (sT1 rfl) sB0 sF0) ?_
                  refine AL_cons (LR_load (at_tmp 43 _) na110 rfl rfl) (sS (sT1 rfl) (sB1 rfl) sF0) ?_
                  refine AL_cons (LR_bin (at_tmp 44 _) (at_c (v' := I8 3) rfl) (eql_I8 x4 3) rfl) (sS (sA (sT1 rfl) sT0) sB0 sF0) ?_
                  refine AL_cons (LR_move (at_tmp 45 _) rfl) (sS (sT1 rfl) sB0 sF0) ?_
                  refine AL_cutAt 4 ⟨[(1, .inl (is (U8 a1))), (2, .inl (is (U64 a2))), (3, .inl (is (U64 a3))), (4, .inr (.inl (4, 0))), (10, .inr (.inl (10, 0))), (11, .inr (.inl (11, 0))), (12, .inl (is (Bl x14))), (27, .inl (is (Bl x15))), (43, .inr (.inl (10, 2))), (44, .inl (is (I8 x4))), (45, .inl (is (Bl (x4 == 3)))), (46, .inl (is (Bl (x4 == 3)))), (50, .inl (is (Bl ((x4 == 3) && (x10 == 0)))))], [(4, pb 23 [is (U8 a0_0), is (U8 a0_1)]), (10, pb 175 [is (U64 x2), is (Bl x3), is (I8 x4), is (Bl x5), big x6, big x7]), (11, pb 175 [is (U64 x8), is (Bl x9), is (I8 x10), is (Bl x11), big x12, big x13])]⟩ ?_ ?_
                  · cases hb : x4 == 3
                    · skip
                      refine AL_cons (LR_off (b := false) rfl rfl rfl rfl) (sS (sT1 rfl) sB0 sF0) ?_
                      refine AL_cons (LR_off (b := false) rfl rfl rfl rfl) (sS (sT1 rfl) sB0 sF0) ?_
                      refine AL_cons (LR_off (b := false) rfl rfl rfl rfl) (sS (sT1 rfl) sB0 sF0) ?_
                      refine AL_cons (LR_pick (b := false) (at_tmp 46 _) (at_tmp 49 _) (at_c (v' := Bl false) rfl) rfl) (sS (sA (sT1 rfl) (sA (sT1 rfl) sT0)) sB0 sF0) ?_
                      exact AL_nil ⟨rfl, weak0 ((sT rfl (sT rfl (sT rfl (sT rfl (sT rfl (sT rfl (sT rfl (sT rfl (sT rfl (sT rfl (sT rfl (sT rfl (sT rfl sT0)))))))))))))) (sub_keep (sub_keep (sub_keep sub_nil)))⟩
                    · skip
                      refine AL_cons (LR_on rfl rfl rfl (LR_fieldAddr (off := 0) (o := 2) (at_tmp 11 _) (fun b w => fa175_2 b 0 w) rfl)) (sS (sT rfl (sT1 rfl)) sB0 sF0) ?_
                      refine AL_cons (LR_on rfl rfl rfl (LR_load (at_tmp 47 _) na110 rfl rfl)) (sS (sT rfl (sT1 rfl)) (sB1 rfl) sF0) ?_
                      refine AL_cons (LR_on rfl rfl rfl (LR_bin (at_tmp 48 _) (at_c (v' := I8 0) rfl) (eql_I8 x10 0) rfl)) (sS (sT rfl (sA (sT1 rfl) sT0)) sB0 sF0) ?_
                      refine AL_cons (LR_pick (b := true) (at_tmp 46 _) (at_tmp 49 _) (at_c (v' := Bl false) rfl) rfl) (sS (sA (sT1 rfl) (sA (sT1 rfl) sT0)) sB0 sF0) ?_
                      exact AL_nil ⟨rfl, weak0 ((sT rfl (sT rfl (sT rfl (sT rfl (sT rfl (sT rfl (sT rfl (sT rfl (sT rfl (sT rfl (sT rfl (sT rfl (sT rfl sT0)))))))))))))) (sub_keep (sub_keep (sub_keep sub_nil)))⟩
                  refine AL_cons (LR_assign (at_tmp 50 _) rfl) (sS (sT1 rfl) sB0 sF0) ?_
                  refine AL_nil ?_
                  exact thenN (cutLeaf (v := (x4 == 3) && (x10 == 0)) hr (weak0 ((sT rfl (sT rfl (sT rfl (sT rfl (sT rfl (sT rfl sT0))))))) (sub_keep (sub_keep (sub_keep sub_nil)))))
                · rintro x18 hr
                  show AW Hfaa.prog _ _ _ ⟨[(1, .inl (is (U8 a1))), (4, .inr (.inl (4, 0))), (10, .inr (.inl (10, 0))), (11, .inr (.inl (11, 0))), (12, .inl (is (Bl x14))), (42, .inl (is (Bl x18)))], [(4, pb 23 [is (U8 a0_0), is (U8 a0_1)]), (10, pb 175 [is (U64 x2), is (Bl x3), is (I8 x4), is (Bl x5), big x6, big x7]), (11, pb 175 [is (U64 x8), is (Bl x9), is (I8 x10), is (Bl x11), big x12, big x13])]⟩
                  have hr : some r = F194_7 N a0_0 a0_1 a1 x2 x3 x4 x5 x6 x7 x8 x9 x10 x11 x12 x13 x14 x18 := hr
                  refine AW_condT (b := x18) rfl (fun h => ?_) (fun h => ?_)
                  · have hr := hr.trans (cond_t h)
                    clear h
                    refine AW_skip ?_
                    exact thenN (cutLeaf (v := x18) hr (weak0 ((sT rfl (sT rfl (sT rfl (sT rfl (sT rfl (sT rfl sT0))))))) (sub_keep (sub_keep (sub_keep sub_nil)))))
                  · have hr := hr.trans (cond_f h)
                    clear h
                    refine AW_region ?_
                    refine AL_cons (LR_fieldAddr (off := 0) (o := 2) (at_tmp 10 _) (fun b w => fa175_2 b 0 w) rfl) (sS (sT1 rfl) sB0 sF0) ?_
                    refine AL_cons (LR_load (at_tmp 51 _) na110 rfl rfl) (sS (sT1 rfl) (sB1 rfl) sF0) ?_
                    refine AL_cons (LR_bin (at_tmp 52 _) (at_c (v' := I8 0) rfl) (eql_I8 x4 0) rfl) (sS (sA (sT1 rfl) sT0) sB0 sF0) ?_
                    refine AL_cons (LR_move (at_tmp 53 _) rfl) (sS (sT1 rfl) sB0 sF0) ?_
                    refine AL_cutAt 4 ⟨[(1, .inl (is (U8 a1))), (4, .inr (.inl (4, 0))), (10, .inr (.inl (10, 0))), (11, .inr (.inl (11, 0))), (12, .inl (is (Bl x14))), (42, .inl (is (Bl x18))), (51, .inr (.inl (10, 2))), (52, .inl (is (I8 x4))), (53, .inl (is (Bl (x4 == 0)))), (54, .inl (is (Bl (x4 == 0)))), (58, .inl (is (Bl ((x4 == 0) && (x10 == 3)))))], [(4, pb 23 [is (U8 a0_0), is (U8 a0_1)]), (10, pb 175 [is (U64 x2), is (Bl x3), is (I8 x4), is (Bl x5), big x6, big x7]), (11, pb 175 [is (U64 x8), is (Bl x9), is (I8 x10), is (Bl x11), big x12, big x13])]⟩ ?_ ?_
                    · cases hb : x4 == 0
                      · skip
                        refine AL_cons (LR_off (b := false) rfl rfl rfl rfl) (sS (sT1 rfl) sB0 sF0) ?_
                        refine AL_cons (LR_off (b := false) rfl rfl rfl rfl) (sS (sT1 rfl) sB0 sF0) ?_
                        refine AL_cons (LR_off (b := false) rfl rfl rfl rfl) (sS (sT1 rfl) sB0 sF0) ?_
                        refine AL_cons (LR_pick (b := false) (at_tmp 54 _) (at_tmp 57 _) (at_c (v' := Bl false) rfl) rfl) (sS (sA (sT1 rfl) (sA (sT1 rfl) sT0)) sB0 sF0) ?_
                        exact AL_nil ⟨rfl, weak0 ((sT rfl (sT rfl (sT rfl (sT rfl (sT rfl (sT rfl (sT rfl (sT rfl (sT rfl (sT rfl (sT rfl sT0)))))))))))) (sub_keep (sub_keep (sub_keep sub_nil)))⟩
                      · skip
                        refine AL_cons (LR_on rfl rfl rfl (LR_fieldAddr (off := 0) (o := 2) (at_tmp 11 _) (fun b w => fa175_2 b 0 w) rfl)) (sS (sT rfl (sT1 rfl)) sB0 sF0) ?_
                        refine AL_cons (LR_on rfl rfl rfl (LR_load (at_tmp 55 _) na110 rfl rfl)) (sS (sT rfl (sT1 rfl)) (sB1 rfl) sF0) ?_
                        refine AL_cons (LR_on rfl rfl rfl (LR_bin (at_tmp 56 _) (at_c (v' := I8 3) rfl) (eql_I8 x10 3) rfl)) (sS (sT rfl (sA (sT1 rfl) sT0)) sB0 sF0) ?_
                        refine AL_cons (LR_pick (b := true) (at_tmp 54 _) (at_tmp 57 _) (at_c (v' := Bl false) rfl) rfl) (sS (sA (sT1 rfl) (sA (sT1 rfl) sT0)) sB0 sF0) ?_
                        exact AL_nil ⟨rfl, weak0 ((sT rfl (sT rfl (sT rfl (sT rfl (sT rfl (sT rfl (sT rfl (sT rfl (sT rfl (sT rfl (sT rfl sT0)))))))))))) (sub_keep (sub_keep (sub_keep sub_nil)))⟩
                    refine AL_cons (LR_assign (at_tmp 58 _) rfl) (sS (sT1 rfl) sB0 sF0) ?_
                    refine AL_nil ?_
                    exact thenN (cutLeaf (v := (x4 == 0) && (x10 == 3)) hr (weak0 ((sT rfl (sT rfl (sT rfl (sT rfl (sT rfl (sT rfl sT0))))))) (sub_keep (sub_keep (sub_keep sub_nil)))))
              · rintro x16 hr
                show AW Hfaa.prog _ _ _ ⟨[(1, .inl (is (U8 a1))), (4, .inr (.inl (4, 0))), (10, .inr (.inl (10, 0))), (11, .inr (.inl (11, 0))), (12, .inl (is (Bl x14))), (42, .inl (is (Bl x16)))], [(4, pb 23 [is (U8 a0_0), is (U8 a0_1)]), (10, pb 175 [is (U64 x2), is (Bl x3), is (I8 x4), is (Bl x5), big x6, big x7]), (11, pb 175 [is (U64 x8), is (Bl x9), is (I8 x10), is (Bl x11), big x12, big x13])]⟩
                have hr : some r = F194_5 N a0_0 a0_1 a1 x2 x3 x4 x5 x6 x7 x8 x9 x10 x11 x12 x13 x14 x16 := hr
                refine AW_condT (b := x16) rfl (fun h => ?_) (fun h => ?_)
                · have hr := hr.trans (cond_t h)
                  clear h
                  refine AW_seq1 ?_
                  refine AW_region ?_
                  refine AL_cons (LR_loads (at_tmp 4 _) ag23 sz23 rfl rfl rfl) (sS (sT1 rfl) (sB1 rfl) sF0) ?_
                  obtain ⟨y19, hy19, hr⟩ := lt_some hr
                  refine AL_cons (LR_call Hfaa.func66 rfl rfl (C66 a0_0 a0_1 y19 hy19) (all_cons (at_tmp 59 _) all_nil) rfl) (sS (sA (sT1 rfl) sT0) sB0 sF0) ?_
                  refine AL_cons (LR_assign (at_tmp 60 _) rfl) (sS (sT1 rfl) sB0 sF0) ?_
                  refine AL_cons (LR_assign (at_c (v' := U8 (1#8)) rfl) rfl) (sS sT0 sB0 sF0) ?_
                  refine AL_nil ?_
                  refine thenN ?_
                  refine AW_ret ?_
                  refine blR ?_
                  refine thenR ?_
                  obtain rfl := Option.some.inj hr
                  exact res2 rfl (rvT rfl) (rvT rfl)
                · have hr := hr.trans (cond_f h)
                  clear h
                  refine AW_cut (σ := Bool) (fun v => ⟨[(1, .inl (is (U8 a1))), (4, .inr (.inl (4, 0))), (10, .inr (.inl (10, 0))), (11, .inr (.inl (11, 0))), (12, .inl (is (Bl x14))), (61, .inl (is (Bl v)))], [(4, pb 23 [is (U8 a0_0), is (U8 a0_1)]), (10, pb 175 [is (U64 x2), is (Bl x3), is (I8 x4), is (Bl x5), big x6, big x7]), (11, pb 175 [is (U64 x8), is (Bl x9), is (I8 x10), is (Bl x11), big x12, big x13])]⟩) (fun v => some r = F194_6 N a0_0 a0_1 a1 x2 x3 x4 x5 x6 x7 x8 x9 x10 x11 x12 x13 x14 v) ?_ ?_
                  · skip
                    refine AW_region ?_
                    refine AL_cons (LR_fieldAddr (off := 0) (o := 2) (at_tmp 10 _) (fun b w => fa175_2 b 0 w) rfl) (sS (sT1 rfl) sB0 sF0) ?_
                    refine AL_cons (LR_load (at_tmp 62 _) na110 rfl rfl) (sS (sT1 rfl) (sB1 rfl) sF0) ?_
                    refine AL_cons (LR_bin (at_tmp 63 _) (at_c (v' := I8 3) rfl) (eql_I8 x4 3) rfl) (sS (sA (sT1 rfl) sT0) sB0 sF0) ?_
                    refine AL_cons (LR_move (at_tmp 64 _) rfl) (sS (sT1 rfl) sB0 sF0) ?_
                    refine AL_cutAt 4 ⟨[(1, .inl (is (U8 a1))), (4, .inr (.inl (4, 0))), (10, .inr (.inl (10, 0))), (11, .inr (.inl (11, 0))), (12, .inl (is (Bl x14))), (42, .inl (is (Bl x16))), (62, .inr (.inl (10, 2))), (63, .inl (is (I8 x4))), (64, .inl (is (Bl (x4 == 3)))), (65, .inl (is (Bl (x4 == 3)))), (69, .inl (is (Bl ((x4 == 3) || (x10 == 3)))))], [(4, pb 23 [is (U8 a0_0), is (U8 a0_1)]), (10, pb 175 [is (U64 x2), is (Bl x3), is (I8 x4), is (Bl x5), big x6, big x7]), (11, pb 175 [is (U64 x8), is (Bl x9), is (I8 x10), is (Bl x11), big x12, big x13])]⟩ ?_ ?_
                    · cases hb : x4 == 3
                      · skip
                        refine AL_cons (LR_on rfl rfl rfl (LR_fieldAddr (off := 0) (o := 2) (at_tmp 11 _) (fun b w => fa175_2 b 0 w) rfl)) (sS (sT rfl (sT1 rfl)) sB0 sF0) ?_
                        refine AL_cons (LR_on rfl rfl rfl (LR_load (at_tmp 66 _) na110 rfl rfl)) (sS (sT rfl (sT1 rfl)) (sB1 rfl) sF0) ?_
                        refine AL_cons (LR_on rfl rfl rfl (LR_bin (at_tmp 67 _) (at_c (v' := I8 3) rfl) (eql_I8 x10 3) rfl)) (sS (sT rfl (sA (sT1 rfl) sT0)) sB0 sF0) ?_
                        refine AL_cons (LR_pick (b := false) (at_tmp 65 _) (at_c (v' := Bl true) rfl) (at_tmp 68 _) rfl) (sS (sA (sT1 rfl) (sA sT0 (sT1 rfl))) sB0 sF0) ?_
                        exact AL_nil ⟨rfl, weak0 ((sT rfl (sT rfl (sT rfl (sT rfl (sT rfl (sT rfl (sT rfl (sT rfl (sT rfl (sT rfl (sT rfl sT0)))))))))))) (sub_keep (sub_keep (sub_keep sub_nil)))⟩
                      · skip
                        refine AL_cons (LR_off (b := true) rfl rfl rfl rfl) (sS (sT1 rfl) sB0 sF0) ?_
                        refine AL_cons (LR_off (b := true) rfl rfl rfl rfl) (sS (sT1 rfl) sB0 sF0) ?_
                        refine AL_cons (LR_off (b := true) rfl rfl rfl rfl) (sS (sT1 rfl) sB0 sF0) ?_
                        refine AL_cons (LR_pick (b := true) (at_tmp 65 _) (at_c (v' := Bl true) rfl) (at_tmp 68 _) rfl) (sS (sA (sT1 rfl) (sA sT0 (sT1 rfl))) sB0 sF0) ?_
                        exact AL_nil ⟨rfl, weak0 ((sT rfl (sT rfl (sT rfl (sT rfl (sT rfl (sT rfl (sT rfl (sT rfl (sT rfl (sT rfl (sT rfl sT0)))))))))))) (sub_keep (sub_keep (sub_keep sub_nil)))⟩
                    refine AL_cons (LR_assign (at_tmp 69 _) rfl) (sS (sT1 rfl) sB0 sF0) ?_
                    refine AL_nil ?_
                    exact thenN (cutLeaf (v := (x4 == 3) || (x10 == 3)) hr (weak0 ((sT rfl (sT rfl (sT rfl (sT rfl (sT rfl (sT rfl sT0))))))) (sub_keep (sub_keep (sub_keep sub_nil)))))
                  · rintro x17 hr
                    show AW Hfaa.prog _ _ _ ⟨[(1, .inl (is (U8 a1))), (4, .inr (.inl (4, 0))), (10, .inr (.inl (10, 0))), (11, .inr (.inl (11, 0))), (12, .inl (is (Bl x14))), (61, .inl (is (Bl x17)))], [(4, pb 23 [is (U8 a0_0), is (U8 a0_1)]), (10, pb 175 [is (U64 x2), is (Bl x3), is (I8 x4), is (Bl x5), big x6, big x7]), (11, pb 175 [is (U64 x8), is (Bl x9), is (I8 x10), is (Bl x11), big x12, big x13])]⟩
                    have hr : some r = F194_6 N a0_0 a0_1 a1 x2 x3 x4 x5 x6 x7 x8 x9 x10 x11 x12 x13 x14 x17 := hr
                    refine AW_condT (b := x17) rfl (fun h => ?_) (fun h => ?_)
                    · have hr := hr.trans (cond_t h)
                      clear h
                      refine AW_seq1 ?_
                      refine AW_region ?_
                      refine AL_cons (LR_loads (at_tmp 4 _) ag23 sz23 rfl rfl rfl) (sS (sT1 rfl) (sB1 rfl) sF0) ?_
                      refine AL_cons (LR_move (at_tmp 12 _) rfl) (sS (sT1 rfl) sB0 sF0) ?_
                      obtain ⟨y21, hy21, hr⟩ := lt_some hr
                      refine AL_cons (LR_call Hfaa.func67 rfl rfl (C67 a0_0 a0_1 x14 y21 hy21) (all_cons (at_tmp 70 _) (all_cons (at_tmp 71 _) all_nil)) rfl) (sS (sA (sT1 rfl) (sA (sT1 rfl) sT0)) sB0 sF0) ?_
                      refine AL_cons (LR_assign (at_tmp 72 _) rfl) (sS (sT1 rfl) sB0 sF0) ?_
                      refine AL_cons (LR_assign (at_c (v' := U8 (0#8)) rfl) rfl) (sS sT0 sB0 sF0) ?_
                      refine AL_nil ?_
                      refine thenN ?_
                      refine AW_ret ?_
                      refine blR ?_
                      refine thenR ?_
                      obtain rfl := Option.some.inj hr
                      exact res2 rfl (rvT rfl) (rvT rfl)
                    · have hr := hr.trans (cond_f h)
                      clear h
                      refine AW_skip ?_
                      refine blN ?_
                      refine thenN ?_
                      refine AW_seq1 ?_
                      obtain ⟨hg3, hr⟩ := guard_some hr
                      obtain ⟨hg4, hr⟩ := guard_some hr
                      obtain ⟨y23, hy23, hr⟩ := bind_some hr
                      refine AW_draw mixed
                        (lrC (LR_loads (at_tmp 4 _) ag23 sz23 rfl rfl rfl)
                        (lrC (LR_move (at_tmp 1 _) rfl)
                        (lrC (LR_move (at_tmp 12 _) rfl)
                        (lrC (LR_fieldAddr (off := 0) (o := 3) (at_tmp 10 _) (fun b w => fa175_3 b 0 w) rfl)
                        (lrC (LR_fieldAddr (off := 3) (o := 4) (at_tmp 76 _) (fun b w => fa119_1 b 3 w) rfl)
                        (lrC (LR_load (at_tmp 77 _) na49 rfl rfl)
                        (lrC (LR_fieldAddr (off := 0) (o := 3) (at_tmp 11 _) (fun b w => fa175_3 b 0 w) rfl)
                        (lrC (LR_fieldAddr (off := 3) (o := 4) (at_tmp 79 _) (fun b w => fa119_1 b 3 w) rfl)
                        (lrC (LR_load (at_tmp 80 _) na49 rfl rfl)
                        (lrC (LR_call Hfaa.func22 rfl rfl (B22 x6 x12 hg3) (all_cons (at_tmp 78 _) (all_cons (at_tmp 81 _) all_nil)) rfl)
                        (lrC (LR_fieldAddr (off := 0) (o := 3) (at_tmp 10 _) (fun b w => fa175_3 b 0 w) rfl)
                        (lrC (LR_fieldAddr (off := 3) (o := 5) (at_tmp 83 _) (fun b w => fa119_2 b 3 w) rfl)
                        (lrC (LR_load (at_tmp 84 _) na49 rfl rfl)
                        (lrC (LR_fieldAddr (off := 0) (o := 3) (at_tmp 11 _) (fun b w => fa175_3 b 0 w) rfl)
                        (lrC (LR_fieldAddr (off := 3) (o := 5) (at_tmp 86 _) (fun b w => fa119_2 b 3 w) rfl)
                        (lrC (LR_load (at_tmp 87 _) na49 rfl rfl)
                        (lrC (LR_call Hfaa.func22 rfl rfl (B22 x7 x13 hg4) (all_cons (at_tmp 85 _) (all_cons (at_tmp 88 _) all_nil)) rfl)
                        (lrC (bl119 (parts_cons (i := 0) (off := 0) (at_tmp 75 _) (cells_one (one_is rfl)) rfl rfl (parts_cons (i := 1) (off := 1) (at_tmp 82 _) (cells_one (one_big _)) rfl rfl (parts_cons (i := 2) (off := 2) (at_tmp 89 _) (cells_one (one_big _)) rfl rfl parts_nil))) rfl rfl)
                        (lrC (LR_call Hfaa.func136 rfl rfl (C136 N a0_0 a0_1 a1 x14 (x6 * x12) (x7 * x13) y23 hy23) (all_cons (at_tmp 73 _) (all_cons (at_tmp 74 _) (all_cons (at_tmp 90 _) all_nil))) rfl)
                        (lrC (LR_extract (at_tmp 91 _) rfl rfl)
                        (lrC (LR_extract (at_tmp 91 _) rfl rfl)
                        (lrC (LR_assign (at_tmp 92 _) rfl)
                        (lrC (LR_assign (at_tmp 93 _) rfl)
                        lrN)))))))))))))))))))))))
                        (by kernel_rfl)
                        (saC (sS (sT1 rfl) (sB1 rfl) sF0) (saC (sS (sT1 rfl) sB0 sF0) (saC (sS (sT1 rfl) sB0 sF0) (saC (sS (sT1 rfl) sB0 sF0) (saC (sS (sT1 rfl) sB0 sF0) (saC (sS (sT1 rfl) (sB1 rfl) sF0) (saC (sS (sT1 rfl) sB0 sF0) (saC (sS (sT1 rfl) sB0 sF0) (saC (sS (sT1 rfl) (sB1 rfl) sF0) (saC (sS (sA (sT1 rfl) (sA (sT1 rfl) sT0)) sB0 sF0) (saC (sS (sT1 rfl) sB0 sF0) (saC (sS (sT1 rfl) sB0 sF0) (saC (sS (sT1 rfl) (sB1 rfl) sF0) (saC (sS (sT1 rfl) sB0 sF0) (saC (sS (sT1 rfl) sB0 sF0) (saC (sS (sT1 rfl) (sB1 rfl) sF0) (saC (sS (sA (sT1 rfl) (sA (sT1 rfl) sT0)) sB0 sF0) (saC (sS (sA (sT1 rfl) (sA (sT1 rfl) (sA (sT1 rfl) sT0))) sB0 sF0) (saC (sS (sA (sT1 rfl) (sA (sT1 rfl) (sA (sT1 rfl) sT0))) sB0 sF0) (saC (sS (sT1 rfl) sB0 sF0) (saC (sS (sT1 rfl) sB0 sF0) (saC (sS (sT1 rfl) sB0 sF0) (saC (sS (sT1 rfl) sB0 sF0) saN))))))))))))))))))))))) ?_
                      refine thenN ?_
                      refine AW_ret ?_
                      obtain rfl := Option.some.inj hr
                      exact res2 rfl (rvT rfl) (rvT rfl)
/-- exact.Mul -/
def F142_1 (N : Nat) (x1 : BitVec 64) : Option (BitVec 64) := some x1
def F142 (N : Nat) (a0_0 : BitVec 8) (a0_1 : BitVec 8) (a1 : BitVec 8) (a2 : BitVec 64) (a3 : BitVec 64) : Option (BitVec 64) := (F194 N a0_0 a0_1 a1 a2 a3).bind fun y2 => F142_1 N y2.1
theorem C142 (N : Nat) (a0_0 : BitVec 8) (a0_1 : BitVec 8) (a1 : BitVec 8) (a2 : BitVec 64) (a3 : BitVec 64) (r : BitVec 64) (hr : some r = F142 N a0_0 a0_1 a1 a2 a3) : Aw.Fn Hfaa.prog 142 [agg [is (U8 a0_0), is (U8 a0_1)], is (U8 a1), is (U64 a2), is (U64 a3)] (is (U64 r)) := by
  refine fn_intro Hfaa.func142 rfl rfl rfl ?_
  intro bn0 w0 H0
  refine AW_seq1 ?_
  refine AW_region ?_
  refine AL_cons (LR_box (at_tmp 0 _) (cells_agg _) rfl) (sS (sT1 rfl) sB0 (sF1 rfl)) ?_
  refine AL_cons (LR_assign (at_c (v' := U64 (0#64)) rfl) rfl) (sS sT0 sB0 sF0) ?_
  refine AL_nil ?_
  refine thenN ?_
  refine AW_cut (σ := BitVec 64) (fun v => ⟨[(9, .inl (is (U64 v)))], []⟩) (fun v => some r = F142_1 N v) ?_ ?_
  · skip
    refine AW_region ?_
    refine AL_cons (LR_loads (at_tmp 4 _) ag23 sz23 rfl rfl rfl) (sS (sT1 rfl) (sB1 rfl) sF0) ?_
    refine AL_cons (LR_move (at_tmp 1 _) rfl) (sS (sT1 rfl) sB0 sF0) ?_
    refine AL_cons (LR_move (at_tmp 2 _) rfl) (sS (sT1 rfl) sB0 sF0) ?_
    refine AL_cons (LR_move (at_tmp 3 _) rfl) (sS (sT1 rfl) sB0 sF0) ?_
    obtain ⟨y2, hy2, hr⟩ := bind_some hr
    refine AL_cons (LR_call Hfaa.func194 rfl rfl (C194 N a0_0 a0_1 a1 a2 a3 y2 hy2) (all_cons (at_tmp 12 _) (all_cons (at_tmp 13 _) (all_cons (at_tmp 14 _) (all_cons (at_tmp 15 _) all_nil)))) rfl) (sS (sA (sT1 rfl) (sA (sT1 rfl) (sA (sT1 rfl) (sA (sT1 rfl) sT0)))) sB0 sF0) ?_
    refine AL_cons (LR_move (at_tmp 16 _) rfl) (sS (sT1 rfl) sB0 sF0) ?_
    refine AL_cons (LR_extract (at_tmp 11 _) rfl rfl) (sS (sT1 rfl) sB0 sF0) ?_
    refine AL_cons (LR_extract (at_tmp 11 _) rfl rfl) (sS (sT1 rfl) sB0 sF0) ?_
    refine AL_cons (LR_assign (at_tmp 17 _) rfl) (sS (sT1 rfl) sB0 sF0) ?_
    refine AL_cons (LR_assign (at_tmp 18 _) rfl) (sS (sT1 rfl) sB0 sF0) ?_
    refine AL_nil ?_
    exact thenN (cutLeaf (v := y2.1) hr (weak0 ((sT rfl sT0)) (sub_drop sub_nil)))
  · rintro x1 hr
    show AW Hfaa.prog _ _ _ ⟨[(9, .inl (is (U64 x1)))], []⟩
    have hr : some r = F142_1 N x1 := hr
    refine AW_seq1 ?_
    refine AW_region ?_
    refine AL_cons (LR_move (at_tmp 9 _) rfl) (sS (sT1 rfl) sB0 sF0) ?_
    refine AL_cons (LR_assign (at_tmp 19 _) rfl) (sS (sT1 rfl) sB0 sF0) ?_
    refine AL_nil ?_
    refine thenN ?_
    refine AW_ret ?_
    obtain rfl := Option.some.inj hr
    exact res1 rfl (rvT rfl)
/-- exact.DivFlags -/
def F195_8 (N : Nat) (a0_0 : BitVec 8) (a0_1 : BitVec 8) (a1 : BitVec 8) (x2 : BitVec 64) (x3 : Bool) (x4 : Int) (x5 : Bool) (x6 : Nat) (x7 : Nat) (x8 : BitVec 64) (x9 : Bool) (x10 : Int) (x11 : Bool) (x12 : Nat) (x13 : Nat) (x14 : Bool) (x19 : Bool) : Option (BitVec 64 × BitVec 8) := bif x19 then lt (F251 a0_0 a0_1 x14) fun y29 => some (y29, 0#8) else bif lim x6 && lim x13 then bif lim x7 && lim x12 then (F136 N a0_0 a0_1 a1 x14 (x6 * x13) (x7 * x12)).bind fun y31 => some (y31.1, y31.2) else none else none
def F195_7 (N : Nat) (a0_0 : BitVec 8) (a0_1 : BitVec 8) (a1 : BitVec 8) (x2 : BitVec 64) (x3 : Bool) (x4 : Int) (x5 : Bool) (x6 : Nat) (x7 : Nat) (x8 : BitVec 64) (x9 : Bool) (x10 : Int) (x11 : Bool) (x12 : Nat) (x13 : Nat) (x14 : Bool) (x18 : Bool) : Option (BitVec 64 × BitVec 8) := bif x18 then lt (F67 a0_0 a0_1 x14) fun y27 => some (y27, 2#8) else F195_8 N a0_0 a0_1 a1 x2 x3 x4 x5 x6 x7 x8 x9 x10 x11 x12 x13 x14 (x10 == 3)
def F195_6 (N : Nat) (a0_0 : BitVec 8) (a0_1 : BitVec 8) (a1 : BitVec 8) (x2 : BitVec 64) (x3 : Bool) (x4 : Int) (x5 : Bool) (x6 : Nat) (x7 : Nat) (x8 : BitVec 64) (x9 : Bool) (x10 : Int) (x11 : Bool) (x12 : Nat) (x13 : Nat) (x14 : Bool) (x17 : Bool) : Option (BitVec 64 × BitVec 8) := bif x17 then lt (F67 a0_0 a0_1 x14) fun y25 => some (y25, 0#8) else F195_7 N a0_0 a0_1 a1 x2 x3 x4 x5 x6 x7 x8 x9 x10 x11 x12 x13 x14 (x10 == 0)
def F195_5 (N : Nat) (a0_0 : BitVec 8) (a0_1 : BitVec 8) (a1 : BitVec 8) (x2 : BitVec 64) (x3 : Bool) (x4 : Int) (x5 : Bool) (x6 : Nat) (x7 : Nat) (x8 : BitVec 64) (x9 : Bool) (x10 : Int) (x11 : Bool) (x12 : Nat) (x13 : Nat) (x14 : Bool) (x16 : Bool) : Option (BitVec 64 × BitVec 8) := bif x16 then lt (F66 a0_0 a0_1) fun y23 => some (y23, 1#8) else F195_6 N a0_0 a0_1 a1 x2 x3 x4 x5 x6 x7 x8 x9 x10 x11 x12 x13 x14 (x4 == 3)
def F195_9 (N : Nat) (a0_0 : BitVec 8) (a0_1 : BitVec 8) (a1 : BitVec 8) (x2 : BitVec 64) (x3 : Bool) (x4 : Int) (x5 : Bool) (x6 : Nat) (x7 : Nat) (x8 : BitVec 64) (x9 : Bool) (x10 : Int) (x11 : Bool) (x12 : Nat) (x13 : Nat) (x14 : Bool) (x20 : Bool) : Option (BitVec 64 × BitVec 8) := bif x20 then F195_5 N a0_0 a0_1 a1 x2 x3 x4 x5 x6 x7 x8 x9 x10 x11 x12 x13 x14 x20 else F195_5 N a0_0 a0_1 a1 x2 x3 x4 x5 x6 x7 x8 x9 x10 x11 x12 x13 x14 ((x4 == 0) && (x10 == 0))
def F195_4 (N : Nat) (a0_0 : BitVec 8) (a0_1 : BitVec 8) (a1 : BitVec 8) (a2 : BitVec 64) (a3 : BitVec 64) (x2 : BitVec 64) (x3 : Bool) (x4 : Int) (x5 : Bool) (x6 : Nat) (x7 : Nat) (x8 : BitVec 64) (x9 : Bool) (x10 : Int) (x11 : Bool) (x12 : Nat) (x13 : Nat) (x14 : Bool) (x15 : Bool) : Option (BitVec 64 × BitVec 8) := bif x15 then lt (F66 a0_0 a0_1) fun y20 => lt (F216 a0_0 a0_1 a2 a3) fun y21 => some (y20, y21) else F195_9 N a0_0 a0_1 a1 x2 x3 x4 x5 x6 x7 x8 x9 x10 x11 x12 x13 x14 ((x4 == 3) && (x10 == 3))
def F195_3 (N : Nat) (a0_0 : BitVec 8) (a0_1 : BitVec 8) (a1 : BitVec 8) (a2 : BitVec 64) (a3 : BitVec 64) (x2 : BitVec 64) (x3 : Bool) (x4 : Int) (x5 : Bool) (x6 : Nat) (x7 : Nat) (x8 : BitVec 64) (x9 : Bool) (x10 : Int) (x11 : Bool) (x12 : Nat) (x13 : Nat) (x14 : Bool) : Option (BitVec 64 × BitVec 8) := F195_4 N a0_0 a0_1 a1 a2 a3 x2 x3 x4 x5 x6 x7 x8 x9 x10 x11 x12 x13 x14 ((x4 == 4) || (x10 == 4))
def F195_2 (N : Nat) (a0_0 : BitVec 8) (a0_1 : BitVec 8) (a1 : BitVec 8) (a2 : BitVec 64) (a3 : BitVec 64) (x2 : BitVec 64) (x3 : Bool) (x4 : Int) (x5 : Bool) (x6 : Nat) (x7 : Nat) (x8 : BitVec 64) (x9 : Bool) (x10 : Int) (x11 : Bool) (x12 : Nat) (x13 : Nat) : Option (BitVec 64 × BitVec 8) := F195_3 N a0_0 a0_1 a1 a2 a3 x2 x3 x4 x5 x6 x7 x8 x9 x10 x11 x12 x13 (x3 != x9)
def F195_1 (N : Nat) (a0_0 : BitVec 8) (a0_1 : BitVec 8) (a1 : BitVec 8) (a2 : BitVec 64) (a3 : BitVec 64) (x1 : Bool) : Option (BitVec 64 × BitVec 8) := bif x1 then some (0#64, 0#8) else (F144 N a0_0 a0_1 a2).bind fun y32 => (F144 N a0_0 a0_1 a3).bind fun y33 => F195_2 N a0_0 a0_1 a1 a2 a3 y32.1 y32.2.1 y32.2.2.1 y32.2.2.2.1 y32.2.2.2.2.1 y32.2.2.2.2.2 y33.1 y33.2.1 y33.2.2.1 y33.2.2.2.1 y33.2.2.2.2.1 y33.2.2.2.2.2
def F195 (N : Nat) (a0_0 : BitVec 8) (a0_1 : BitVec 8) (a1 : BitVec 8) (a2 : BitVec 64) (a3 : BitVec 64) : Option (BitVec 64 × BitVec 8) := lt (F40 a0_0 a0_1) fun y34 => F195_1 N a0_0 a0_1 a1 a2 a3 (!y34)
theorem C195 (N : Nat) (a0_0 : BitVec 8) (a0_1 : BitVec 8) (a1 : BitVec 8) (a2 : BitVec 64) (a3 : BitVec 64) (r : BitVec 64 × BitVec 8) (hr : some r = F195 N a0_0 a0_1 a1 a2 a3) : Aw.Fn Hfaa.prog 195 [agg [is (U8 a0_0), is (U8 a0_1)], is (U8 a1), is (U64 a2), is (U64 a3)] (tup [is (U64 r.1), is (U8 r.2)]) := by
  refine fn_intro Hfaa.func195 rfl rfl rfl ?_
  intro bn0 w0 H0
  refine AW_seq1 ?_
  refine AW_region ?_
  refine AL_cons (LR_box (at_tmp 0 _) (cells_agg _) rfl) (sS (sT1 rfl) sB0 (sF1 rfl)) ?_
  refine AL_cons (LR_assign (at_c (v' := U64 (0#64)) rfl) rfl) (sS sT0 sB0 sF0) ?_
  refine AL_cons (LR_assign (at_c (v' := U8 (0#8)) rfl) rfl) (sS sT0 sB0 sF0) ?_
  refine AL_nil ?_
  refine thenN ?_
  refine AW_seq1 ?_
  refine AW_cut (σ := Bool) (fun v => ⟨[(1, .inl (is (U8 a1))), (2, .inl (is (U64 a2))), (3, .inl (is (U64 a3))), (4, .inr (.inl (4, 0))), (15, .inl (is (Bl v)))], [(4, pb 23 [is (U8 a0_0), is (U8 a0_1)])]⟩) (fun v => some r = F195_1 N a0_0 a0_1 a1 a2 a3 v) ?_ ?_
  · skip
    refine AW_region ?_
    refine AL_cons (LR_loads (at_tmp 4 _) ag23 sz23 rfl rfl rfl) (sS (sT1 rfl) (sB1 rfl) sF0) ?_
    obtain ⟨y34, hy34, hr⟩ := lt_some hr
    refine AL_cons (LR_call Hfaa.func40 rfl rfl (C40 a0_0 a0_1 y34 hy34) (all_cons (at_tmp 13 _) all_nil) rfl) (sS (sA (sT1 rfl) sT0) sB0 sF0) ?_
    refine AL_cons (LR_un (at_tmp 14 _) (not_Bl y34) rfl) (sS (sT1 rfl) sB0 sF0) ?_
    refine AL_nil ?_
    exact thenN (cutLeaf (v := !y34) hr (weak0 ((sT rfl (sT rfl (sT rfl (sT rfl (sT rfl sT0)))))) (sub_keep sub_nil)))
  · rintro x1 hr
    show AW Hfaa.prog _ _ _ ⟨[(1, .inl (is (U8 a1))), (2, .inl (is (U64 a2))), (3, .inl (is (U64 a3))), (4, .inr (.inl (4, 0))), (15, .inl (is (Bl x1)))], [(4, pb 23 [is (U8 a0_0), is (U8 a0_1)])]⟩
    have hr : some r = F195_1 N a0_0 a0_1 a1 a2 a3 x1 := hr
    refine AW_condT (b := x1) rfl (fun h => ?_) (fun h => ?_)
    · have hr := hr.trans (cond_t h)
      clear h
      refine AW_seq1 ?_
      refine AW_region ?_
      refine AL_cons (LR_assign (at_c (v' := U64 (0#64)) rfl) rfl) (sS sT0 sB0 sF0) ?_
      refine AL_cons (LR_assign (at_c (v' := U8 (0#8)) rfl) rfl) (sS sT0 sB0 sF0) ?_
      refine AL_nil ?_
      refine thenN ?_
      refine AW_ret ?_
      refine thenR ?_
      obtain rfl := Option.some.inj hr
      exact res2 rfl (rvT rfl) (rvT rfl)
    · have hr := hr.trans (cond_f h)
      clear h
      refine AW_skip ?_
      refine thenN ?_
      refine AW_cut (σ := BitVec 64 × Bool × Int × Bool × Nat × Nat × BitVec 64 × Bool × Int × Bool × Nat × Nat) (fun v => ⟨[(1, .inl (is (U8 a1))), (2, .inl (is (U64 a2))), (3, .inl (is (U64 a3))), (4, .inr (.inl (4, 0))), (10, .inr (.inl (10, 0))), (11, .inr (.inl (11, 0)))], [(4, pb 23 [is (U8 a0_0), is (U8 a0_1)]), (10, pb 175 [is (U64 v.1), is (Bl v.2.1), is (I8 v.2.2.1), is (Bl v.2.2.2.1), big v.2.2.2.2.1, big v.2.2.2.2.2.1]), (11, pb 175 [is (U64 v.2.2.2.2.2.2.1), is (Bl v.2.2.2.2.2.2.2.1), is (I8 v.2.2.2.2.2.2.2.2.1), is (Bl v.2.2.2.2.2.2.2.2.2.1), big v.2.2.2.2.2.2.2.2.2.2.1, big v.2.2.2.2.2.2.2.2.2.2.2])]⟩) (fun v => some r = F195_2 N a0_0 a0_1 a1 a2 a3 v.1 v.2.1 v.2.2.1 v.2.2.2.1 v.2.2.2.2.1 v.2.2.2.2.2.1 v.2.2.2.2.2.2.1 v.2.2.2.2.2.2.2.1 v.2.2.2.2.2.2.2.2.1 v.2.2.2.2.2.2.2.2.2.1 v.2.2.2.2.2.2.2.2.2.2.1 v.2.2.2.2.2.2.2.2.2.2.2) ?_ ?_
      · skip
        obtain ⟨y32, hy32, hr⟩ := bind_some hr
        obtain ⟨y33, hy33, hr⟩ := bind_some hr
        refine AW_draw mixed
          (lrC (LR_loads (at_tmp 4 _) ag23 sz23 rfl rfl rfl)
          (lrC (LR_move (at_tmp 2 _) rfl)
          (lrC (LR_call Hfaa.func144 rfl rfl (C144 N a0_0 a0_1 a2 y32 hy32) (all_cons (at_tmp 16 _) (all_cons (at_tmp 17 _) all_nil)) rfl)
          (lrC (LR_loads (at_tmp 4 _) ag23 sz23 rfl rfl rfl)
          (lrC (LR_move (at_tmp 3 _) rfl)
          (lrC (LR_call Hfaa.func144 rfl rfl (C144 N a0_0 a0_1 a3 y33 hy33) (all_cons (at_tmp 19 _) (all_cons (at_tmp 20 _) all_nil)) rfl)
          (lrC (zl175 rfl)
          (lrC (zl175 rfl)
          (lrC (LR_store (at_tmp 10 _) (at_tmp 18 _) (cells_agg _) (onC (one_is rfl) (onC (one_is rfl) (onC (one_is rfl) (onC (one_is rfl) (onC (one_big _) (onC (one_big _) onN)))))) sz175 rfl rfl)
          (lrC (LR_store (at_tmp 11 _) (at_tmp 21 _) (cells_agg _) (onC (one_is rfl) (onC (one_is rfl) (onC (one_is rfl) (onC (one_is rfl) (onC (one_big _) (onC (one_big _) onN)))))) sz175 rfl rfl)
          lrN))))))))))
          (by kernel_rfl)
          (saC (sS (sT1 rfl) (sB1 rfl) sF0) (saC (sS (sT1 rfl) sB0 sF0) (saC (sS (sA (sT1 rfl) (sA (sT1 rfl) sT0)) sB0 sF0) (saC (sS (sT1 rfl) (sB1 rfl) sF0) (saC (sS (sT1 rfl) sB0 sF0) (saC (sS (sA (sT1 rfl) (sA (sT1 rfl) sT0)) sB0 sF0) (saC (sS sT0 sB0 (sF1 rfl)) (saC (sS sT0 sB0 (sF1 rfl)) (saC (sS (sA (sT1 rfl) (sT1 rfl)) (sB1 rfl) sF0) (saC (sS (sA (sT1 rfl) (sT1 rfl)) (sB1 rfl) sF0) saN)))))))))) ?_
        exact thenN (cutLeaf (v := (y32.1, y32.2.1, y32.2.2.1, y32.2.2.2.1, y32.2.2.2.2.1, y32.2.2.2.2.2, y33.1, y33.2.1, y33.2.2.1, y33.2.2.2.1, y33.2.2.2.2.1, y33.2.2.2.2.2)) hr (weak0 ((sT rfl (sT rfl (sT rfl (sT rfl (sT rfl (sT rfl sT0))))))) (sub_keep (sub_keep (sub_keep sub_nil)))))
      · rintro ⟨x2, x3, x4, x5, x6, x7, x8, x9, x10, x11, x12, x13⟩ hr
        show AW Hfaa.prog _ _ _ ⟨[(1, .inl (is (U8 a1))), (2, .inl (is (U64 a2))), (3, .inl (is (U64 a3))), (4, .inr (.inl (4, 0))), (10, .inr (.inl (10, 0))), (11, .inr (.inl (11, 0)))], [(4, pb 23 [is (U8 a0_0), is (U8 a0_1)]), (10, pb 175 [is (U64 x2), is (Bl x3), is (I8 x4), is (Bl x5), big x6, big x7]), (11, pb 175 [is (U64 x8), is (Bl x9), is (I8 x10), is (Bl x11), big x12, big x13])]⟩
        have hr : some r = F195_2 N a0_0 a0_1 a1 a2 a3 x2 x3 x4 x5 x6 x7 x8 x9 x10 x11 x12 x13 := hr
        refine AW_cut (σ := Bool) (fun v => ⟨[(1, .inl (is (U8 a1))), (2, .inl (is (U64 a2))), (3, .inl (is (U64 a3))), (4, .inr (.inl (4, 0))), (10, .inr (.inl (10, 0))), (11, .inr (.inl (11, 0))), (12, .inl (is (Bl v)))], [(4, pb 23 [is (U8 a0_0), is (U8 a0_1)]), (10, pb 175 [is (U64 x2), is (Bl x3), is (I8 x4), is (Bl x5), big x6, big x7]), (11, pb 175 [is (U64 x8), is (Bl x9), is (I8 x10), is (Bl x11), big x12, big x13])]⟩) (fun v => some r = F195_3 N a0_0 a0_1 a1 a2 a3 x2 x3 x4 x5 x6 x7 x8 x9 x10 x11 x12 x13 v) ?_ ?_
        · skip
          refine AW_region ?_
          refine AL_cons (LR_fieldAddr (off := 0) (o := 1) (at_tmp 10 _) (fun b w => fa175_1 b 0 w) rfl) (sS (sT1 rfl) sB0 sF0) ?_
          refine AL_cons (LR_load (at_tmp 22 _) na4 rfl rfl) (sS (sT1 rfl) (sB1 rfl) sF0) ?_
          refine AL_cons (LR_fieldAddr (off := 0) (o := 1) (at_tmp 11 _) (fun b w => fa175_1 b 0 w) rfl) (sS (sT1 rfl) sB0 sF0) ?_
          refine AL_cons (LR_load (at_tmp 24 _) na4 rfl rfl) (sS (sT1 rfl) (sB1 rfl) sF0) ?_
          refine AL_cons (LR_bin (at_tmp 23 _) (at_tmp 25 _) (neq_Bl Hfaa.underlying4 x3 x9) rfl) (sS (sA (sT1 rfl) (sT1 rfl)) sB0 sF0) ?_
          refine AL_cons (LR_assign (at_tmp 26 _) rfl) (sS (sT1 rfl) sB0 sF0) ?_
          refine AL_nil ?_
          exact thenN (cutLeaf (v := x3 != x9) hr (weak0 ((sT rfl (sT rfl (sT rfl (sT rfl (sT rfl (sT rfl (sT rfl sT0)))))))) (sub_keep (sub_keep (sub_keep sub_nil)))))
        · rintro x14 hr
          show AW Hfaa.prog _ _ _ ⟨[(1, .inl (is (U8 a1))), (2, .inl (is (U64 a2))), (3, .inl (is (U64 a3))), (4, .inr (.inl (4, 0))), (10, .inr (.inl (10, 0))), (11, .inr (.inl (11, 0))), (12, .inl (is (Bl x14)))], [(4, pb 23 [is (U8 a0_0), is (U8 a0_1)]), (10, pb 175 [is (U64 x2), is (Bl x3), is (I8 x4), is (Bl x5), big x6, big x7]), (11, pb 175 [is (U64 x8), is (Bl x9), is (I8 x10), is (Bl x11), big x12, big x13])]⟩
          have hr : some r = F195_3 N a0_0 a0_1 a1 a2 a3 x2 x3 x4 x5 x6 x7 x8 x9 x10 x11 x12 x13 x14 := hr
          refine AW_seq1 ?_
          refine AW_block ?_
          refine AW_cut (σ := Bool) (fun v => ⟨[(1, .inl (is (U8 a1))), (2, .inl (is (U64 a2))), (3, .inl (is (U64 a3))), (4, .inr (.inl (4, 0))), (10, .inr (.inl (10, 0))), (11, .inr (.inl (11, 0))), (12, .inl (is (Bl x14))), (27, .inl (is (Bl v)))], [(4, pb 23 [is (U8 a0_0), is (U8 a0_1)]), (10, pb 175 [is (U64 x2), is (Bl x3), is (I8 x4), is (Bl x5), big x6, big x7]), (11, pb 175 [is (U64 x8), is (Bl x9), is (I8 x10), is (Bl x11), big x12, big x13])]⟩) (fun v => some r = F195_4 N a0_0 a0_1 a1 a2 a3 x2 x3 x4 x5 x6 x7 x8 x9 x10 x11 x12 x13 x14 v) ?_ ?_
          · skip
            refine AW_region ?_
            refine AL_cons (LR_fieldAddr (off := 0) (o := 2) (at_tmp 10 _) (fun b w => fa175_2 b 0 w) rfl) (sS (sT1 rfl) sB0 sF0) ?_
            refine AL_cons (LR_load (at_tmp 28 _) na110 rfl rfl) (sS (sT1 rfl) (sB1 rfl) sF0) ?_
            refine AL_cons (LR_bin (at_tmp 29 _) (at_c (v' := I8 4) rfl) (eql_I8 x4 4) rfl) (sS (sA (sT1 rfl) sT0) sB0 sF0) ?_
            refine AL_cons (LR_move (at_tmp 30 _) rfl) (sS (sT1 rfl) sB0 sF0) ?_
            refine AL_cutAt 4 ⟨[(1, .inl (is (U8 a1))), (2, .inl (is (U64 a2))), (3, .inl (is (U64 a3))), (4, .inr (.inl (4, 0))), (10, .inr (.inl (10, 0))), (11, .inr (.inl (11, 0))), (12, .inl (is (Bl x14))), (28, .inr (.inl (10, 2))), (29, .inl (is (I8 x4))), (30, .inl (is (Bl (x4 == 4)))), (31, .inl (is (Bl (x4 == 4)))), (35, .inl (is (Bl ((x4 == 4) || (x10 == 4)))))], [(4, pb 23 [is (U8 a0_0), is (U8 a0_1)]), (10, pb 175 [is (U64 x2), is (Bl x3), is (I8 x4), is (Bl x5), big x6, big x7]), (11, pb 175 [is (U64 x8), is (Bl x9), is (I8 x10), is (Bl x11), big x12, big x13])]⟩ ?_ ?_
            · cases hb : x4 == 4
              · skip
                refine AL_cons (LR_on rfl rfl rfl (LR_fieldAddr (off := 0) (o := 2) (at_tmp 11 _) (fun b w => fa175_2 b 0 w) rfl)) (sS (sT rfl (sT1 rfl)) sB0 sF0) ?_
                refine AL_cons (LR_on rfl rfl rfl (LR_load (at_tmp 32 _) na110 rfl rfl)) (sS (sT rfl (sT1 rfl)) (sB1 rfl) sF0) ?_
                refine AL_cons (LR_on rfl rfl rfl (LR_bin (at_tmp 33 _) (at_c (v' := I8 4) rfl) (eql_I8 x10 4) rfl)) (sS (sT rfl (sA (sT1 rfl) sT0)) sB0 sF0) ?_
                refine AL_cons (LR_pick (b := false) (at_tmp 31 _) (at_c (v' := Bl true) rfl) (at_tmp 34 _) rfl) (sS (sA (sT1 rfl) (sA sT0 (sT1 rfl))) sB0 sF0) ?_
                exact AL_nil ⟨rfl, weak0 ((sT rfl (sT rfl (sT rfl (sT rfl (sT rfl (sT rfl (sT rfl (sT rfl (sT rfl (sT rfl (sT rfl (sT rfl sT0))))))))))))) (sub_keep (sub_keep (sub_keep sub_nil)))⟩
              · skip
                refine AL_cons (LR_off (b := true) rfl rfl rfl rfl) (sS (sT1 rfl) sB0 sF0) ?_
                refine AL_cons (LR_off (b := true) rfl rfl rfl rfl) (sS (sT1 rfl) sB0 sF0) ?_
                refine AL_cons (LR_off (b := true) rfl rfl rfl rfl) (sS (sT1 rfl) sB0 sF0) ?_
                refine AL_cons (LR_pick (b := true) (at_tmp 31 _) (at_c (v' := Bl true) rfl) (at_tmp 34 _) rfl) (sS (sA (sT1 rfl) (sA sT0 (sT1 rfl))) sB0 sF0) ?_
                exact AL_nil ⟨rfl, weak0 ((sT rfl (sT rfl (sT rfl (sT rfl (sT rfl (sT rfl (sT rfl (sT rfl (sT rfl (sT rfl (sT rfl (sT rfl sT0))))))))))))) (sub_keep (sub_keep (sub_keep sub_nil)))⟩
            refine AL_cons (LR_assign (at_tmp 35 _) rfl) (sS (sT1 rfl) sB0 sF0) ?_
            refine AL_nil ?_
            exact thenN (cutLeaf (v := (x4 == 4) || (x10 == 4)) hr (weak0 ((sT rfl (sT rfl (sT rfl (sT rfl (sT rfl (sT rfl (sT rfl (sT rfl sT0))))))))) (sub_keep (sub_keep (sub_keep sub_nil)))))
          · rintro x15 hr
            show AW Hfaa.prog _ _ _ ⟨[(1, .inl (is (U8 a1))), (2, .inl (is (U64 a2))), (3, .inl (is (U64 a3))), (4, .inr (.inl (4, 0))), (10, .inr (.inl (10, 0))), (11, .inr (.inl (11, 0))), (12, .inl (is (Bl x14))), (27, .inl (is (Bl x15)))], [(4, pb 23 [is (U8 a0_0), is (U8 a0_1)]), (10, pb 175 [is (U64 x2), is (Bl x3), is (I8 x4), is (Bl x5), big x6, big x7]), (11, pb 175 [is (U64 x8), is (Bl x9), is (I8 x10), is (Bl x11), big x12, big x13])]⟩
            have hr : some r = F195_4 N a0_0 a0_1 a1 a2 a3 x2 x3 x4 x5 x6 x7 x8 x9 x10 x11 x12 x13 x14 x15 := hr
            refine AW_condT (b := x15) rfl (fun h => ?_) (fun h => ?_)
            · have hr := hr.trans (cond_t h)
              clear h
              refine AW_seq1 ?_
              obtain ⟨y20, hy20, hr⟩ := lt_some hr
              obtain ⟨y21, hy21, hr⟩ := lt_some hr
              refine AW_draw mixed
                (lrC (LR_loads (at_tmp 4 _) ag23 sz23 rfl rfl rfl)
                (lrC (LR_call Hfaa.func66 rfl rfl (C66 a0_0 a0_1 y20 hy20) (all_cons (at_tmp 36 _) all_nil) rfl)
                (lrC (LR_loads (at_tmp 4 _) ag23 sz23 rfl rfl rfl)
                (lrC (LR_move (at_tmp 2 _) rfl)
                (lrC (LR_move (at_tmp 3 _) rfl)
                (lrC (LR_call Hfaa.func216 rfl rfl (C216 a0_0 a0_1 a2 a3 y21 hy21) (all_cons (at_tmp 38 _) (all_cons (at_tmp 39 _) (all_cons (at_tmp 40 _) all_nil))) rfl)
                (lrC (LR_assign (at_tmp 37 _) rfl)
                (lrC (LR_assign (at_tmp 41 _) rfl)
                lrN))))))))
                (by kernel_rfl)
                (saC (sS (sT1 rfl) (sB1 rfl) sF0) (saC (sS (sA (sT1 rfl) sT0) sB0 sF0) (saC (sS (sT1 rfl) (sB1 rfl) sF0) (saC (sS (sT1 rfl) sB0 sF0) (saC (sS (sT1 rfl) sB0 sF0) (saC (sS (sA (sT1 rfl) (sA (sT1 rfl) (sA (sT1 rfl) sT0))) sB0 sF0) (saC (sS (sT1 rfl) sB0 sF0) (saC (sS (sT1 rfl) sB0 sF0) saN)))))))) ?_
              refine thenN ?_
              refine AW_ret ?_
              refine blR ?_
              refine thenR ?_
              obtain rfl := Option.some.inj hr
              exact res2 rfl (rvT rfl) (rvT rfl)
            · have hr := hr.trans (cond_f h)
              clear h
              refine AW_cut (σ := Bool) (fun v => ⟨[(1, .inl (is (U8 a1))), (4, .inr (.inl (4, 0))), (10, .inr (.inl (10, 0))), (11, .inr (.inl (11, 0))), (12, .inl (is (Bl x14))), (42, .inl (is (Bl v)))], [(4, pb 23 [is (U8 a0_0), is (U8 a0_1)]), (10, pb 175 [is (U64 x2), is (Bl x3), is (I8 x4), is (Bl x5), big x6, big x7]), (11, pb 175 [is (U64 x8), is (Bl x9), is (I8 x10), is (Bl x11), big x12, big x13])]⟩) (fun v => some r = F195_5 N a0_0 a0_1 a1 x2 x3 x4 x5 x6 x7 x8 x9 x10 x11 x12 x13 x14 v) ?_ ?_
              · skip
                refine AW_cut (σ := Bool) (fun v => ⟨[(1, .inl (is (U8 a1))), (4, .inr (.inl (4, 0))), (10, .inr (.inl (10, 0))), (11, .inr (.inl (11, 0))), (12, .inl (is (Bl x14))), (42, .inl (is (Bl v)))], [(4, pb 23 [is (U8 a0_0), is (U8 a0_1)]), (10, pb 175 [is (U64 x2), is (Bl x3), is (I8 x4), is (Bl x5), big x6, big x7]), (11, pb 175 [is (U64 x8), is (Bl x9), is (I8 x10), is (Bl x11), big x12, big x13])]⟩) (fun v => some r = F195_9 N a0_0 a0_1 a1 x2 x3 x4 x5 x6 x7 x8 x9 x10 x11 x12 x13 x14 v) ?_ ?_
                · skip
                  refine AW_region ?_
                  refine AL_cons (LR_fieldAddr (off := 0) (o := 2) (at_tmp 10 _) (fun b w => fa175_2 b 0 w) rfl) (sS (sT1 rfl) sB0 sF0) ?_
                  refine AL_cons (LR_load (at_tmp 43 _) na110 rfl rfl) (sS (sT1 rfl) (sB1 rfl) sF0) ?_
                  refine AL_cons (LR_bin (at_tmp 44 _) (at_c (v' := I8 3) rfl) (eql_I8 x4 3) rfl) (sS (sA (sT1 rfl) sT0) sB0 sF0) ?_
                  refine AL_cons (LR_move (at_tmp 45 _) rfl) (sS (sT1 rfl) sB0 sF0) ?_
                  refine AL_cutAt 4 ⟨[(1, .inl (is (U8 a1))), (2, .inl (is (U64 a2))), (3, .inl (is (U64 a3))), (4, .inr (.inl (4, 0))), (10, .inr (.inl (10, 0))), (11, .inr (.inl (11, 0))), (12, .inl (is (Bl x14))), (27, .inl (is (Bl x15))), (43, .inr (.inl (10, 2))), (44, .inl (is (I8 x4))), (45, .inl (is (Bl (x4 == 3)))), (46, .inl (is (Bl (x4 == 3)))), (50, .inl (is (Bl ((x4 == 3) && (x10 == 3)))))], [(4, pb 23 [is (U8 a0_0), is (U8 a0_1)]), (10, pb 175 [is (U64 x2), is (Bl x3), is (I8 x4), is (Bl x5), big x6, big x7]), (11, pb 175 [is (U64 x8), is (Bl x9), is (I8 x10), is (Bl x11), big x12, big x13])]⟩ ?_ ?_
                  · cases hb : x4 == 3
                    · skip
                      refine AL_cons (LR_off (b := false) rfl rfl rfl rfl) (sS (sT1 rfl) sB0 sF0) ?_
                      refine AL_cons (LR_off (b := false) rfl rfl rfl rfl) (sS (sT1 rfl) sB0 sF0) ?_
                      refine AL_cons (LR_off (b := false) rfl rfl rfl rfl) (sS (sT1 rfl) sB0 sF0) ?_
                      refine AL_cons (LR_pick (b := false) (at_tmp 46 _) (at_tmp 49 _) (at_c (v' := Bl false) rfl) rfl) (sS (sA (sT1 rfl) (sA (sT1 rfl) sT0)) sB0 sF0) ?_
                      exact AL_nil ⟨rfl, weak0 ((sT rfl (sT rfl (sT rfl (sT rfl (sT rfl (sT rfl (sT rfl (sT rfl (sT rfl (sT rfl (sT rfl (sT rfl (sT rfl sT0)))))))))))))) (sub_keep (sub_keep (sub_keep sub_nil)))⟩
                    · skip
                      refine AL_cons (LR_on rfl rfl rfl (LR_fieldAddr (off := 0) (o := 2) (at_tmp 11 _) (fun b w => fa175_2 b 0 w) rfl)) (sS (sT rfl (sT1 rfl)) sB0 sF0) ?_
                      refine AL_cons (LR_on rfl rfl rfl (LR_load (at_tmp 47 _) na110 rfl rfl)) (sS (sT rfl (sT1 rfl)) (sB1 rfl) sF0) ?_
                      refine AL_cons (LR_on rfl rfl rfl (LR_bin (at_tmp 48 _) (at_c (v' := I8 3) rfl) (eql_I8 x10 3) rfl)) (sS (sT rfl (sA (sT1 rfl) sT0)) sB0 sF0) ?_
                      refine AL_cons (LR_pick (b := true) (at_tmp 46 _) (at_tmp 49 _) (at_c (v' := Bl false) rfl) rfl) (sS (sA (sT1 rfl) (sA (sT1 rfl) sT0)) sB0 sF0) ?_
                      exact AL_nil ⟨rfl, weak0 ((sT rfl (sT rfl (sT rfl (sT rfl (sT rfl (sT rfl (sT rfl (sT rfl (sT rfl (sT rfl (sT rfl (sT rfl (sT rfl sT0)))))))))))))) (sub_keep (sub_keep (sub_keep sub_nil)))⟩
                  refine AL_cons (LR_assign (at_tmp 50 _) rfl) (sS (sT1 rfl) sB0 sF0) ?_
                  refine AL_nil ?_
                  exact thenN (cutLeaf (v := (x4 == 3) && (x10 == 3)) hr (weak0 ((sT rfl (sT rfl (sT rfl (sT rfl (sT rfl (sT rfl sT0))))))) (sub_keep (sub_keep (sub_keep sub_nil)))))
                · rintro x20 hr
                  show AW Hfaa.prog _ _ _ ⟨[(1, .inl (is (U8 a1))), (4, .inr (.inl (4, 0))), (10, .inr (.inl (10, 0))), (11, .inr (.inl (11, 0))), (12, .inl (is (Bl x14))), (42, .inl (is (Bl x20)))], [(4, pb 23 [is (U8 a0_0), is (U8 a0_1)]), (10, pb 175 [is (U64 x2), is (Bl x3), is (I8 x4), is (Bl x5), big x6, big x7]), (11, pb 175 [is (U64 x8), is (Bl x9), is (I8 x10), is (Bl x11), big x12, big x13])]⟩
                  have hr : some r = F195_9 N a0_0 a0_1 a1 x2 x3 x4 x5 x6 x7 x8 x9 x10 x11 x12 x13 x14 x20 := hr
                  refine AW_condT (b := x20) rfl (fun h => ?_) (fun h => ?_)
                  · have hr := hr.trans (cond_t h)
                    clear h
                    refine AW_skip ?_
                    exact thenN (cutLeaf (v := x20) hr (weak0 ((sT rfl (sT rfl (sT rfl (sT rfl (sT rfl (sT rfl sT0))))))) (sub_keep (sub_keep (sub_keep sub_nil)))))
                  · have hr := hr.trans (cond_f h)
                    clear h
                    refine AW_region ?_
                    refine AL_cons (LR_fieldAddr (off := 0) (o := 2) (at_tmp 10 _) (fun b w => fa175_2 b 0 w) rfl) (sS (sT1 rfl) sB0 sF0) ?_
                    refine AL_cons (LR_load (at_tmp 51 _) na110 rfl rfl) (sS (sT1 rfl) (sB1 rfl) sF0) ?_
                    refine AL_cons (LR_bin (at_tmp 52 _) (at_c (v' := I8 0) rfl) (eql_I8 x4 0) rfl) (sS (sA (sT1 rfl) sT0) sB0 sF0) ?_
                    refine AL_cons (LR_move (at_tmp 53 _) rfl) (sS (sT1 rfl) sB0 sF0) ?_
                    refine AL_cutAt 4 ⟨[(1, .inl (is (U8 a1))), (4, .inr (.inl (4, 0))), (10, .inr (.inl (10, 0))), (11, .inr (.inl (11, 0))), (12, .inl (is (Bl x14))), (42, .inl (is (Bl x20))), (51, .inr (.inl (10, 2))), (52, .inl (is (I8 x4))), (53, .inl (is (Bl (x4 == 0)))), (54, .inl (is (Bl (x4 == 0)))), (58, .inl (is (Bl ((x4 == 0) && (x10 == 0)))))], [(4, pb 23 [is (U8 a0_0), is (U8 a0_1)]), (10, pb 175 [is (U64 x2), is (Bl x3), is (I8 x4), is (Bl x5), big x6, big x7]), (11, pb 175 [is (U64 x8), is (Bl x9), is (I8 x10), is (Bl x11), big x12, big x13])]⟩ ?_ ?_
                    · cases hb : x4 == 0
                      · skip
                        refine AL_cons (LR_off (b := false) rfl rfl rfl rfl) (sS (sT1 rfl) sB0 sF0) ?_
                        refine AL_cons (LR_off (b := false) rfl rfl rfl rfl) (sS (sT1 rfl) sB0 sF0) ?_
                        refine AL_cons (LR_off (b := false) rfl rfl rfl rfl) (sS (sT1 rfl) sB0 sF0) ?_
                        refine AL_cons (LR_pick (b := false) (at_tmp 54 _) (at_tmp 57 _) (at_c (v' := Bl false) rfl) rfl) (sS (sA (sT1 rfl) (sA (sT1 rfl) sT0)) sB0 sF0) ?_
                        exact AL_nil ⟨rfl, weak0 ((sT rfl (sT rfl (sT rfl (sT rfl (sT rfl (sT rfl (sT rfl (sT rfl (sT rfl (sT rfl (sT rfl sT0)))))))))))) (sub_keep (sub_keep (sub_keep sub_nil)))⟩
                      · skip
                        refine AL_cons (LR_on rfl rfl rfl (LR_fieldAddr (off := 0) (o := 2) (at_tmp 11 _) (fun b w => fa175_2 b 0 w) rfl)) (sS (sT rfl (sT1 rfl)) sB0 sF0) ?_
                        refine AL_cons (LR_on rfl rfl rfl (LR_load (at_tmp 55 _) na110 rfl rfl)) (sS (sT rfl (sT1 rfl)) (sB1 rfl) sF0) ?_
                        refine AL_cons (LR_on rfl rfl rfl (LR_bin (at_tmp 56 _) (at_c (v' := I8 0) rfl) (eql_I8 x10 0) rfl)) (sS (sT rfl (sA (sT1 rfl) sT0)) sB0 sF0) ?_
                        refine AL_cons (LR_pick (b := true) (at_tmp 54 _) (at_tmp 57 _) (at_c (v' := Bl false) rfl) rfl) (sS (sA (sT1 rfl) (sA (sT1 rfl) sT0)) sB0 sF0) ?_
                        exact AL_nil ⟨rfl, weak0 ((sT rfl (sT rfl (sT rfl (sT rfl (sT rfl (sT rfl (sT rfl (sT rfl (sT rfl (sT rfl (sT rfl sT0)))))))))))) (sub_keep (sub_keep (sub_keep sub_nil)))⟩
                    refine AL_cons (LR_assign (at_tmp 58 _) rfl) (sS (sT1 rfl) sB0 sF0) ?_
                    refine AL_nil ?_
                    exact thenN (cutLeaf (v := (x4 == 0) && (x10 == 0)) hr (weak0 ((sT rfl (sT rfl (sT rfl (sT rfl (sT rfl (sT rfl sT0))))))) (sub_keep (sub_keep (sub_keep sub_nil)))))
              · rintro x16 hr
                show AW Hfaa.prog _ _ _ ⟨[(1, .inl (is (U8 a1))), (4, .inr (.inl (4, 0))), (10, .inr (.inl (10, 0))), (11, .inr (.inl (11, 0))), (12, .inl (is (Bl x14))), (42, .inl (is (Bl x16)))], [(4, pb 23 [is (U8 a0_0), is (U8 a0_1)]), (10, pb 175 [is (U64 x2), is (Bl x3), is (I8 x4), is (Bl x5), big x6, big x7]), (11, pb 175 [is (U64 x8), is (Bl x9), is (I8 x10), is (Bl x11), big x12, big x13])]⟩
                have hr : some r = F195_5 N a0_0 a0_1 a1 x2 x3 x4 x5 x6 x7 x8 x9 x10 x11 x12 x13 x14 x16 := hr
                refine AW_condT (b := x16) rfl (fun h => ?_) (fun h => ?_)
                · have hr := hr.trans (cond_t h)
                  clear h
                  refine AW_seq1 ?_
                  refine AW_region ?_
                  refine AL_cons (LR_loads (at_tmp 4 _) ag23 sz23 rfl rfl rfl) (sS (sT1 rfl) (sB1 rfl) sF0) ?_
                  obtain ⟨y23, hy23, hr⟩ := lt_some hr
                  refine AL_cons (LR_call Hfaa.func66 rfl rfl (C66 a0_0 a0_1 y23 hy23) (all_cons (at_tmp 59 _) all_nil) rfl) (sS (sA (sT1 rfl) sT0) sB0 sF0) ?_
                  refine AL_cons (LR_assign (at_tmp 60 _) rfl) (sS (sT1 rfl) sB0 sF0) ?_
                  refine AL_cons (LR_assign (at_c (v' := U8 (1#8)) rfl) rfl) (sS sT0 sB0 sF0) ?_
                  refine AL_nil ?_
                  refine thenN ?_
                  refine AW_ret ?_
                  refine blR ?_
                  refine thenR ?_
                  obtain rfl := Option.some.inj hr
                  exact res2 rfl (rvT rfl) (rvT rfl)
                · have hr := hr.trans (cond_f h)
                  clear h
                  refine AW_cut (σ := Bool) (fun v => ⟨[(1, .inl (is (U8 a1))), (4, .inr (.inl (4, 0))), (10, .inr (.inl (10, 0))), (11, .inr (.inl (11, 0))), (12, .inl (is (Bl x14))), (61, .inl (is (Bl v)))], [(4, pb 23 [is (U8 a0_0), is (U8 a0_1)]), (10, pb 175 [is (U64 x2), is (Bl x3), is (I8 x4), is (Bl x5), big x6, big x7]), (11, pb 175 [is (U64 x8), is (Bl x9), is (I8 x10), is (Bl x11), big x12, big x13])]⟩) (fun v => some r = F195_6 N a0_0 a0_1 a1 x2 x3 x4 x5 x6 x7 x8 x9 x10 x11 x12 x13 x14 v) ?_ ?_
                  · skip
                    refine AW_region ?_
                    refine AL_cons (LR_fieldAddr (off := 0) (o := 2) (at_tmp 10 _) (fun b w => fa175_2 b 0 w) rfl) (sS (sT1 rfl) sB0 sF0) ?_
                    refine AL_cons (LR_load (at_tmp 62 _) na110 rfl rfl) (sS (sT1 rfl) (sB1 rfl) sF0) ?_
                    refine AL_cons (LR_bin (at_tmp 63 _) (at_c (v' := I8 3) rfl) (eql_I8 x4 3) rfl) (sS (sA (sT1 rfl) sT0) sB0 sF0) ?_
                    refine AL_cons (LR_assign (at_tmp 64 _) rfl) (sS (sT1 rfl) sB0 sF0) ?_
                    refine AL_nil ?_
                    exact thenN (cutLeaf (v := x4 == 3) hr (weak0 ((sT rfl (sT rfl (sT rfl (sT rfl (sT rfl (sT rfl sT0))))))) (sub_keep (sub_keep (sub_keep sub_nil)))))
                  · rintro x17 hr
                    show AW Hfaa.prog _ _ _ ⟨[(1, .inl (is (U8 a1))), (4, .inr (.inl (4, 0))), (10, .inr (.inl (10, 0))), (11, .inr (.inl (11, 0))), (12, .inl (is (Bl x14))), (61, .inl (is (Bl x17)))], [(4, pb 23 [is (U8 a0_0), is (U8 a0_1)]), (10, pb 175 [is (U64 x2), is (Bl x3), is (I8 x4), is (Bl x5), big x6, big x7]), (11, pb 175 [is (U64 x8), is (Bl x9), is (I8 x10), is (Bl x11), big x12, big x13])]⟩
                    have hr : some r = F195_6 N a0_0 a0_1 a1 x2 x3 x4 x5 x6 x7 x8 x9 x10 x11 x12 x13 x14 x17 := hr
                    refine AW_condT (b := x17) rfl (fun h => ?_) (fun h => ?_)
                    · have hr := hr.trans (cond_t h)
                      clear h
                      refine AW_seq1 ?_
                      refine AW_region ?_
                      refine AL_cons (LR_loads (at_tmp 4 _) ag23 sz23 rfl rfl rfl) (sS (sT1 rfl) (sB1 rfl) sF0) ?_
                      refine AL_cons (LR_move (at_tmp 12 _) rfl) (sS (sT1 rfl) sB0 sF0) ?_
                      obtain ⟨y25, hy25, hr⟩ := lt_some hr
                      refine AL_cons (LR_call Hfaa.func67 rfl rfl (C67 a0_0 a0_1 x14 y25 hy25) (all_cons (at_tmp 65 _) (all_cons (at_tmp 66 _) all_nil)) rfl) (sS (sA (sT1 rfl) (sA (sT1 rfl) sT0)) sB0 sF0) ?_
                      refine AL_cons (LR_assign (at_tmp 67 _) rfl) (sS (sT1 rfl) sB0 sF0) ?_
                      refine AL_cons (LR_assign (at_c (v' := U8 (0#8)) rfl) rfl) (sS sT0 sB0 sF0) ?_
                      refine AL_nil ?_
                      refine thenN ?_
                      refine AW_ret ?_
                      refine blR ?_
                      refine thenR ?_
                      obtain rfl := Option.some.inj hr
                      exact res2 rfl (rvT rfl) (rvT rfl)
                    · have hr := hr.trans (cond_f h)
                      clear h
                      refine AW_cut (σ := Bool) (fun v => ⟨[(1, .inl (is (U8 a1))), (4, .inr (.inl (4, 0))), (10, .inr (.inl (10, 0))), (11, .inr (.inl (11, 0))), (12, .inl (is (Bl x14))), (68, .inl (is (Bl v)))], [(4, pb 23 [is (U8 a0_0), is (U8 a0_1)]), (10, pb 175 [is (U64 x2), is (Bl x3), is (I8 x4), is (Bl x5), big x6, big x7]), (11, pb 175 [is (U64 x8), is (Bl x9), is (I8 x10), is (Bl x11), big x12, big x13])]⟩) (fun v => some r = F195_7 N a0_0 a0_1 a1 x2 x3 x4 x5 x6 x7 x8 x9 x10 x11 x12 x13 x14 v) ?_ ?_
                      · skip
                        refine AW_region ?_
                        refine AL_cons (LR_fieldAddr (off := 0) (o := 2) (at_tmp 11 _) (fun b w => fa175_2 b 0 w) rfl) (sS (sT1 rfl) sB0 sF0) ?_
                        refine AL_cons (LR_load (at_tmp 69 _) na110 rfl rfl) (sS (sT1 rfl) (sB1 rfl) sF0) ?_
                        refine AL_cons (LR_bin (at_tmp 70 _) (at_c (v' := I8 0) rfl) (eql_I8 x10 0) rfl) (sS (sA (sT1 rfl) sT0) sB0 sF0) ?_
                        refine AL_cons (LR_assign (at_tmp 71 _) rfl) (sS (sT1 rfl) sB0 sF0) ?_
                        refine AL_nil ?_
                        exact thenN (cutLeaf (v := x10 == 0) hr (weak0 ((sT rfl (sT rfl (sT rfl (sT rfl (sT rfl (sT rfl sT0))))))) (sub_keep (sub_keep (sub_keep sub_nil)))))
                      · rintro x18 hr
                        show AW Hfaa.prog _ _ _ ⟨[(1, .inl (is (U8 a1))), (4, .inr (.inl (4, 0))), (10, .inr (.inl (10, 0))), (11, .inr (.inl (11, 0))), (12, .inl (is (Bl x14))), (68, .inl (is (Bl x18)))], [(4, pb 23 [is (U8 a0_0), is (U8 a0_1)]), (10, pb 175 [is (U64 x2), is (Bl x3), is (I8 x4), is (Bl x5), big x6, big x7]), (11, pb 175 [is (U64 x8), is (Bl x9), is (I8 x10), is (Bl x11), big x12, big x13])]⟩
                        have hr : some r = F195_7 N a0_0 a0_1 a1 x2 x3 x4 x5 x6 x7 x8 x9 x10 x11 x12 x13 x14 x18 := hr
                        refine AW_condT (b := x18) rfl (fun h => ?_) (fun h => ?_)
                        · have hr := hr.trans (cond_t h)
                          clear h
                          refine AW_seq1 ?_
                          refine AW_region ?_
                          refine AL_cons (LR_loads (at_tmp 4 _) ag23 sz23 rfl rfl rfl) (sS (sT1 rfl) (sB1 rfl) sF0) ?_
                          refine AL_cons (LR_move (at_tmp 12 _) rfl) (sS (sT1 rfl) sB0 sF0) ?_
                          obtain ⟨y27, hy27, hr⟩ := lt_some hr
                          refine AL_cons (LR_call Hfaa.func67 rfl rfl (C67 a0_0 a0_1 x14 y27 hy27) (all_cons (at_tmp 72 _) (all_cons (at_tmp 73 _) all_nil)) rfl) (sS (sA (sT1 rfl) (sA (sT1 rfl) sT0)) sB0 sF0) ?_
                          refine AL_cons (LR_assign (at_tmp 74 _) rfl) (sS (sT1 rfl) sB0 sF0) ?_
                          refine AL_cons (LR_assign (at_c (v' := U8 (2#8)) rfl) rfl) (sS sT0 sB0 sF0) ?_
                          refine AL_nil ?_
                          refine thenN ?_
                          refine AW_ret ?_
                          refine blR ?_
                          refine thenR ?_
                          obtain rfl := Option.some.inj hr
                          exact res2 rfl (rvT rfl) (rvT rfl)
                        · have hr := hr.trans (cond_f h)
                          clear h
                          refine AW_cut (σ := Bool) (fun v => ⟨[(1, .inl (is (U8 a1))), (4, .inr (.inl (4, 0))), (10, .inr (.inl (10, 0))), (11, .inr (.inl (11, 0))), (12, .inl (is (Bl x14))), (75, .inl (is (Bl v)))], [(4, pb 23 [is (U8 a0_0), is (U8 a0_1)]), (10, pb 175 [is (U64 x2), is (Bl x3), is (I8 x4), is (Bl x5), big x6, big x7]), (11, pb 175 [is (U64 x8), is (Bl x9), is (I8 x10), is (Bl x11), big x12, big x13])]⟩) (fun v => some r = F195_8 N a0_0 a0_1 a1 x2 x3 x4 x5 x6 x7 x8 x9 x10 x11 x12 x13 x14 v) ?_ ?_
                          · skip
                            refine AW_region ?_
                            refine AL_cons (LR_fieldAddr (off := 0) (o := 2) (at_tmp 11 _) (fun b w => fa175_2 b 0 w) rfl) (sS (sT1 rfl) sB0 sF0) ?_
                            refine AL_cons (LR_load (at_tmp 76 _) na110 rfl rfl) (sS (sT1 rfl) (sB1 rfl) sF0) ?_
                            refine AL_cons (LR_bin (at_tmp 77 _) (at_c (v' := I8 3) rfl) (eql_I8 x10 3) rfl) (sS (sA (sT1 rfl) sT0) sB0 sF0) ?_
                            refine AL_cons (LR_assign (at_tmp 78 _) rfl) (sS (sT1 rfl) sB0 sF0) ?_
                            refine AL_nil ?_
                            exact thenN (cutLeaf (v := x10 == 3) hr (weak0 ((sT rfl (sT rfl (sT rfl (sT rfl (sT rfl (sT rfl sT0))))))) (sub_keep (sub_keep (sub_keep sub_nil)))))
                          · rintro x19 hr
                            show AW Hfaa.prog _ _ _ ⟨[(1, .inl (is (U8 a1))), (4, .inr (.inl (4, 0))), (10, .inr (.inl (10, 0))), (11, .inr (.inl (11, 0))), (12, .inl (is (Bl x14))), (75, .inl (is (Bl x19)))], [(4, pb 23 [is (U8 a0_0), is (U8 a0_1)]), (10, pb 175 [is (U64 x2), is (Bl x3), is (I8 x4), is (Bl x5), big x6, big x7]), (11, pb 175 [is (U64 x8), is (Bl x9), is (I8 x10), is (Bl x11), big x12, big x13])]⟩
                            have hr : some r = F195_8 N a0_0 a0_1 a1 x2 x3 x4 x5 x6 x7 x8 x9 x10 x11 x12 x13 x14 x19 := hr
                            refine AW_condT (b := x19) rfl (fun h => ?_) (fun h => ?_)
                            · have hr := hr.trans (cond_t h)
                              clear h
                              refine AW_seq1 ?_
                              refine AW_region ?_
                              refine AL_cons (LR_loads (at_tmp 4 _) ag23 sz23 rfl rfl rfl) (sS (sT1 rfl) (sB1 rfl) sF0) ?_
                              refine AL_cons (LR_move (at_tmp 12 _) rfl) (sS (sT1 rfl) sB0 sF0) ?_
                              obtain ⟨y29, hy29, hr⟩ := lt_some hr
                              refine AL_cons (LR_call Hfaa.func251 rfl rfl (C251 a0_0 a0_1 x14 y29 hy29) (all_cons (at_tmp 79 _) (all_cons (at_tmp 80 _) all_nil)) rfl) (sS (sA (sT1 rfl) (sA (sT1 rfl) sT0)) sB0 sF0) ?_
                              refine AL_cons (LR_assign (at_tmp 81 _) rfl) (sS (sT1 rfl) sB0 sF0) ?_
                              refine AL_cons (LR_assign (at_c (v' := U8 (0#8)) rfl) rfl) (sS sT0 sB0 sF0) ?_
                              refine AL_nil ?_
                              refine thenN ?_
                              refine AW_ret ?_
                              refine blR ?_
                              refine thenR ?_
                              obtain rfl := Option.some.inj hr
                              exact res2 rfl (rvT rfl) (rvT rfl)
                            · have hr := hr.trans (cond_f h)
                              clear h
                              refine AW_skip ?_
                              refine blN ?_
                              refine thenN ?_
                              refine AW_seq1 ?_
                              obtain ⟨hg3, hr⟩ := guard_some hr
                              obtain ⟨hg4, hr⟩ := guard_some hr
                              obtain ⟨y31, hy31, hr⟩ := bind_some hr
                              refine AW_draw mixed
                                (lrC (LR_loads (at_tmp 4 _) ag23 sz23 rfl rfl rfl)
                                (lrC (LR_move (at_tmp 1 _) rfl)
                                (lrC (LR_move (at_tmp 12 _) rfl)
                                (lrC (LR_fieldAddr (off := 0) (o := 3) (at_tmp 10 _) (fun b w => fa175_3 b 0 w) rfl)
                                (lrC (LR_fieldAddr (off := 3) (o := 4) (at_tmp 85 _) (fun b w => fa119_1 b 3 w) rfl)
                                (lrC (LR_load (at_tmp 86 _) na49 rfl rfl)
                                (lrC (LR_fieldAddr (off := 0) (o := 3) (at_tmp 11 _) (fun b w => fa175_3 b 0 w) rfl)
                                (lrC (LR_fieldAddr (off := 3) (o := 5) (at_tmp 88 _) (fun b w => fa119_2 b 3 w) rfl)
                                (lrC (LR_load (at_tmp 89 _) na49 rfl rfl)
                                (lrC (LR_call Hfaa.func22 rfl rfl (B22 x6 x13 hg3) (all_cons (at_tmp 87 _) (all_cons (at_tmp 90 _) all_nil)) rfl)
                                (lrC (LR_fieldAddr (off := 0) (o := 3) (at_tmp 10 _) (fun b w => fa175_3 b 0 w) rfl)
                                (lrC (LR_fieldAddr (off := 3) (o := 5) (at_tmp 92 _) (fun b w => fa119_2 b 3 w) rfl)
                                (lrC (LR_load (at_tmp 93 _) na49 rfl rfl)
                                (lrC (LR_fieldAddr (off := 0) (o := 3) (at_tmp 11 _) (fun b w => fa175_3 b 0 w) rfl)
                                (lrC (LR_fieldAddr (off := 3) (o := 4) (at_tmp 95 _) (fun b w => fa119_1 b 3 w) rfl)
                                (lrC (LR_load (at_tmp 96 _) na49 rfl rfl)
                                (lrC (LR_call Hfaa.func22 rfl rfl (B22 x7 x12 hg4) (all_cons (at_tmp 94 _) (all_cons (at_tmp 97 _) all_nil)) rfl)
                                (lrC (bl119 (parts_cons (i := 0) (off := 0) (at_tmp 84 _) (cells_one (one_is rfl)) rfl rfl (parts_cons (i := 1) (off := 1) (at_tmp 91 _) (cells_one (one_big _)) rfl rfl (parts_cons (i := 2) (off := 2) (at_tmp 98 _) (cells_one (one_big _)) rfl rfl parts_nil))) rfl rfl)
                                (lrC (LR_call Hfaa.func136 rfl rfl (C136 N a0_0 a0_1 a1 x14 (x6 * x13) (x7 * x12) y31 hy31) (all_cons (at_tmp 82 _) (all_cons (at_tmp 83 _) (all_cons (at_tmp 99 _) all_nil))) rfl)
                                (lrC (LR_extract (at_tmp 100 _) rfl rfl)
                                (lrC (LR_extract (at_tmp 100 _) rfl rfl)
                                (lrC (LR_assign (at_tmp 101 _) rfl)
                                (lrC (LR_assign (at_tmp 102 _) rfl)
                                lrN)))))))))))))))))))))))
                                (by kernel_rfl)
                                (saC (sS (sT1 rfl) (sB1 rfl) sF0) (saC (sS (sT1 rfl) sB0 sF0) (saC (sS (sT1 rfl) sB0 sF0) (saC (sS (sT1 rfl) sB0 sF0) (saC (sS (sT1 rfl) sB0 sF0) (saC (sS (sT1 rfl) (sB1 rfl) sF0) (saC (sS (sT1 rfl) sB0 sF0) (saC (sS (sT1 rfl) sB0 sF0) (saC (sS (sT1 rfl) (sB1 rfl) sF0) (saC (sS (sA (sT1 rfl) (sA (sT1 rfl) sT0)) sB0 sF0) (saC (sS (sT1 rfl) sB0 sF0) (saC (sS (sT1 rfl) sB0 sF0) (saC (sS (sT1 rfl) (sB1 rfl) sF0) (saC (sS (sT1 rfl) sB0 sF0) (saC (sS (sT1 rfl) sB0 sF0) (saC (sS (sT1 rfl) (sB1 rfl) sF0) (saC (sS (sA (sT1 rfl) (sA (sT1 rfl) sT0)) sB0 sF0) (saC (sS (sA (sT1 rfl) (sA (sT1 rfl) (sA (sT1 rfl) sT0))) sB0 sF0) (saC (sS (sA (sT1 rfl) (sA (sT1 rfl) (sA (sT1 rfl) sT0))) sB0 sF0) (saC (sS (sT1 rfl) sB0 sF0) (saC (sS (sT1 rfl) sB0 sF0) (saC (sS (sT1 rfl) sB0 sF0) (saC (sS (sT1 rfl) sB0 sF0) saN))))))))))))))))))))))) ?_
                              refine thenN ?_
                              refine AW_ret ?_
                              obtain rfl := Option.some.inj hr
                              exact res2 rfl (rvT rfl) (rvT rfl)
end Go.Proofs.YfwaawGreat
