import Derived.Test.YfwaawGreatG1
import Derived.Test.YfwaawGreatG2
import Derived.Test.YfwaawGreatG17
import Derived.Test.YfwaawGreatG18
import Derived.Test.YfwaawGreatG33
import Derived.Test.YfwaawGreatG34
import Derived.Test.YfwaawGreatG51
import Derived.Test.YfwaawGreatG52
import Derived.Test.YfwaawGreatG53
import Derived.Test.YfwaawGreatG54
import Derived.Test.YfwaawGreatG58
import Derived.Test.YfwaawGreatG60
import Derived.Test.YfwaawGreatG61
import Derived.Test.YfwaawGreatG63
import Derived.Test.YfwaawGreatG64
namespace Go.Proofs.YfwaawGreat
open Go.Aw
set_option linter.unusedVariables false
set_option maxRecDepth 100000
set_option maxHeartbeats 1000000
/-- native.nextAfter32 -/
def F419 (N : Nat) (a0 : Option Nat) (a1 : Option Nat) : Option (Option Nat) := (F433 N a0 a1).bind fun y2 => some y2
theorem C419 (N : Nat) (a0 : Option Nat) (a1 : Option Nat) (r : Option Nat) (hr : some r = F419 N a0 a1) : Aw.Fn Hfaa.prog 419 [fl .f32 a0, fl .f32 a1] (fl .f32 r) := by
  refine fn_intro Hfaa.func419 rfl rfl rfl ?_
  intro bn0 w0 H0
  refine AW_seq1 ?_
  refine AW_region ?_
  refine AL_cons (LR_assign (at_f rfl) rfl) (sS sT0 sB0 sF0) ?_
  refine AL_nil ?_
  refine thenN ?_
  refine AW_seq1 ?_
  refine AW_region ?_
  refine AL_cons (LR_move (at_tmp 0 _) rfl) (sS (sT1 rfl) sB0 sF0) ?_
  refine AL_cons (LR_move (at_tmp 1 _) rfl) (sS (sT1 rfl) sB0 sF0) ?_
  obtain ⟨y2, hy2, hr⟩ := bind_some hr
  refine AL_cons (LR_call Hfaa.func433 rfl rfl (C433 N a0 a1 y2 hy2) (all_cons (at_tmp 5 _) (all_cons (at_tmp 6 _) all_nil)) rfl) (sS (sA (sT1 rfl) (sA (sT1 rfl) sT0)) sB0 sF0) ?_
  refine AL_cons (LR_assign (at_tmp 7 _) rfl) (sS (sT1 rfl) sB0 sF0) ?_
  refine AL_nil ?_
  refine thenN ?_
  refine AW_ret ?_
  obtain rfl := Option.some.inj hr
  exact res1 rfl (rvT rfl)
/-- native.NextTo32 -/
def F401 (N : Nat) (a0 : BitVec 32) (a1 : BitVec 32) : Option (BitVec 32) := lt (F386 a0) fun y5 => lt (F386 a1) fun y6 => (F419 N y5 y6).bind fun y7 => (F387 N y7).bind fun y8 => some y8
theorem C401 (N : Nat) (a0 : BitVec 32) (a1 : BitVec 32) (r : BitVec 32) (hr : some r = F401 N a0 a1) : Aw.Fn Hfaa.prog 401 [is (U32 a0), is (U32 a1)] (is (U32 r)) := by
  refine fn_intro Hfaa.func401 rfl rfl rfl ?_
  intro bn0 w0 H0
  refine AW_seq1 ?_
  refine AW_region ?_
  refine AL_cons (LR_assign (at_c (v' := U32 (0#32)) rfl) rfl) (sS sT0 sB0 sF0) ?_
  refine AL_nil ?_
  refine thenN ?_
  refine AW_seq1 ?_
  refine AW_region ?_
  refine AL_cons (LR_move (at_tmp 0 _) rfl) (sS (sT1 rfl) sB0 sF0) ?_
  obtain ⟨y5, hy5, hr⟩ := lt_some hr
  refine AL_cons (LR_call Hfaa.func386 rfl rfl (C386 a0 y5 hy5) (all_cons (at_tmp 5 _) all_nil) rfl) (sS (sA (sT1 rfl) sT0) sB0 sF0) ?_
  refine AL_cons (LR_move (at_tmp 1 _) rfl) (sS (sT1 rfl) sB0 sF0) ?_
  obtain ⟨y6, hy6, hr⟩ := lt_some hr
  refine AL_cons (LR_call Hfaa.func386 rfl rfl (C386 a1 y6 hy6) (all_cons (at_tmp 7 _) all_nil) rfl) (sS (sA (sT1 rfl) sT0) sB0 sF0) ?_
  obtain ⟨y7, hy7, hr⟩ := bind_some hr
  refine AL_cons (LR_call Hfaa.func419 rfl rfl (C419 N y5 y6 y7 hy7) (all_cons (at_tmp 6 _) (all_cons (at_tmp 8 _) all_nil)) rfl) (sS (sA (sT1 rfl) (sA (sT1 rfl) sT0)) sB0 sF0) ?_
  obtain ⟨y8, hy8, hr⟩ := bind_some hr
  refine AL_cons (LR_call Hfaa.func387 rfl rfl (C387 N y7 y8 hy8) (all_cons (at_tmp 9 _) all_nil) rfl) (sS (sA (sT1 rfl) sT0) sB0 sF0) ?_
  refine AL_cons (LR_assign (at_tmp 10 _) rfl) (sS (sT1 rfl) sB0 sF0) ?_
  refine AL_nil ?_
  refine thenN ?_
  refine AW_ret ?_
  obtain rfl := Option.some.inj hr
  exact res1 rfl (rvT rfl)
/-- calc/na.beside -/
def F355 (N : Nat) (a0 : Bool) (a1 : BitVec 64) (a2 : BitVec 64) : Option (BitVec 64) := bif a0 then (F400 N a1 a2).bind fun y4 => some y4 else (F401 N (BitVec.ofInt 32 (a1.toNat : Int)) (BitVec.ofInt 32 (a2.toNat : Int))).bind fun y6 => some (BitVec.ofInt 64 (y6.toNat : Int))
theorem C355 (N : Nat) (a0 : Bool) (a1 : BitVec 64) (a2 : BitVec 64) (r : BitVec 64) (hr : some r = F355 N a0 a1 a2) : Aw.Fn Hfaa.prog 355 [is (Bl a0), is (U64 a1), is (U64 a2)] (is (U64 r)) := by
  refine fn_intro Hfaa.func355 rfl rfl rfl ?_
  intro bn0 w0 H0
  refine AW_seq1 ?_
  refine AW_region ?_
  refine AL_cons (LR_assign (at_c (v' := U64 (0#64)) rfl) rfl) (sS sT0 sB0 sF0) ?_
  refine AL_nil ?_
  refine thenN ?_
  refine AW_seq1 ?_
  refine AW_seq1 ?_
  refine AW_region ?_
  refine AL_cons (LR_move (at_tmp 0 _) rfl) (sS (sT1 rfl) sB0 sF0) ?_
  refine AL_nil ?_
  refine thenN ?_
  refine AW_condT (b := a0) rfl (fun h => ?_) (fun h => ?_)
  · have hr := hr.trans (cond_t h)
    clear h
    refine AW_seq1 ?_
    refine AW_region ?_
    refine AL_cons (LR_move (at_tmp 1 _) rfl) (sS (sT1 rfl) sB0 sF0) ?_
    refine AL_cons (LR_move (at_tmp 2 _) rfl) (sS (sT1 rfl) sB0 sF0) ?_
    obtain ⟨y4, hy4, hr⟩ := bind_some hr
    refine AL_cons (LR_call Hfaa.func400 rfl rfl (C400 N a1 a2 y4 hy4) (all_cons (at_tmp 8 _) (all_cons (at_tmp 9 _) all_nil)) rfl) (sS (sA (sT1 rfl) (sA (sT1 rfl) sT0)) sB0 sF0) ?_
    refine AL_cons (LR_assign (at_tmp 10 _) rfl) (sS (sT1 rfl) sB0 sF0) ?_
    refine AL_nil ?_
    refine thenN ?_
    refine AW_ret ?_
    refine thenR ?_
    obtain rfl := Option.some.inj hr
    exact res1 rfl (rvT rfl)
  · have hr := hr.trans (cond_f h)
    clear h
    refine AW_skip ?_
    refine thenN ?_
    refine AW_seq1 ?_
    refine AW_region ?_
    refine AL_cons (LR_move (at_tmp 1 _) rfl) (sS (sT1 rfl) sB0 sF0) ?_
    refine AL_cons (LR_conv (vx := U64 a1) (at_tmp 11 _) (conv_U32 Hfaa.underlying30 Hfaa.underlying65 (a1.toNat : Int)) rfl) (sS (sT1 rfl) sB0 sF0) ?_
    refine AL_cons (LR_move (at_tmp 2 _) rfl) (sS (sT1 rfl) sB0 sF0) ?_
    refine AL_cons (LR_conv (vx := U64 a2) (at_tmp 13 _) (conv_U32 Hfaa.underlying30 Hfaa.underlying65 (a2.toNat : Int)) rfl) (sS (sT1 rfl) sB0 sF0) ?_
    obtain ⟨y6, hy6, hr⟩ := bind_some hr
    refine AL_cons (LR_call Hfaa.func401 rfl rfl (C401 N (BitVec.ofInt 32 (a1.toNat : Int)) (BitVec.ofInt 32 (a2.toNat : Int)) y6 hy6) (all_cons (at_tmp 12 _) (all_cons (at_tmp 14 _) all_nil)) rfl) (sS (sA (sT1 rfl) (sA (sT1 rfl) sT0)) sB0 sF0) ?_
    refine AL_cons (LR_conv (vx := U32 y6) (at_tmp 15 _) (conv_U64 Hfaa.underlying65 Hfaa.underlying30 (y6.toNat : Int)) rfl) (sS (sT1 rfl) sB0 sF0) ?_
    refine AL_cons (LR_assign (at_tmp 16 _) rfl) (sS (sT1 rfl) sB0 sF0) ?_
    refine AL_nil ?_
    refine thenN ?_
    refine AW_ret ?_
    obtain rfl := Option.some.inj hr
    exact res1 rfl (rvT rfl)
/-- calc/na.digits -/
def F356_3 (N : Nat) (a0_0 : BitVec 8) (a0_1 : BitVec 8) (a1 : BitVec 64) (x2 : Bool) (x4 : List UInt8) (x5 : Int) : Option (List UInt8) := (F379 N x2 x4 x5).bind fun y17 => lt (F349 a0_0 a0_1 a1 y17) fun y18 => some y18
def F356_2 (N : Nat) (a0_0 : BitVec 8) (a0_1 : BitVec 8) (a1 : BitVec 64) (x1 : BitVec 16) (x2 : Bool) (x3 : Bool) : Option (List UInt8) := bif x3 then (F104 N a0_0 a0_1 a1 x1).bind fun y11 => (F378 N x2 y11 x1).bind fun y12 => lt (F349 a0_0 a0_1 a1 y12) fun y13 => some y13 else (F100 N a0_0 a0_1 a1 x1).bind fun y19 => F356_3 N a0_0 a0_1 a1 x2 y19.1 y19.2
def F356_1 (N : Nat) (a0_0 : BitVec 8) (a0_1 : BitVec 8) (a1 : BitVec 64) (a2_0 : BitVec 8) (a2_1 : BitVec 8) (a2_2 : BitVec 8) (a2_3 : BitVec 8) (a2_4 : BitVec 64) (a2_5 : List UInt8) (x1 : BitVec 16) (x2 : Bool) : Option (List UInt8) := F356_2 N a0_0 a0_1 a1 x1 x2 (a2_0 == (24#8))
def F356 (N : Nat) (a0_0 : BitVec 8) (a0_1 : BitVec 8) (a1 : BitVec 64) (a2_0 : BitVec 8) (a2_1 : BitVec 8) (a2_2 : BitVec 8) (a2_3 : BitVec 8) (a2_4 : BitVec 64) (a2_5 : List UInt8) : Option (List UInt8) := lt (F70 a0_0 a0_1) fun y20 => F356_1 N a0_0 a0_1 a1 a2_0 a2_1 a2_2 a2_3 a2_4 a2_5 (BitVec.ofInt 16 ((a2_4 % (2001#64)).toNat : Int)) ((a1 &&& y20) != (0#64))
theorem C356 (N : Nat) (a0_0 : BitVec 8) (a0_1 : BitVec 8) (a1 : BitVec 64) (a2_0 : BitVec 8) (a2_1 : BitVec 8) (a2_2 : BitVec 8) (a2_3 : BitVec 8) (a2_4 : BitVec 64) (a2_5 : List UInt8) (r : List UInt8) (hr : some r = F356 N a0_0 a0_1 a1 a2_0 a2_1 a2_2 a2_3 a2_4 a2_5) : Aw.Fn Hfaa.prog 356 [agg [is (U8 a0_0), is (U8 a0_1)], is (U64 a1), agg [is (U8 a2_0), is (U8 a2_1), is (U8 a2_2), is (U8 a2_3), is (U64 a2_4), is (Sv a2_5)]] (is (Sv r)) := by
  refine fn_intro Hfaa.func356 rfl rfl rfl ?_
  intro bn0 w0 H0
  refine AW_seq1 ?_
  refine AW_region ?_
  refine AL_cons (LR_box (at_tmp 0 _) (cells_agg _) rfl) (sS (sT1 rfl) sB0 (sF1 rfl)) ?_
  refine AL_cons (LR_box (at_tmp 2 _) (cells_agg _) rfl) (sS (sT1 rfl) sB0 (sF1 rfl)) ?_
  refine AL_cons (LR_assign (at_c (v' := Sv ([] : List UInt8)) rfl) rfl) (sS sT0 sB0 sF0) ?_
  refine AL_nil ?_
  refine thenN ?_
  refine AW_cut (σ := BitVec 16 × Bool) (fun v => ⟨[(1, .inl (is (U64 a1))), (3, .inr (.inl (3, 0))), (5, .inr (.inl (5, 0))), (7, .inl (is (U16 v.1))), (8, .inl (is (Bl v.2)))], [(3, pb 23 [is (U8 a0_0), is (U8 a0_1)]), (5, pb 96 [is (U8 a2_0), is (U8 a2_1), is (U8 a2_2), is (U8 a2_3), is (U64 a2_4), is (Sv a2_5)])]⟩) (fun v => some r = F356_1 N a0_0 a0_1 a1 a2_0 a2_1 a2_2 a2_3 a2_4 a2_5 v.1 v.2) ?_ ?_
  · skip
    obtain ⟨y20, hy20, hr⟩ := lt_some hr
    refine AW_draw mixed
      (lrC (LR_fieldAddr (off := 0) (o := 4) (at_tmp 5 _) (fun b w => fa96_4 b 0 w) rfl)
      (lrC (LR_load (at_tmp 11 _) na30 rfl rfl)
      (lrC (LR_bin (at_tmp 12 _) (at_c (v' := U64 (2001#64)) rfl) (rem_U64 a2_4 (2001#64) (by decide)) rfl)
      (lrC (LR_conv (vx := U64 (a2_4 % (2001#64))) (at_tmp 13 _) (conv_U16 Hfaa.underlying30 Hfaa.underlying71 ((a2_4 % (2001#64)).toNat : Int)) rfl)
      (lrC (LR_move (at_tmp 1 _) rfl)
      (lrC (LR_loads (at_tmp 3 _) ag23 sz23 rfl rfl rfl)
      (lrC (LR_call Hfaa.func70 rfl rfl (C70 a0_0 a0_1 y20 hy20) (all_cons (at_tmp 16 _) all_nil) rfl)
      (lrC (LR_bin (at_tmp 15 _) (at_tmp 17 _) (and_U64 a1 y20) rfl)
      (lrC (LR_bin (at_tmp 18 _) (at_c (v' := U64 (0#64)) rfl) (neq_U64 (a1 &&& y20) (0#64)) rfl)
      (lrC (LR_assign (at_tmp 14 _) rfl)
      (lrC (LR_assign (at_tmp 19 _) rfl)
      lrN)))))))))))
      (by kernel_rfl)
      (saC (sS (sT1 rfl) sB0 sF0) (saC (sS (sT1 rfl) (sB1 rfl) sF0) (saC (sS (sA (sT1 rfl) sT0) sB0 sF0) (saC (sS (sT1 rfl) sB0 sF0) (saC (sS (sT1 rfl) sB0 sF0) (saC (sS (sT1 rfl) (sB1 rfl) sF0) (saC (sS (sA (sT1 rfl) sT0) sB0 sF0) (saC (sS (sA (sT1 rfl) (sT1 rfl)) sB0 sF0) (saC (sS (sA (sT1 rfl) sT0) sB0 sF0) (saC (sS (sT1 rfl) sB0 sF0) (saC (sS (sT1 rfl) sB0 sF0) saN))))))))))) ?_
    exact thenN (cutLeaf (v := (BitVec.ofInt 16 ((a2_4 % (2001#64)).toNat : Int), (a1 &&& y20) != (0#64))) hr (weak0 ((sT rfl (sT rfl (sT rfl (sT rfl (sT rfl sT0)))))) (sub_keep (sub_keep sub_nil))))
  · rintro ⟨x1, x2⟩ hr
    show AW Hfaa.prog _ _ _ ⟨[(1, .inl (is (U64 a1))), (3, .inr (.inl (3, 0))), (5, .inr (.inl (5, 0))), (7, .inl (is (U16 x1))), (8, .inl (is (Bl x2)))], [(3, pb 23 [is (U8 a0_0), is (U8 a0_1)]), (5, pb 96 [is (U8 a2_0), is (U8 a2_1), is (U8 a2_2), is (U8 a2_3), is (U64 a2_4), is (Sv a2_5)])]⟩
    have hr : some r = F356_1 N a0_0 a0_1 a1 a2_0 a2_1 a2_2 a2_3 a2_4 a2_5 x1 x2 := hr
    refine AW_seq1 ?_
    refine AW_cut (σ := Bool) (fun v => ⟨[(1, .inl (is (U64 a1))), (3, .inr (.inl (3, 0))), (7, .inl (is (U16 x1))), (8, .inl (is (Bl x2))), (22, .inl (is (Bl v)))], [(3, pb 23 [is (U8 a0_0), is (U8 a0_1)])]⟩) (fun v => some r = F356_2 N a0_0 a0_1 a1 x1 x2 v) ?_ ?_
    · skip
      refine AW_region ?_
      refine AL_cons (LR_fieldAddr (off := 0) (o := 0) (at_tmp 5 _) (fun b w => fa96_0 b 0 w) rfl) (sS (sT1 rfl) sB0 sF0) ?_
      refine AL_cons (LR_load (at_tmp 20 _) na5 rfl rfl) (sS (sT1 rfl) (sB1 rfl) sF0) ?_
      refine AL_cons (LR_bin (at_tmp 21 _) (at_c (v' := U8 (24#8)) rfl) (eql_U8 a2_0 (24#8)) rfl) (sS (sA (sT1 rfl) sT0) sB0 sF0) ?_
      refine AL_nil ?_
      exact thenN (cutLeaf (v := a2_0 == (24#8)) hr (weak0 ((sT rfl (sT rfl (sT rfl (sT rfl (sT rfl sT0)))))) (sub_keep (sub_drop sub_nil))))
    · rintro x3 hr
      show AW Hfaa.prog _ _ _ ⟨[(1, .inl (is (U64 a1))), (3, .inr (.inl (3, 0))), (7, .inl (is (U16 x1))), (8, .inl (is (Bl x2))), (22, .inl (is (Bl x3)))], [(3, pb 23 [is (U8 a0_0), is (U8 a0_1)])]⟩
      have hr : some r = F356_2 N a0_0 a0_1 a1 x1 x2 x3 := hr
      refine AW_condT (b := x3) rfl (fun h => ?_) (fun h => ?_)
      · have hr := hr.trans (cond_t h)
        clear h
        refine AW_seq1 ?_
        obtain ⟨y11, hy11, hr⟩ := bind_some hr
        obtain ⟨y12, hy12, hr⟩ := bind_some hr
        obtain ⟨y13, hy13, hr⟩ := lt_some hr
        refine AW_draw mixed
          (lrC (LR_loads (at_tmp 3 _) ag23 sz23 rfl rfl rfl)
          (lrC (LR_move (at_tmp 1 _) rfl)
          (lrC (LR_move (at_tmp 8 _) rfl)
          (lrC (LR_loads (at_tmp 3 _) ag23 sz23 rfl rfl rfl)
          (lrC (LR_move (at_tmp 1 _) rfl)
          (lrC (LR_move (at_tmp 7 _) rfl)
          (lrC (LR_call Hfaa.func104 rfl rfl (C104 N a0_0 a0_1 a1 x1 y11 hy11) (all_cons (at_tmp 26 _) (all_cons (at_tmp 27 _) (all_cons (at_tmp 28 _) all_nil))) rfl)
          (lrC (LR_move (at_tmp 7 _) rfl)
          (lrC (LR_call Hfaa.func378 rfl rfl (C378 N x2 y11 x1 y12 hy12) (all_cons (at_tmp 25 _) (all_cons (at_tmp 29 _) (all_cons (at_tmp 30 _) all_nil))) rfl)
          (lrC (LR_call Hfaa.func349 rfl rfl (C349 a0_0 a0_1 a1 y12 y13 hy13) (all_cons (at_tmp 23 _) (all_cons (at_tmp 24 _) (all_cons (at_tmp 31 _) all_nil))) rfl)
          (lrC (LR_assign (at_tmp 32 _) rfl)
          lrN)))))))))))
          (by kernel_rfl)
          (saC (sS (sT1 rfl) (sB1 rfl) sF0) (saC (sS (sT1 rfl) sB0 sF0) (saC (sS (sT1 rfl) sB0 sF0) (saC (sS (sT1 rfl) (sB1 rfl) sF0) (saC (sS (sT1 rfl) sB0 sF0) (saC (sS (sT1 rfl) sB0 sF0) (saC (sS (sA (sT1 rfl) (sA (sT1 rfl) (sA (sT1 rfl) sT0))) sB0 sF0) (saC (sS (sT1 rfl) sB0 sF0) (saC (sS (sA (sT1 rfl) (sA (sT1 rfl) (sA (sT1 rfl) sT0))) sB0 sF0) (saC (sS (sA (sT1 rfl) (sA (sT1 rfl) (sA (sT1 rfl) sT0))) sB0 sF0) (saC (sS (sT1 rfl) sB0 sF0) saN))))))))))) ?_
        refine thenN ?_
        refine AW_ret ?_
        refine thenR ?_
        obtain rfl := Option.some.inj hr
        exact res1 rfl (rvT rfl)
      · have hr := hr.trans (cond_f h)
        clear h
        refine AW_skip ?_
        refine thenN ?_
        refine AW_cut (σ := List UInt8 × Int) (fun v => ⟨[(1, .inl (is (U64 a1))), (3, .inr (.inl (3, 0))), (8, .inl (is (Bl x2))), (9, .inl (is (Sv v.1))), (10, .inl (is (I16 v.2)))], [(3, pb 23 [is (U8 a0_0), is (U8 a0_1)])]⟩) (fun v => some r = F356_3 N a0_0 a0_1 a1 x2 v.1 v.2) ?_ ?_
        · skip
          refine AW_region ?_
          refine AL_cons (LR_loads (at_tmp 3 _) ag23 sz23 rfl rfl rfl) (sS (sT1 rfl) (sB1 rfl) sF0) ?_
          refine AL_cons (LR_move (at_tmp 1 _) rfl) (sS (sT1 rfl) sB0 sF0) ?_
          refine AL_cons (LR_move (at_tmp 7 _) rfl) (sS (sT1 rfl) sB0 sF0) ?_
          obtain ⟨y19, hy19, hr⟩ := bind_some hr
          refine AL_cons (LR_call Hfaa.func100 rfl rfl (C100 N a0_0 a0_1 a1 x1 y19 hy19) (all_cons (at_tmp 34 _) (all_cons (at_tmp 35 _) (all_cons (at_tmp 36 _) all_nil))) rfl) (sS (sA (sT1 rfl) (sA (sT1 rfl) (sA (sT1 rfl) sT0))) sB0 sF0) ?_
          refine AL_cons (LR_move (at_tmp 37 _) rfl) (sS (sT1 rfl) sB0 sF0) ?_
          refine AL_cons (LR_extract (at_tmp 33 _) rfl rfl) (sS (sT1 rfl) sB0 sF0) ?_
          refine AL_cons (LR_extract (at_tmp 33 _) rfl rfl) (sS (sT1 rfl) sB0 sF0) ?_
          refine AL_cons (LR_assign (at_tmp 38 _) rfl) (sS (sT1 rfl) sB0 sF0) ?_
          refine AL_cons (LR_assign (at_tmp 39 _) rfl) (sS (sT1 rfl) sB0 sF0) ?_
          refine AL_nil ?_
          exact thenN (cutLeaf (v := (y19.1, y19.2)) hr (weak0 ((sT rfl (sT rfl (sT rfl (sT rfl (sT rfl sT0)))))) (sub_keep sub_nil)))
        · rintro ⟨x4, x5⟩ hr
          show AW Hfaa.prog _ _ _ ⟨[(1, .inl (is (U64 a1))), (3, .inr (.inl (3, 0))), (8, .inl (is (Bl x2))), (9, .inl (is (Sv x4))), (10, .inl (is (I16 x5)))], [(3, pb 23 [is (U8 a0_0), is (U8 a0_1)])]⟩
          have hr : some r = F356_3 N a0_0 a0_1 a1 x2 x4 x5 := hr
          refine AW_seq1 ?_
          obtain ⟨y17, hy17, hr⟩ := bind_some hr
          obtain ⟨y18, hy18, hr⟩ := lt_some hr
          refine AW_draw mixed
            (lrC (LR_loads (at_tmp 3 _) ag23 sz23 rfl rfl rfl)
            (lrC (LR_move (at_tmp 1 _) rfl)
            (lrC (LR_move (at_tmp 8 _) rfl)
            (lrC (LR_move (at_tmp 9 _) rfl)
            (lrC (LR_move (at_tmp 10 _) rfl)
            (lrC (LR_call Hfaa.func379 rfl rfl (C379 N x2 x4 x5 y17 hy17) (all_cons (at_tmp 42 _) (all_cons (at_tmp 43 _) (all_cons (at_tmp 44 _) all_nil))) rfl)
            (lrC (LR_call Hfaa.func349 rfl rfl (C349 a0_0 a0_1 a1 y17 y18 hy18) (all_cons (at_tmp 40 _) (all_cons (at_tmp 41 _) (all_cons (at_tmp 45 _) all_nil))) rfl)
            (lrC (LR_assign (at_tmp 46 _) rfl)
            lrN))))))))
            (by kernel_rfl)
            (saC (sS (sT1 rfl) (sB1 rfl) sF0) (saC (sS (sT1 rfl) sB0 sF0) (saC (sS (sT1 rfl) sB0 sF0) (saC (sS (sT1 rfl) sB0 sF0) (saC (sS (sT1 rfl) sB0 sF0) (saC (sS (sA (sT1 rfl) (sA (sT1 rfl) (sA (sT1 rfl) sT0))) sB0 sF0) (saC (sS (sA (sT1 rfl) (sA (sT1 rfl) (sA (sT1 rfl) sT0))) sB0 sF0) (saC (sS (sT1 rfl) sB0 sF0) saN)))))))) ?_
          refine thenN ?_
          refine AW_ret ?_
          obtain rfl := Option.some.inj hr
          exact res1 rfl (rvT rfl)
/-- calc/na.readSecond -/
def F357_2 (N : Nat) (a1_0 : BitVec 8) (a1_1 : BitVec 8) (b3_0 : Nat → BitVec 64) (b3_1 : NS (List UInt8)) (a4_0 : BitVec 8) (a4_1 : BitVec 8) (a4_2 : BitVec 8) (a4_3 : BitVec 8) (a4_4 : BitVec 64) (a4_5 : List UInt8) (x1 : BitVec 8) (x2 : Bool) (x3 : List UInt8) (x4 : Int) (x5 : Int) (x6 : Int) (x7 : BitVec 64) : Option ((Nat → BitVec 64) × NS (List UInt8)) := (F348 N a1_0 a1_1 b3_0 b3_1 a4_0 a4_1 a4_2 a4_3 a4_4 a4_5 x1 x2 x3 x4 x5 x6 x7).bind fun y3 => some (y3.1, y3.2)
def F357_1 (N : Nat) (a0 : Tab) (a1_0 : BitVec 8) (a1_1 : BitVec 8) (a2 : BitVec 8) (b3_0 : Nat → BitVec 64) (b3_1 : NS (List UInt8)) (a4_0 : BitVec 8) (a4_1 : BitVec 8) (a4_2 : BitVec 8) (a4_3 : BitVec 8) (a4_4 : BitVec 64) (a4_5 : List UInt8) (x1 : BitVec 8) (x2 : Bool) (x3 : List UInt8) (x4 : Int) (x5 : Int) (x6 : Int) : Option ((Nat → BitVec 64) × NS (List UInt8)) := (F101 N a0 a1_0 a1_1 a2 x2 x3 x4 true).bind fun y4 => F357_2 N a1_0 a1_1 b3_0 b3_1 a4_0 a4_1 a4_2 a4_3 a4_4 a4_5 x1 x2 x3 x4 x5 x6 y4.1
def F357 (N : Nat) (a0 : Tab) (a1_0 : BitVec 8) (a1_1 : BitVec 8) (a2 : BitVec 8) (b3_0 : Nat → BitVec 64) (b3_1 : NS (List UInt8)) (a4_0 : BitVec 8) (a4_1 : BitVec 8) (a4_2 : BitVec 8) (a4_3 : BitVec 8) (a4_4 : BitVec 64) (a4_5 : List UInt8) : Option ((Nat → BitVec 64) × NS (List UInt8)) := (F311 N a4_5).bind fun y5 => F357_1 N a0 a1_0 a1_1 a2 b3_0 b3_1 a4_0 a4_1 a4_2 a4_3 a4_4 a4_5 y5.1 y5.2.1 y5.2.2.1 y5.2.2.2.1 y5.2.2.2.2.1 y5.2.2.2.2.2
theorem C357 (N : Nat) (a0 : Tab) (a1_0 : BitVec 8) (a1_1 : BitVec 8) (a2 : BitVec 8) (b3_0 : Nat → BitVec 64) (b3_1 : NS (List UInt8)) (a4_0 : BitVec 8) (a4_1 : BitVec 8) (a4_2 : BitVec 8) (a4_3 : BitVec 8) (a4_4 : BitVec 64) (a4_5 : List UInt8) (r : (Nat → BitVec 64) × NS (List UInt8)) (hr : some r = F357 N a0 a1_0 a1_1 a2 b3_0 b3_1 a4_0 a4_1 a4_2 a4_3 a4_4 a4_5) : FnB Hfaa.prog 357 [.inl (tabp a0), .inl (agg [is (U8 a1_0), is (U8 a1_1)]), .inl (is (U8 a2)), .inr (.inl (3, 0)), .inl (agg [is (U8 a4_0), is (U8 a4_1), is (U8 a4_2), is (U8 a4_3), is (U64 a4_4), is (Sv a4_5)])] [(3, gc 90 (ar U64 8 b3_0 ++ []) ([]) (k1 Sv) 1 b3_1)] (tup []) [(3, gc 90 (ar U64 8 r.1 ++ []) ([]) (k1 Sv) 1 r.2)] := by
  refine fnB_intro Hfaa.func357 rfl rfl rfl rfl rfl ⟨hf_gc _ _ _ _ _ _, trivial⟩ ?_
  intro bn0 w0 H0
  refine AW_seq1 ?_
  refine AW_region ?_
  refine AL_cons (LR_box (at_tmp 1 _) (cells_agg _) rfl) (sS (sT1 rfl) sB0 (sF1 rfl)) ?_
  refine AL_cons (LR_box (at_tmp 4 _) (cells_agg _) rfl) (sS (sT1 rfl) sB0 (sF1 rfl)) ?_
  refine AL_nil ?_
  refine thenN ?_
  refine AW_cut (σ := BitVec 8 × Bool × List UInt8 × Int × Int × Int) (fun v => ⟨[(0, .inl (tabp a0)), (2, .inl (is (U8 a2))), (3, .inr (.inl (3, 0))), (6, .inr (.inl (6, 0))), (9, .inr (.inl (9, 0))), (10, .inr (.inl (10, 0)))], [(3, gc 90 (ar U64 8 b3_0 ++ []) ([]) (k1 Sv) 1 b3_1), (6, pb 23 [is (U8 a1_0), is (U8 a1_1)]), (9, pb 96 [is (U8 a4_0), is (U8 a4_1), is (U8 a4_2), is (U8 a4_3), is (U64 a4_4), is (Sv a4_5)]), (10, pb 297 [is (U8 v.1), is (Bl v.2.1), is (Sv v.2.2.1), is (I16 v.2.2.2.1), is (I64 v.2.2.2.2.1), is (I32 v.2.2.2.2.2)])]⟩) (fun v => some r = F357_1 N a0 a1_0 a1_1 a2 b3_0 b3_1 a4_0 a4_1 a4_2 a4_3 a4_4 a4_5 v.1 v.2.1 v.2.2.1 v.2.2.2.1 v.2.2.2.2.1 v.2.2.2.2.2) ?_ ?_
  · skip
    refine AW_region ?_
    refine AL_cons (LR_fieldAddr (off := 0) (o := 5) (at_tmp 9 _) (fun b w => fa96_5 b 0 w) rfl) (sS (sT1 rfl) sB0 sF0) ?_
    refine AL_cons (LR_load (at_tmp 13 _) na9 rfl rfl) (sS (sT1 rfl) (sB1 rfl) sF0) ?_
    obtain ⟨y5, hy5, hr⟩ := bind_some hr
    refine AL_cons (LR_call Hfaa.func311 rfl rfl (C311 N a4_5 y5 hy5) (all_cons (at_tmp 14 _) all_nil) rfl) (sS (sA (sT1 rfl) sT0) sB0 sF0) ?_
    refine AL_cons (zl297 rfl) (sS sT0 sB0 (sF1 rfl)) ?_
    refine AL_cons (LR_store (at_tmp 10 _) (at_tmp 15 _) (cells_agg _) (onC (one_is rfl) (onC (one_is rfl) (onC (one_is rfl) (onC (one_is rfl) (onC (one_is rfl) (onC (one_is rfl) onN)))))) sz297 rfl rfl) (sS (sA (sT1 rfl) (sT1 rfl)) (sB1 rfl) sF0) ?_
    refine AL_nil ?_
    exact thenN (cutLeaf (v := (y5.1, y5.2.1, y5.2.2.1, y5.2.2.2.1, y5.2.2.2.2.1, y5.2.2.2.2.2)) hr (weakB ((sT rfl (sT rfl (sT rfl (sT rfl (sT rfl (sT rfl sT0))))))) (sub_keep (sub_keep (sub_keep (sub_keep sub_nil)))) rfl))
  · rintro ⟨x1, x2, x3, x4, x5, x6⟩ hr
    show AW Hfaa.prog _ _ _ ⟨[(0, .inl (tabp a0)), (2, .inl (is (U8 a2))), (3, .inr (.inl (3, 0))), (6, .inr (.inl (6, 0))), (9, .inr (.inl (9, 0))), (10, .inr (.inl (10, 0)))], [(3, gc 90 (ar U64 8 b3_0 ++ []) ([]) (k1 Sv) 1 b3_1), (6, pb 23 [is (U8 a1_0), is (U8 a1_1)]), (9, pb 96 [is (U8 a4_0), is (U8 a4_1), is (U8 a4_2), is (U8 a4_3), is (U64 a4_4), is (Sv a4_5)]), (10, pb 297 [is (U8 x1), is (Bl x2), is (Sv x3), is (I16 x4), is (I64 x5), is (I32 x6)])]⟩
    have hr : some r = F357_1 N a0 a1_0 a1_1 a2 b3_0 b3_1 a4_0 a4_1 a4_2 a4_3 a4_4 a4_5 x1 x2 x3 x4 x5 x6 := hr
    refine AW_cut (σ := BitVec 64) (fun v => ⟨[(3, .inr (.inl (3, 0))), (6, .inr (.inl (6, 0))), (9, .inr (.inl (9, 0))), (10, .inr (.inl (10, 0))), (11, .inl (is (U64 v)))], [(3, gc 90 (ar U64 8 b3_0 ++ []) ([]) (k1 Sv) 1 b3_1), (6, pb 23 [is (U8 a1_0), is (U8 a1_1)]), (9, pb 96 [is (U8 a4_0), is (U8 a4_1), is (U8 a4_2), is (U8 a4_3), is (U64 a4_4), is (Sv a4_5)]), (10, pb 297 [is (U8 x1), is (Bl x2), is (Sv x3), is (I16 x4), is (I64 x5), is (I32 x6)])]⟩) (fun v => some r = F357_2 N a1_0 a1_1 b3_0 b3_1 a4_0 a4_1 a4_2 a4_3 a4_4 a4_5 x1 x2 x3 x4 x5 x6 v) ?_ ?_
    · skip
      refine AW_region ?_
      refine AL_cons (LR_move (at_tmp 0 _) rfl) (sS (sT1 rfl) sB0 sF0) ?_
      refine AL_cons (LR_loads (at_tmp 6 _) ag23 sz23 rfl rfl rfl) (sS (sT1 rfl) (sB1 rfl) sF0) ?_
      refine AL_cons (LR_move (at_tmp 2 _) rfl) (sS (sT1 rfl) sB0 sF0) ?_
      refine AL_cons (LR_fieldAddr (off := 0) (o := 1) (at_tmp 10 _) (fun b w => fa297_1 b 0 w) rfl) (sS (sT1 rfl) sB0 sF0) ?_
      refine AL_cons (LR_loads (at_tmp 20 _) ag76 sz76 rfl rfl rfl) (sS (sT1 rfl) (sB1 rfl) sF0) ?_
      obtain ⟨y4, hy4, hr⟩ := bind_some hr
      refine AL_cons (LR_call Hfaa.func101 rfl rfl (C101 N a0 a1_0 a1_1 a2 x2 x3 x4 true y4 hy4) (all_cons (at_tmp 17 _) (all_cons (at_tmp 18 _) (all_cons (at_tmp 19 _) (all_cons (at_tmp 21 _) (all_cons (at_c (v' := Bl true) rfl) all_nil))))) rfl) (sS (sA (sT1 rfl) (sA (sT1 rfl) (sA (sT1 rfl) (sA (sT1 rfl) (sA sT0 sT0))))) sB0 sF0) ?_
      refine AL_cons (LR_move (at_tmp 22 _) rfl) (sS (sT1 rfl) sB0 sF0) ?_
      refine AL_cons (LR_extract (at_tmp 16 _) rfl rfl) (sS (sT1 rfl) sB0 sF0) ?_
      refine AL_cons (LR_extract (at_tmp 16 _) rfl rfl) (sS (sT1 rfl) sB0 sF0) ?_
      refine AL_cons (LR_assign (at_tmp 23 _) rfl) (sS (sT1 rfl) sB0 sF0) ?_
      refine AL_cons (LR_assign (at_tmp 24 _) rfl) (sS (sT1 rfl) sB0 sF0) ?_
      refine AL_nil ?_
      exact thenN (cutLeaf (v := y4.1) hr (weakB ((sT rfl (sT rfl (sT rfl (sT rfl (sT rfl sT0)))))) (sub_keep (sub_keep (sub_keep (sub_keep sub_nil)))) rfl))
    · rintro x7 hr
      show AW Hfaa.prog _ _ _ ⟨[(3, .inr (.inl (3, 0))), (6, .inr (.inl (6, 0))), (9, .inr (.inl (9, 0))), (10, .inr (.inl (10, 0))), (11, .inl (is (U64 x7)))], [(3, gc 90 (ar U64 8 b3_0 ++ []) ([]) (k1 Sv) 1 b3_1), (6, pb 23 [is (U8 a1_0), is (U8 a1_1)]), (9, pb 96 [is (U8 a4_0), is (U8 a4_1), is (U8 a4_2), is (U8 a4_3), is (U64 a4_4), is (Sv a4_5)]), (10, pb 297 [is (U8 x1), is (Bl x2), is (Sv x3), is (I16 x4), is (I64 x5), is (I32 x6)])]⟩
      have hr : some r = F357_2 N a1_0 a1_1 b3_0 b3_1 a4_0 a4_1 a4_2 a4_3 a4_4 a4_5 x1 x2 x3 x4 x5 x6 x7 := hr
      refine AW_region ?_
      refine AL_cons (LR_loads (at_tmp 6 _) ag23 sz23 rfl rfl rfl) (sS (sT1 rfl) (sB1 rfl) sF0) ?_
      refine AL_cons (LR_move (at_tmp 3 _) rfl) (sS (sT1 rfl) sB0 sF0) ?_
      refine AL_cons (LR_loads (at_tmp 9 _) ag96 sz96 rfl rfl rfl) (sS (sT1 rfl) (sB1 rfl) sF0) ?_
      refine AL_cons (LR_loads (at_tmp 10 _) ag297 sz297 rfl rfl rfl) (sS (sT1 rfl) (sB1 rfl) sF0) ?_
      refine AL_cons (LR_move (at_tmp 11 _) rfl) (sS (sT1 rfl) sB0 sF0) ?_
      obtain ⟨y3, hy3, hr⟩ := bind_some hr
      refine AL_cons (LR_callB [(1, 3)] [(3, 1)] Hfaa.func348 rfl rfl (C348 N a1_0 a1_1 b3_0 b3_1 a4_0 a4_1 a4_2 a4_3 a4_4 a4_5 x1 x2 x3 x4 x5 x6 x7 y3 hy3) (aTC (at_tmp 25 _) (aTC (at_tmp 26 _) (aTC (at_tmp 27 _) (aTC (at_tmp 28 _) (aTC (at_tmp 29 _) aT0))))) rfl rfl rfl rfl rfl) (sS (sA (sT1 rfl) (sA (sT1 rfl) (sA (sT1 rfl) (sA (sT1 rfl) (sA (sT1 rfl) sT0))))) (sB1 rfl) sF0) ?_
      refine AL_nil ?_
      obtain rfl := Option.some.inj hr
      exact ⟨res0 rfl , (sub_keep (sub_drop (sub_drop (sub_drop sub_nil))))⟩
/-- calc/na.more -/
def F243_7 (N : Nat) (b3_0 : Nat → BitVec 64) (b3_1 : NS (List UInt8)) (x8 : BitVec 64) : Option ((Nat → BitVec 64) × NS (List UInt8)) := (F353 N x8).bind fun y6 => (F345 N y6.1 y6.2).bind fun y7 => bif decide (b3_1.2.1 < 4294967296) then some (b3_0, app b3_1 y7) else none
def F243_8 (N : Nat) (b3_0 : Nat → BitVec 64) (b3_1 : NS (List UInt8)) (x1 : BitVec 64) (x9 : Bool) : Option ((Nat → BitVec 64) × NS (List UInt8)) := bif x9 then (F346 N (BitVec.ofInt 32 (x1.toNat : Int))).bind fun y8 => F243_7 N b3_0 b3_1 y8 else F243_7 N b3_0 b3_1 x1
def F243_16 (N : Nat) (b3_0 : Nat → BitVec 64) (b3_1 : NS (List UInt8)) (x22 : Bool) : Option ((Nat → BitVec 64) × NS (List UInt8)) := bif x22 then bif decide (b3_1.2.1 < 4294967296) then some ((b3_0, app b3_1 ([116, 111, 111, 32, 98, 105, 103] : List UInt8))) else none else bif decide (b3_1.2.1 < 4294967296) then some ((b3_0, app b3_1 ([119, 114, 111, 110, 103] : List UInt8))) else none
def F243_15 (N : Nat) (a1_0 : BitVec 8) (a1_1 : BitVec 8) (a2 : BitVec 8) (b3_0 : Nat → BitVec 64) (b3_1 : NS (List UInt8)) (a4_1 : BitVec 8) (x15 : BitVec 8) (x16 : Bool) (x17 : List UInt8) (x18 : Int) (x19 : Int) (x20 : Int) (x21 : Bool) : Option ((Nat → BitVec 64) × NS (List UInt8)) := bif x21 then (F109 N a1_0 a1_1 a2 x16 x17 x18).bind fun y16 => some ((upd b3_0 ((a4_1 &&& (7#8)).toNat) y16, b3_1)) else F243_16 N b3_0 b3_1 (x15 == (4#8))
def F243_14 (N : Nat) (a1_0 : BitVec 8) (a1_1 : BitVec 8) (a2 : BitVec 8) (b3_0 : Nat → BitVec 64) (b3_1 : NS (List UInt8)) (a4_1 : BitVec 8) (x15 : BitVec 8) (x16 : Bool) (x17 : List UInt8) (x18 : Int) (x19 : Int) (x20 : Int) : Option ((Nat → BitVec 64) × NS (List UInt8)) := F243_15 N a1_0 a1_1 a2 b3_0 b3_1 a4_1 x15 x16 x17 x18 x19 x20 (x15 == (0#8))
def F243_17 (N : Nat) (a0 : Tab) (a1_0 : BitVec 8) (a1_1 : BitVec 8) (a2 : BitVec 8) (b3_0 : Nat → BitVec 64) (b3_1 : NS (List UInt8)) (a4_0 : BitVec 8) (a4_1 : BitVec 8) (a4_2 : BitVec 8) (a4_3 : BitVec 8) (a4_4 : BitVec 64) (a4_5 : List UInt8) (x23 : Bool) : Option ((Nat → BitVec 64) × NS (List UInt8)) := bif x23 then (F357 N a0 a1_0 a1_1 a2 b3_0 b3_1 a4_0 a4_1 a4_2 a4_3 a4_4 a4_5).bind fun y18 => some (y18.1, y18.2) else some (b3_0, b3_1)
def F243_13 (N : Nat) (a0 : Tab) (a1_0 : BitVec 8) (a1_1 : BitVec 8) (a2 : BitVec 8) (b3_0 : Nat → BitVec 64) (b3_1 : NS (List UInt8)) (a4_0 : BitVec 8) (a4_1 : BitVec 8) (a4_2 : BitVec 8) (a4_3 : BitVec 8) (a4_4 : BitVec 64) (a4_5 : List UInt8) (x14 : Bool) : Option ((Nat → BitVec 64) × NS (List UInt8)) := bif x14 then (F323 N a4_5).bind fun y17 => F243_14 N a1_0 a1_1 a2 b3_0 b3_1 a4_1 y17.1 y17.2.1 y17.2.2.1 y17.2.2.2.1 y17.2.2.2.2.1 y17.2.2.2.2.2 else F243_17 N a0 a1_0 a1_1 a2 b3_0 b3_1 a4_0 a4_1 a4_2 a4_3 a4_4 a4_5 (a4_0 == (27#8))
def F243_12 (N : Nat) (a0 : Tab) (a1_0 : BitVec 8) (a1_1 : BitVec 8) (a2 : BitVec 8) (b3_0 : Nat → BitVec 64) (b3_1 : NS (List UInt8)) (a4_0 : BitVec 8) (a4_1 : BitVec 8) (a4_2 : BitVec 8) (a4_3 : BitVec 8) (a4_4 : BitVec 64) (a4_5 : List UInt8) (x1 : BitVec 64) (x13 : Bool) : Option ((Nat → BitVec 64) × NS (List UInt8)) := bif x13 then (F106 N a1_0 a1_1 x1).bind fun y13 => lt (F349 a1_0 a1_1 x1 y13) fun y14 => bif decide (b3_1.2.1 < 4294967296) then some (b3_0, app b3_1 y14) else none else F243_13 N a0 a1_0 a1_1 a2 b3_0 b3_1 a4_0 a4_1 a4_2 a4_3 a4_4 a4_5 (a4_0 == (26#8))
def F243_11 (N : Nat) (a0 : Tab) (a1_0 : BitVec 8) (a1_1 : BitVec 8) (a2 : BitVec 8) (b3_0 : Nat → BitVec 64) (b3_1 : NS (List UInt8)) (a4_0 : BitVec 8) (a4_1 : BitVec 8) (a4_2 : BitVec 8) (a4_3 : BitVec 8) (a4_4 : BitVec 64) (a4_5 : List UInt8) (x1 : BitVec 64) (x12 : Bool) : Option ((Nat → BitVec 64) × NS (List UInt8)) := bif x12 then (F356 N a1_0 a1_1 x1 a4_0 a4_1 a4_2 a4_3 a4_4 a4_5).bind fun y12 => bif decide (b3_1.2.1 < 4294967296) then some (b3_0, app b3_1 y12) else none else F243_12 N a0 a1_0 a1_1 a2 b3_0 b3_1 a4_0 a4_1 a4_2 a4_3 a4_4 a4_5 x1 (a4_0 == (25#8))
def F243_18 (N : Nat) (a0 : Tab) (a1_0 : BitVec 8) (a1_1 : BitVec 8) (a2 : BitVec 8) (b3_0 : Nat → BitVec 64) (b3_1 : NS (List UInt8)) (a4_0 : BitVec 8) (a4_1 : BitVec 8) (a4_2 : BitVec 8) (a4_3 : BitVec 8) (a4_4 : BitVec 64) (a4_5 : List UInt8) (x1 : BitVec 64) (x24 : Bool) : Option ((Nat → BitVec 64) × NS (List UInt8)) := bif x24 then F243_11 N a0 a1_0 a1_1 a2 b3_0 b3_1 a4_0 a4_1 a4_2 a4_3 a4_4 a4_5 x1 x24 else F243_11 N a0 a1_0 a1_1 a2 b3_0 b3_1 a4_0 a4_1 a4_2 a4_3 a4_4 a4_5 x1 (a4_0 == (24#8))
def F243_10 (N : Nat) (a0 : Tab) (a1_0 : BitVec 8) (a1_1 : BitVec 8) (a2 : BitVec 8) (b3_0 : Nat → BitVec 64) (b3_1 : NS (List UInt8)) (a4_0 : BitVec 8) (a4_1 : BitVec 8) (a4_2 : BitVec 8) (a4_3 : BitVec 8) (a4_4 : BitVec 64) (a4_5 : List UInt8) (x1 : BitVec 64) (x3 : Bool) (x11 : Bool) : Option ((Nat → BitVec 64) × NS (List UInt8)) := bif x11 then lt (F67 a1_0 a1_1 (a4_0 == (21#8))) fun y10 => (F355 N x3 x1 y10).bind fun y11 => some ((upd b3_0 ((a4_1 &&& (7#8)).toNat) y11, b3_1)) else F243_18 N a0 a1_0 a1_1 a2 b3_0 b3_1 a4_0 a4_1 a4_2 a4_3 a4_4 a4_5 x1 (a4_0 == (23#8))
def F243_19 (N : Nat) (a0 : Tab) (a1_0 : BitVec 8) (a1_1 : BitVec 8) (a2 : BitVec 8) (b3_0 : Nat → BitVec 64) (b3_1 : NS (List UInt8)) (a4_0 : BitVec 8) (a4_1 : BitVec 8) (a4_2 : BitVec 8) (a4_3 : BitVec 8) (a4_4 : BitVec 64) (a4_5 : List UInt8) (x1 : BitVec 64) (x3 : Bool) (x25 : Bool) : Option ((Nat → BitVec 64) × NS (List UInt8)) := bif x25 then F243_10 N a0 a1_0 a1_1 a2 b3_0 b3_1 a4_0 a4_1 a4_2 a4_3 a4_4 a4_5 x1 x3 x25 else F243_10 N a0 a1_0 a1_1 a2 b3_0 b3_1 a4_0 a4_1 a4_2 a4_3 a4_4 a4_5 x1 x3 (a4_0 == (21#8))
def F243_9 (N : Nat) (a0 : Tab) (a1_0 : BitVec 8) (a1_1 : BitVec 8) (a2 : BitVec 8) (b3_0 : Nat → BitVec 64) (b3_1 : NS (List UInt8)) (a4_0 : BitVec 8) (a4_1 : BitVec 8) (a4_2 : BitVec 8) (a4_3 : BitVec 8) (a4_4 : BitVec 64) (a4_5 : List UInt8) (x1 : BitVec 64) (x2 : BitVec 64) (x3 : Bool) (x10 : Bool) : Option ((Nat → BitVec 64) × NS (List UInt8)) := bif x10 then (F354 N x3 (a4_0 == (19#8)) x1 x2).bind fun y9 => some ((upd b3_0 ((a4_1 &&& (7#8)).toNat) y9, b3_1)) else F243_19 N a0 a1_0 a1_1 a2 b3_0 b3_1 a4_0 a4_1 a4_2 a4_3 a4_4 a4_5 x1 x3 (a4_0 == (20#8))
def F243_20 (N : Nat) (a0 : Tab) (a1_0 : BitVec 8) (a1_1 : BitVec 8) (a2 : BitVec 8) (b3_0 : Nat → BitVec 64) (b3_1 : NS (List UInt8)) (a4_0 : BitVec 8) (a4_1 : BitVec 8) (a4_2 : BitVec 8) (a4_3 : BitVec 8) (a4_4 : BitVec 64) (a4_5 : List UInt8) (x1 : BitVec 64) (x2 : BitVec 64) (x3 : Bool) (x26 : Bool) : Option ((Nat → BitVec 64) × NS (List UInt8)) := bif x26 then F243_9 N a0 a1_0 a1_1 a2 b3_0 b3_1 a4_0 a4_1 a4_2 a4_3 a4_4 a4_5 x1 x2 x3 x26 else F243_9 N a0 a1_0 a1_1 a2 b3_0 b3_1 a4_0 a4_1 a4_2 a4_3 a4_4 a4_5 x1 x2 x3 (a4_0 == (19#8))
def F243_6 (N : Nat) (a0 : Tab) (a1_0 : BitVec 8) (a1_1 : BitVec 8) (a2 : BitVec 8) (b3_0 : Nat → BitVec 64) (b3_1 : NS (List UInt8)) (a4_0 : BitVec 8) (a4_1 : BitVec 8) (a4_2 : BitVec 8) (a4_3 : BitVec 8) (a4_4 : BitVec 64) (a4_5 : List UInt8) (x1 : BitVec 64) (x2 : BitVec 64) (x3 : Bool) (x7 : Bool) : Option ((Nat → BitVec 64) × NS (List UInt8)) := bif x7 then F243_8 N b3_0 b3_1 x1 (!x3) else F243_20 N a0 a1_0 a1_1 a2 b3_0 b3_1 a4_0 a4_1 a4_2 a4_3 a4_4 a4_5 x1 x2 x3 (a4_0 == (18#8))
def F243_5 (N : Nat) (a0 : Tab) (a1_0 : BitVec 8) (a1_1 : BitVec 8) (a2 : BitVec 8) (b3_0 : Nat → BitVec 64) (b3_1 : NS (List UInt8)) (a4_0 : BitVec 8) (a4_1 : BitVec 8) (a4_2 : BitVec 8) (a4_3 : BitVec 8) (a4_4 : BitVec 64) (a4_5 : List UInt8) (x1 : BitVec 64) (x2 : BitVec 64) (x3 : Bool) (x6 : Bool) : Option ((Nat → BitVec 64) × NS (List UInt8)) := bif x6 then (F352 N x3 x1 (w64 (a4_4.toNat : Int))).bind fun y4 => some ((upd b3_0 ((a4_1 &&& (7#8)).toNat) y4, b3_1)) else F243_6 N a0 a1_0 a1_1 a2 b3_0 b3_1 a4_0 a4_1 a4_2 a4_3 a4_4 a4_5 x1 x2 x3 (a4_0 == (32#8))
def F243_4 (N : Nat) (a0 : Tab) (a1_0 : BitVec 8) (a1_1 : BitVec 8) (a2 : BitVec 8) (b3_0 : Nat → BitVec 64) (b3_1 : NS (List UInt8)) (a4_0 : BitVec 8) (a4_1 : BitVec 8) (a4_2 : BitVec 8) (a4_3 : BitVec 8) (a4_4 : BitVec 64) (a4_5 : List UInt8) (x1 : BitVec 64) (x2 : BitVec 64) (x3 : Bool) (x5 : Bool) : Option ((Nat → BitVec 64) × NS (List UInt8)) := bif x5 then (F351 N x3 a4_0 a4_1 a4_2 a4_3 a4_4 a4_5 x1 x2).bind fun y3 => some ((upd b3_0 ((a4_1 &&& (7#8)).toNat) y3, b3_1)) else F243_5 N a0 a1_0 a1_1 a2 b3_0 b3_1 a4_0 a4_1 a4_2 a4_3 a4_4 a4_5 x1 x2 x3 (a4_0 == (31#8))
def F243_21 (N : Nat) (a0 : Tab) (a1_0 : BitVec 8) (a1_1 : BitVec 8) (a2 : BitVec 8) (b3_0 : Nat → BitVec 64) (b3_1 : NS (List UInt8)) (a4_0 : BitVec 8) (a4_1 : BitVec 8) (a4_2 : BitVec 8) (a4_3 : BitVec 8) (a4_4 : BitVec 64) (a4_5 : List UInt8) (x1 : BitVec 64) (x2 : BitVec 64) (x3 : Bool) (x27 : Bool) : Option ((Nat → BitVec 64) × NS (List UInt8)) := bif x27 then F243_4 N a0 a1_0 a1_1 a2 b3_0 b3_1 a4_0 a4_1 a4_2 a4_3 a4_4 a4_5 x1 x2 x3 x27 else F243_4 N a0 a1_0 a1_1 a2 b3_0 b3_1 a4_0 a4_1 a4_2 a4_3 a4_4 a4_5 x1 x2 x3 (a4_0 == (17#8))
def F243_3 (N : Nat) (a0 : Tab) (a1_0 : BitVec 8) (a1_1 : BitVec 8) (a2 : BitVec 8) (b3_0 : Nat → BitVec 64) (b3_1 : NS (List UInt8)) (a4_0 : BitVec 8) (a4_1 : BitVec 8) (a4_2 : BitVec 8) (a4_3 : BitVec 8) (a4_4 : BitVec 64) (a4_5 : List UInt8) (x1 : BitVec 64) (x2 : BitVec 64) (x3 : Bool) (x4 : Bool) : Option ((Nat → BitVec 64) × NS (List UInt8)) := bif x4 then (F350 N x3 x1 x2 (b3_0 ((a4_4 &&& (7#64)).toNat))).bind fun y2 => some ((upd b3_0 ((a4_1 &&& (7#8)).toNat) y2, b3_1)) else F243_21 N a0 a1_0 a1_1 a2 b3_0 b3_1 a4_0 a4_1 a4_2 a4_3 a4_4 a4_5 x1 x2 x3 (a4_0 == (16#8))
def F243_2 (N : Nat) (a0 : Tab) (a1_0 : BitVec 8) (a1_1 : BitVec 8) (a2 : BitVec 8) (b3_0 : Nat → BitVec 64) (b3_1 : NS (List UInt8)) (a4_0 : BitVec 8) (a4_1 : BitVec 8) (a4_2 : BitVec 8) (a4_3 : BitVec 8) (a4_4 : BitVec 64) (a4_5 : List UInt8) (x1 : BitVec 64) (x2 : BitVec 64) (x3 : Bool) : Option ((Nat → BitVec 64) × NS (List UInt8)) := F243_3 N a0 a1_0 a1_1 a2 b3_0 b3_1 a4_0 a4_1 a4_2 a4_3 a4_4 a4_5 x1 x2 x3 (a4_0 == (15#8))
def F243_1 (N : Nat) (a0 : Tab) (a1_0 : BitVec 8) (a1_1 : BitVec 8) (a2 : BitVec 8) (b3_0 : Nat → BitVec 64) (b3_1 : NS (List UInt8)) (a4_0 : BitVec 8) (a4_1 : BitVec 8) (a4_2 : BitVec 8) (a4_3 : BitVec 8) (a4_4 : BitVec 64) (a4_5 : List UInt8) (x1 : BitVec 64) (x2 : BitVec 64) : Option ((Nat → BitVec 64) × NS (List UInt8)) := lt (F13) fun y19 => F243_2 N a0 a1_0 a1_1 a2 b3_0 b3_1 a4_0 a4_1 a4_2 a4_3 a4_4 a4_5 x1 x2 ((a1_0 == y19.1) && (a1_1 == y19.2))
def F243 (N : Nat) (a0 : Tab) (a1_0 : BitVec 8) (a1_1 : BitVec 8) (a2 : BitVec 8) (b3_0 : Nat → BitVec 64) (b3_1 : NS (List UInt8)) (a4_0 : BitVec 8) (a4_1 : BitVec 8) (a4_2 : BitVec 8) (a4_3 : BitVec 8) (a4_4 : BitVec 64) (a4_5 : List UInt8) : Option ((Nat → BitVec 64) × NS (List UInt8)) := F243_1 N a0 a1_0 a1_1 a2 b3_0 b3_1 a4_0 a4_1 a4_2 a4_3 a4_4 a4_5 (b3_0 ((a4_2 &&& (7#8)).toNat)) (b3_0 ((a4_3 &&& (7#8)).toNat))
theorem C243 (N : Nat) (a0 : Tab) (a1_0 : BitVec 8) (a1_1 : BitVec 8) (a2 : BitVec 8) (b3_0 : Nat → BitVec 64) (b3_1 : NS (List UInt8)) (a4_0 : BitVec 8) (a4_1 : BitVec 8) (a4_2 : BitVec 8) (a4_3 : BitVec 8) (a4_4 : BitVec 64) (a4_5 : List UInt8) (r : (Nat → BitVec 64) × NS (List UInt8)) (hr : some r = F243 N a0 a1_0 a1_1 a2 b3_0 b3_1 a4_0 a4_1 a4_2 a4_3 a4_4 a4_5) : FnB Hfaa.prog 243 [.inl (tabp a0), .inl (agg [is (U8 a1_0), is (U8 a1_1)]), .inl (is (U8 a2)), .inr (.inl (3, 0)), .inl (agg [is (U8 a4_0), is (U8 a4_1), is (U8 a4_2), is (U8 a4_3), is (U64 a4_4), is (Sv a4_5)])] [(3, gc 90 (ar U64 8 b3_0 ++ []) ([]) (k1 Sv) 1 b3_1)] (tup []) [(3, gc 90 (ar U64 8 r.1 ++ []) ([]) (k1 Sv) 1 r.2)] := by
  refine fnB_intro Hfaa.func243 rfl rfl rfl rfl rfl ⟨hf_gc _ _ _ _ _ _, trivial⟩ ?_
  intro bn0 w0 H0
  refine AW_seq1 ?_
  refine AW_region ?_
  refine AL_cons (LR_box (at_tmp 1 _) (cells_agg _) rfl) (sS (sT1 rfl) sB0 (sF1 rfl)) ?_
  refine AL_cons (LR_box (at_tmp 4 _) (cells_agg _) rfl) (sS (sT1 rfl) sB0 (sF1 rfl)) ?_
  refine AL_nil ?_
  refine thenN ?_
  refine AW_cut (σ := BitVec 64 × BitVec 64) (fun v => ⟨[(0, .inl (tabp a0)), (2, .inl (is (U8 a2))), (3, .inr (.inl (3, 0))), (6, .inr (.inl (6, 0))), (9, .inr (.inl (9, 0))), (10, .inr (.inl (3, (a4_1 &&& (7#8)).toNat))), (11, .inl (is (U64 v.1))), (12, .inl (is (U64 v.2)))], [(3, gc 90 (ar U64 8 b3_0 ++ []) ([]) (k1 Sv) 1 b3_1), (6, pb 23 [is (U8 a1_0), is (U8 a1_1)]), (9, pb 96 [is (U8 a4_0), is (U8 a4_1), is (U8 a4_2), is (U8 a4_3), is (U64 a4_4), is (Sv a4_5)])]⟩) (fun v => some r = F243_1 N a0 a1_0 a1_1 a2 b3_0 b3_1 a4_0 a4_1 a4_2 a4_3 a4_4 a4_5 v.1 v.2) ?_ ?_
  · skip
    refine AW_opn 3 1012 (fun sv => (ar U64 8 b3_0 ++ (is ( sv) :: []))) rfl rfl (fun _ => by first | rfl | simp) ?_
    intro sv17 hsv17
    refine AW_post ?_
    refine AW_draw mixed
      (lrC (LR_move (at_tmp 3 _) rfl)
      (lrC (LR_fieldAddr (off := 0) (o := 1) (at_tmp 9 _) (fun b w => fa96_1 b 0 w) rfl)
      (lrC (LR_load (at_tmp 16 _) na5 rfl rfl)
      (lrC (LR_bin (at_tmp 17 _) (at_c (v' := U8 (7#8)) rfl) (and_U8 a4_1 (7#8)) rfl)
      (lrC (LR_nilCheck (at_tmp 15 _) rfl)
      (lrC (LR_fieldAddr (off := 0) (o := 0) (at_tmp 19 _) (fun b w => fa90_0 b 0 w) rfl)
      (lrC (LR_indexAddr (o := (a4_1 &&& (7#8)).toNat) Hfaa.underlying35 sz30 (at_tmp 20 _) (at_tmp 18 _) (natIx (and7 a4_1)) (by first | rfl | omega) rfl)
      (lrC (LR_move (at_tmp 3 _) rfl)
      (lrC (LR_fieldAddr (off := 0) (o := 2) (at_tmp 9 _) (fun b w => fa96_2 b 0 w) rfl)
      (lrC (LR_load (at_tmp 23 _) na5 rfl rfl)
      (lrC (LR_bin (at_tmp 24 _) (at_c (v' := U8 (7#8)) rfl) (and_U8 a4_2 (7#8)) rfl)
      (lrC (LR_nilCheck (at_tmp 22 _) rfl)
      (lrC (LR_fieldAddr (off := 0) (o := 0) (at_tmp 26 _) (fun b w => fa90_0 b 0 w) rfl)
      (lrC (LR_indexAddr (o := (a4_2 &&& (7#8)).toNat) Hfaa.underlying35 sz30 (at_tmp 27 _) (at_tmp 25 _) (natIx (and7 a4_2)) (by first | rfl | omega) rfl)
      (lrC (LR_load (at_tmp 28 _) na30 (gA (and7 a4_2)) rfl)
      (lrC (LR_move (at_tmp 3 _) rfl)
      (lrC (LR_fieldAddr (off := 0) (o := 3) (at_tmp 9 _) (fun b w => fa96_3 b 0 w) rfl)
      (lrC (LR_load (at_tmp 31 _) na5 rfl rfl)
      (lrC (LR_bin (at_tmp 32 _) (at_c (v' := U8 (7#8)) rfl) (and_U8 a4_3 (7#8)) rfl)
      (lrC (LR_nilCheck (at_tmp 30 _) rfl)
      (lrC (LR_fieldAddr (off := 0) (o := 0) (at_tmp 34 _) (fun b w => fa90_0 b 0 w) rfl)
      (lrC (LR_indexAddr (o := (a4_3 &&& (7#8)).toNat) Hfaa.underlying35 sz30 (at_tmp 35 _) (at_tmp 33 _) (natIx (and7 a4_3)) (by first | rfl | omega) rfl)
      (lrC (LR_load (at_tmp 36 _) na30 (gA (and7 a4_3)) rfl)
      (lrC (LR_assign (at_tmp 21 _) rfl)
      (lrC (LR_assign (at_tmp 29 _) rfl)
      (lrC (LR_assign (at_tmp 37 _) rfl)
      lrN))))))))))))))))))))))))))
      (by kernel_rfl)
      (saC (sS (sT1 rfl) sB0 sF0) (saC (sS (sT1 rfl) sB0 sF0) (saC (sS (sT1 rfl) (sB1 rfl) sF0) (saC (sS (sA (sT1 rfl) sT0) sB0 sF0) (saC (sS (sT1 rfl) sB0 sF0) (saC (sS (sT1 rfl) sB0 sF0) (saC (sS (sA (sT1 rfl) (sT1 rfl)) sB0 sF0) (saC (sS (sT1 rfl) sB0 sF0) (saC (sS (sT1 rfl) sB0 sF0) (saC (sS (sT1 rfl) (sB1 rfl) sF0) (saC (sS (sA (sT1 rfl) sT0) sB0 sF0) (saC (sS (sT1 rfl) sB0 sF0) (saC (sS (sT1 rfl) sB0 sF0) (saC (sS (sA (sT1 rfl) (sT1 rfl)) sB0 sF0) (saC (sS (sT1 rfl) (sB1 rfl) sF0) (saC (sS (sT1 rfl) sB0 sF0) (saC (sS (sT1 rfl) sB0 sF0) (saC (sS (sT1 rfl) (sB1 rfl) sF0) (saC (sS (sA (sT1 rfl) sT0) sB0 sF0) (saC (sS (sT1 rfl) sB0 sF0) (saC (sS (sT1 rfl) sB0 sF0) (saC (sS (sA (sT1 rfl) (sT1 rfl)) sB0 sF0) (saC (sS (sT1 rfl) (sB1 rfl) sF0) (saC (sS (sT1 rfl) sB0 sF0) (saC (sS (sT1 rfl) sB0 sF0) (saC (sS (sT1 rfl) sB0 sF0) saN)))))))))))))))))))))))))) ?_
    refine ⟨_, (imp_close (k := 3) (r := 1012) (ar U64 8 b3_0 ++ []) ([]) rfl (by first | rfl | simp) rfl rfl rfl rfl), ?_⟩
    exact thenN (cutLeaf (v := (b3_0 ((a4_2 &&& (7#8)).toNat), b3_0 ((a4_3 &&& (7#8)).toNat))) hr (weakB ((sT rfl (sT rfl (sT rfl (sT rfl (sT rfl (sT rfl (sT rfl (sT rfl sT0))))))))) (sub_keep (sub_keep (sub_keep (sub_drop sub_nil)))) rfl))
  · rintro ⟨x1, x2⟩ hr
    show AW Hfaa.prog _ _ _ ⟨[(0, .inl (tabp a0)), (2, .inl (is (U8 a2))), (3, .inr (.inl (3, 0))), (6, .inr (.inl (6, 0))), (9, .inr (.inl (9, 0))), (10, .inr (.inl (3, (a4_1 &&& (7#8)).toNat))), (11, .inl (is (U64 x1))), (12, .inl (is (U64 x2)))], [(3, gc 90 (ar U64 8 b3_0 ++ []) ([]) (k1 Sv) 1 b3_1), (6, pb 23 [is (U8 a1_0), is (U8 a1_1)]), (9, pb 96 [is (U8 a4_0), is (U8 a4_1), is (U8 a4_2), is (U8 a4_3), is (U64 a4_4), is (Sv a4_5)])]⟩
    have hr : some r = F243_1 N a0 a1_0 a1_1 a2 b3_0 b3_1 a4_0 a4_1 a4_2 a4_3 a4_4 a4_5 x1 x2 := hr
    refine AW_cut (σ := Bool) (fun v => ⟨[(0, .inl (tabp a0)), (2, .inl (is (U8 a2))), (3, .inr (.inl (3, 0))), (6, .inr (.inl (6, 0))), (9, .inr (.inl (9, 0))), (10, .inr (.inl (3, (a4_1 &&& (7#8)).toNat))), (11, .inl (is (U64 x1))), (12, .inl (is (U64 x2))), (13, .inl (is (Bl v)))], [(3, gc 90 (ar U64 8 b3_0 ++ []) ([]) (k1 Sv) 1 b3_1), (6, pb 23 [is (U8 a1_0), is (U8 a1_1)]), (9, pb 96 [is (U8 a4_0), is (U8 a4_1), is (U8 a4_2), is (U8 a4_3), is (U64 a4_4), is (Sv a4_5)])]⟩) (fun v => some r = F243_2 N a0 a1_0 a1_1 a2 b3_0 b3_1 a4_0 a4_1 a4_2 a4_3 a4_4 a4_5 x1 x2 v) ?_ ?_
    · skip
      obtain ⟨y19, hy19, hr⟩ := lt_some hr
      refine AW_draw mixed
        (lrC (LR_loads (at_tmp 6 _) ag23 sz23 rfl rfl rfl)
        (lrC (LR_call Hfaa.func13 rfl rfl (C13 y19 hy19) all_nil rfl)
        (lrC (LR_binA (at_tmp 38 _) (at_tmp 39 _) (eqlA23 a1_0 a1_1 y19.1 y19.2) rfl)
        (lrC (LR_assign (at_tmp 40 _) rfl)
        lrN))))
        (by kernel_rfl)
        (saC (sS (sT1 rfl) (sB1 rfl) sF0) (saC (sS sT0 sB0 sF0) (saC (sS (sA (sT1 rfl) (sT1 rfl)) sB0 sF0) (saC (sS (sT1 rfl) sB0 sF0) saN)))) ?_
      exact thenN (cutLeaf (v := (a1_0 == y19.1) && (a1_1 == y19.2)) hr (weakB ((sT rfl (sT rfl (sT rfl (sT rfl (sT rfl (sT rfl (sT rfl (sT rfl (sT rfl sT0)))))))))) (sub_keep (sub_keep (sub_keep sub_nil))) rfl))
    · rintro x3 hr
      show AW Hfaa.prog _ _ _ ⟨[(0, .inl (tabp a0)), (2, .inl (is (U8 a2))), (3, .inr (.inl (3, 0))), (6, .inr (.inl (6, 0))), (9, .inr (.inl (9, 0))), (10, .inr (.inl (3, (a4_1 &&& (7#8)).toNat))), (11, .inl (is (U64 x1))), (12, .inl (is (U64 x2))), (13, .inl (is (Bl x3)))], [(3, gc 90 (ar U64 8 b3_0 ++ []) ([]) (k1 Sv) 1 b3_1), (6, pb 23 [is (U8 a1_0), is (U8 a1_1)]), (9, pb 96 [is (U8 a4_0), is (U8 a4_1), is (U8 a4_2), is (U8 a4_3), is (U64 a4_4), is (Sv a4_5)])]⟩
      have hr : some r = F243_2 N a0 a1_0 a1_1 a2 b3_0 b3_1 a4_0 a4_1 a4_2 a4_3 a4_4 a4_5 x1 x2 x3 := hr
      refine AW_seq1 ?_
      refine AW_region ?_
      refine AL_cons (LR_fieldAddr (off := 0) (o := 0) (at_tmp 9 _) (fun b w => fa96_0 b 0 w) rfl) (sS (sT1 rfl) sB0 sF0) ?_
      refine AL_cons (LR_load (at_tmp 41 _) na5 rfl rfl) (sS (sT1 rfl) (sB1 rfl) sF0) ?_
      refine AL_nil ?_
      refine thenN ?_
      refine AW_block ?_
      refine AW_cut (σ := Bool) (fun v => ⟨[(0, .inl (tabp a0)), (2, .inl (is (U8 a2))), (3, .inr (.inl (3, 0))), (6, .inr (.inl (6, 0))), (9, .inr (.inl (9, 0))), (10, .inr (.inl (3, (a4_1 &&& (7#8)).toNat))), (11, .inl (is (U64 x1))), (12, .inl (is (U64 x2))), (13, .inl (is (Bl x3))), (42, .inl (is (U8 a4_0))), (43, .inl (is (Bl v)))], [(3, gc 90 (ar U64 8 b3_0 ++ []) ([]) (k1 Sv) 1 b3_1), (6, pb 23 [is (U8 a1_0), is (U8 a1_1)]), (9, pb 96 [is (U8 a4_0), is (U8 a4_1), is (U8 a4_2), is (U8 a4_3), is (U64 a4_4), is (Sv a4_5)])]⟩) (fun v => some r = F243_3 N a0 a1_0 a1_1 a2 b3_0 b3_1 a4_0 a4_1 a4_2 a4_3 a4_4 a4_5 x1 x2 x3 v) ?_ ?_
      · skip
        refine AW_region ?_
        refine AL_cons (LR_bin (at_tmp 42 _) (at_c (v' := U8 (15#8)) rfl) (eql_U8 a4_0 (15#8)) rfl) (sS (sA (sT1 rfl) sT0) sB0 sF0) ?_
        refine AL_cons (LR_assign (at_tmp 44 _) rfl) (sS (sT1 rfl) sB0 sF0) ?_
        refine AL_nil ?_
        exact thenN (cutLeaf (v := a4_0 == (15#8)) hr (weakB ((sT rfl (sT rfl (sT rfl (sT rfl (sT rfl (sT rfl (sT rfl (sT rfl (sT rfl (sT rfl (sT rfl sT0)))))))))))) (sub_keep (sub_keep (sub_keep sub_nil))) rfl))
      · rintro x4 hr
        show AW Hfaa.prog _ _ _ ⟨[(0, .inl (tabp a0)), (2, .inl (is (U8 a2))), (3, .inr (.inl (3, 0))), (6, .inr (.inl (6, 0))), (9, .inr (.inl (9, 0))), (10, .inr (.inl (3, (a4_1 &&& (7#8)).toNat))), (11, .inl (is (U64 x1))), (12, .inl (is (U64 x2))), (13, .inl (is (Bl x3))), (42, .inl (is (U8 a4_0))), (43, .inl (is (Bl x4)))], [(3, gc 90 (ar U64 8 b3_0 ++ []) ([]) (k1 Sv) 1 b3_1), (6, pb 23 [is (U8 a1_0), is (U8 a1_1)]), (9, pb 96 [is (U8 a4_0), is (U8 a4_1), is (U8 a4_2), is (U8 a4_3), is (U64 a4_4), is (Sv a4_5)])]⟩
        have hr : some r = F243_3 N a0 a1_0 a1_1 a2 b3_0 b3_1 a4_0 a4_1 a4_2 a4_3 a4_4 a4_5 x1 x2 x3 x4 := hr
        refine AW_condT (b := x4) rfl (fun h => ?_) (fun h => ?_)
        · have hr := hr.trans (cond_t h)
          clear h
          refine AW_opn 3 1001 (fun sv => (ar U64 8 b3_0 ++ (is ( sv) :: []))) rfl rfl (fun _ => by first | rfl | simp) ?_
          intro sv1 hsv1
          obtain ⟨y2, hy2, hr⟩ := bind_some hr
          refine AW_post ?_
          refine AW_draw mixed
            (lrC (LR_move (at_tmp 10 _) rfl)
            (lrC (LR_move (at_tmp 13 _) rfl)
            (lrC (LR_move (at_tmp 11 _) rfl)
            (lrC (LR_move (at_tmp 12 _) rfl)
            (lrC (LR_move (at_tmp 3 _) rfl)
            (lrC (LR_fieldAddr (off := 0) (o := 4) (at_tmp 9 _) (fun b w => fa96_4 b 0 w) rfl)
            (lrC (LR_load (at_tmp 50 _) na30 rfl rfl)
            (lrC (LR_bin (at_tmp 51 _) (at_c (v' := U64 (7#64)) rfl) (and_U64 a4_4 (7#64)) rfl)
            (lrC (LR_nilCheck (at_tmp 49 _) rfl)
            (lrC (LR_fieldAddr (off := 0) (o := 0) (at_tmp 53 _) (fun b w => fa90_0 b 0 w) rfl)
            (lrC (LR_indexAddr (o := (a4_4 &&& (7#64)).toNat) Hfaa.underlying35 sz30 (at_tmp 54 _) (at_tmp 52 _) (natIx (and7q a4_4)) (by first | rfl | omega) rfl)
            (lrC (LR_load (at_tmp 55 _) na30 (gA (and7q a4_4)) rfl)
            (lrC (LR_call Hfaa.func350 rfl rfl (C350 N x3 x1 x2 (b3_0 ((a4_4 &&& (7#64)).toNat)) y2 hy2) (all_cons (at_tmp 46 _) (all_cons (at_tmp 47 _) (all_cons (at_tmp 48 _) (all_cons (at_tmp 56 _) all_nil)))) rfl)
            (lrC (LR_nilCheck (at_tmp 45 _) rfl)
            (lrC (LR_storeA (at_tmp 58 _) (at_tmp 57 _) (cells_one (one_is rfl)) (onC (one_is rfl) onN) sz30 rfl (ble_dyn (lnA (lnC ln0)) (by have := (and7 a4_1); omega)) (stA (and7 a4_1)))
            lrN)))))))))))))))
            (by kernel_rfl)
            (saC (sS (sT1 rfl) sB0 sF0) (saC (sS (sT1 rfl) sB0 sF0) (saC (sS (sT1 rfl) sB0 sF0) (saC (sS (sT1 rfl) sB0 sF0) (saC (sS (sT1 rfl) sB0 sF0) (saC (sS (sT1 rfl) sB0 sF0) (saC (sS (sT1 rfl) (sB1 rfl) sF0) (saC (sS (sA (sT1 rfl) sT0) sB0 sF0) (saC (sS (sT1 rfl) sB0 sF0) (saC (sS (sT1 rfl) sB0 sF0) (saC (sS (sA (sT1 rfl) (sT1 rfl)) sB0 sF0) (saC (sS (sT1 rfl) (sB1 rfl) sF0) (saC (sS (sA (sT1 rfl) (sA (sT1 rfl) (sA (sT1 rfl) (sA (sT1 rfl) sT0)))) sB0 sF0) (saC (sS (sT1 rfl) sB0 sF0) (saC (sS (sA (sT1 rfl) (sT1 rfl)) (sB1 rfl) sF0) saN))))))))))))))) ?_
          refine ⟨_, (imp_close (k := 3) (r := 1001) ((ar U64 8 (upd b3_0 ((a4_1 &&& (7#8)).toNat) y2) ++ [])) ([]) rfl (by first | rfl | simp) rfl rfl rfl rfl), ?_⟩
          refine blN ?_
          obtain rfl := Option.some.inj hr
          exact ⟨res0 rfl , (sub_keep (sub_drop (sub_drop (sub_drop sub_nil))))⟩
        · have hr := hr.trans (cond_f h)
          clear h
          refine AW_cut (σ := Bool) (fun v => ⟨[(0, .inl (tabp a0)), (2, .inl (is (U8 a2))), (3, .inr (.inl (3, 0))), (6, .inr (.inl (6, 0))), (9, .inr (.inl (9, 0))), (10, .inr (.inl (3, (a4_1 &&& (7#8)).toNat))), (11, .inl (is (U64 x1))), (12, .inl (is (U64 x2))), (13, .inl (is (Bl x3))), (42, .inl (is (U8 a4_0))), (59, .inl (is (Bl v)))], [(3, gc 90 (ar U64 8 b3_0 ++ []) ([]) (k1 Sv) 1 b3_1), (6, pb 23 [is (U8 a1_0), is (U8 a1_1)]), (9, pb 96 [is (U8 a4_0), is (U8 a4_1), is (U8 a4_2), is (U8 a4_3), is (U64 a4_4), is (Sv a4_5)])]⟩) (fun v => some r = F243_4 N a0 a1_0 a1_1 a2 b3_0 b3_1 a4_0 a4_1 a4_2 a4_3 a4_4 a4_5 x1 x2 x3 v) ?_ ?_
          · skip
            refine AW_cut (σ := Bool) (fun v => ⟨[(0, .inl (tabp a0)), (2, .inl (is (U8 a2))), (3, .inr (.inl (3, 0))), (6, .inr (.inl (6, 0))), (9, .inr (.inl (9, 0))), (10, .inr (.inl (3, (a4_1 &&& (7#8)).toNat))), (11, .inl (is (U64 x1))), (12, .inl (is (U64 x2))), (13, .inl (is (Bl x3))), (42, .inl (is (U8 a4_0))), (59, .inl (is (Bl v)))], [(3, gc 90 (ar U64 8 b3_0 ++ []) ([]) (k1 Sv) 1 b3_1), (6, pb 23 [is (U8 a1_0), is (U8 a1_1)]), (9, pb 96 [is (U8 a4_0), is (U8 a4_1), is (U8 a4_2), is (U8 a4_3), is (U64 a4_4), is (Sv a4_5)])]⟩) (fun v => some r = F243_21 N a0 a1_0 a1_1 a2 b3_0 b3_1 a4_0 a4_1 a4_2 a4_3 a4_4 a4_5 x1 x2 x3 v) ?_ ?_
            · skip
              refine AW_region ?_
              refine AL_cons (LR_bin (at_tmp 42 _) (at_c (v' := U8 (16#8)) rfl) (eql_U8 a4_0 (16#8)) rfl) (sS (sA (sT1 rfl) sT0) sB0 sF0) ?_
              refine AL_cons (LR_assign (at_tmp 60 _) rfl) (sS (sT1 rfl) sB0 sF0) ?_
              refine AL_nil ?_
              exact thenN (cutLeaf (v := a4_0 == (16#8)) hr (weakB ((sT rfl (sT rfl (sT rfl (sT rfl (sT rfl (sT rfl (sT rfl (sT rfl (sT rfl (sT rfl (sT rfl sT0)))))))))))) (sub_keep (sub_keep (sub_keep sub_nil))) rfl))
            · rintro x27 hr
              show AW Hfaa.prog _ _ _ ⟨[(0, .inl (tabp a0)), (2, .inl (is (U8 a2))), (3, .inr (.inl (3, 0))), (6, .inr (.inl (6, 0))), (9, .inr (.inl (9, 0))), (10, .inr (.inl (3, (a4_1 &&& (7#8)).toNat))), (11, .inl (is (U64 x1))), (12, .inl (is (U64 x2))), (13, .inl (is (Bl x3))), (42, .inl (is (U8 a4_0))), (59, .inl (is (Bl x27)))], [(3, gc 90 (ar U64 8 b3_0 ++ []) ([]) (k1 Sv) 1 b3_1), (6, pb 23 [is (U8 a1_0), is (U8 a1_1)]), (9, pb 96 [is (U8 a4_0), is (U8 a4_1), is (U8 a4_2), is (U8 a4_3), is (U64 a4_4), is (Sv a4_5)])]⟩
              have hr : some r = F243_21 N a0 a1_0 a1_1 a2 b3_0 b3_1 a4_0 a4_1 a4_2 a4_3 a4_4 a4_5 x1 x2 x3 x27 := hr
              refine AW_condT (b := x27) rfl (fun h => ?_) (fun h => ?_)
              · have hr := hr.trans (cond_t h)
                clear h
                refine AW_skip ?_
                exact thenN (cutLeaf (v := x27) hr (weakB ((sT rfl (sT rfl (sT rfl (sT rfl (sT rfl (sT rfl (sT rfl (sT rfl (sT rfl (sT rfl (sT rfl sT0)))))))))))) (sub_keep (sub_keep (sub_keep sub_nil))) rfl))
              · have hr := hr.trans (cond_f h)
                clear h
                refine AW_region ?_
                refine AL_cons (LR_bin (at_tmp 42 _) (at_c (v' := U8 (17#8)) rfl) (eql_U8 a4_0 (17#8)) rfl) (sS (sA (sT1 rfl) sT0) sB0 sF0) ?_
                refine AL_cons (LR_assign (at_tmp 61 _) rfl) (sS (sT1 rfl) sB0 sF0) ?_
                refine AL_nil ?_
                exact thenN (cutLeaf (v := a4_0 == (17#8)) hr (weakB ((sT rfl (sT rfl (sT rfl (sT rfl (sT rfl (sT rfl (sT rfl (sT rfl (sT rfl (sT rfl (sT rfl sT0)))))))))))) (sub_keep (sub_keep (sub_keep sub_nil))) rfl))
          · rintro x5 hr
            show AW Hfaa.prog _ _ _ ⟨[(0, .inl (tabp a0)), (2, .inl (is (U8 a2))), (3, .inr (.inl (3, 0))), (6, .inr (.inl (6, 0))), (9, .inr (.inl (9, 0))), (10, .inr (.inl (3, (a4_1 &&& (7#8)).toNat))), (11, .inl (is (U64 x1))), (12, .inl (is (U64 x2))), (13, .inl (is (Bl x3))), (42, .inl (is (U8 a4_0))), (59, .inl (is (Bl x5)))], [(3, gc 90 (ar U64 8 b3_0 ++ []) ([]) (k1 Sv) 1 b3_1), (6, pb 23 [is (U8 a1_0), is (U8 a1_1)]), (9, pb 96 [is (U8 a4_0), is (U8 a4_1), is (U8 a4_2), is (U8 a4_3), is (U64 a4_4), is (Sv a4_5)])]⟩
            have hr : some r = F243_4 N a0 a1_0 a1_1 a2 b3_0 b3_1 a4_0 a4_1 a4_2 a4_3 a4_4 a4_5 x1 x2 x3 x5 := hr
            refine AW_condT (b := x5) rfl (fun h => ?_) (fun h => ?_)
            · have hr := hr.trans (cond_t h)
              clear h
              refine AW_region ?_
              refine AL_cons (LR_move (at_tmp 10 _) rfl) (sS (sT1 rfl) sB0 sF0) ?_
              refine AL_cons (LR_move (at_tmp 13 _) rfl) (sS (sT1 rfl) sB0 sF0) ?_
              refine AL_cons (LR_loads (at_tmp 9 _) ag96 sz96 rfl rfl rfl) (sS (sT1 rfl) (sB1 rfl) sF0) ?_
              refine AL_cons (LR_move (at_tmp 11 _) rfl) (sS (sT1 rfl) sB0 sF0) ?_
              refine AL_cons (LR_move (at_tmp 12 _) rfl) (sS (sT1 rfl) sB0 sF0) ?_
              obtain ⟨y3, hy3, hr⟩ := bind_some hr
              refine AL_cons (LR_call Hfaa.func351 rfl rfl (C351 N x3 a4_0 a4_1 a4_2 a4_3 a4_4 a4_5 x1 x2 y3 hy3) (all_cons (at_tmp 63 _) (all_cons (at_tmp 64 _) (all_cons (at_tmp 65 _) (all_cons (at_tmp 66 _) all_nil)))) rfl) (sS (sA (sT1 rfl) (sA (sT1 rfl) (sA (sT1 rfl) (sA (sT1 rfl) sT0)))) sB0 sF0) ?_
              refine AL_cons (LR_nilCheck (at_tmp 62 _) rfl) (sS (sT1 rfl) sB0 sF0) ?_
              refine AL_opn 3 1002 (fun sv => (ar U64 8 b3_0 ++ (is ( sv) :: []))) rfl rfl (fun _ => by first | rfl | simp) ?_
              intro sv2 hsv2
              refine AL_cons (LR_storeA (at_tmp 68 _) (at_tmp 67 _) (cells_one (one_is rfl)) (onC (one_is rfl) onN) sz30 rfl (ble_dyn (lnA (lnC ln0)) (by have := (and7 a4_1); omega)) (stA (and7 a4_1))) (sS (sA (sT1 rfl) (sT1 rfl)) (sB1 rfl) sF0) ?_
              refine AL_imp (imp_close (k := 3) (r := 1002) ((ar U64 8 (upd b3_0 ((a4_1 &&& (7#8)).toNat) y3) ++ [])) ([]) rfl (by first | rfl | simp) rfl rfl rfl rfl) ?_
              refine AL_nil ?_
              refine blN ?_
              obtain rfl := Option.some.inj hr
              exact ⟨res0 rfl , (sub_keep (sub_drop (sub_drop (sub_drop sub_nil))))⟩
            · have hr := hr.trans (cond_f h)
              clear h
              refine AW_cut (σ := Bool) (fun v => ⟨[(0, .inl (tabp a0)), (2, .inl (is (U8 a2))), (3, .inr (.inl (3, 0))), (6, .inr (.inl (6, 0))), (9, .inr (.inl (9, 0))), (10, .inr (.inl (3, (a4_1 &&& (7#8)).toNat))), (11, .inl (is (U64 x1))), (12, .inl (is (U64 x2))), (13, .inl (is (Bl x3))), (42, .inl (is (U8 a4_0))), (69, .inl (is (Bl v)))], [(3, gc 90 (ar U64 8 b3_0 ++ []) ([]) (k1 Sv) 1 b3_1), (6, pb 23 [is (U8 a1_0), is (U8 a1_1)]), (9, pb 96 [is (U8 a4_0), is (U8 a4_1), is (U8 a4_2), is (U8 a4_3), is (U64 a4_4), is (Sv a4_5)])]⟩) (fun v => some r = F243_5 N a0 a1_0 a1_1 a2 b3_0 b3_1 a4_0 a4_1 a4_2 a4_3 a4_4 a4_5 x1 x2 x3 v) ?_ ?_
              · skip
                refine AW_region ?_
                refine AL_cons (LR_bin (at_tmp 42 _) (at_c (v' := U8 (31#8)) rfl) (eql_U8 a4_0 (31#8)) rfl) (sS (sA (sT1 rfl) sT0) sB0 sF0) ?_
                refine AL_cons (LR_assign (at_tmp 70 _) rfl) (sS (sT1 rfl) sB0 sF0) ?_
                refine AL_nil ?_
                exact thenN (cutLeaf (v := a4_0 == (31#8)) hr (weakB ((sT rfl (sT rfl (sT rfl (sT rfl (sT rfl (sT rfl (sT rfl (sT rfl (sT rfl (sT rfl (sT rfl sT0)))))))))))) (sub_keep (sub_keep (sub_keep sub_nil))) rfl))
              · rintro x6 hr
                show AW Hfaa.prog _ _ _ ⟨[(0, .inl (tabp a0)), (2, .inl (is (U8 a2))), (3, .inr (.inl (3, 0))), (6, .inr (.inl (6, 0))), (9, .inr (.inl (9, 0))), (10, .inr (.inl (3, (a4_1 &&& (7#8)).toNat))), (11, .inl (is (U64 x1))), (12, .inl (is (U64 x2))), (13, .inl (is (Bl x3))), (42, .inl (is (U8 a4_0))), (69, .inl (is (Bl x6)))], [(3, gc 90 (ar U64 8 b3_0 ++ []) ([]) (k1 Sv) 1 b3_1), (6, pb 23 [is (U8 a1_0), is (U8 a1_1)]), (9, pb 96 [is (U8 a4_0), is (U8 a4_1), is (U8 a4_2), is (U8 a4_3), is (U64 a4_4), is (Sv a4_5)])]⟩
                have hr : some r = F243_5 N a0 a1_0 a1_1 a2 b3_0 b3_1 a4_0 a4_1 a4_2 a4_3 a4_4 a4_5 x1 x2 x3 x6 := hr
                refine AW_condT (b := x6) rfl (fun h => ?_) (fun h => ?_)
                · have hr := hr.trans (cond_t h)
                  clear h
                  refine AW_region ?_
                  refine AL_cons (LR_move (at_tmp 10 _) rfl) (sS (sT1 rfl) sB0 sF0) ?_
                  refine AL_cons (LR_move (at_tmp 13 _) rfl) (sS (sT1 rfl) sB0 sF0) ?_
                  refine AL_cons (LR_move (at_tmp 11 _) rfl) (sS (sT1 rfl) sB0 sF0) ?_
                  refine AL_cons (LR_fieldAddr (off := 0) (o := 4) (at_tmp 9 _) (fun b w => fa96_4 b 0 w) rfl) (sS (sT1 rfl) sB0 sF0) ?_
                  refine AL_cons (LR_load (at_tmp 74 _) na30 rfl rfl) (sS (sT1 rfl) (sB1 rfl) sF0) ?_
                  refine AL_cons (LR_conv (vx := U64 a4_4) (at_tmp 75 _) (conv_I64 Hfaa.underlying30 Hfaa.underlying2 (a4_4.toNat : Int)) rfl) (sS (sT1 rfl) sB0 sF0) ?_
                  obtain ⟨y4, hy4, hr⟩ := bind_some hr
                  refine AL_cons (LR_call Hfaa.func352 rfl rfl (C352 N x3 x1 (w64 (a4_4.toNat : Int)) y4 hy4) (all_cons (at_tmp 72 _) (all_cons (at_tmp 73 _) (all_cons (at_tmp 76 _) all_nil))) rfl) (sS (sA (sT1 rfl) (sA (sT1 rfl) (sA (sT1 rfl) sT0))) sB0 sF0) ?_
                  refine AL_cons (LR_nilCheck (at_tmp 71 _) rfl) (sS (sT1 rfl) sB0 sF0) ?_
                  refine AL_opn 3 1003 (fun sv => (ar U64 8 b3_0 ++ (is ( sv) :: []))) rfl rfl (fun _ => by first | rfl | simp) ?_
                  intro sv3 hsv3
                  refine AL_cons (LR_storeA (at_tmp 78 _) (at_tmp 77 _) (cells_one (one_is rfl)) (onC (one_is rfl) onN) sz30 rfl (ble_dyn (lnA (lnC ln0)) (by have := (and7 a4_1); omega)) (stA (and7 a4_1))) (sS (sA (sT1 rfl) (sT1 rfl)) (sB1 rfl) sF0) ?_
                  refine AL_imp (imp_close (k := 3) (r := 1003) ((ar U64 8 (upd b3_0 ((a4_1 &&& (7#8)).toNat) y4) ++ [])) ([]) rfl (by first | rfl | simp) rfl rfl rfl rfl) ?_
                  refine AL_nil ?_
                  refine blN ?_
                  obtain rfl := Option.some.inj hr
                  exact ⟨res0 rfl , (sub_keep (sub_drop (sub_drop (sub_drop sub_nil))))⟩
                · have hr := hr.trans (cond_f h)
                  clear h
                  refine AW_cut (σ := Bool) (fun v => ⟨[(0, .inl (tabp a0)), (2, .inl (is (U8 a2))), (3, .inr (.inl (3, 0))), (6, .inr (.inl (6, 0))), (9, .inr (.inl (9, 0))), (10, .inr (.inl (3, (a4_1 &&& (7#8)).toNat))), (11, .inl (is (U64 x1))), (12, .inl (is (U64 x2))), (13, .inl (is (Bl x3))), (42, .inl (is (U8 a4_0))), (79, .inl (is (Bl v)))], [(3, gc 90 (ar U64 8 b3_0 ++ []) ([]) (k1 Sv) 1 b3_1), (6, pb 23 [is (U8 a1_0), is (U8 a1_1)]), (9, pb 96 [is (U8 a4_0), is (U8 a4_1), is (U8 a4_2), is (U8 a4_3), is (U64 a4_4), is (Sv a4_5)])]⟩) (fun v => some r = F243_6 N a0 a1_0 a1_1 a2 b3_0 b3_1 a4_0 a4_1 a4_2 a4_3 a4_4 a4_5 x1 x2 x3 v) ?_ ?_
                  · skip
                    refine AW_region ?_
                    refine AL_cons (LR_bin (at_tmp 42 _) (at_c (v' := U8 (32#8)) rfl) (eql_U8 a4_0 (32#8)) rfl) (sS (sA (sT1 rfl) sT0) sB0 sF0) ?_
                    refine AL_cons (LR_assign (at_tmp 80 _) rfl) (sS (sT1 rfl) sB0 sF0) ?_
                    refine AL_nil ?_
                    exact thenN (cutLeaf (v := a4_0 == (32#8)) hr (weakB ((sT rfl (sT rfl (sT rfl (sT rfl (sT rfl (sT rfl (sT rfl (sT rfl (sT rfl (sT rfl (sT rfl sT0)))))))))))) (sub_keep (sub_keep (sub_keep sub_nil))) rfl))
                  · rintro x7 hr
                    show AW Hfaa.prog _ _ _ ⟨[(0, .inl (tabp a0)), (2, .inl (is (U8 a2))), (3, .inr (.inl (3, 0))), (6, .inr (.inl (6, 0))), (9, .inr (.inl (9, 0))), (10, .inr (.inl (3, (a4_1 &&& (7#8)).toNat))), (11, .inl (is (U64 x1))), (12, .inl (is (U64 x2))), (13, .inl (is (Bl x3))), (42, .inl (is (U8 a4_0))), (79, .inl (is (Bl x7)))], [(3, gc 90 (ar U64 8 b3_0 ++ []) ([]) (k1 Sv) 1 b3_1), (6, pb 23 [is (U8 a1_0), is (U8 a1_1)]), (9, pb 96 [is (U8 a4_0), is (U8 a4_1), is (U8 a4_2), is (U8 a4_3), is (U64 a4_4), is (Sv a4_5)])]⟩
                    have hr : some r = F243_6 N a0 a1_0 a1_1 a2 b3_0 b3_1 a4_0 a4_1 a4_2 a4_3 a4_4 a4_5 x1 x2 x3 x7 := hr
                    refine AW_condT (b := x7) rfl (fun h => ?_) (fun h => ?_)
                    · have hr := hr.trans (cond_t h)
                      clear h
                      refine AW_cut (σ := BitVec 64) (fun v => ⟨[(3, .inr (.inl (3, 0))), (11, .inl (is (U64 v)))], [(3, gc 90 (ar U64 8 b3_0 ++ []) ([]) (k1 Sv) 1 b3_1)]⟩) (fun v => some r = F243_7 N b3_0 b3_1 v) ?_ ?_
                      · skip
                        refine AW_cut (σ := Bool) (fun v => ⟨[(3, .inr (.inl (3, 0))), (11, .inl (is (U64 x1))), (82, .inl (is (Bl v)))], [(3, gc 90 (ar U64 8 b3_0 ++ []) ([]) (k1 Sv) 1 b3_1)]⟩) (fun v => some r = F243_8 N b3_0 b3_1 x1 v) ?_ ?_
                        · skip
                          refine AW_region ?_
                          refine AL_cons (LR_move (at_tmp 13 _) rfl) (sS (sT1 rfl) sB0 sF0) ?_
                          refine AL_cons (LR_un (at_tmp 81 _) (not_Bl x3) rfl) (sS (sT1 rfl) sB0 sF0) ?_
                          refine AL_nil ?_
                          exact thenN (cutLeaf (v := !x3) hr (weakB ((sT rfl (sT rfl (sT rfl sT0)))) (sub_keep (sub_drop (sub_drop sub_nil))) rfl))
                        · rintro x9 hr
                          show AW Hfaa.prog _ _ _ ⟨[(3, .inr (.inl (3, 0))), (11, .inl (is (U64 x1))), (82, .inl (is (Bl x9)))], [(3, gc 90 (ar U64 8 b3_0 ++ []) ([]) (k1 Sv) 1 b3_1)]⟩
                          have hr : some r = F243_8 N b3_0 b3_1 x1 x9 := hr
                          refine AW_condT (b := x9) rfl (fun h => ?_) (fun h => ?_)
                          · have hr := hr.trans (cond_t h)
                            clear h
                            refine AW_region ?_
                            refine AL_cons (LR_move (at_tmp 11 _) rfl) (sS (sT1 rfl) sB0 sF0) ?_
                            refine AL_cons (LR_conv (vx := U64 x1) (at_tmp 83 _) (conv_U32 Hfaa.underlying30 Hfaa.underlying65 (x1.toNat : Int)) rfl) (sS (sT1 rfl) sB0 sF0) ?_
                            obtain ⟨y8, hy8, hr⟩ := bind_some hr
                            refine AL_cons (LR_call Hfaa.func346 rfl rfl (C346 N (BitVec.ofInt 32 (x1.toNat : Int)) y8 hy8) (all_cons (at_tmp 84 _) all_nil) rfl) (sS (sA (sT1 rfl) sT0) sB0 sF0) ?_
                            refine AL_cons (LR_assign (at_tmp 85 _) rfl) (sS (sT1 rfl) sB0 sF0) ?_
                            refine AL_nil ?_
                            exact thenN (cutLeaf (v := y8) hr (weakB ((sT rfl (sT rfl sT0))) (sub_keep sub_nil) rfl))
                          · have hr := hr.trans (cond_f h)
                            clear h
                            refine AW_skip ?_
                            exact thenN (cutLeaf (v := x1) hr (weakB ((sT rfl (sT rfl sT0))) (sub_keep sub_nil) rfl))
                      · rintro x8 hr
                        show AW Hfaa.prog _ _ _ ⟨[(3, .inr (.inl (3, 0))), (11, .inl (is (U64 x8)))], [(3, gc 90 (ar U64 8 b3_0 ++ []) ([]) (k1 Sv) 1 b3_1)]⟩
                        have hr : some r = F243_7 N b3_0 b3_1 x8 := hr
                        refine AW_opn 3 1004 (fun sv => (ar U64 8 b3_0 ++ (is ( sv) :: []))) rfl rfl (fun _ => by first | rfl | simp) ?_
                        intro sv4 hsv4
                        obtain ⟨y6, hy6, hr⟩ := bind_some hr
                        obtain ⟨y7, hy7, hr⟩ := bind_some hr
                        obtain ⟨hg1, hr⟩ := guard_some hr
                        refine AW_post ?_
                        refine AW_drawV 11 1004 mixed (fun sv5 => [(⟨[(86, .inr (.inl (3, 0)))], [], []⟩, ⟨[(98, .inr (.inl (3, 0)))], []⟩), (⟨[(98, .inr (.inl (3, 0)))], [], []⟩, ⟨[(99, .inr (.inl (3, 8)))], []⟩), (⟨[(99, .inr (.inl (3, 8))), (97, .inl (is ( sv5)))], [(3, pb 90 (ar U64 8 b3_0 ++ (is ( sv4) :: [])))], []⟩, ⟨[], [(3, pb 90 (ar U64 8 b3_0 ++ (is ( sv5) :: [])))]⟩)])
                          (lrC (LR_move (at_tmp 3 _) rfl)
                          (lrC (LR_move (at_tmp 3 _) rfl)
                          (lrC (LR_nilCheck (at_tmp 87 _) rfl)
                          (lrC (LR_fieldAddr (off := 0) (o := 8) (at_tmp 88 _) (fun b w => fa90_1 b 0 w) rfl)
                          (lrC (LR_load (at_tmp 89 _) na57 (gP g0) rfl)
                          (lrC (LR_move (at_tmp 11 _) rfl)
                          (lrC (LR_call Hfaa.func353 rfl rfl (C353 N x8 y6 hy6) (all_cons (at_tmp 91 _) all_nil) rfl)
                          (lrC (LR_extract (at_tmp 92 _) rfl rfl)
                          (lrC (LR_extract (at_tmp 92 _) rfl rfl)
                          (lrC (LR_call Hfaa.func345 rfl rfl (C345 N y6.1 y6.2 y7 hy7) (all_cons (at_tmp 93 _) (all_cons (at_tmp 94 _) all_nil)) rfl)
                          (lrC (LR_bs1 Hfaa.underlying57 el9 (fun _ => rfl) (at_tmp 95 _) rfl)
                          lrN)))))))))))
                          rfl
                          (app_opk (K := (k1 Sv)) (r := 1004) (z := b3_1) (u := y7) Hfaa.underlying57 eN9 k1_len (k1_cell fun _ => rfl) (at_tmp 90 _) (at_tmp 96 _) (oneAt_k1 rfl) (of_decide_eq_true hg1) rfl rfl)
                          (fun sv5 hsv5 => (lrC (LR_nilCheck (at_tmp 86 _) rfl)
                          (lrC (LR_fieldAddr (off := 0) (o := 8) (at_tmp 98 _) (fun b w => fa90_1 b 0 w) rfl)
                          (lrC (LR_storeA (at_tmp 99 _) (at_tmp 97 _) (cells_one (one_is hsv5)) (onC (one_is hsv5) onN) sz57 rfl (bleLen (lnA (lnC ln0)) rfl) (stP st0))
                          lrN))))
                          (fun sv5 hsv5 => by kernel_rfl)
                          (fun sv5 hsv5 => (saC (sS (sT1 rfl) sB0 sF0) (saC (sS (sT1 rfl) sB0 sF0) (saC (sS (sT1 rfl) sB0 sF0) (saC (sS (sT1 rfl) sB0 sF0) (saC (sS (sT1 rfl) (sB1 rfl) sF0) (saC (sS (sT1 rfl) sB0 sF0) (saC (sS (sA (sT1 rfl) sT0) sB0 sF0) (saC (sS (sT1 rfl) sB0 sF0) (saC (sS (sT1 rfl) sB0 sF0) (saC (sS (sA (sT1 rfl) (sA (sT1 rfl) sT0)) sB0 sF0) (saC (sS (sT1 rfl) sB0 sF0) (saC (sS (sA (sT1 rfl) (sT1 rfl)) (sB1 rfl) sF0) (saC (sS (sT1 rfl) sB0 sF0) (saC (sS (sT1 rfl) sB0 sF0) (saC (sS (sA (sT1 rfl) (sT1 rfl)) (sB1 rfl) sF0) saN))))))))))))))))
                          (by kernel_rfl) rfl (fun sv5 hsv5 => by kernel_rfl) ?_
                        intro sv5 hsv5
                        refine ⟨_, (imp_close (k := 3) (r := 1004) (ar U64 8 b3_0 ++ []) ([]) rfl (by first | rfl | simp) rfl rfl rfl rfl), ?_⟩
                        refine blN ?_
                        obtain rfl := Option.some.inj hr
                        exact ⟨res0 rfl , (sub_keep (sub_drop sub_nil))⟩
                    · have hr := hr.trans (cond_f h)
                      clear h
                      refine AW_cut (σ := Bool) (fun v => ⟨[(0, .inl (tabp a0)), (2, .inl (is (U8 a2))), (3, .inr (.inl (3, 0))), (6, .inr (.inl (6, 0))), (9, .inr (.inl (9, 0))), (10, .inr (.inl (3, (a4_1 &&& (7#8)).toNat))), (11, .inl (is (U64 x1))), (12, .inl (is (U64 x2))), (13, .inl (is (Bl x3))), (42, .inl (is (U8 a4_0))), (100, .inl (is (Bl v)))], [(3, gc 90 (ar U64 8 b3_0 ++ []) ([]) (k1 Sv) 1 b3_1), (6, pb 23 [is (U8 a1_0), is (U8 a1_1)]), (9, pb 96 [is (U8 a4_0), is (U8 a4_1), is (U8 a4_2), is (U8 a4_3), is (U64 a4_4), is (Sv a4_5)])]⟩) (fun v => some r = F243_9 N a0 a1_0 a1_1 a2 b3_0 b3_1 a4_0 a4_1 a4_2 a4_3 a4_4 a4_5 x1 x2 x3 v) ?_ ?_
                      · skip
                        refine AW_cut (σ := Bool) (fun v => ⟨[(0, .inl (tabp a0)), (2, .inl (is (U8 a2))), (3, .inr (.inl (3, 0))), (6, .inr (.inl (6, 0))), (9, .inr (.inl (9, 0))), (10, .inr (.inl (3, (a4_1 &&& (7#8)).toNat))), (11, .inl (is (U64 x1))), (12, .inl (is (U64 x2))), (13, .inl (is (Bl x3))), (42, .inl (is (U8 a4_0))), (100, .inl (is (Bl v)))], [(3, gc 90 (ar U64 8 b3_0 ++ []) ([]) (k1 Sv) 1 b3_1), (6, pb 23 [is (U8 a1_0), is (U8 a1_1)]), (9, pb 96 [is (U8 a4_0), is (U8 a4_1), is (U8 a4_2), is (U8 a4_3), is (U64 a4_4), is (Sv a4_5)])]⟩) (fun v => some r = F243_20 N a0 a1_0 a1_1 a2 b3_0 b3_1 a4_0 a4_1 a4_2 a4_3 a4_4 a4_5 x1 x2 x3 v) ?_ ?_
                        · skip
                          refine AW_region ?_
                          refine AL_cons (LR_bin (at_tmp 42 _) (at_c (v' := U8 (18#8)) rfl) (eql_U8 a4_0 (18#8)) rfl) (sS (sA (sT1 rfl) sT0) sB0 sF0) ?_
                          refine AL_cons (LR_assign (at_tmp 101 _) rfl) (sS (sT1 rfl) sB0 sF0) ?_
                          refine AL_nil ?_
                          exact thenN (cutLeaf (v := a4_0 == (18#8)) hr (weakB ((sT rfl (sT rfl (sT rfl (sT rfl (sT rfl (sT rfl (sT rfl (sT rfl (sT rfl (sT rfl (sT rfl sT0)))))))))))) (sub_keep (sub_keep (sub_keep sub_nil))) rfl))
                        · rintro x26 hr
                          show AW Hfaa.prog _ _ _ ⟨[(0, .inl (tabp a0)), (2, .inl (is (U8 a2))), (3, .inr (.inl (3, 0))), (6, .inr (.inl (6, 0))), (9, .inr (.inl (9, 0))), (10, .inr (.inl (3, (a4_1 &&& (7#8)).toNat))), (11, .inl (is (U64 x1))), (12, .inl (is (U64 x2))), (13, .inl (is (Bl x3))), (42, .inl (is (U8 a4_0))), (100, .inl (is (Bl x26)))], [(3, gc 90 (ar U64 8 b3_0 ++ []) ([]) (k1 Sv) 1 b3_1), (6, pb 23 [is (U8 a1_0), is (U8 a1_1)]), (9, pb 96 [is (U8 a4_0), is (U8 a4_1), is (U8 a4_2), is (U8 a4_3), is (U64 a4_4), is (Sv a4_5)])]⟩
                          have hr : some r = F243_20 N a0 a1_0 a1_1 a2 b3_0 b3_1 a4_0 a4_1 a4_2 a4_3 a4_4 a4_5 x1 x2 x3 x26 := hr
                          refine AW_condT (b := x26) rfl (fun h => ?_) (fun h => ?_)
                          · have hr := hr.trans (cond_t h)
                            clear h
                            refine AW_skip ?_
                            exact thenN (cutLeaf (v := x26) hr (weakB ((sT rfl (sT rfl (sT rfl (sT rfl (sT rfl (sT rfl (sT rfl (sT rfl (sT rfl (sT rfl (sT rfl sT0)))))))))))) (sub_keep (sub_keep (sub_keep sub_nil))) rfl))
                          · have hr := hr.trans (cond_f h)
                            clear h
                            refine AW_region ?_
                            refine AL_cons (LR_bin (at_tmp 42 _) (at_c (v' := U8 (19#8)) rfl) (eql_U8 a4_0 (19#8)) rfl) (sS (sA (sT1 rfl) sT0) sB0 sF0) ?_
                            refine AL_cons (LR_assign (at_tmp 102 _) rfl) (sS (sT1 rfl) sB0 sF0) ?_
                            refine AL_nil ?_
                            exact thenN (cutLeaf (v := a4_0 == (19#8)) hr (weakB ((sT rfl (sT rfl (sT rfl (sT rfl (sT rfl (sT rfl (sT rfl (sT rfl (sT rfl (sT rfl (sT rfl sT0)))))))))))) (sub_keep (sub_keep (sub_keep sub_nil))) rfl))
                      · rintro x10 hr
                        show AW Hfaa.prog _ _ _ ⟨[(0, .inl (tabp a0)), (2, .inl (is (U8 a2))), (3, .inr (.inl (3, 0))), (6, .inr (.inl (6, 0))), (9, .inr (.inl (9, 0))), (10, .inr (.inl (3, (a4_1 &&& (7#8)).toNat))), (11, .inl (is (U64 x1))), (12, .inl (is (U64 x2))), (13, .inl (is (Bl x3))), (42, .inl (is (U8 a4_0))), (100, .inl (is (Bl x10)))], [(3, gc 90 (ar U64 8 b3_0 ++ []) ([]) (k1 Sv) 1 b3_1), (6, pb 23 [is (U8 a1_0), is (U8 a1_1)]), (9, pb 96 [is (U8 a4_0), is (U8 a4_1), is (U8 a4_2), is (U8 a4_3), is (U64 a4_4), is (Sv a4_5)])]⟩
                        have hr : some r = F243_9 N a0 a1_0 a1_1 a2 b3_0 b3_1 a4_0 a4_1 a4_2 a4_3 a4_4 a4_5 x1 x2 x3 x10 := hr
                        refine AW_condT (b := x10) rfl (fun h => ?_) (fun h => ?_)
                        · have hr := hr.trans (cond_t h)
                          clear h
                          refine AW_region ?_
                          refine AL_cons (LR_move (at_tmp 10 _) rfl) (sS (sT1 rfl) sB0 sF0) ?_
                          refine AL_cons (LR_move (at_tmp 13 _) rfl) (sS (sT1 rfl) sB0 sF0) ?_
                          refine AL_cons (LR_fieldAddr (off := 0) (o := 0) (at_tmp 9 _) (fun b w => fa96_0 b 0 w) rfl) (sS (sT1 rfl) sB0 sF0) ?_
                          refine AL_cons (LR_load (at_tmp 105 _) na5 rfl rfl) (sS (sT1 rfl) (sB1 rfl) sF0) ?_
                          refine AL_cons (LR_bin (at_tmp 106 _) (at_c (v' := U8 (19#8)) rfl) (eql_U8 a4_0 (19#8)) rfl) (sS (sA (sT1 rfl) sT0) sB0 sF0) ?_
                          refine AL_cons (LR_move (at_tmp 11 _) rfl) (sS (sT1 rfl) sB0 sF0) ?_
                          refine AL_cons (LR_move (at_tmp 12 _) rfl) (sS (sT1 rfl) sB0 sF0) ?_
                          obtain ⟨y9, hy9, hr⟩ := bind_some hr
                          refine AL_cons (LR_call Hfaa.func354 rfl rfl (C354 N x3 (a4_0 == (19#8)) x1 x2 y9 hy9) (all_cons (at_tmp 104 _) (all_cons (at_tmp 107 _) (all_cons (at_tmp 108 _) (all_cons (at_tmp 109 _) all_nil)))) rfl) (sS (sA (sT1 rfl) (sA (sT1 rfl) (sA (sT1 rfl) (sA (sT1 rfl) sT0)))) sB0 sF0) ?_
                          refine AL_cons (LR_nilCheck (at_tmp 103 _) rfl) (sS (sT1 rfl) sB0 sF0) ?_
                          refine AL_opn 3 1005 (fun sv => (ar U64 8 b3_0 ++ (is ( sv) :: []))) rfl rfl (fun _ => by first | rfl | simp) ?_
                          intro sv6 hsv6
                          refine AL_cons (LR_storeA (at_tmp 111 _) (at_tmp 110 _) (cells_one (one_is rfl)) (onC (one_is rfl) onN) sz30 rfl (ble_dyn (lnA (lnC ln0)) (by have := (and7 a4_1); omega)) (stA (and7 a4_1))) (sS (sA (sT1 rfl) (sT1 rfl)) (sB1 rfl) sF0) ?_
                          refine AL_imp (imp_close (k := 3) (r := 1005) ((ar U64 8 (upd b3_0 ((a4_1 &&& (7#8)).toNat) y9) ++ [])) ([]) rfl (by first | rfl | simp) rfl rfl rfl rfl) ?_
                          refine AL_nil ?_
                          refine blN ?_
                          obtain rfl := Option.some.inj hr
                          exact ⟨res0 rfl , (sub_keep (sub_drop (sub_drop (sub_drop sub_nil))))⟩
                        · have hr := hr.trans (cond_f h)
                          clear h
                          refine AW_cut (σ := Bool) (fun v => ⟨[(0, .inl (tabp a0)), (2, .inl (is (U8 a2))), (3, .inr (.inl (3, 0))), (6, .inr (.inl (6, 0))), (9, .inr (.inl (9, 0))), (10, .inr (.inl (3, (a4_1 &&& (7#8)).toNat))), (11, .inl (is (U64 x1))), (13, .inl (is (Bl x3))), (42, .inl (is (U8 a4_0))), (112, .inl (is (Bl v)))], [(3, gc 90 (ar U64 8 b3_0 ++ []) ([]) (k1 Sv) 1 b3_1), (6, pb 23 [is (U8 a1_0), is (U8 a1_1)]), (9, pb 96 [is (U8 a4_0), is (U8 a4_1), is (U8 a4_2), is (U8 a4_3), is (U64 a4_4), is (Sv a4_5)])]⟩) (fun v => some r = F243_10 N a0 a1_0 a1_1 a2 b3_0 b3_1 a4_0 a4_1 a4_2 a4_3 a4_4 a4_5 x1 x3 v) ?_ ?_
                          · skip
                            refine AW_cut (σ := Bool) (fun v => ⟨[(0, .inl (tabp a0)), (2, .inl (is (U8 a2))), (3, .inr (.inl (3, 0))), (6, .inr (.inl (6, 0))), (9, .inr (.inl (9, 0))), (10, .inr (.inl (3, (a4_1 &&& (7#8)).toNat))), (11, .inl (is (U64 x1))), (13, .inl (is (Bl x3))), (42, .inl (is (U8 a4_0))), (112, .inl (is (Bl v)))], [(3, gc 90 (ar U64 8 b3_0 ++ []) ([]) (k1 Sv) 1 b3_1), (6, pb 23 [is (U8 a1_0), is (U8 a1_1)]), (9, pb 96 [is (U8 a4_0), is (U8 a4_1), is (U8 a4_2), is (U8 a4_3), is (U64 a4_4), is (Sv a4_5)])]⟩) (fun v => some r = F243_19 N a0 a1_0 a1_1 a2 b3_0 b3_1 a4_0 a4_1 a4_2 a4_3 a4_4 a4_5 x1 x3 v) ?_ ?_
                            · skip
                              refine AW_region ?_
                              refine AL_cons (LR_bin (at_tmp 42 _) (at_c (v' := U8 (20#8)) rfl) (eql_U8 a4_0 (20#8)) rfl) (sS (sA (sT1 rfl) sT0) sB0 sF0) ?_
                              refine AL_cons (LR_assign (at_tmp 113 _) rfl) (sS (sT1 rfl) sB0 sF0) ?_
                              refine AL_nil ?_
                              exact thenN (cutLeaf (v := a4_0 == (20#8)) hr (weakB ((sT rfl (sT rfl (sT rfl (sT rfl (sT rfl (sT rfl (sT rfl (sT rfl (sT rfl (sT rfl sT0))))))))))) (sub_keep (sub_keep (sub_keep sub_nil))) rfl))
                            · rintro x25 hr
                              show AW Hfaa.prog _ _ _ ⟨[(0, .inl (tabp a0)), (2, .inl (is (U8 a2))), (3, .inr (.inl (3, 0))), (6, .inr (.inl (6, 0))), (9, .inr (.inl (9, 0))), (10, .inr (.inl (3, (a4_1 &&& (7#8)).toNat))), (11, .inl (is (U64 x1))), (13, .inl (is (Bl x3))), (42, .inl (is (U8 a4_0))), (112, .inl (is (Bl x25)))], [(3, gc 90 (ar U64 8 b3_0 ++ []) ([]) (k1 Sv) 1 b3_1), (6, pb 23 [is (U8 a1_0), is (U8 a1_1)]), (9, pb 96 [is (U8 a4_0), is (U8 a4_1), is (U8 a4_2), is (U8 a4_3), is (U64 a4_4), is (Sv a4_5)])]⟩
                              have hr : some r = F243_19 N a0 a1_0 a1_1 a2 b3_0 b3_1 a4_0 a4_1 a4_2 a4_3 a4_4 a4_5 x1 x3 x25 := hr
                              refine AW_condT (b := x25) rfl (fun h => ?_) (fun h => ?_)
                              · have hr := hr.trans (cond_t h)
                                clear h
                                refine AW_skip ?_
                                exact thenN (cutLeaf (v := x25) hr (weakB ((sT rfl (sT rfl (sT rfl (sT rfl (sT rfl (sT rfl (sT rfl (sT rfl (sT rfl (sT rfl sT0))))))))))) (sub_keep (sub_keep (sub_keep sub_nil))) rfl))
                              · have hr := hr.trans (cond_f h)
                                clear h
                                refine AW_region ?_
                                refine AL_cons (LR_bin (at_tmp 42 _) (at_c (v' := U8 (21#8)) rfl) (eql_U8 a4_0 (21#8)) rfl) (sS (sA (sT1 rfl) sT0) sB0 sF0) ?_
                                refine AL_cons (LR_assign (at_tmp 114 _) rfl) (sS (sT1 rfl) sB0 sF0) ?_
                                refine AL_nil ?_
                                exact thenN (cutLeaf (v := a4_0 == (21#8)) hr (weakB ((sT rfl (sT rfl (sT rfl (sT rfl (sT rfl (sT rfl (sT rfl (sT rfl (sT rfl (sT rfl sT0))))))))))) (sub_keep (sub_keep (sub_keep sub_nil))) rfl))
                          · rintro x11 hr
                            show AW Hfaa.prog _ _ _ ⟨[(0, .inl (tabp a0)), (2, .inl (is (U8 a2))), (3, .inr (.inl (3, 0))), (6, .inr (.inl (6, 0))), (9, .inr (.inl (9, 0))), (10, .inr (.inl (3, (a4_1 &&& (7#8)).toNat))), (11, .inl (is (U64 x1))), (13, .inl (is (Bl x3))), (42, .inl (is (U8 a4_0))), (112, .inl (is (Bl x11)))], [(3, gc 90 (ar U64 8 b3_0 ++ []) ([]) (k1 Sv) 1 b3_1), (6, pb 23 [is (U8 a1_0), is (U8 a1_1)]), (9, pb 96 [is (U8 a4_0), is (U8 a4_1), is (U8 a4_2), is (U8 a4_3), is (U64 a4_4), is (Sv a4_5)])]⟩
                            have hr : some r = F243_10 N a0 a1_0 a1_1 a2 b3_0 b3_1 a4_0 a4_1 a4_2 a4_3 a4_4 a4_5 x1 x3 x11 := hr
                            refine AW_condT (b := x11) rfl (fun h => ?_) (fun h => ?_)
                            · have hr := hr.trans (cond_t h)
                              clear h
                              refine AW_region ?_
                              refine AL_cons (LR_move (at_tmp 10 _) rfl) (sS (sT1 rfl) sB0 sF0) ?_
                              refine AL_cons (LR_move (at_tmp 13 _) rfl) (sS (sT1 rfl) sB0 sF0) ?_
                              refine AL_cons (LR_move (at_tmp 11 _) rfl) (sS (sT1 rfl) sB0 sF0) ?_
                              refine AL_cons (LR_loads (at_tmp 6 _) ag23 sz23 rfl rfl rfl) (sS (sT1 rfl) (sB1 rfl) sF0) ?_
                              refine AL_cons (LR_fieldAddr (off := 0) (o := 0) (at_tmp 9 _) (fun b w => fa96_0 b 0 w) rfl) (sS (sT1 rfl) sB0 sF0) ?_
                              refine AL_cons (LR_load (at_tmp 119 _) na5 rfl rfl) (sS (sT1 rfl) (sB1 rfl) sF0) ?_
                              refine AL_cons (LR_bin (at_tmp 120 _) (at_c (v' := U8 (21#8)) rfl) (eql_U8 a4_0 (21#8)) rfl) (sS (sA (sT1 rfl) sT0) sB0 sF0) ?_
                              obtain ⟨y10, hy10, hr⟩ := lt_some hr
                              refine AL_cons (LR_call Hfaa.func67 rfl rfl (C67 a1_0 a1_1 (a4_0 == (21#8)) y10 hy10) (all_cons (at_tmp 118 _) (all_cons (at_tmp 121 _) all_nil)) rfl) (sS (sA (sT1 rfl) (sA (sT1 rfl) sT0)) sB0 sF0) ?_
                              obtain ⟨y11, hy11, hr⟩ := bind_some hr
                              refine AL_cons (LR_call Hfaa.func355 rfl rfl (C355 N x3 x1 y10 y11 hy11) (all_cons (at_tmp 116 _) (all_cons (at_tmp 117 _) (all_cons (at_tmp 122 _) all_nil))) rfl) (sS (sA (sT1 rfl) (sA (sT1 rfl) (sA (sT1 rfl) sT0))) sB0 sF0) ?_
                              refine AL_cons (LR_nilCheck (at_tmp 115 _) rfl) (sS (sT1 rfl) sB0 sF0) ?_
                              refine AL_opn 3 1006 (fun sv => (ar U64 8 b3_0 ++ (is ( sv) :: []))) rfl rfl (fun _ => by first | rfl | simp) ?_
                              intro sv7 hsv7
                              refine AL_cons (LR_storeA (at_tmp 124 _) (at_tmp 123 _) (cells_one (one_is rfl)) (onC (one_is rfl) onN) sz30 rfl (ble_dyn (lnA (lnC ln0)) (by have := (and7 a4_1); omega)) (stA (and7 a4_1))) (sS (sA (sT1 rfl) (sT1 rfl)) (sB1 rfl) sF0) ?_
                              refine AL_imp (imp_close (k := 3) (r := 1006) ((ar U64 8 (upd b3_0 ((a4_1 &&& (7#8)).toNat) y11) ++ [])) ([]) rfl (by first | rfl | simp) rfl rfl rfl rfl) ?_
                              refine AL_nil ?_
                              refine blN ?_
                              obtain rfl := Option.some.inj hr
                              exact ⟨res0 rfl , (sub_keep (sub_drop (sub_drop (sub_drop sub_nil))))⟩
                            · have hr := hr.trans (cond_f h)
                              clear h
                              refine AW_cut (σ := Bool) (fun v => ⟨[(0, .inl (tabp a0)), (2, .inl (is (U8 a2))), (3, .inr (.inl (3, 0))), (6, .inr (.inl (6, 0))), (9, .inr (.inl (9, 0))), (10, .inr (.inl (3, (a4_1 &&& (7#8)).toNat))), (11, .inl (is (U64 x1))), (42, .inl (is (U8 a4_0))), (125, .inl (is (Bl v)))], [(3, gc 90 (ar U64 8 b3_0 ++ []) ([]) (k1 Sv) 1 b3_1), (6, pb 23 [is (U8 a1_0), is (U8 a1_1)]), (9, pb 96 [is (U8 a4_0), is (U8 a4_1), is (U8 a4_2), is (U8 a4_3), is (U64 a4_4), is (Sv a4_5)])]⟩) (fun v => some r = F243_11 N a0 a1_0 a1_1 a2 b3_0 b3_1 a4_0 a4_1 a4_2 a4_3 a4_4 a4_5 x1 v) ?_ ?_
                              · skip
                                refine AW_cut (σ := Bool) (fun v => ⟨[(0, .inl (tabp a0)), (2, .inl (is (U8 a2))), (3, .inr (.inl (3, 0))), (6, .inr (.inl (6, 0))), (9, .inr (.inl (9, 0))), (10, .inr (.inl (3, (a4_1 &&& (7#8)).toNat))), (11, .inl (is (U64 x1))), (42, .inl (is (U8 a4_0))), (125, .inl (is (Bl v)))], [(3, gc 90 (ar U64 8 b3_0 ++ []) ([]) (k1 Sv) 1 b3_1), (6, pb 23 [is (U8 a1_0), is (U8 a1_1)]), (9, pb 96 [is (U8 a4_0), is (U8 a4_1), is (U8 a4_2), is (U8 a4_3), is (U64 a4_4), is (Sv a4_5)])]⟩) (fun v => some r = F243_18 N a0 a1_0 a1_1 a2 b3_0 b3_1 a4_0 a4_1 a4_2 a4_3 a4_4 a4_5 x1 v) ?_ ?_
                                · skip
                                  refine AW_region ?_
                                  refine AL_cons (LR_bin (at_tmp 42 _) (at_c (v' := U8 (23#8)) rfl) (eql_U8 a4_0 (23#8)) rfl) (sS (sA (sT1 rfl) sT0) sB0 sF0) ?_
                                  refine AL_cons (LR_assign (at_tmp 126 _) rfl) (sS (sT1 rfl) sB0 sF0) ?_
                                  refine AL_nil ?_
                                  exact thenN (cutLeaf (v := a4_0 == (23#8)) hr (weakB ((sT rfl (sT rfl (sT rfl (sT rfl (sT rfl (sT rfl (sT rfl (sT rfl (sT rfl sT0)))))))))) (sub_keep (sub_keep (sub_keep sub_nil))) rfl))
                                · rintro x24 hr
                                  show AW Hfaa.prog _ _ _ ⟨[(0, .inl (tabp a0)), (2, .inl (is (U8 a2))), (3, .inr (.inl (3, 0))), (6, .inr (.inl (6, 0))), (9, .inr (.inl (9, 0))), (10, .inr (.inl (3, (a4_1 &&& (7#8)).toNat))), (11, .inl (is (U64 x1))), (42, .inl (is (U8 a4_0))), (125, .inl (is (Bl x24)))], [(3, gc 90 (ar U64 8 b3_0 ++ []) ([]) (k1 Sv) 1 b3_1), (6, pb 23 [is (U8 a1_0), is (U8 a1_1)]), (9, pb 96 [is (U8 a4_0), is (U8 a4_1), is (U8 a4_2), is (U8 a4_3), is (U64 a4_4), is (Sv a4_5)])]⟩
                                  have hr : some r = F243_18 N a0 a1_0 a1_1 a2 b3_0 b3_1 a4_0 a4_1 a4_2 a4_3 a4_4 a4_5 x1 x24 := hr
                                  refine AW_condT (b := x24) rfl (fun h => ?_) (fun h => ?_)
                                  · have hr := hr.trans (cond_t h)
                                    clear h
                                    refine AW_skip ?_
                                    exact thenN (cutLeaf (v := x24) hr (weakB ((sT rfl (sT rfl (sT rfl (sT rfl (sT rfl (sT rfl (sT rfl (sT rfl (sT rfl sT0)))))))))) (sub_keep (sub_keep (sub_keep sub_nil))) rfl))
                                  · have hr := hr.trans (cond_f h)
                                    clear h
                                    refine AW_region ?_
                                    refine AL_cons (LR_bin (at_tmp 42 _) (at_c (v' := U8 (24#8)) rfl) (eql_U8 a4_0 (24#8)) rfl) (sS (sA (sT1 rfl) sT0) sB0 sF0) ?_
                                    refine AL_cons (LR_assign (at_tmp 127 _) rfl) (sS (sT1 rfl) sB0 sF0) ?_
                                    refine AL_nil ?_
                                    exact thenN (cutLeaf (v := a4_0 == (24#8)) hr (weakB ((sT rfl (sT rfl (sT rfl (sT rfl (sT rfl (sT rfl (sT rfl (sT rfl (sT rfl sT0)))))))))) (sub_keep (sub_keep (sub_keep sub_nil))) rfl))
                              · rintro x12 hr
                                show AW Hfaa.prog _ _ _ ⟨[(0, .inl (tabp a0)), (2, .inl (is (U8 a2))), (3, .inr (.inl (3, 0))), (6, .inr (.inl (6, 0))), (9, .inr (.inl (9, 0))), (10, .inr (.inl (3, (a4_1 &&& (7#8)).toNat))), (11, .inl (is (U64 x1))), (42, .inl (is (U8 a4_0))), (125, .inl (is (Bl x12)))], [(3, gc 90 (ar U64 8 b3_0 ++ []) ([]) (k1 Sv) 1 b3_1), (6, pb 23 [is (U8 a1_0), is (U8 a1_1)]), (9, pb 96 [is (U8 a4_0), is (U8 a4_1), is (U8 a4_2), is (U8 a4_3), is (U64 a4_4), is (Sv a4_5)])]⟩
                                have hr : some r = F243_11 N a0 a1_0 a1_1 a2 b3_0 b3_1 a4_0 a4_1 a4_2 a4_3 a4_4 a4_5 x1 x12 := hr
                                refine AW_condT (b := x12) rfl (fun h => ?_) (fun h => ?_)
                                · have hr := hr.trans (cond_t h)
                                  clear h
                                  refine AW_opn 3 1007 (fun sv => (ar U64 8 b3_0 ++ (is ( sv) :: []))) rfl rfl (fun _ => by first | rfl | simp) ?_
                                  intro sv8 hsv8
                                  obtain ⟨y12, hy12, hr⟩ := bind_some hr
                                  obtain ⟨hg2, hr⟩ := guard_some hr
                                  refine AW_post ?_
                                  refine AW_drawV 10 1007 mixed (fun sv9 => [(⟨[(128, .inr (.inl (3, 0)))], [], []⟩, ⟨[(139, .inr (.inl (3, 0)))], []⟩), (⟨[(139, .inr (.inl (3, 0)))], [], []⟩, ⟨[(140, .inr (.inl (3, 8)))], []⟩), (⟨[(140, .inr (.inl (3, 8))), (138, .inl (is ( sv9)))], [(3, pb 90 (ar U64 8 b3_0 ++ (is ( sv8) :: [])))], []⟩, ⟨[], [(3, pb 90 (ar U64 8 b3_0 ++ (is ( sv9) :: [])))]⟩)])
                                    (lrC (LR_move (at_tmp 3 _) rfl)
                                    (lrC (LR_move (at_tmp 3 _) rfl)
                                    (lrC (LR_nilCheck (at_tmp 129 _) rfl)
                                    (lrC (LR_fieldAddr (off := 0) (o := 8) (at_tmp 130 _) (fun b w => fa90_1 b 0 w) rfl)
                                    (lrC (LR_load (at_tmp 131 _) na57 (gP g0) rfl)
                                    (lrC (LR_loads (at_tmp 6 _) ag23 sz23 rfl rfl rfl)
                                    (lrC (LR_move (at_tmp 11 _) rfl)
                                    (lrC (LR_loads (at_tmp 9 _) ag96 sz96 rfl rfl rfl)
                                    (lrC (LR_call Hfaa.func356 rfl rfl (C356 N a1_0 a1_1 x1 a4_0 a4_1 a4_2 a4_3 a4_4 a4_5 y12 hy12) (all_cons (at_tmp 133 _) (all_cons (at_tmp 134 _) (all_cons (at_tmp 135 _) all_nil))) rfl)
                                    (lrC (LR_bs1 Hfaa.underlying57 el9 (fun _ => rfl) (at_tmp 136 _) rfl)
                                    lrN))))))))))
                                    rfl
                                    (app_opk (K := (k1 Sv)) (r := 1007) (z := b3_1) (u := y12) Hfaa.underlying57 eN9 k1_len (k1_cell fun _ => rfl) (at_tmp 132 _) (at_tmp 137 _) (oneAt_k1 rfl) (of_decide_eq_true hg2) rfl rfl)
                                    (fun sv9 hsv9 => (lrC (LR_nilCheck (at_tmp 128 _) rfl)
                                    (lrC (LR_fieldAddr (off := 0) (o := 8) (at_tmp 139 _) (fun b w => fa90_1 b 0 w) rfl)
                                    (lrC (LR_storeA (at_tmp 140 _) (at_tmp 138 _) (cells_one (one_is hsv9)) (onC (one_is hsv9) onN) sz57 rfl (bleLen (lnA (lnC ln0)) rfl) (stP st0))
                                    lrN))))
                                    (fun sv9 hsv9 => by kernel_rfl)
                                    (fun sv9 hsv9 => (saC (sS (sT1 rfl) sB0 sF0) (saC (sS (sT1 rfl) sB0 sF0) (saC (sS (sT1 rfl) sB0 sF0) (saC (sS (sT1 rfl) sB0 sF0) (saC (sS (sT1 rfl) (sB1 rfl) sF0) (saC (sS (sT1 rfl) (sB1 rfl) sF0) (saC (sS (sT1 rfl) sB0 sF0) (saC (sS (sT1 rfl) (sB1 rfl) sF0) (saC (sS (sA (sT1 rfl) (sA (sT1 rfl) (sA (sT1 rfl) sT0))) sB0 sF0) (saC (sS (sT1 rfl) sB0 sF0) (saC (sS (sA (sT1 rfl) (sT1 rfl)) (sB1 rfl) sF0) (saC (sS (sT1 rfl) sB0 sF0) (saC (sS (sT1 rfl) sB0 sF0) (saC (sS (sA (sT1 rfl) (sT1 rfl)) (sB1 rfl) sF0) saN)))))))))))))))
                                    (by kernel_rfl) rfl (fun sv9 hsv9 => by kernel_rfl) ?_
                                  intro sv9 hsv9
                                  refine ⟨_, (imp_close (k := 3) (r := 1007) (ar U64 8 b3_0 ++ []) ([]) rfl (by first | rfl | simp) rfl rfl rfl rfl), ?_⟩
                                  refine blN ?_
                                  obtain rfl := Option.some.inj hr
                                  exact ⟨res0 rfl , (sub_keep (sub_drop (sub_drop (sub_drop sub_nil))))⟩
                                · have hr := hr.trans (cond_f h)
                                  clear h
                                  refine AW_cut (σ := Bool) (fun v => ⟨[(0, .inl (tabp a0)), (2, .inl (is (U8 a2))), (3, .inr (.inl (3, 0))), (6, .inr (.inl (6, 0))), (9, .inr (.inl (9, 0))), (10, .inr (.inl (3, (a4_1 &&& (7#8)).toNat))), (11, .inl (is (U64 x1))), (42, .inl (is (U8 a4_0))), (141, .inl (is (Bl v)))], [(3, gc 90 (ar U64 8 b3_0 ++ []) ([]) (k1 Sv) 1 b3_1), (6, pb 23 [is (U8 a1_0), is (U8 a1_1)]), (9, pb 96 [is (U8 a4_0), is (U8 a4_1), is (U8 a4_2), is (U8 a4_3), is (U64 a4_4), is (Sv a4_5)])]⟩) (fun v => some r = F243_12 N a0 a1_0 a1_1 a2 b3_0 b3_1 a4_0 a4_1 a4_2 a4_3 a4_4 a4_5 x1 v) ?_ ?_
                                  · skip
                                    refine AW_region ?_
                                    refine AL_cons (LR_bin (at_tmp 42 _) (at_c (v' := U8 (25#8)) rfl) (eql_U8 a4_0 (25#8)) rfl) (sS (sA (sT1 rfl) sT0) sB0 sF0) ?_
                                    refine AL_cons (LR_assign (at_tmp 142 _) rfl) (sS (sT1 rfl) sB0 sF0) ?_
                                    refine AL_nil ?_
                                    exact thenN (cutLeaf (v := a4_0 == (25#8)) hr (weakB ((sT rfl (sT rfl (sT rfl (sT rfl (sT rfl (sT rfl (sT rfl (sT rfl (sT rfl sT0)))))))))) (sub_keep (sub_keep (sub_keep sub_nil))) rfl))
                                  · rintro x13 hr
                                    show AW Hfaa.prog _ _ _ ⟨[(0, .inl (tabp a0)), (2, .inl (is (U8 a2))), (3, .inr (.inl (3, 0))), (6, .inr (.inl (6, 0))), (9, .inr (.inl (9, 0))), (10, .inr (.inl (3, (a4_1 &&& (7#8)).toNat))), (11, .inl (is (U64 x1))), (42, .inl (is (U8 a4_0))), (141, .inl (is (Bl x13)))], [(3, gc 90 (ar U64 8 b3_0 ++ []) ([]) (k1 Sv) 1 b3_1), (6, pb 23 [is (U8 a1_0), is (U8 a1_1)]), (9, pb 96 [is (U8 a4_0), is (U8 a4_1), is (U8 a4_2), is (U8 a4_3), is (U64 a4_4), is (Sv a4_5)])]⟩
                                    have hr : some r = F243_12 N a0 a1_0 a1_1 a2 b3_0 b3_1 a4_0 a4_1 a4_2 a4_3 a4_4 a4_5 x1 x13 := hr
                                    refine AW_condT (b := x13) rfl (fun h => ?_) (fun h => ?_)
                                    · have hr := hr.trans (cond_t h)
                                      clear h
                                      refine AW_opn 3 1008 (fun sv => (ar U64 8 b3_0 ++ (is ( sv) :: []))) rfl rfl (fun _ => by first | rfl | simp) ?_
                                      intro sv10 hsv10
                                      obtain ⟨y13, hy13, hr⟩ := bind_some hr
                                      obtain ⟨y14, hy14, hr⟩ := lt_some hr
                                      obtain ⟨hg3, hr⟩ := guard_some hr
                                      refine AW_post ?_
                                      refine AW_drawV 12 1008 mixed (fun sv11 => [(⟨[(143, .inr (.inl (3, 0)))], [], []⟩, ⟨[(156, .inr (.inl (3, 0)))], []⟩), (⟨[(156, .inr (.inl (3, 0)))], [], []⟩, ⟨[(157, .inr (.inl (3, 8)))], []⟩), (⟨[(157, .inr (.inl (3, 8))), (155, .inl (is ( sv11)))], [(3, pb 90 (ar U64 8 b3_0 ++ (is ( sv10) :: [])))], []⟩, ⟨[], [(3, pb 90 (ar U64 8 b3_0 ++ (is ( sv11) :: [])))]⟩)])
                                        (lrC (LR_move (at_tmp 3 _) rfl)
                                        (lrC (LR_move (at_tmp 3 _) rfl)
                                        (lrC (LR_nilCheck (at_tmp 144 _) rfl)
                                        (lrC (LR_fieldAddr (off := 0) (o := 8) (at_tmp 145 _) (fun b w => fa90_1 b 0 w) rfl)
                                        (lrC (LR_load (at_tmp 146 _) na57 (gP g0) rfl)
                                        (lrC (LR_loads (at_tmp 6 _) ag23 sz23 rfl rfl rfl)
                                        (lrC (LR_move (at_tmp 11 _) rfl)
                                        (lrC (LR_loads (at_tmp 6 _) ag23 sz23 rfl rfl rfl)
                                        (lrC (LR_move (at_tmp 11 _) rfl)
                                        (lrC (LR_call Hfaa.func106 rfl rfl (C106 N a1_0 a1_1 x1 y13 hy13) (all_cons (at_tmp 150 _) (all_cons (at_tmp 151 _) all_nil)) rfl)
                                        (lrC (LR_call Hfaa.func349 rfl rfl (C349 a1_0 a1_1 x1 y13 y14 hy14) (all_cons (at_tmp 148 _) (all_cons (at_tmp 149 _) (all_cons (at_tmp 152 _) all_nil))) rfl)
                                        (lrC (LR_bs1 Hfaa.underlying57 el9 (fun _ => rfl) (at_tmp 153 _) rfl)
                                        lrN))))))))))))
                                        rfl
                                        (app_opk (K := (k1 Sv)) (r := 1008) (z := b3_1) (u := y14) Hfaa.underlying57 eN9 k1_len (k1_cell fun _ => rfl) (at_tmp 147 _) (at_tmp 154 _) (oneAt_k1 rfl) (of_decide_eq_true hg3) rfl rfl)
                                        (fun sv11 hsv11 => (lrC (LR_nilCheck (at_tmp 143 _) rfl)
                                        (lrC (LR_fieldAddr (off := 0) (o := 8) (at_tmp 156 _) (fun b w => fa90_1 b 0 w) rfl)
                                        (lrC (LR_storeA (at_tmp 157 _) (at_tmp 155 _) (cells_one (one_is hsv11)) (onC (one_is hsv11) onN) sz57 rfl (bleLen (lnA (lnC ln0)) rfl) (stP st0))
                                        lrN))))
                                        (fun sv11 hsv11 => by kernel_rfl)
                                        (fun sv11 hsv11 => (saC (sS (sT1 rfl) sB0 sF0) (saC (sS (sT1 rfl) sB0 sF0) (saC (sS (sT1 rfl) sB0 sF0) (saC (sS (sT1 rfl) sB0 sF0) (saC (sS (sT1 rfl) (sB1 rfl) sF0) (saC (sS (sT1 rfl) (sB1 rfl) sF0) (saC (sS (sT1 rfl) sB0 sF0) (saC (sS (sT1 rfl) (sB1 rfl) sF0) (saC (sS (sT1 rfl) sB0 sF0) (saC (sS (sA (sT1 rfl) (sA (sT1 rfl) sT0)) sB0 sF0) (saC (sS (sA (sT1 rfl) (sA (sT1 rfl) (sA (sT1 rfl) sT0))) sB0 sF0) (saC (sS (sT1 rfl) sB0 sF0) (saC (sS (sA (sT1 rfl) (sT1 rfl)) (sB1 rfl) sF0) (saC (sS (sT1 rfl) sB0 sF0) (saC (sS (sT1 rfl) sB0 sF0) (saC (sS (sA (sT1 rfl) (sT1 rfl)) (sB1 rfl) sF0) saN)))))))))))))))))
                                        (by kernel_rfl) rfl (fun sv11 hsv11 => by kernel_rfl) ?_
                                      intro sv11 hsv11
                                      refine ⟨_, (imp_close (k := 3) (r := 1008) (ar U64 8 b3_0 ++ []) ([]) rfl (by first | rfl | simp) rfl rfl rfl rfl), ?_⟩
                                      refine blN ?_
                                      obtain rfl := Option.some.inj hr
                                      exact ⟨res0 rfl , (sub_keep (sub_drop (sub_drop (sub_drop sub_nil))))⟩
                                    · have hr := hr.trans (cond_f h)
                                      clear h
                                      refine AW_cut (σ := Bool) (fun v => ⟨[(0, .inl (tabp a0)), (2, .inl (is (U8 a2))), (3, .inr (.inl (3, 0))), (6, .inr (.inl (6, 0))), (9, .inr (.inl (9, 0))), (10, .inr (.inl (3, (a4_1 &&& (7#8)).toNat))), (42, .inl (is (U8 a4_0))), (158, .inl (is (Bl v)))], [(3, gc 90 (ar U64 8 b3_0 ++ []) ([]) (k1 Sv) 1 b3_1), (6, pb 23 [is (U8 a1_0), is (U8 a1_1)]), (9, pb 96 [is (U8 a4_0), is (U8 a4_1), is (U8 a4_2), is (U8 a4_3), is (U64 a4_4), is (Sv a4_5)])]⟩) (fun v => some r = F243_13 N a0 a1_0 a1_1 a2 b3_0 b3_1 a4_0 a4_1 a4_2 a4_3 a4_4 a4_5 v) ?_ ?_
                                      · skip
                                        refine AW_region ?_
                                        refine AL_cons (LR_bin (at_tmp 42 _) (at_c (v' := U8 (26#8)) rfl) (eql_U8 a4_0 (26#8)) rfl) (sS (sA (sT1 rfl) sT0) sB0 sF0) ?_
                                        refine AL_cons (LR_assign (at_tmp 159 _) rfl) (sS (sT1 rfl) sB0 sF0) ?_
                                        refine AL_nil ?_
                                        exact thenN (cutLeaf (v := a4_0 == (26#8)) hr (weakB ((sT rfl (sT rfl (sT rfl (sT rfl (sT rfl (sT rfl (sT rfl (sT rfl sT0))))))))) (sub_keep (sub_keep (sub_keep sub_nil))) rfl))
                                      · rintro x14 hr
                                        show AW Hfaa.prog _ _ _ ⟨[(0, .inl (tabp a0)), (2, .inl (is (U8 a2))), (3, .inr (.inl (3, 0))), (6, .inr (.inl (6, 0))), (9, .inr (.inl (9, 0))), (10, .inr (.inl (3, (a4_1 &&& (7#8)).toNat))), (42, .inl (is (U8 a4_0))), (158, .inl (is (Bl x14)))], [(3, gc 90 (ar U64 8 b3_0 ++ []) ([]) (k1 Sv) 1 b3_1), (6, pb 23 [is (U8 a1_0), is (U8 a1_1)]), (9, pb 96 [is (U8 a4_0), is (U8 a4_1), is (U8 a4_2), is (U8 a4_3), is (U64 a4_4), is (Sv a4_5)])]⟩
                                        have hr : some r = F243_13 N a0 a1_0 a1_1 a2 b3_0 b3_1 a4_0 a4_1 a4_2 a4_3 a4_4 a4_5 x14 := hr
                                        refine AW_condT (b := x14) rfl (fun h => ?_) (fun h => ?_)
                                        · have hr := hr.trans (cond_t h)
                                          clear h
                                          refine AW_cut (σ := BitVec 8 × Bool × List UInt8 × Int × Int × Int) (fun v => ⟨[(2, .inl (is (U8 a2))), (3, .inr (.inl (3, 0))), (6, .inr (.inl (6, 0))), (10, .inr (.inl (3, (a4_1 &&& (7#8)).toNat))), (14, .inr (.inl (14, 0)))], [(3, gc 90 (ar U64 8 b3_0 ++ []) ([]) (k1 Sv) 1 b3_1), (6, pb 23 [is (U8 a1_0), is (U8 a1_1)]), (14, pb 307 [is (U8 v.1), is (Bl v.2.1), is (Sv v.2.2.1), is (I16 v.2.2.2.1), is (I64 v.2.2.2.2.1), is (I32 v.2.2.2.2.2)])]⟩) (fun v => some r = F243_14 N a1_0 a1_1 a2 b3_0 b3_1 a4_1 v.1 v.2.1 v.2.2.1 v.2.2.2.1 v.2.2.2.2.1 v.2.2.2.2.2) ?_ ?_
                                          · skip
                                            refine AW_region ?_
                                            refine AL_cons (LR_fieldAddr (off := 0) (o := 5) (at_tmp 9 _) (fun b w => fa96_5 b 0 w) rfl) (sS (sT1 rfl) sB0 sF0) ?_
                                            refine AL_cons (LR_load (at_tmp 160 _) na9 rfl rfl) (sS (sT1 rfl) (sB1 rfl) sF0) ?_
                                            obtain ⟨y17, hy17, hr⟩ := bind_some hr
                                            refine AL_cons (LR_call Hfaa.func323 rfl rfl (C323 N a4_5 y17 hy17) (all_cons (at_tmp 161 _) all_nil) rfl) (sS (sA (sT1 rfl) sT0) sB0 sF0) ?_
                                            refine AL_cons (zl307 rfl) (sS sT0 sB0 (sF1 rfl)) ?_
                                            refine AL_cons (LR_store (at_tmp 14 _) (at_tmp 162 _) (cells_agg _) (onC (one_is rfl) (onC (one_is rfl) (onC (one_is rfl) (onC (one_is rfl) (onC (one_is rfl) (onC (one_is rfl) onN)))))) sz307 rfl rfl) (sS (sA (sT1 rfl) (sT1 rfl)) (sB1 rfl) sF0) ?_
                                            refine AL_nil ?_
                                            exact thenN (cutLeaf (v := (y17.1, y17.2.1, y17.2.2.1, y17.2.2.2.1, y17.2.2.2.2.1, y17.2.2.2.2.2)) hr (weakB ((sT rfl (sT rfl (sT rfl (sT rfl (sT rfl sT0)))))) (sub_keep (sub_keep (sub_drop (sub_keep sub_nil)))) rfl))
                                          · rintro ⟨x15, x16, x17, x18, x19, x20⟩ hr
                                            show AW Hfaa.prog _ _ _ ⟨[(2, .inl (is (U8 a2))), (3, .inr (.inl (3, 0))), (6, .inr (.inl (6, 0))), (10, .inr (.inl (3, (a4_1 &&& (7#8)).toNat))), (14, .inr (.inl (14, 0)))], [(3, gc 90 (ar U64 8 b3_0 ++ []) ([]) (k1 Sv) 1 b3_1), (6, pb 23 [is (U8 a1_0), is (U8 a1_1)]), (14, pb 307 [is (U8 x15), is (Bl x16), is (Sv x17), is (I16 x18), is (I64 x19), is (I32 x20)])]⟩
                                            have hr : some r = F243_14 N a1_0 a1_1 a2 b3_0 b3_1 a4_1 x15 x16 x17 x18 x19 x20 := hr
                                            refine AW_seq1 ?_
                                            refine AW_region ?_
                                            refine AL_cons (LR_fieldAddr (off := 0) (o := 0) (at_tmp 14 _) (fun b w => fa307_0 b 0 w) rfl) (sS (sT1 rfl) sB0 sF0) ?_
                                            refine AL_cons (LR_load (at_tmp 163 _) na295 rfl rfl) (sS (sT1 rfl) (sB1 rfl) sF0) ?_
                                            refine AL_nil ?_
                                            refine thenN ?_
                                            refine AW_block ?_
                                            refine AW_cut (σ := Bool) (fun v => ⟨[(2, .inl (is (U8 a2))), (3, .inr (.inl (3, 0))), (6, .inr (.inl (6, 0))), (10, .inr (.inl (3, (a4_1 &&& (7#8)).toNat))), (14, .inr (.inl (14, 0))), (164, .inl (is (U8 x15))), (174, .inl (is (Bl v)))], [(3, gc 90 (ar U64 8 b3_0 ++ []) ([]) (k1 Sv) 1 b3_1), (6, pb 23 [is (U8 a1_0), is (U8 a1_1)]), (14, pb 307 [is (U8 x15), is (Bl x16), is (Sv x17), is (I16 x18), is (I64 x19), is (I32 x20)])]⟩) (fun v => some r = F243_15 N a1_0 a1_1 a2 b3_0 b3_1 a4_1 x15 x16 x17 x18 x19 x20 v) ?_ ?_
                                            · skip
                                              refine AW_region ?_
                                              refine AL_cons (LR_bin (at_tmp 164 _) (at_c (v' := U8 (0#8)) rfl) (eql_U8 x15 (0#8)) rfl) (sS (sA (sT1 rfl) sT0) sB0 sF0) ?_
                                              refine AL_cons (LR_assign (at_tmp 175 _) rfl) (sS (sT1 rfl) sB0 sF0) ?_
                                              refine AL_nil ?_
                                              exact thenN (cutLeaf (v := x15 == (0#8)) hr (weakB ((sT rfl (sT rfl (sT rfl (sT rfl (sT rfl (sT rfl (sT rfl sT0)))))))) (sub_keep (sub_keep (sub_keep sub_nil))) rfl))
                                            · rintro x21 hr
                                              show AW Hfaa.prog _ _ _ ⟨[(2, .inl (is (U8 a2))), (3, .inr (.inl (3, 0))), (6, .inr (.inl (6, 0))), (10, .inr (.inl (3, (a4_1 &&& (7#8)).toNat))), (14, .inr (.inl (14, 0))), (164, .inl (is (U8 x15))), (174, .inl (is (Bl x21)))], [(3, gc 90 (ar U64 8 b3_0 ++ []) ([]) (k1 Sv) 1 b3_1), (6, pb 23 [is (U8 a1_0), is (U8 a1_1)]), (14, pb 307 [is (U8 x15), is (Bl x16), is (Sv x17), is (I16 x18), is (I64 x19), is (I32 x20)])]⟩
                                              have hr : some r = F243_15 N a1_0 a1_1 a2 b3_0 b3_1 a4_1 x15 x16 x17 x18 x19 x20 x21 := hr
                                              refine AW_condT (b := x21) rfl (fun h => ?_) (fun h => ?_)
                                              · have hr := hr.trans (cond_t h)
                                                clear h
                                                refine AW_region ?_
                                                refine AL_cons (LR_move (at_tmp 10 _) rfl) (sS (sT1 rfl) sB0 sF0) ?_
                                                refine AL_cons (LR_loads (at_tmp 6 _) ag23 sz23 rfl rfl rfl) (sS (sT1 rfl) (sB1 rfl) sF0) ?_
                                                refine AL_cons (LR_move (at_tmp 2 _) rfl) (sS (sT1 rfl) sB0 sF0) ?_
                                                refine AL_cons (LR_fieldAddr (off := 0) (o := 1) (at_tmp 14 _) (fun b w => fa307_1 b 0 w) rfl) (sS (sT1 rfl) sB0 sF0) ?_
                                                refine AL_cons (LR_loads (at_tmp 179 _) ag151 sz151 rfl rfl rfl) (sS (sT1 rfl) (sB1 rfl) sF0) ?_
                                                obtain ⟨y16, hy16, hr⟩ := bind_some hr
                                                refine AL_cons (LR_call Hfaa.func109 rfl rfl (C109 N a1_0 a1_1 a2 x16 x17 x18 y16 hy16) (all_cons (at_tmp 177 _) (all_cons (at_tmp 178 _) (all_cons (at_tmp 180 _) all_nil))) rfl) (sS (sA (sT1 rfl) (sA (sT1 rfl) (sA (sT1 rfl) sT0))) sB0 sF0) ?_
                                                refine AL_cons (LR_nilCheck (at_tmp 176 _) rfl) (sS (sT1 rfl) sB0 sF0) ?_
                                                refine AL_opn 3 1009 (fun sv => (ar U64 8 b3_0 ++ (is ( sv) :: []))) rfl rfl (fun _ => by first | rfl | simp) ?_
                                                intro sv12 hsv12
                                                refine AL_cons (LR_storeA (at_tmp 182 _) (at_tmp 181 _) (cells_one (one_is rfl)) (onC (one_is rfl) onN) sz30 rfl (ble_dyn (lnA (lnC ln0)) (by have := (and7 a4_1); omega)) (stA (and7 a4_1))) (sS (sA (sT1 rfl) (sT1 rfl)) (sB1 rfl) sF0) ?_
                                                refine AL_imp (imp_close (k := 3) (r := 1009) ((ar U64 8 (upd b3_0 ((a4_1 &&& (7#8)).toNat) y16) ++ [])) ([]) rfl (by first | rfl | simp) rfl rfl rfl rfl) ?_
                                                refine AL_nil ?_
                                                refine blN ?_
                                                refine blN ?_
                                                obtain rfl := Option.some.inj hr
                                                exact ⟨res0 rfl , (sub_keep (sub_drop (sub_drop (sub_drop sub_nil))))⟩
                                              · have hr := hr.trans (cond_f h)
                                                clear h
                                                refine AW_cut (σ := Bool) (fun v => ⟨[(3, .inr (.inl (3, 0))), (183, .inl (is (Bl v)))], [(3, gc 90 (ar U64 8 b3_0 ++ []) ([]) (k1 Sv) 1 b3_1)]⟩) (fun v => some r = F243_16 N b3_0 b3_1 v) ?_ ?_
                                                · skip
                                                  refine AW_region ?_
                                                  refine AL_cons (LR_bin (at_tmp 164 _) (at_c (v' := U8 (4#8)) rfl) (eql_U8 x15 (4#8)) rfl) (sS (sA (sT1 rfl) sT0) sB0 sF0) ?_
                                                  refine AL_cons (LR_assign (at_tmp 184 _) rfl) (sS (sT1 rfl) sB0 sF0) ?_
                                                  refine AL_nil ?_
                                                  exact thenN (cutLeaf (v := x15 == (4#8)) hr (weakB ((sT rfl (sT rfl sT0))) (sub_keep (sub_drop (sub_drop sub_nil))) rfl))
                                                · rintro x22 hr
                                                  show AW Hfaa.prog _ _ _ ⟨[(3, .inr (.inl (3, 0))), (183, .inl (is (Bl x22)))], [(3, gc 90 (ar U64 8 b3_0 ++ []) ([]) (k1 Sv) 1 b3_1)]⟩
                                                  have hr : some r = F243_16 N b3_0 b3_1 x22 := hr
                                                  refine AW_condT (b := x22) rfl (fun h => ?_) (fun h => ?_)
                                                  · have hr := hr.trans (cond_t h)
                                                    clear h
                                                    refine AW_region ?_
                                                    refine AL_cons (LR_move (at_tmp 3 _) rfl) (sS (sT1 rfl) sB0 sF0) ?_
                                                    refine AL_cons (LR_move (at_tmp 3 _) rfl) (sS (sT1 rfl) sB0 sF0) ?_
                                                    refine AL_cons (LR_nilCheck (at_tmp 186 _) rfl) (sS (sT1 rfl) sB0 sF0) ?_
                                                    refine AL_cons (LR_fieldAddr (off := 0) (o := 8) (at_tmp 187 _) (fun b w => fa90_1 b 0 w) rfl) (sS (sT1 rfl) sB0 sF0) ?_
                                                    refine AL_opn 3 1010 (fun sv => (ar U64 8 b3_0 ++ (is ( sv) :: []))) rfl rfl (fun _ => by first | rfl | simp) ?_
                                                    intro sv13 hsv13
                                                    refine AL_cons (LR_load (at_tmp 188 _) na57 (gP g0) rfl) (sS (sT1 rfl) (sB1 rfl) sF0) ?_
                                                    refine AL_cons (LR_bs1 Hfaa.underlying57 el9 (fun _ => rfl) (at_c (v' := Sv ([116, 111, 111, 32, 98, 105, 103] : List UInt8)) rfl) rfl) (sS sT0 sB0 sF0) ?_
                                                    obtain ⟨hg4, hr⟩ := guard_some hr
                                                    refine AL_consV (app_opk (K := (k1 Sv)) (r := 1010) (z := b3_1) (u := ([116, 111, 111, 32, 98, 105, 103] : List UInt8)) Hfaa.underlying57 eN9 k1_len (k1_cell fun _ => rfl) (at_tmp 189 _) (at_tmp 190 _) (oneAt_k1 rfl) (of_decide_eq_true hg4) rfl rfl) (sS (sA (sT1 rfl) (sT1 rfl)) (sB1 rfl) sF0) rfl ?_
                                                    intro sv14 hsv14
                                                    refine AL_cons (LR_nilCheck (at_tmp 185 _) rfl) (sS (sT1 rfl) sB0 sF0) ?_
                                                    refine AL_cons (LR_fieldAddr (off := 0) (o := 8) (at_tmp 192 _) (fun b w => fa90_1 b 0 w) rfl) (sS (sT1 rfl) sB0 sF0) ?_
                                                    refine AL_cons (LR_storeA (at_tmp 193 _) (at_tmp 191 _) (cells_one (one_is hsv14)) (onC (one_is hsv14) onN) sz57 rfl (bleLen (lnA (lnC ln0)) rfl) (stP st0)) (sS (sA (sT1 rfl) (sT1 rfl)) (sB1 rfl) sF0) ?_
                                                    refine AL_imp (imp_close (k := 3) (r := 1010) (ar U64 8 b3_0 ++ []) ([]) rfl (by first | rfl | simp) rfl rfl rfl rfl) ?_
                                                    refine AL_nil ?_
                                                    refine blN ?_
                                                    refine blN ?_
                                                    obtain rfl := Option.some.inj hr
                                                    exact ⟨res0 rfl , (sub_keep (sub_drop sub_nil))⟩
                                                  · have hr := hr.trans (cond_f h)
                                                    clear h
                                                    refine AW_region ?_
                                                    refine AL_cons (LR_move (at_tmp 3 _) rfl) (sS (sT1 rfl) sB0 sF0) ?_
                                                    refine AL_cons (LR_move (at_tmp 3 _) rfl) (sS (sT1 rfl) sB0 sF0) ?_
                                                    refine AL_cons (LR_nilCheck (at_tmp 166 _) rfl) (sS (sT1 rfl) sB0 sF0) ?_
                                                    refine AL_cons (LR_fieldAddr (off := 0) (o := 8) (at_tmp 167 _) (fun b w => fa90_1 b 0 w) rfl) (sS (sT1 rfl) sB0 sF0) ?_
                                                    refine AL_opn 3 1011 (fun sv => (ar U64 8 b3_0 ++ (is ( sv) :: []))) rfl rfl (fun _ => by first | rfl | simp) ?_
                                                    intro sv15 hsv15
                                                    refine AL_cons (LR_load (at_tmp 168 _) na57 (gP g0) rfl) (sS (sT1 rfl) (sB1 rfl) sF0) ?_
                                                    refine AL_cons (LR_bs1 Hfaa.underlying57 el9 (fun _ => rfl) (at_c (v' := Sv ([119, 114, 111, 110, 103] : List UInt8)) rfl) rfl) (sS sT0 sB0 sF0) ?_
                                                    obtain ⟨hg5, hr⟩ := guard_some hr
                                                    refine AL_consV (app_opk (K := (k1 Sv)) (r := 1011) (z := b3_1) (u := ([119, 114, 111, 110, 103] : List UInt8)) Hfaa.underlying57 eN9 k1_len (k1_cell fun _ => rfl) (at_tmp 169 _) (at_tmp 170 _) (oneAt_k1 rfl) (of_decide_eq_true hg5) rfl rfl) (sS (sA (sT1 rfl) (sT1 rfl)) (sB1 rfl) sF0) rfl ?_
                                                    intro sv16 hsv16
                                                    refine AL_cons (LR_nilCheck (at_tmp 165 _) rfl) (sS (sT1 rfl) sB0 sF0) ?_
                                                    refine AL_cons (LR_fieldAddr (off := 0) (o := 8) (at_tmp 172 _) (fun b w => fa90_1 b 0 w) rfl) (sS (sT1 rfl) sB0 sF0) ?_
                                                    refine AL_cons (LR_storeA (at_tmp 173 _) (at_tmp 171 _) (cells_one (one_is hsv16)) (onC (one_is hsv16) onN) sz57 rfl (bleLen (lnA (lnC ln0)) rfl) (stP st0)) (sS (sA (sT1 rfl) (sT1 rfl)) (sB1 rfl) sF0) ?_
                                                    refine AL_imp (imp_close (k := 3) (r := 1011) (ar U64 8 b3_0 ++ []) ([]) rfl (by first | rfl | simp) rfl rfl rfl rfl) ?_
                                                    refine AL_nil ?_
                                                    refine blN ?_
                                                    refine blN ?_
                                                    obtain rfl := Option.some.inj hr
                                                    exact ⟨res0 rfl , (sub_keep (sub_drop sub_nil))⟩
                                        · have hr := hr.trans (cond_f h)
                                          clear h
                                          refine AW_cut (σ := Bool) (fun v => ⟨[(0, .inl (tabp a0)), (2, .inl (is (U8 a2))), (3, .inr (.inl (3, 0))), (6, .inr (.inl (6, 0))), (9, .inr (.inl (9, 0))), (194, .inl (is (Bl v)))], [(3, gc 90 (ar U64 8 b3_0 ++ []) ([]) (k1 Sv) 1 b3_1), (6, pb 23 [is (U8 a1_0), is (U8 a1_1)]), (9, pb 96 [is (U8 a4_0), is (U8 a4_1), is (U8 a4_2), is (U8 a4_3), is (U64 a4_4), is (Sv a4_5)])]⟩) (fun v => some r = F243_17 N a0 a1_0 a1_1 a2 b3_0 b3_1 a4_0 a4_1 a4_2 a4_3 a4_4 a4_5 v) ?_ ?_
                                          · skip
                                            refine AW_region ?_
                                            refine AL_cons (LR_bin (at_tmp 42 _) (at_c (v' := U8 (27#8)) rfl) (eql_U8 a4_0 (27#8)) rfl) (sS (sA (sT1 rfl) sT0) sB0 sF0) ?_
                                            refine AL_cons (LR_assign (at_tmp 195 _) rfl) (sS (sT1 rfl) sB0 sF0) ?_
                                            refine AL_nil ?_
                                            exact thenN (cutLeaf (v := a4_0 == (27#8)) hr (weakB ((sT rfl (sT rfl (sT rfl (sT rfl (sT rfl (sT rfl sT0))))))) (sub_keep (sub_keep (sub_keep sub_nil))) rfl))
                                          · rintro x23 hr
                                            show AW Hfaa.prog _ _ _ ⟨[(0, .inl (tabp a0)), (2, .inl (is (U8 a2))), (3, .inr (.inl (3, 0))), (6, .inr (.inl (6, 0))), (9, .inr (.inl (9, 0))), (194, .inl (is (Bl x23)))], [(3, gc 90 (ar U64 8 b3_0 ++ []) ([]) (k1 Sv) 1 b3_1), (6, pb 23 [is (U8 a1_0), is (U8 a1_1)]), (9, pb 96 [is (U8 a4_0), is (U8 a4_1), is (U8 a4_2), is (U8 a4_3), is (U64 a4_4), is (Sv a4_5)])]⟩
                                            have hr : some r = F243_17 N a0 a1_0 a1_1 a2 b3_0 b3_1 a4_0 a4_1 a4_2 a4_3 a4_4 a4_5 x23 := hr
                                            refine AW_condT (b := x23) rfl (fun h => ?_) (fun h => ?_)
                                            · have hr := hr.trans (cond_t h)
                                              clear h
                                              refine AW_region ?_
                                              refine AL_cons (LR_move (at_tmp 0 _) rfl) (sS (sT1 rfl) sB0 sF0) ?_
                                              refine AL_cons (LR_loads (at_tmp 6 _) ag23 sz23 rfl rfl rfl) (sS (sT1 rfl) (sB1 rfl) sF0) ?_
                                              refine AL_cons (LR_move (at_tmp 2 _) rfl) (sS (sT1 rfl) sB0 sF0) ?_
                                              refine AL_cons (LR_move (at_tmp 3 _) rfl) (sS (sT1 rfl) sB0 sF0) ?_
                                              refine AL_cons (LR_loads (at_tmp 9 _) ag96 sz96 rfl rfl rfl) (sS (sT1 rfl) (sB1 rfl) sF0) ?_
                                              obtain ⟨y18, hy18, hr⟩ := bind_some hr
                                              refine AL_cons (LR_callB [(3, 3)] [(3, 3)] Hfaa.func357 rfl rfl (C357 N a0 a1_0 a1_1 a2 b3_0 b3_1 a4_0 a4_1 a4_2 a4_3 a4_4 a4_5 y18 hy18) (aTC (at_tmp 196 _) (aTC (at_tmp 197 _) (aTC (at_tmp 198 _) (aTC (at_tmp 199 _) (aTC (at_tmp 200 _) aT0))))) rfl rfl rfl rfl rfl) (sS (sA (sT1 rfl) (sA (sT1 rfl) (sA (sT1 rfl) (sA (sT1 rfl) (sA (sT1 rfl) sT0))))) (sB1 rfl) sF0) ?_
                                              refine AL_nil ?_
                                              refine blN ?_
                                              obtain rfl := Option.some.inj hr
                                              exact ⟨res0 rfl , (sub_keep (sub_drop (sub_drop sub_nil)))⟩
                                            · have hr := hr.trans (cond_f h)
                                              clear h
                                              refine AW_skip ?_
                                              refine blN ?_
                                              obtain rfl := Option.some.inj hr
                                              exact ⟨res0 rfl , (sub_keep (sub_drop (sub_drop sub_nil)))⟩
end Go.Proofs.YfwaawGreat
