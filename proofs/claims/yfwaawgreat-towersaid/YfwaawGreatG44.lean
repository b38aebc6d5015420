import Derived.Test.YfwaawGreatG1
import Derived.Test.YfwaawGreatG2
import Derived.Test.YfwaawGreatG13
import Derived.Test.YfwaawGreatG25
import Derived.Test.YfwaawGreatG26
import Derived.Test.YfwaawGreatG27
import Derived.Test.YfwaawGreatG28
import Derived.Test.YfwaawGreatG43
namespace Go.Proofs.YfwaawGreat
open Go.Aw
set_option linter.unusedVariables false
set_option maxRecDepth 100000
set_option maxHeartbeats 1000000
/-- calc/so.show -/
def F232 (N : Nat) (a0 : Tab) (a1_0 : BitVec 8) (a1_1 : BitVec 8) (a2 : BitVec 64) : Option (List UInt8) := (F94 N a0 a1_0 a1_1 a2).bind fun y4 => (F293 N y4.1 y4.2.1 y4.2.2).bind fun y5 => lt (F313 a1_0 a1_1 a2 y5) fun y6 => some y6
theorem C232 (N : Nat) (a0 : Tab) (a1_0 : BitVec 8) (a1_1 : BitVec 8) (a2 : BitVec 64) (r : List UInt8) (hr : some r = F232 N a0 a1_0 a1_1 a2) : Aw.Fn Hfaa.prog 232 [tabp a0, agg [is (U8 a1_0), is (U8 a1_1)], is (U64 a2)] (is (Sv r)) := by
  refine fn_intro Hfaa.func232 rfl rfl rfl ?_
  intro bn0 w0 H0
  refine AW_seq1 ?_
  refine AW_region ?_
  refine AL_cons (LR_box (at_tmp 1 _) (cells_agg _) rfl) (sS (sT1 rfl) sB0 (sF1 rfl)) ?_
  refine AL_cons (LR_assign (at_c (v' := Sv ([] : List UInt8)) rfl) rfl) (sS sT0 sB0 sF0) ?_
  refine AL_nil ?_
  refine thenN ?_
  refine AW_seq1 ?_
  obtain ⟨y4, hy4, hr⟩ := bind_some hr
  obtain ⟨y5, hy5, hr⟩ := bind_some hr
  obtain ⟨y6, hy6, hr⟩ := lt_some hr
  refine AW_draw mixed
    (lrC (LR_loads (at_tmp 4 _) ag23 sz23 rfl rfl rfl)
    (lrC (LR_move (at_tmp 2 _) rfl)
    (lrC (LR_move (at_tmp 0 _) rfl)
    (lrC (LR_loads (at_tmp 4 _) ag23 sz23 rfl rfl rfl)
    (lrC (LR_move (at_tmp 2 _) rfl)
    (lrC (LR_call Hfaa.func94 rfl rfl (C94 N a0 a1_0 a1_1 a2 y4 hy4) (all_cons (at_tmp 9 _) (all_cons (at_tmp 10 _) (all_cons (at_tmp 11 _) all_nil))) rfl)
    (lrC (LR_call Hfaa.func293 rfl rfl (C293 N y4.1 y4.2.1 y4.2.2 y5 hy5) (all_cons (at_tmp 12 _) all_nil) rfl)
    (lrC (LR_call Hfaa.func313 rfl rfl (C313 a1_0 a1_1 a2 y5 y6 hy6) (all_cons (at_tmp 7 _) (all_cons (at_tmp 8 _) (all_cons (at_tmp 13 _) all_nil))) rfl)
    (lrC (LR_assign (at_tmp 14 _) rfl)
    lrN)))))))))
    (by kernel_rfl)
    (saC (sS (sT1 rfl) (sB1 rfl) sF0) (saC (sS (sT1 rfl) sB0 sF0) (saC (sS (sT1 rfl) sB0 sF0) (saC (sS (sT1 rfl) (sB1 rfl) sF0) (saC (sS (sT1 rfl) sB0 sF0) (saC (sS (sA (sT1 rfl) (sA (sT1 rfl) (sA (sT1 rfl) sT0))) sB0 sF0) (saC (sS (sA (sT1 rfl) sT0) sB0 sF0) (saC (sS (sA (sT1 rfl) (sA (sT1 rfl) (sA (sT1 rfl) sT0))) sB0 sF0) (saC (sS (sT1 rfl) sB0 sF0) saN))))))))) ?_
  refine thenN ?_
  refine AW_ret ?_
  obtain rfl := Option.some.inj hr
  exact res1 rfl (rvT rfl)
/-- soft.FMAFlags -/
def F172_13 (N : Nat) (a0_0 : BitVec 8) (a0_1 : BitVec 8) (a1 : BitVec 8) (x14 : Bool) (x28 : BitVec 64) (x29 : Int) : Option (BitVec 64 × BitVec 8) := (F215 N a0_0 a0_1 a1 x14 x29 x28).bind fun y45 => some (y45.1, y45.2)
def F172_12 (N : Nat) (a0_0 : BitVec 8) (a0_1 : BitVec 8) (a1 : BitVec 8) (x10 : Bool) (x11 : Int) (x12 : Int) (x13 : BitVec 64) (x14 : Bool) (x24 : Int) (x25 : BitVec 64) (x26 : BitVec 64) (x27 : Bool) : Option (BitVec 64 × BitVec 8) := bif x27 then (F272 N x25 x26 x24).bind fun y46 => F172_13 N a0_0 a0_1 a1 x14 y46.1 y46.2 else lt (F274 a0_0 a0_1 x10 x11 x12 x13) fun y49 => (F273 N a0_0 a0_1 a1 x14 x24 x25 x26 y49.1 y49.2.1 y49.2.2.1 y49.2.2.2).bind fun y50 => some (y50.1, y50.2)
def F172_11 (N : Nat) (a0_0 : BitVec 8) (a0_1 : BitVec 8) (a1 : BitVec 8) (x10 : Bool) (x11 : Int) (x12 : Int) (x13 : BitVec 64) (x14 : Bool) (x24 : Int) (x25 : BitVec 64) (x26 : BitVec 64) : Option (BitVec 64 × BitVec 8) := F172_12 N a0_0 a0_1 a1 x10 x11 x12 x13 x14 x24 x25 x26 (x11 == 0)
def F172_10 (N : Nat) (a0_0 : BitVec 8) (a0_1 : BitVec 8) (a1 : BitVec 8) (x10 : Bool) (x11 : Int) (x12 : Int) (x13 : BitVec 64) (x14 : Bool) (x20 : BitVec 64) (x21 : Int) (x22 : BitVec 64) (x23 : Int) : Option (BitVec 64 × BitVec 8) := lt (F165 x20 x22) fun y51 => lt (F217 y51.1 y51.2 (1#8)) fun y52 => F172_11 N a0_0 a0_1 a1 x10 x11 x12 x13 x14 (w16 ((w16 (x21 + x23)) + 1)) y52.1 y52.2
def F172_9 (N : Nat) (a0_0 : BitVec 8) (a0_1 : BitVec 8) (a1 : BitVec 8) (x6 : Bool) (x7 : Int) (x8 : Int) (x9 : BitVec 64) (x10 : Bool) (x11 : Int) (x12 : Int) (x13 : BitVec 64) (x14 : Bool) (x20 : BitVec 64) (x21 : Int) : Option (BitVec 64 × BitVec 8) := lt (F260 a0_0 a0_1 x6 x7 x8 x9) fun y53 => F172_10 N a0_0 a0_1 a1 x10 x11 x12 x13 x14 x20 x21 y53.1 y53.2
def F172_8 (N : Nat) (a0_0 : BitVec 8) (a0_1 : BitVec 8) (a1 : BitVec 8) (x2 : Bool) (x3 : Int) (x4 : Int) (x5 : BitVec 64) (x6 : Bool) (x7 : Int) (x8 : Int) (x9 : BitVec 64) (x10 : Bool) (x11 : Int) (x12 : Int) (x13 : BitVec 64) (x14 : Bool) (x16 : Bool) (x19 : Bool) : Option (BitVec 64 × BitVec 8) := bif x19 then lt (F67 a0_0 a0_1 x10) fun y32 => some (y32, 0#8) else bif x16 then (F271 N a0_0 a0_1 a1 x14 0 0 (0#64) x10 x11 x12 x13).bind fun y34 => some (y34.1, y34.2) else lt (F260 a0_0 a0_1 x2 x3 x4 x5) fun y54 => F172_9 N a0_0 a0_1 a1 x6 x7 x8 x9 x10 x11 x12 x13 x14 y54.1 y54.2
def F172_7 (N : Nat) (a0_0 : BitVec 8) (a0_1 : BitVec 8) (a1 : BitVec 8) (x2 : Bool) (x3 : Int) (x4 : Int) (x5 : BitVec 64) (x6 : Bool) (x7 : Int) (x8 : Int) (x9 : BitVec 64) (x10 : Bool) (x11 : Int) (x12 : Int) (x13 : BitVec 64) (x14 : Bool) (x15 : Bool) (x16 : Bool) (x18 : Bool) : Option (BitVec 64 × BitVec 8) := bif x18 then lt (F66 a0_0 a0_1) fun y28 => some (y28, 1#8) else bif x15 then lt (F67 a0_0 a0_1 x14) fun y30 => some (y30, 0#8) else F172_8 N a0_0 a0_1 a1 x2 x3 x4 x5 x6 x7 x8 x9 x10 x11 x12 x13 x14 x16 (x11 == 3)
def F172_14 (N : Nat) (a0_0 : BitVec 8) (a0_1 : BitVec 8) (a1 : BitVec 8) (x2 : Bool) (x3 : Int) (x4 : Int) (x5 : BitVec 64) (x6 : Bool) (x7 : Int) (x8 : Int) (x9 : BitVec 64) (x10 : Bool) (x11 : Int) (x12 : Int) (x13 : BitVec 64) (x14 : Bool) (x15 : Bool) (x16 : Bool) (x30 : Bool) : Option (BitVec 64 × BitVec 8) := bif x30 then F172_7 N a0_0 a0_1 a1 x2 x3 x4 x5 x6 x7 x8 x9 x10 x11 x12 x13 x14 x15 x16 x30 else F172_7 N a0_0 a0_1 a1 x2 x3 x4 x5 x6 x7 x8 x9 x10 x11 x12 x13 x14 x15 x16 ((x15 && (x11 == 3)) && (x10 != x14))
def F172_6 (N : Nat) (a0_0 : BitVec 8) (a0_1 : BitVec 8) (a1 : BitVec 8) (a2 : BitVec 64) (a3 : BitVec 64) (a4 : BitVec 64) (x2 : Bool) (x3 : Int) (x4 : Int) (x5 : BitVec 64) (x6 : Bool) (x7 : Int) (x8 : Int) (x9 : BitVec 64) (x10 : Bool) (x11 : Int) (x12 : Int) (x13 : BitVec 64) (x14 : Bool) (x15 : Bool) (x16 : Bool) (x17 : Bool) : Option (BitVec 64 × BitVec 8) := bif x17 then lt (F66 a0_0 a0_1) fun y24 => lt (F214 a0_0 a0_1 a2 a3) fun y25 => lt (F214 a0_0 a0_1 a4 a4) fun y26 => some (y24, y25 ||| y26) else F172_14 N a0_0 a0_1 a1 x2 x3 x4 x5 x6 x7 x8 x9 x10 x11 x12 x13 x14 x15 x16 (x15 && x16)
def F172_5 (N : Nat) (a0_0 : BitVec 8) (a0_1 : BitVec 8) (a1 : BitVec 8) (a2 : BitVec 64) (a3 : BitVec 64) (a4 : BitVec 64) (x2 : Bool) (x3 : Int) (x4 : Int) (x5 : BitVec 64) (x6 : Bool) (x7 : Int) (x8 : Int) (x9 : BitVec 64) (x10 : Bool) (x11 : Int) (x12 : Int) (x13 : BitVec 64) (x14 : Bool) (x15 : Bool) (x16 : Bool) : Option (BitVec 64 × BitVec 8) := F172_6 N a0_0 a0_1 a1 a2 a3 a4 x2 x3 x4 x5 x6 x7 x8 x9 x10 x11 x12 x13 x14 x15 x16 (((x3 == 4) || (x7 == 4)) || (x11 == 4))
def F172_4 (N : Nat) (a0_0 : BitVec 8) (a0_1 : BitVec 8) (a1 : BitVec 8) (a2 : BitVec 64) (a3 : BitVec 64) (a4 : BitVec 64) (x2 : Bool) (x3 : Int) (x4 : Int) (x5 : BitVec 64) (x6 : Bool) (x7 : Int) (x8 : Int) (x9 : BitVec 64) (x10 : Bool) (x11 : Int) (x12 : Int) (x13 : BitVec 64) (x14 : Bool) (x15 : Bool) : Option (BitVec 64 × BitVec 8) := F172_5 N a0_0 a0_1 a1 a2 a3 a4 x2 x3 x4 x5 x6 x7 x8 x9 x10 x11 x12 x13 x14 x15 ((x3 == 0) || (x7 == 0))
def F172_3 (N : Nat) (a0_0 : BitVec 8) (a0_1 : BitVec 8) (a1 : BitVec 8) (a2 : BitVec 64) (a3 : BitVec 64) (a4 : BitVec 64) (x2 : Bool) (x3 : Int) (x4 : Int) (x5 : BitVec 64) (x6 : Bool) (x7 : Int) (x8 : Int) (x9 : BitVec 64) (x10 : Bool) (x11 : Int) (x12 : Int) (x13 : BitVec 64) (x14 : Bool) : Option (BitVec 64 × BitVec 8) := F172_4 N a0_0 a0_1 a1 a2 a3 a4 x2 x3 x4 x5 x6 x7 x8 x9 x10 x11 x12 x13 x14 ((x3 == 3) || (x7 == 3))
def F172_2 (N : Nat) (a0_0 : BitVec 8) (a0_1 : BitVec 8) (a1 : BitVec 8) (a2 : BitVec 64) (a3 : BitVec 64) (a4 : BitVec 64) (x2 : Bool) (x3 : Int) (x4 : Int) (x5 : BitVec 64) (x6 : Bool) (x7 : Int) (x8 : Int) (x9 : BitVec 64) (x10 : Bool) (x11 : Int) (x12 : Int) (x13 : BitVec 64) : Option (BitVec 64 × BitVec 8) := F172_3 N a0_0 a0_1 a1 a2 a3 a4 x2 x3 x4 x5 x6 x7 x8 x9 x10 x11 x12 x13 (x2 != x6)
def F172_1 (N : Nat) (a0_0 : BitVec 8) (a0_1 : BitVec 8) (a1 : BitVec 8) (a2 : BitVec 64) (a3 : BitVec 64) (a4 : BitVec 64) (x1 : Bool) : Option (BitVec 64 × BitVec 8) := bif x1 then some (0#64, 0#8) else lt (F65 a0_0 a0_1 a2) fun y55 => lt (F65 a0_0 a0_1 a3) fun y56 => lt (F65 a0_0 a0_1 a4) fun y57 => F172_2 N a0_0 a0_1 a1 a2 a3 a4 y55.1 y55.2.1 y55.2.2.1 y55.2.2.2 y56.1 y56.2.1 y56.2.2.1 y56.2.2.2 y57.1 y57.2.1 y57.2.2.1 y57.2.2.2
def F172 (N : Nat) (a0_0 : BitVec 8) (a0_1 : BitVec 8) (a1 : BitVec 8) (a2 : BitVec 64) (a3 : BitVec 64) (a4 : BitVec 64) : Option (BitVec 64 × BitVec 8) := lt (F40 a0_0 a0_1) fun y58 => F172_1 N a0_0 a0_1 a1 a2 a3 a4 (!y58)
theorem C172 (N : Nat) (a0_0 : BitVec 8) (a0_1 : BitVec 8) (a1 : BitVec 8) (a2 : BitVec 64) (a3 : BitVec 64) (a4 : BitVec 64) (r : BitVec 64 × BitVec 8) (hr : some r = F172 N a0_0 a0_1 a1 a2 a3 a4) : Aw.Fn Hfaa.prog 172 [agg [is (U8 a0_0), is (U8 a0_1)], is (U8 a1), is (U64 a2), is (U64 a3), is (U64 a4)] (tup [is (U64 r.1), is (U8 r.2)]) := by
  refine fn_intro Hfaa.func172 rfl rfl rfl ?_
  intro bn0 w0 H0
  refine AW_seq1 ?_
  refine AW_region ?_
  refine AL_cons (LR_box (at_tmp 0 _) (cells_agg _) rfl) (sS (sT1 rfl) sB0 (sF1 rfl)) ?_
  refine AL_cons (LR_assign (at_c (v' := U64 (0#64)) rfl) rfl) (sS sT0 sB0 sF0) ?_
  refine AL_cons (LR_assign (at_c (v' := U8 (0#8)) rfl) rfl) (sS sT0 sB0 sF0) ?_
  refine AL_nil ?_
  refine thenN ?_
  refine AW_seq1 ?_
  refine AW_cut (σ := Bool) (fun v => ⟨[(1, .inl (is (U8 a1))), (2, .inl (is (U64 a2))), (3, .inl (is (U64 a3))), (4, .inl (is (U64 a4))), (5, .inr (.inl (5, 0))), (27, .inl (is (Bl v)))], [(5, pb 23 [is (U8 a0_0), is (U8 a0_1)])]⟩) (fun v => some r = F172_1 N a0_0 a0_1 a1 a2 a3 a4 v) ?_ ?_
  · skip
    refine AW_region ?_
    refine AL_cons (LR_loads (at_tmp 5 _) ag23 sz23 rfl rfl rfl) (sS (sT1 rfl) (sB1 rfl) sF0) ?_
    obtain ⟨y58, hy58, hr⟩ := lt_some hr
    refine AL_cons (LR_call Hfaa.func40 rfl rfl (C40 a0_0 a0_1 y58 hy58) (all_cons (at_tmp 25 _) all_nil) rfl) (sS (sA (sT1 rfl) sT0) sB0 sF0) ?_
    refine AL_cons (LR_un (at_tmp 26 _) (not_Bl y58) rfl) (sS (sT1 rfl) sB0 sF0) ?_
    refine AL_nil ?_
    exact thenN (cutLeaf (v := !y58) hr (weak0 ((sT rfl (sT rfl (sT rfl (sT rfl (sT rfl (sT rfl sT0))))))) (sub_keep sub_nil)))
  · rintro x1 hr
    show AW Hfaa.prog _ _ _ ⟨[(1, .inl (is (U8 a1))), (2, .inl (is (U64 a2))), (3, .inl (is (U64 a3))), (4, .inl (is (U64 a4))), (5, .inr (.inl (5, 0))), (27, .inl (is (Bl x1)))], [(5, pb 23 [is (U8 a0_0), is (U8 a0_1)])]⟩
    have hr : some r = F172_1 N a0_0 a0_1 a1 a2 a3 a4 x1 := hr
    refine AW_condT (b := x1) rfl (fun h => ?_) (fun h => ?_)
    · have hr := hr.trans (cond_t h)
      clear h
      refine AW_seq1 ?_
      refine AW_region ?_
      refine AL_cons (LR_assign (at_c (v' := U64 (0#64)) rfl) rfl) (sS sT0 sB0 sF0) ?_
      refine AL_cons (LR_assign (at_c (v' := U8 (0#8)) rfl) rfl) (sS sT0 sB0 sF0) ?_
      refine AL_nil ?_
      refine thenN ?_
      refine AW_ret ?_
      refine thenR ?_
      obtain rfl := Option.some.inj hr
      exact res2 rfl (rvT rfl) (rvT rfl)
    · have hr := hr.trans (cond_f h)
      clear h
      refine AW_skip ?_
      refine thenN ?_
      refine AW_cut (σ := Bool × Int × Int × BitVec 64 × Bool × Int × Int × BitVec 64 × Bool × Int × Int × BitVec 64) (fun v => ⟨[(1, .inl (is (U8 a1))), (2, .inl (is (U64 a2))), (3, .inl (is (U64 a3))), (4, .inl (is (U64 a4))), (5, .inr (.inl (5, 0))), (12, .inr (.inl (12, 0))), (13, .inr (.inl (13, 0))), (14, .inr (.inl (14, 0)))], [(5, pb 23 [is (U8 a0_0), is (U8 a0_1)]), (12, pb 112 [is (Bl v.1), is (I8 v.2.1), is (I16 v.2.2.1), is (U64 v.2.2.2.1)]), (13, pb 112 [is (Bl v.2.2.2.2.1), is (I8 v.2.2.2.2.2.1), is (I16 v.2.2.2.2.2.2.1), is (U64 v.2.2.2.2.2.2.2.1)]), (14, pb 112 [is (Bl v.2.2.2.2.2.2.2.2.1), is (I8 v.2.2.2.2.2.2.2.2.2.1), is (I16 v.2.2.2.2.2.2.2.2.2.2.1), is (U64 v.2.2.2.2.2.2.2.2.2.2.2)])]⟩) (fun v => some r = F172_2 N a0_0 a0_1 a1 a2 a3 a4 v.1 v.2.1 v.2.2.1 v.2.2.2.1 v.2.2.2.2.1 v.2.2.2.2.2.1 v.2.2.2.2.2.2.1 v.2.2.2.2.2.2.2.1 v.2.2.2.2.2.2.2.2.1 v.2.2.2.2.2.2.2.2.2.1 v.2.2.2.2.2.2.2.2.2.2.1 v.2.2.2.2.2.2.2.2.2.2.2) ?_ ?_
      · skip
        obtain ⟨y55, hy55, hr⟩ := lt_some hr
        obtain ⟨y56, hy56, hr⟩ := lt_some hr
        obtain ⟨y57, hy57, hr⟩ := lt_some hr
        refine AW_draw mixed
          (lrC (LR_loads (at_tmp 5 _) ag23 sz23 rfl rfl rfl)
          (lrC (LR_move (at_tmp 2 _) rfl)
          (lrC (LR_call Hfaa.func65 rfl rfl (C65 a0_0 a0_1 a2 y55 hy55) (all_cons (at_tmp 28 _) (all_cons (at_tmp 29 _) all_nil)) rfl)
          (lrC (LR_loads (at_tmp 5 _) ag23 sz23 rfl rfl rfl)
          (lrC (LR_move (at_tmp 3 _) rfl)
          (lrC (LR_call Hfaa.func65 rfl rfl (C65 a0_0 a0_1 a3 y56 hy56) (all_cons (at_tmp 31 _) (all_cons (at_tmp 32 _) all_nil)) rfl)
          (lrC (LR_loads (at_tmp 5 _) ag23 sz23 rfl rfl rfl)
          (lrC (LR_move (at_tmp 4 _) rfl)
          (lrC (LR_call Hfaa.func65 rfl rfl (C65 a0_0 a0_1 a4 y57 hy57) (all_cons (at_tmp 34 _) (all_cons (at_tmp 35 _) all_nil)) rfl)
          (lrC (zl112 rfl)
          (lrC (zl112 rfl)
          (lrC (zl112 rfl)
          (lrC (LR_store (at_tmp 12 _) (at_tmp 30 _) (cells_agg _) (onC (one_is rfl) (onC (one_is rfl) (onC (one_is rfl) (onC (one_is rfl) onN)))) sz112 rfl rfl)
          (lrC (LR_store (at_tmp 13 _) (at_tmp 33 _) (cells_agg _) (onC (one_is rfl) (onC (one_is rfl) (onC (one_is rfl) (onC (one_is rfl) onN)))) sz112 rfl rfl)
          (lrC (LR_store (at_tmp 14 _) (at_tmp 36 _) (cells_agg _) (onC (one_is rfl) (onC (one_is rfl) (onC (one_is rfl) (onC (one_is rfl) onN)))) sz112 rfl rfl)
          lrN)))))))))))))))
          (by kernel_rfl)
          (saC (sS (sT1 rfl) (sB1 rfl) sF0) (saC (sS (sT1 rfl) sB0 sF0) (saC (sS (sA (sT1 rfl) (sA (sT1 rfl) sT0)) sB0 sF0) (saC (sS (sT1 rfl) (sB1 rfl) sF0) (saC (sS (sT1 rfl) sB0 sF0) (saC (sS (sA (sT1 rfl) (sA (sT1 rfl) sT0)) sB0 sF0) (saC (sS (sT1 rfl) (sB1 rfl) sF0) (saC (sS (sT1 rfl) sB0 sF0) (saC (sS (sA (sT1 rfl) (sA (sT1 rfl) sT0)) sB0 sF0) (saC (sS sT0 sB0 (sF1 rfl)) (saC (sS sT0 sB0 (sF1 rfl)) (saC (sS sT0 sB0 (sF1 rfl)) (saC (sS (sA (sT1 rfl) (sT1 rfl)) (sB1 rfl) sF0) (saC (sS (sA (sT1 rfl) (sT1 rfl)) (sB1 rfl) sF0) (saC (sS (sA (sT1 rfl) (sT1 rfl)) (sB1 rfl) sF0) saN))))))))))))))) ?_
        exact thenN (cutLeaf (v := (y55.1, y55.2.1, y55.2.2.1, y55.2.2.2, y56.1, y56.2.1, y56.2.2.1, y56.2.2.2, y57.1, y57.2.1, y57.2.2.1, y57.2.2.2)) hr (weak0 ((sT rfl (sT rfl (sT rfl (sT rfl (sT rfl (sT rfl (sT rfl (sT rfl sT0))))))))) (sub_keep (sub_keep (sub_keep (sub_keep sub_nil))))))
      · rintro ⟨x2, x3, x4, x5, x6, x7, x8, x9, x10, x11, x12, x13⟩ hr
        show AW Hfaa.prog _ _ _ ⟨[(1, .inl (is (U8 a1))), (2, .inl (is (U64 a2))), (3, .inl (is (U64 a3))), (4, .inl (is (U64 a4))), (5, .inr (.inl (5, 0))), (12, .inr (.inl (12, 0))), (13, .inr (.inl (13, 0))), (14, .inr (.inl (14, 0)))], [(5, pb 23 [is (U8 a0_0), is (U8 a0_1)]), (12, pb 112 [is (Bl x2), is (I8 x3), is (I16 x4), is (U64 x5)]), (13, pb 112 [is (Bl x6), is (I8 x7), is (I16 x8), is (U64 x9)]), (14, pb 112 [is (Bl x10), is (I8 x11), is (I16 x12), is (U64 x13)])]⟩
        have hr : some r = F172_2 N a0_0 a0_1 a1 a2 a3 a4 x2 x3 x4 x5 x6 x7 x8 x9 x10 x11 x12 x13 := hr
        refine AW_cut (σ := Bool) (fun v => ⟨[(1, .inl (is (U8 a1))), (2, .inl (is (U64 a2))), (3, .inl (is (U64 a3))), (4, .inl (is (U64 a4))), (5, .inr (.inl (5, 0))), (12, .inr (.inl (12, 0))), (13, .inr (.inl (13, 0))), (14, .inr (.inl (14, 0))), (15, .inl (is (Bl v)))], [(5, pb 23 [is (U8 a0_0), is (U8 a0_1)]), (12, pb 112 [is (Bl x2), is (I8 x3), is (I16 x4), is (U64 x5)]), (13, pb 112 [is (Bl x6), is (I8 x7), is (I16 x8), is (U64 x9)]), (14, pb 112 [is (Bl x10), is (I8 x11), is (I16 x12), is (U64 x13)])]⟩) (fun v => some r = F172_3 N a0_0 a0_1 a1 a2 a3 a4 x2 x3 x4 x5 x6 x7 x8 x9 x10 x11 x12 x13 v) ?_ ?_
        · skip
          refine AW_region ?_
          refine AL_cons (LR_fieldAddr (off := 0) (o := 0) (at_tmp 12 _) (fun b w => fa112_0 b 0 w) rfl) (sS (sT1 rfl) sB0 sF0) ?_
          refine AL_cons (LR_load (at_tmp 37 _) na4 rfl rfl) (sS (sT1 rfl) (sB1 rfl) sF0) ?_
          refine AL_cons (LR_fieldAddr (off := 0) (o := 0) (at_tmp 13 _) (fun b w => fa112_0 b 0 w) rfl) (sS (sT1 rfl) sB0 sF0) ?_
          refine AL_cons (LR_load (at_tmp 39 _) na4 rfl rfl) (sS (sT1 rfl) (sB1 rfl) sF0) ?_
          refine AL_cons (LR_bin (at_tmp 38 _) (at_tmp 40 _) (neq_Bl Hfaa.underlying4 x2 x6) rfl) (sS (sA (sT1 rfl) (sT1 rfl)) sB0 sF0) ?_
          refine AL_cons (LR_assign (at_tmp 41 _) rfl) (sS (sT1 rfl) sB0 sF0) ?_
          refine AL_nil ?_
          exact thenN (cutLeaf (v := x2 != x6) hr (weak0 ((sT rfl (sT rfl (sT rfl (sT rfl (sT rfl (sT rfl (sT rfl (sT rfl (sT rfl sT0)))))))))) (sub_keep (sub_keep (sub_keep (sub_keep sub_nil))))))
        · rintro x14 hr
          show AW Hfaa.prog _ _ _ ⟨[(1, .inl (is (U8 a1))), (2, .inl (is (U64 a2))), (3, .inl (is (U64 a3))), (4, .inl (is (U64 a4))), (5, .inr (.inl (5, 0))), (12, .inr (.inl (12, 0))), (13, .inr (.inl (13, 0))), (14, .inr (.inl (14, 0))), (15, .inl (is (Bl x14)))], [(5, pb 23 [is (U8 a0_0), is (U8 a0_1)]), (12, pb 112 [is (Bl x2), is (I8 x3), is (I16 x4), is (U64 x5)]), (13, pb 112 [is (Bl x6), is (I8 x7), is (I16 x8), is (U64 x9)]), (14, pb 112 [is (Bl x10), is (I8 x11), is (I16 x12), is (U64 x13)])]⟩
          have hr : some r = F172_3 N a0_0 a0_1 a1 a2 a3 a4 x2 x3 x4 x5 x6 x7 x8 x9 x10 x11 x12 x13 x14 := hr
          refine AW_cut (σ := Bool) (fun v => ⟨[(1, .inl (is (U8 a1))), (2, .inl (is (U64 a2))), (3, .inl (is (U64 a3))), (4, .inl (is (U64 a4))), (5, .inr (.inl (5, 0))), (12, .inr (.inl (12, 0))), (13, .inr (.inl (13, 0))), (14, .inr (.inl (14, 0))), (15, .inl (is (Bl x14))), (16, .inl (is (Bl v)))], [(5, pb 23 [is (U8 a0_0), is (U8 a0_1)]), (12, pb 112 [is (Bl x2), is (I8 x3), is (I16 x4), is (U64 x5)]), (13, pb 112 [is (Bl x6), is (I8 x7), is (I16 x8), is (U64 x9)]), (14, pb 112 [is (Bl x10), is (I8 x11), is (I16 x12), is (U64 x13)])]⟩) (fun v => some r = F172_4 N a0_0 a0_1 a1 a2 a3 a4 x2 x3 x4 x5 x6 x7 x8 x9 x10 x11 x12 x13 x14 v) ?_ ?_
          · skip
            refine AW_region ?_
            refine AL_cons (LR_fieldAddr (off := 0) (o := 1) (at_tmp 12 _) (fun b w => fa112_1 b 0 w) rfl) (sS (sT1 rfl) sB0 sF0) ?_
            refine AL_cons (LR_load (at_tmp 42 _) na110 rfl rfl) (sS (sT1 rfl) (sB1 rfl) sF0) ?_
            refine AL_cons (LR_bin (at_tmp 43 _) (at_c (v' := I8 3) rfl) (eql_I8 x3 3) rfl) (sS (sA (sT1 rfl) sT0) sB0 sF0) ?_
            refine AL_cons (LR_move (at_tmp 44 _) rfl) (sS (sT1 rfl) sB0 sF0) ?_
            refine AL_cutAt 4 ⟨[(1, .inl (is (U8 a1))), (2, .inl (is (U64 a2))), (3, .inl (is (U64 a3))), (4, .inl (is (U64 a4))), (5, .inr (.inl (5, 0))), (12, .inr (.inl (12, 0))), (13, .inr (.inl (13, 0))), (14, .inr (.inl (14, 0))), (15, .inl (is (Bl x14))), (42, .inr (.inl (12, 1))), (43, .inl (is (I8 x3))), (44, .inl (is (Bl (x3 == 3)))), (45, .inl (is (Bl (x3 == 3)))), (49, .inl (is (Bl ((x3 == 3) || (x7 == 3)))))], [(5, pb 23 [is (U8 a0_0), is (U8 a0_1)]), (12, pb 112 [is (Bl x2), is (I8 x3), is (I16 x4), is (U64 x5)]), (13, pb 112 [is (Bl x6), is (I8 x7), is (I16 x8), is (U64 x9)]), (14, pb 112 [is (Bl x10), is (I8 x11), is (I16 x12), is (U64 x13)])]⟩ ?_ ?_
            · cases hb : x3 == 3
              · skip
                refine AL_cons (LR_on rfl rfl rfl (LR_fieldAddr (off := 0) (o := 1) (at_tmp 13 _) (fun b w => fa112_1 b 0 w) rfl)) (sS (sT rfl (sT1 rfl)) sB0 sF0) ?_
                refine AL_cons (LR_on rfl rfl rfl (LR_load (at_tmp 46 _) na110 rfl rfl)) (sS (sT rfl (sT1 rfl)) (sB1 rfl) sF0) ?_
                refine AL_cons (LR_on rfl rfl rfl (LR_bin (at_tmp 47 _) (at_c (v' := I8 3) rfl) (eql_I8 x7 3) rfl)) (sS (sT rfl (sA (sT1 rfl) sT0)) sB0 sF0) ?_
                refine AL_cons (LR_pick (b := false) (at_tmp 45 _) (at_c (v' := Bl true) rfl) (at_tmp 48 _) rfl) (sS (sA (sT1 rfl) (sA sT0 (sT1 rfl))) sB0 sF0) ?_
                exact AL_nil ⟨rfl, weak0 ((sT rfl (sT rfl (sT rfl (sT rfl (sT rfl (sT rfl (sT rfl (sT rfl (sT rfl (sT rfl (sT rfl (sT rfl (sT rfl (sT rfl sT0))))))))))))))) (sub_keep (sub_keep (sub_keep (sub_keep sub_nil))))⟩
              · skip
                refine AL_cons (LR_off (b := true) rfl rfl rfl rfl) (sS (sT1 rfl) sB0 sF0) ?_
                refine AL_cons (LR_off (b := true) rfl rfl rfl rfl) (sS (sT1 rfl) sB0 sF0) ?_
                refine AL_cons (LR_off (b := true) rfl rfl rfl rfl) (sS (sT1 rfl) sB0 sF0) ?_
                refine AL_cons (LR_pick (b := true) (at_tmp 45 _) (at_c (v' := Bl true) rfl) (at_tmp 48 _) rfl) (sS (sA (sT1 rfl) (sA sT0 (sT1 rfl))) sB0 sF0) ?_
                exact AL_nil ⟨rfl, weak0 ((sT rfl (sT rfl (sT rfl (sT rfl (sT rfl (sT rfl (sT rfl (sT rfl (sT rfl (sT rfl (sT rfl (sT rfl (sT rfl (sT rfl sT0))))))))))))))) (sub_keep (sub_keep (sub_keep (sub_keep sub_nil))))⟩
            refine AL_cons (LR_assign (at_tmp 49 _) rfl) (sS (sT1 rfl) sB0 sF0) ?_
            refine AL_nil ?_
            exact thenN (cutLeaf (v := (x3 == 3) || (x7 == 3)) hr (weak0 ((sT rfl (sT rfl (sT rfl (sT rfl (sT rfl (sT rfl (sT rfl (sT rfl (sT rfl (sT rfl sT0))))))))))) (sub_keep (sub_keep (sub_keep (sub_keep sub_nil))))))
          · rintro x15 hr
            show AW Hfaa.prog _ _ _ ⟨[(1, .inl (is (U8 a1))), (2, .inl (is (U64 a2))), (3, .inl (is (U64 a3))), (4, .inl (is (U64 a4))), (5, .inr (.inl (5, 0))), (12, .inr (.inl (12, 0))), (13, .inr (.inl (13, 0))), (14, .inr (.inl (14, 0))), (15, .inl (is (Bl x14))), (16, .inl (is (Bl x15)))], [(5, pb 23 [is (U8 a0_0), is (U8 a0_1)]), (12, pb 112 [is (Bl x2), is (I8 x3), is (I16 x4), is (U64 x5)]), (13, pb 112 [is (Bl x6), is (I8 x7), is (I16 x8), is (U64 x9)]), (14, pb 112 [is (Bl x10), is (I8 x11), is (I16 x12), is (U64 x13)])]⟩
            have hr : some r = F172_4 N a0_0 a0_1 a1 a2 a3 a4 x2 x3 x4 x5 x6 x7 x8 x9 x10 x11 x12 x13 x14 x15 := hr
            refine AW_cut (σ := Bool) (fun v => ⟨[(1, .inl (is (U8 a1))), (2, .inl (is (U64 a2))), (3, .inl (is (U64 a3))), (4, .inl (is (U64 a4))), (5, .inr (.inl (5, 0))), (12, .inr (.inl (12, 0))), (13, .inr (.inl (13, 0))), (14, .inr (.inl (14, 0))), (15, .inl (is (Bl x14))), (16, .inl (is (Bl x15))), (17, .inl (is (Bl v)))], [(5, pb 23 [is (U8 a0_0), is (U8 a0_1)]), (12, pb 112 [is (Bl x2), is (I8 x3), is (I16 x4), is (U64 x5)]), (13, pb 112 [is (Bl x6), is (I8 x7), is (I16 x8), is (U64 x9)]), (14, pb 112 [is (Bl x10), is (I8 x11), is (I16 x12), is (U64 x13)])]⟩) (fun v => some r = F172_5 N a0_0 a0_1 a1 a2 a3 a4 x2 x3 x4 x5 x6 x7 x8 x9 x10 x11 x12 x13 x14 x15 v) ?_ ?_
            · skip
              refine AW_region ?_
              refine AL_cons (LR_fieldAddr (off := 0) (o := 1) (at_tmp 12 _) (fun b w => fa112_1 b 0 w) rfl) (sS (sT1 rfl) sB0 sF0) ?_
              refine AL_cons (LR_load (at_tmp 50 _) na110 rfl rfl) (sS (sT1 rfl) (sB1 rfl) sF0) ?_
              refine AL_cons (LR_bin (at_tmp 51 _) (at_c (v' := I8 0) rfl) (eql_I8 x3 0) rfl) (sS (sA (sT1 rfl) sT0) sB0 sF0) ?_
              refine AL_cons (LR_move (at_tmp 52 _) rfl) (sS (sT1 rfl) sB0 sF0) ?_
              refine AL_cutAt 4 ⟨[(1, .inl (is (U8 a1))), (2, .inl (is (U64 a2))), (3, .inl (is (U64 a3))), (4, .inl (is (U64 a4))), (5, .inr (.inl (5, 0))), (12, .inr (.inl (12, 0))), (13, .inr (.inl (13, 0))), (14, .inr (.inl (14, 0))), (15, .inl (is (Bl x14))), (16, .inl (is (Bl x15))), (50, .inr (.inl (12, 1))), (51, .inl (is (I8 x3))), (52, .inl (is (Bl (x3 == 0)))), (53, .inl (is (Bl (x3 == 0)))), (57, .inl (is (Bl ((x3 == 0) || (x7 == 0)))))], [(5, pb 23 [is (U8 a0_0), is (U8 a0_1)]), (12, pb 112 [is (Bl x2), is (I8 x3), is (I16 x4), is (U64 x5)]), (13, pb 112 [is (Bl x6), is (I8 x7), is (I16 x8), is (U64 x9)]), (14, pb 112 [is (Bl x10), is (I8 x11), is (I16 x12), is (U64 x13)])]⟩ ?_ ?_
              · cases hb : x3 == 0
                · skip
                  refine AL_cons (LR_on rfl rfl rfl (LR_fieldAddr (off := 0) (o := 1) (at_tmp 13 _) (fun b w => fa112_1 b 0 w) rfl)) (sS (sT rfl (sT1 rfl)) sB0 sF0) ?_
                  refine AL_cons (LR_on rfl rfl rfl (LR_load (at_tmp 54 _) na110 rfl rfl)) (sS (sT rfl (sT1 rfl)) (sB1 rfl) sF0) ?_
                  refine AL_cons (LR_on rfl rfl rfl (LR_bin (at_tmp 55 _) (at_c (v' := I8 0) rfl) (eql_I8 x7 0) rfl)) (sS (sT rfl (sA (sT1 rfl) sT0)) sB0 sF0) ?_
                  refine AL_cons (LR_pick (b := false) (at_tmp 53 _) (at_c (v' := Bl true) rfl) (at_tmp 56 _) rfl) (sS (sA (sT1 rfl) (sA sT0 (sT1 rfl))) sB0 sF0) ?_
                  exact AL_nil ⟨rfl, weak0 ((sT rfl (sT rfl (sT rfl (sT rfl (sT rfl (sT rfl (sT rfl (sT rfl (sT rfl (sT rfl (sT rfl (sT rfl (sT rfl (sT rfl (sT rfl sT0)))))))))))))))) (sub_keep (sub_keep (sub_keep (sub_keep sub_nil))))⟩
                · skip
                  refine AL_cons (LR_off (b := true) rfl rfl rfl rfl) (sS (sT1 rfl) sB0 sF0) ?_
                  refine AL_cons (LR_off (b := true) rfl rfl rfl rfl) (sS (sT1 rfl) sB0 sF0) ?_
                  refine AL_cons (LR_off (b := true) rfl rfl rfl rfl) (sS (sT1 rfl) sB0 sF0) ?_
                  refine AL_cons (LR_pick (b := true) (at_tmp 53 _) (at_c (v' := Bl true) rfl) (at_tmp 56 _) rfl) (sS (sA (sT1 rfl) (sA sT0 (sT1 rfl))) sB0 sF0) ?_
                  exact AL_nil ⟨rfl, weak0 ((sT rfl (sT rfl (sT rfl (sT rfl (sT rfl (sT rfl (sT rfl (sT rfl (sT rfl (sT rfl (sT rfl (sT rfl (sT rfl (sT rfl (sT rfl sT0)))))))))))))))) (sub_keep (sub_keep (sub_keep (sub_keep sub_nil))))⟩
              refine AL_cons (LR_assign (at_tmp 57 _) rfl) (sS (sT1 rfl) sB0 sF0) ?_
              refine AL_nil ?_
              exact thenN (cutLeaf (v := (x3 == 0) || (x7 == 0)) hr (weak0 ((sT rfl (sT rfl (sT rfl (sT rfl (sT rfl (sT rfl (sT rfl (sT rfl (sT rfl (sT rfl (sT rfl sT0)))))))))))) (sub_keep (sub_keep (sub_keep (sub_keep sub_nil))))))
            · rintro x16 hr
              show AW Hfaa.prog _ _ _ ⟨[(1, .inl (is (U8 a1))), (2, .inl (is (U64 a2))), (3, .inl (is (U64 a3))), (4, .inl (is (U64 a4))), (5, .inr (.inl (5, 0))), (12, .inr (.inl (12, 0))), (13, .inr (.inl (13, 0))), (14, .inr (.inl (14, 0))), (15, .inl (is (Bl x14))), (16, .inl (is (Bl x15))), (17, .inl (is (Bl x16)))], [(5, pb 23 [is (U8 a0_0), is (U8 a0_1)]), (12, pb 112 [is (Bl x2), is (I8 x3), is (I16 x4), is (U64 x5)]), (13, pb 112 [is (Bl x6), is (I8 x7), is (I16 x8), is (U64 x9)]), (14, pb 112 [is (Bl x10), is (I8 x11), is (I16 x12), is (U64 x13)])]⟩
              have hr : some r = F172_5 N a0_0 a0_1 a1 a2 a3 a4 x2 x3 x4 x5 x6 x7 x8 x9 x10 x11 x12 x13 x14 x15 x16 := hr
              refine AW_seq1 ?_
              refine AW_block ?_
              refine AW_cut (σ := Bool) (fun v => ⟨[(1, .inl (is (U8 a1))), (2, .inl (is (U64 a2))), (3, .inl (is (U64 a3))), (4, .inl (is (U64 a4))), (5, .inr (.inl (5, 0))), (12, .inr (.inl (12, 0))), (13, .inr (.inl (13, 0))), (14, .inr (.inl (14, 0))), (15, .inl (is (Bl x14))), (16, .inl (is (Bl x15))), (17, .inl (is (Bl x16))), (58, .inl (is (Bl v)))], [(5, pb 23 [is (U8 a0_0), is (U8 a0_1)]), (12, pb 112 [is (Bl x2), is (I8 x3), is (I16 x4), is (U64 x5)]), (13, pb 112 [is (Bl x6), is (I8 x7), is (I16 x8), is (U64 x9)]), (14, pb 112 [is (Bl x10), is (I8 x11), is (I16 x12), is (U64 x13)])]⟩) (fun v => some r = F172_6 N a0_0 a0_1 a1 a2 a3 a4 x2 x3 x4 x5 x6 x7 x8 x9 x10 x11 x12 x13 x14 x15 x16 v) ?_ ?_
              · skip
                refine AW_region ?_
                refine AL_cons (LR_fieldAddr (off := 0) (o := 1) (at_tmp 12 _) (fun b w => fa112_1 b 0 w) rfl) (sS (sT1 rfl) sB0 sF0) ?_
                refine AL_cons (LR_load (at_tmp 59 _) na110 rfl rfl) (sS (sT1 rfl) (sB1 rfl) sF0) ?_
                refine AL_cons (LR_bin (at_tmp 60 _) (at_c (v' := I8 4) rfl) (eql_I8 x3 4) rfl) (sS (sA (sT1 rfl) sT0) sB0 sF0) ?_
                refine AL_cons (LR_move (at_tmp 61 _) rfl) (sS (sT1 rfl) sB0 sF0) ?_
                refine AL_cutAt 4 ⟨[(1, .inl (is (U8 a1))), (2, .inl (is (U64 a2))), (3, .inl (is (U64 a3))), (4, .inl (is (U64 a4))), (5, .inr (.inl (5, 0))), (12, .inr (.inl (12, 0))), (13, .inr (.inl (13, 0))), (14, .inr (.inl (14, 0))), (15, .inl (is (Bl x14))), (16, .inl (is (Bl x15))), (17, .inl (is (Bl x16))), (59, .inr (.inl (12, 1))), (60, .inl (is (I8 x3))), (61, .inl (is (Bl (x3 == 4)))), (62, .inl (is (Bl (x3 == 4)))), (66, .inl (is (Bl ((x3 == 4) || (x7 == 4)))))], [(5, pb 23 [is (U8 a0_0), is (U8 a0_1)]), (12, pb 112 [is (Bl x2), is (I8 x3), is (I16 x4), is (U64 x5)]), (13, pb 112 [is (Bl x6), is (I8 x7), is (I16 x8), is (U64 x9)]), (14, pb 112 [is (Bl x10), is (I8 x11), is (I16 x12), is (U64 x13)])]⟩ ?_ ?_
                · cases hb : x3 == 4
                  · skip
                    refine AL_cons (LR_on rfl rfl rfl (LR_fieldAddr (off := 0) (o := 1) (at_tmp 13 _) (fun b w => fa112_1 b 0 w) rfl)) (sS (sT rfl (sT1 rfl)) sB0 sF0) ?_
                    refine AL_cons (LR_on rfl rfl rfl (LR_load (at_tmp 63 _) na110 rfl rfl)) (sS (sT rfl (sT1 rfl)) (sB1 rfl) sF0) ?_
                    refine AL_cons (LR_on rfl rfl rfl (LR_bin (at_tmp 64 _) (at_c (v' := I8 4) rfl) (eql_I8 x7 4) rfl)) (sS (sT rfl (sA (sT1 rfl) sT0)) sB0 sF0) ?_
                    refine AL_cons (LR_pick (b := false) (at_tmp 62 _) (at_c (v' := Bl true) rfl) (at_tmp 65 _) rfl) (sS (sA (sT1 rfl) (sA sT0 (sT1 rfl))) sB0 sF0) ?_
                    exact AL_nil ⟨rfl, weak0 ((sT rfl (sT rfl (sT rfl (sT rfl (sT rfl (sT rfl (sT rfl (sT rfl (sT rfl (sT rfl (sT rfl (sT rfl (sT rfl (sT rfl (sT rfl (sT rfl sT0))))))))))))))))) (sub_keep (sub_keep (sub_keep (sub_keep sub_nil))))⟩
                  · skip
                    refine AL_cons (LR_off (b := true) rfl rfl rfl rfl) (sS (sT1 rfl) sB0 sF0) ?_
                    refine AL_cons (LR_off (b := true) rfl rfl rfl rfl) (sS (sT1 rfl) sB0 sF0) ?_
                    refine AL_cons (LR_off (b := true) rfl rfl rfl rfl) (sS (sT1 rfl) sB0 sF0) ?_
                    refine AL_cons (LR_pick (b := true) (at_tmp 62 _) (at_c (v' := Bl true) rfl) (at_tmp 65 _) rfl) (sS (sA (sT1 rfl) (sA sT0 (sT1 rfl))) sB0 sF0) ?_
                    exact AL_nil ⟨rfl, weak0 ((sT rfl (sT rfl (sT rfl (sT rfl (sT rfl (sT rfl (sT rfl (sT rfl (sT rfl (sT rfl (sT rfl (sT rfl (sT rfl (sT rfl (sT rfl (sT rfl sT0))))))))))))))))) (sub_keep (sub_keep (sub_keep (sub_keep sub_nil))))⟩
                refine AL_cons (LR_move (at_tmp 66 _) rfl) (sS (sT1 rfl) sB0 sF0) ?_
                refine AL_cutAt 4 ⟨[(1, .inl (is (U8 a1))), (2, .inl (is (U64 a2))), (3, .inl (is (U64 a3))), (4, .inl (is (U64 a4))), (5, .inr (.inl (5, 0))), (12, .inr (.inl (12, 0))), (13, .inr (.inl (13, 0))), (14, .inr (.inl (14, 0))), (15, .inl (is (Bl x14))), (16, .inl (is (Bl x15))), (17, .inl (is (Bl x16))), (59, .inr (.inl (12, 1))), (60, .inl (is (I8 x3))), (61, .inl (is (Bl (x3 == 4)))), (62, .inl (is (Bl (x3 == 4)))), (66, .inl (is (Bl ((x3 == 4) || (x7 == 4))))), (67, .inl (is (Bl ((x3 == 4) || (x7 == 4))))), (71, .inl (is (Bl (((x3 == 4) || (x7 == 4)) || (x11 == 4)))))], [(5, pb 23 [is (U8 a0_0), is (U8 a0_1)]), (12, pb 112 [is (Bl x2), is (I8 x3), is (I16 x4), is (U64 x5)]), (13, pb 112 [is (Bl x6), is (I8 x7), is (I16 x8), is (U64 x9)]), (14, pb 112 [is (Bl x10), is (I8 x11), is (I16 x12), is (U64 x13)])]⟩ ?_ ?_
                · cases hb : (x3 == 4) || (x7 == 4)
                  · skip
                    refine AL_cons (LR_on rfl rfl rfl (LR_fieldAddr (off := 0) (o := 1) (at_tmp 14 _) (fun b w => fa112_1 b 0 w) rfl)) (sS (sT rfl (sT1 rfl)) sB0 sF0) ?_
                    refine AL_cons (LR_on rfl rfl rfl (LR_load (at_tmp 68 _) na110 rfl rfl)) (sS (sT rfl (sT1 rfl)) (sB1 rfl) sF0) ?_
                    refine AL_cons (LR_on rfl rfl rfl (LR_bin (at_tmp 69 _) (at_c (v' := I8 4) rfl) (eql_I8 x11 4) rfl)) (sS (sT rfl (sA (sT1 rfl) sT0)) sB0 sF0) ?_
                    refine AL_cons (LR_pick (b := false) (at_tmp 67 _) (at_c (v' := Bl true) rfl) (at_tmp 70 _) rfl) (sS (sA (sT1 rfl) (sA sT0 (sT1 rfl))) sB0 sF0) ?_
                    exact AL_nil ⟨rfl, weak0 ((sT rfl (sT rfl (sT rfl (sT rfl (sT rfl (sT rfl (sT rfl (sT rfl (sT rfl (sT rfl (sT rfl (sT rfl (sT rfl (sT rfl (sT rfl (sT rfl (sT rfl (sT rfl sT0))))))))))))))))))) (sub_keep (sub_keep (sub_keep (sub_keep sub_nil))))⟩
                  · skip
                    refine AL_cons (LR_off (b := true) rfl rfl rfl rfl) (sS (sT1 rfl) sB0 sF0) ?_
                    refine AL_cons (LR_off (b := true) rfl rfl rfl rfl) (sS (sT1 rfl) sB0 sF0) ?_
                    refine AL_cons (LR_off (b := true) rfl rfl rfl rfl) (sS (sT1 rfl) sB0 sF0) ?_
                    refine AL_cons (LR_pick (b := true) (at_tmp 67 _) (at_c (v' := Bl true) rfl) (at_tmp 70 _) rfl) (sS (sA (sT1 rfl) (sA sT0 (sT1 rfl))) sB0 sF0) ?_
                    exact AL_nil ⟨rfl, weak0 ((sT rfl (sT rfl (sT rfl (sT rfl (sT rfl (sT rfl (sT rfl (sT rfl (sT rfl (sT rfl (sT rfl (sT rfl (sT rfl (sT rfl (sT rfl (sT rfl (sT rfl (sT rfl sT0))))))))))))))))))) (sub_keep (sub_keep (sub_keep (sub_keep sub_nil))))⟩
                refine AL_cons (LR_assign (at_tmp 71 _) rfl) (sS (sT1 rfl) sB0 sF0) ?_
                refine AL_nil ?_
                exact thenN (cutLeaf (v := ((x3 == 4) || (x7 == 4)) || (x11 == 4)) hr (weak0 ((sT rfl (sT rfl (sT rfl (sT rfl (sT rfl (sT rfl (sT rfl (sT rfl (sT rfl (sT rfl (sT rfl (sT rfl sT0))))))))))))) (sub_keep (sub_keep (sub_keep (sub_keep sub_nil))))))
              · rintro x17 hr
                show AW Hfaa.prog _ _ _ ⟨[(1, .inl (is (U8 a1))), (2, .inl (is (U64 a2))), (3, .inl (is (U64 a3))), (4, .inl (is (U64 a4))), (5, .inr (.inl (5, 0))), (12, .inr (.inl (12, 0))), (13, .inr (.inl (13, 0))), (14, .inr (.inl (14, 0))), (15, .inl (is (Bl x14))), (16, .inl (is (Bl x15))), (17, .inl (is (Bl x16))), (58, .inl (is (Bl x17)))], [(5, pb 23 [is (U8 a0_0), is (U8 a0_1)]), (12, pb 112 [is (Bl x2), is (I8 x3), is (I16 x4), is (U64 x5)]), (13, pb 112 [is (Bl x6), is (I8 x7), is (I16 x8), is (U64 x9)]), (14, pb 112 [is (Bl x10), is (I8 x11), is (I16 x12), is (U64 x13)])]⟩
                have hr : some r = F172_6 N a0_0 a0_1 a1 a2 a3 a4 x2 x3 x4 x5 x6 x7 x8 x9 x10 x11 x12 x13 x14 x15 x16 x17 := hr
                refine AW_condT (b := x17) rfl (fun h => ?_) (fun h => ?_)
                · have hr := hr.trans (cond_t h)
                  clear h
                  refine AW_seq1 ?_
                  obtain ⟨y24, hy24, hr⟩ := lt_some hr
                  obtain ⟨y25, hy25, hr⟩ := lt_some hr
                  obtain ⟨y26, hy26, hr⟩ := lt_some hr
                  refine AW_draw mixed
                    (lrC (LR_loads (at_tmp 5 _) ag23 sz23 rfl rfl rfl)
                    (lrC (LR_call Hfaa.func66 rfl rfl (C66 a0_0 a0_1 y24 hy24) (all_cons (at_tmp 72 _) all_nil) rfl)
                    (lrC (LR_loads (at_tmp 5 _) ag23 sz23 rfl rfl rfl)
                    (lrC (LR_move (at_tmp 2 _) rfl)
                    (lrC (LR_move (at_tmp 3 _) rfl)
                    (lrC (LR_call Hfaa.func214 rfl rfl (C214 a0_0 a0_1 a2 a3 y25 hy25) (all_cons (at_tmp 74 _) (all_cons (at_tmp 75 _) (all_cons (at_tmp 76 _) all_nil))) rfl)
                    (lrC (LR_loads (at_tmp 5 _) ag23 sz23 rfl rfl rfl)
                    (lrC (LR_move (at_tmp 4 _) rfl)
                    (lrC (LR_move (at_tmp 4 _) rfl)
                    (lrC (LR_call Hfaa.func214 rfl rfl (C214 a0_0 a0_1 a4 a4 y26 hy26) (all_cons (at_tmp 78 _) (all_cons (at_tmp 79 _) (all_cons (at_tmp 80 _) all_nil))) rfl)
                    (lrC (LR_bin (at_tmp 77 _) (at_tmp 81 _) (or_U8 y25 y26) rfl)
                    (lrC (LR_assign (at_tmp 73 _) rfl)
                    (lrC (LR_assign (at_tmp 82 _) rfl)
                    lrN)))))))))))))
                    (by kernel_rfl)
                    (saC (sS (sT1 rfl) (sB1 rfl) sF0) (saC (sS (sA (sT1 rfl) sT0) sB0 sF0) (saC (sS (sT1 rfl) (sB1 rfl) sF0) (saC (sS (sT1 rfl) sB0 sF0) (saC (sS (sT1 rfl) sB0 sF0) (saC (sS (sA (sT1 rfl) (sA (sT1 rfl) (sA (sT1 rfl) sT0))) sB0 sF0) (saC (sS (sT1 rfl) (sB1 rfl) sF0) (saC (sS (sT1 rfl) sB0 sF0) (saC (sS (sT1 rfl) sB0 sF0) (saC (sS (sA (sT1 rfl) (sA (sT1 rfl) (sA (sT1 rfl) sT0))) sB0 sF0) (saC (sS (sA (sT1 rfl) (sT1 rfl)) sB0 sF0) (saC (sS (sT1 rfl) sB0 sF0) (saC (sS (sT1 rfl) sB0 sF0) saN))))))))))))) ?_
                  refine thenN ?_
                  refine AW_ret ?_
                  refine blR ?_
                  refine thenR ?_
                  obtain rfl := Option.some.inj hr
                  exact res2 rfl (rvT rfl) (rvT rfl)
                · have hr := hr.trans (cond_f h)
                  clear h
                  refine AW_cut (σ := Bool) (fun v => ⟨[(1, .inl (is (U8 a1))), (5, .inr (.inl (5, 0))), (12, .inr (.inl (12, 0))), (13, .inr (.inl (13, 0))), (14, .inr (.inl (14, 0))), (15, .inl (is (Bl x14))), (16, .inl (is (Bl x15))), (17, .inl (is (Bl x16))), (83, .inl (is (Bl v)))], [(5, pb 23 [is (U8 a0_0), is (U8 a0_1)]), (12, pb 112 [is (Bl x2), is (I8 x3), is (I16 x4), is (U64 x5)]), (13, pb 112 [is (Bl x6), is (I8 x7), is (I16 x8), is (U64 x9)]), (14, pb 112 [is (Bl x10), is (I8 x11), is (I16 x12), is (U64 x13)])]⟩) (fun v => some r = F172_7 N a0_0 a0_1 a1 x2 x3 x4 x5 x6 x7 x8 x9 x10 x11 x12 x13 x14 x15 x16 v) ?_ ?_
                  · skip
                    refine AW_cut (σ := Bool) (fun v => ⟨[(1, .inl (is (U8 a1))), (5, .inr (.inl (5, 0))), (12, .inr (.inl (12, 0))), (13, .inr (.inl (13, 0))), (14, .inr (.inl (14, 0))), (15, .inl (is (Bl x14))), (16, .inl (is (Bl x15))), (17, .inl (is (Bl x16))), (83, .inl (is (Bl v)))], [(5, pb 23 [is (U8 a0_0), is (U8 a0_1)]), (12, pb 112 [is (Bl x2), is (I8 x3), is (I16 x4), is (U64 x5)]), (13, pb 112 [is (Bl x6), is (I8 x7), is (I16 x8), is (U64 x9)]), (14, pb 112 [is (Bl x10), is (I8 x11), is (I16 x12), is (U64 x13)])]⟩) (fun v => some r = F172_14 N a0_0 a0_1 a1 x2 x3 x4 x5 x6 x7 x8 x9 x10 x11 x12 x13 x14 x15 x16 v) ?_ ?_
                    · skip
                      refine AW_region ?_
                      refine AL_cons (LR_move (at_tmp 16 _) rfl) (sS (sT1 rfl) sB0 sF0) ?_
                      refine AL_cons (LR_move (at_tmp 84 _) rfl) (sS (sT1 rfl) sB0 sF0) ?_
                      refine AL_cutAt 2 ⟨[(1, .inl (is (U8 a1))), (2, .inl (is (U64 a2))), (3, .inl (is (U64 a3))), (4, .inl (is (U64 a4))), (5, .inr (.inl (5, 0))), (12, .inr (.inl (12, 0))), (13, .inr (.inl (13, 0))), (14, .inr (.inl (14, 0))), (15, .inl (is (Bl x14))), (16, .inl (is (Bl x15))), (17, .inl (is (Bl x16))), (58, .inl (is (Bl x17))), (84, .inl (is (Bl x15))), (85, .inl (is (Bl x15))), (87, .inl (is (Bl (x15 && x16))))], [(5, pb 23 [is (U8 a0_0), is (U8 a0_1)]), (12, pb 112 [is (Bl x2), is (I8 x3), is (I16 x4), is (U64 x5)]), (13, pb 112 [is (Bl x6), is (I8 x7), is (I16 x8), is (U64 x9)]), (14, pb 112 [is (Bl x10), is (I8 x11), is (I16 x12), is (U64 x13)])]⟩ ?_ ?_
                      · cases hb : x15
                        · skip
                          refine AL_cons (LR_off (b := false) rfl rfl rfl rfl) (sS (sT1 rfl) sB0 sF0) ?_
                          refine AL_cons (LR_pick (b := false) (at_tmp 85 _) (at_tmp 86 _) (at_c (v' := Bl false) rfl) rfl) (sS (sA (sT1 rfl) (sA (sT1 rfl) sT0)) sB0 sF0) ?_
                          exact AL_nil ⟨rfl, weak0 ((sT rfl (sT rfl (sT rfl (sT rfl (sT rfl (sT rfl (sT rfl (sT rfl (sT rfl (sT rfl (sT rfl (sT rfl (sT rfl (sT rfl (sT rfl sT0)))))))))))))))) (sub_keep (sub_keep (sub_keep (sub_keep sub_nil))))⟩
                        · skip
                          refine AL_cons (LR_on rfl rfl rfl (LR_move (at_tmp 17 _) rfl)) (sS (sT rfl (sT1 rfl)) sB0 sF0) ?_
                          refine AL_cons (LR_pick (b := true) (at_tmp 85 _) (at_tmp 86 _) (at_c (v' := Bl false) rfl) rfl) (sS (sA (sT1 rfl) (sA (sT1 rfl) sT0)) sB0 sF0) ?_
                          exact AL_nil ⟨rfl, weak0 ((sT rfl (sT rfl (sT rfl (sT rfl (sT rfl (sT rfl (sT rfl (sT rfl (sT rfl (sT rfl (sT rfl (sT rfl (sT rfl (sT rfl (sT rfl sT0)))))))))))))))) (sub_keep (sub_keep (sub_keep (sub_keep sub_nil))))⟩
                      refine AL_cons (LR_assign (at_tmp 87 _) rfl) (sS (sT1 rfl) sB0 sF0) ?_
                      refine AL_nil ?_
                      exact thenN (cutLeaf (v := x15 && x16) hr (weak0 ((sT rfl (sT rfl (sT rfl (sT rfl (sT rfl (sT rfl (sT rfl (sT rfl (sT rfl sT0)))))))))) (sub_keep (sub_keep (sub_keep (sub_keep sub_nil))))))
                    · rintro x30 hr
                      show AW Hfaa.prog _ _ _ ⟨[(1, .inl (is (U8 a1))), (5, .inr (.inl (5, 0))), (12, .inr (.inl (12, 0))), (13, .inr (.inl (13, 0))), (14, .inr (.inl (14, 0))), (15, .inl (is (Bl x14))), (16, .inl (is (Bl x15))), (17, .inl (is (Bl x16))), (83, .inl (is (Bl x30)))], [(5, pb 23 [is (U8 a0_0), is (U8 a0_1)]), (12, pb 112 [is (Bl x2), is (I8 x3), is (I16 x4), is (U64 x5)]), (13, pb 112 [is (Bl x6), is (I8 x7), is (I16 x8), is (U64 x9)]), (14, pb 112 [is (Bl x10), is (I8 x11), is (I16 x12), is (U64 x13)])]⟩
                      have hr : some r = F172_14 N a0_0 a0_1 a1 x2 x3 x4 x5 x6 x7 x8 x9 x10 x11 x12 x13 x14 x15 x16 x30 := hr
                      refine AW_condT (b := x30) rfl (fun h => ?_) (fun h => ?_)
                      · have hr := hr.trans (cond_t h)
                        clear h
                        refine AW_skip ?_
                        exact thenN (cutLeaf (v := x30) hr (weak0 ((sT rfl (sT rfl (sT rfl (sT rfl (sT rfl (sT rfl (sT rfl (sT rfl (sT rfl sT0)))))))))) (sub_keep (sub_keep (sub_keep (sub_keep sub_nil))))))
                      · have hr := hr.trans (cond_f h)
                        clear h
                        refine AW_region ?_
                        refine AL_cons (LR_move (at_tmp 16 _) rfl) (sS (sT1 rfl) sB0 sF0) ?_
                        refine AL_cons (LR_move (at_tmp 88 _) rfl) (sS (sT1 rfl) sB0 sF0) ?_
                        refine AL_cutAt 4 ⟨[(1, .inl (is (U8 a1))), (5, .inr (.inl (5, 0))), (12, .inr (.inl (12, 0))), (13, .inr (.inl (13, 0))), (14, .inr (.inl (14, 0))), (15, .inl (is (Bl x14))), (16, .inl (is (Bl x15))), (17, .inl (is (Bl x16))), (83, .inl (is (Bl x30))), (88, .inl (is (Bl x15))), (89, .inl (is (Bl x15))), (93, .inl (is (Bl (x15 && (x11 == 3)))))], [(5, pb 23 [is (U8 a0_0), is (U8 a0_1)]), (12, pb 112 [is (Bl x2), is (I8 x3), is (I16 x4), is (U64 x5)]), (13, pb 112 [is (Bl x6), is (I8 x7), is (I16 x8), is (U64 x9)]), (14, pb 112 [is (Bl x10), is (I8 x11), is (I16 x12), is (U64 x13)])]⟩ ?_ ?_
                        · cases hb : x15
                          · skip
                            refine AL_cons (LR_off (b := false) rfl rfl rfl rfl) (sS (sT1 rfl) sB0 sF0) ?_
                            refine AL_cons (LR_off (b := false) rfl rfl rfl rfl) (sS (sT1 rfl) sB0 sF0) ?_
                            refine AL_cons (LR_off (b := false) rfl rfl rfl rfl) (sS (sT1 rfl) sB0 sF0) ?_
                            refine AL_cons (LR_pick (b := false) (at_tmp 89 _) (at_tmp 92 _) (at_c (v' := Bl false) rfl) rfl) (sS (sA (sT1 rfl) (sA (sT1 rfl) sT0)) sB0 sF0) ?_
                            exact AL_nil ⟨rfl, weak0 ((sT rfl (sT rfl (sT rfl (sT rfl (sT rfl (sT rfl (sT rfl (sT rfl (sT rfl (sT rfl (sT rfl (sT rfl sT0))))))))))))) (sub_keep (sub_keep (sub_keep (sub_keep sub_nil))))⟩
                          · skip
                            refine AL_cons (LR_on rfl rfl rfl (LR_fieldAddr (off := 0) (o := 1) (at_tmp 14 _) (fun b w => fa112_1 b 0 w) rfl)) (sS (sT rfl (sT1 rfl)) sB0 sF0) ?_
                            refine AL_cons (LR_on rfl rfl rfl (LR_load (at_tmp 90 _) na110 rfl rfl)) (sS (sT rfl (sT1 rfl)) (sB1 rfl) sF0) ?_
                            refine AL_cons (LR_on rfl rfl rfl (LR_bin (at_tmp 91 _) (at_c (v' := I8 3) rfl) (eql_I8 x11 3) rfl)) (sS (sT rfl (sA (sT1 rfl) sT0)) sB0 sF0) ?_
                            refine AL_cons (LR_pick (b := true) (at_tmp 89 _) (at_tmp 92 _) (at_c (v' := Bl false) rfl) rfl) (sS (sA (sT1 rfl) (sA (sT1 rfl) sT0)) sB0 sF0) ?_
                            exact AL_nil ⟨rfl, weak0 ((sT rfl (sT rfl (sT rfl (sT rfl (sT rfl (sT rfl (sT rfl (sT rfl (sT rfl (sT rfl (sT rfl (sT rfl sT0))))))))))))) (sub_keep (sub_keep (sub_keep (sub_keep sub_nil))))⟩
                        refine AL_cons (LR_move (at_tmp 93 _) rfl) (sS (sT1 rfl) sB0 sF0) ?_
                        refine AL_cutAt 5 ⟨[(1, .inl (is (U8 a1))), (5, .inr (.inl (5, 0))), (12, .inr (.inl (12, 0))), (13, .inr (.inl (13, 0))), (14, .inr (.inl (14, 0))), (15, .inl (is (Bl x14))), (16, .inl (is (Bl x15))), (17, .inl (is (Bl x16))), (83, .inl (is (Bl x30))), (88, .inl (is (Bl x15))), (89, .inl (is (Bl x15))), (93, .inl (is (Bl (x15 && (x11 == 3))))), (94, .inl (is (Bl (x15 && (x11 == 3))))), (99, .inl (is (Bl ((x15 && (x11 == 3)) && (x10 != x14)))))], [(5, pb 23 [is (U8 a0_0), is (U8 a0_1)]), (12, pb 112 [is (Bl x2), is (I8 x3), is (I16 x4), is (U64 x5)]), (13, pb 112 [is (Bl x6), is (I8 x7), is (I16 x8), is (U64 x9)]), (14, pb 112 [is (Bl x10), is (I8 x11), is (I16 x12), is (U64 x13)])]⟩ ?_ ?_
                        · cases hb : x15 && (x11 == 3)
                          · skip
                            refine AL_cons (LR_off (b := false) rfl rfl rfl rfl) (sS (sT1 rfl) sB0 sF0) ?_
                            refine AL_cons (LR_off (b := false) rfl rfl rfl rfl) (sS (sT1 rfl) sB0 sF0) ?_
                            refine AL_cons (LR_off (b := false) rfl rfl rfl rfl) (sS (sT1 rfl) sB0 sF0) ?_
                            refine AL_cons (LR_off (b := false) rfl rfl rfl rfl) (sS (sT1 rfl) sB0 sF0) ?_
                            refine AL_cons (LR_pick (b := false) (at_tmp 94 _) (at_tmp 98 _) (at_c (v' := Bl false) rfl) rfl) (sS (sA (sT1 rfl) (sA (sT1 rfl) sT0)) sB0 sF0) ?_
                            exact AL_nil ⟨rfl, weak0 ((sT rfl (sT rfl (sT rfl (sT rfl (sT rfl (sT rfl (sT rfl (sT rfl (sT rfl (sT rfl (sT rfl (sT rfl (sT rfl (sT rfl sT0))))))))))))))) (sub_keep (sub_keep (sub_keep (sub_keep sub_nil))))⟩
                          · skip
                            refine AL_cons (LR_on rfl rfl rfl (LR_fieldAddr (off := 0) (o := 0) (at_tmp 14 _) (fun b w => fa112_0 b 0 w) rfl)) (sS (sT rfl (sT1 rfl)) sB0 sF0) ?_
                            refine AL_cons (LR_on rfl rfl rfl (LR_load (at_tmp 95 _) na4 rfl rfl)) (sS (sT rfl (sT1 rfl)) (sB1 rfl) sF0) ?_
                            refine AL_cons (LR_on rfl rfl rfl (LR_move (at_tmp 15 _) rfl)) (sS (sT rfl (sT1 rfl)) sB0 sF0) ?_
                            refine AL_cons (LR_on rfl rfl rfl (LR_bin (at_tmp 96 _) (at_tmp 97 _) (neq_Bl Hfaa.underlying4 x10 x14) rfl)) (sS (sT rfl (sA (sT1 rfl) (sT1 rfl))) sB0 sF0) ?_
                            refine AL_cons (LR_pick (b := true) (at_tmp 94 _) (at_tmp 98 _) (at_c (v' := Bl false) rfl) rfl) (sS (sA (sT1 rfl) (sA (sT1 rfl) sT0)) sB0 sF0) ?_
                            exact AL_nil ⟨rfl, weak0 ((sT rfl (sT rfl (sT rfl (sT rfl (sT rfl (sT rfl (sT rfl (sT rfl (sT rfl (sT rfl (sT rfl (sT rfl (sT rfl (sT rfl sT0))))))))))))))) (sub_keep (sub_keep (sub_keep (sub_keep sub_nil))))⟩
                        refine AL_cons (LR_assign (at_tmp 99 _) rfl) (sS (sT1 rfl) sB0 sF0) ?_
                        refine AL_nil ?_
                        exact thenN (cutLeaf (v := (x15 && (x11 == 3)) && (x10 != x14)) hr (weak0 ((sT rfl (sT rfl (sT rfl (sT rfl (sT rfl (sT rfl (sT rfl (sT rfl (sT rfl sT0)))))))))) (sub_keep (sub_keep (sub_keep (sub_keep sub_nil))))))
                  · rintro x18 hr
                    show AW Hfaa.prog _ _ _ ⟨[(1, .inl (is (U8 a1))), (5, .inr (.inl (5, 0))), (12, .inr (.inl (12, 0))), (13, .inr (.inl (13, 0))), (14, .inr (.inl (14, 0))), (15, .inl (is (Bl x14))), (16, .inl (is (Bl x15))), (17, .inl (is (Bl x16))), (83, .inl (is (Bl x18)))], [(5, pb 23 [is (U8 a0_0), is (U8 a0_1)]), (12, pb 112 [is (Bl x2), is (I8 x3), is (I16 x4), is (U64 x5)]), (13, pb 112 [is (Bl x6), is (I8 x7), is (I16 x8), is (U64 x9)]), (14, pb 112 [is (Bl x10), is (I8 x11), is (I16 x12), is (U64 x13)])]⟩
                    have hr : some r = F172_7 N a0_0 a0_1 a1 x2 x3 x4 x5 x6 x7 x8 x9 x10 x11 x12 x13 x14 x15 x16 x18 := hr
                    refine AW_condT (b := x18) rfl (fun h => ?_) (fun h => ?_)
                    · have hr := hr.trans (cond_t h)
                      clear h
                      refine AW_seq1 ?_
                      refine AW_region ?_
                      refine AL_cons (LR_loads (at_tmp 5 _) ag23 sz23 rfl rfl rfl) (sS (sT1 rfl) (sB1 rfl) sF0) ?_
                      obtain ⟨y28, hy28, hr⟩ := lt_some hr
                      refine AL_cons (LR_call Hfaa.func66 rfl rfl (C66 a0_0 a0_1 y28 hy28) (all_cons (at_tmp 100 _) all_nil) rfl) (sS (sA (sT1 rfl) sT0) sB0 sF0) ?_
                      refine AL_cons (LR_assign (at_tmp 101 _) rfl) (sS (sT1 rfl) sB0 sF0) ?_
                      refine AL_cons (LR_assign (at_c (v' := U8 (1#8)) rfl) rfl) (sS sT0 sB0 sF0) ?_
                      refine AL_nil ?_
                      refine thenN ?_
                      refine AW_ret ?_
                      refine blR ?_
                      refine thenR ?_
                      obtain rfl := Option.some.inj hr
                      exact res2 rfl (rvT rfl) (rvT rfl)
                    · have hr := hr.trans (cond_f h)
                      clear h
                      refine AW_seq1 ?_
                      refine AW_region ?_
                      refine AL_cons (LR_move (at_tmp 16 _) rfl) (sS (sT1 rfl) sB0 sF0) ?_
                      refine AL_cons (LR_assign (at_tmp 103 _) rfl) (sS (sT1 rfl) sB0 sF0) ?_
                      refine AL_nil ?_
                      refine thenN ?_
                      refine AW_condT (b := x15) rfl (fun h => ?_) (fun h => ?_)
                      · have hr := hr.trans (cond_t h)
                        clear h
                        refine AW_seq1 ?_
                        refine AW_region ?_
                        refine AL_cons (LR_loads (at_tmp 5 _) ag23 sz23 rfl rfl rfl) (sS (sT1 rfl) (sB1 rfl) sF0) ?_
                        refine AL_cons (LR_move (at_tmp 15 _) rfl) (sS (sT1 rfl) sB0 sF0) ?_
                        obtain ⟨y30, hy30, hr⟩ := lt_some hr
                        refine AL_cons (LR_call Hfaa.func67 rfl rfl (C67 a0_0 a0_1 x14 y30 hy30) (all_cons (at_tmp 104 _) (all_cons (at_tmp 105 _) all_nil)) rfl) (sS (sA (sT1 rfl) (sA (sT1 rfl) sT0)) sB0 sF0) ?_
                        refine AL_cons (LR_assign (at_tmp 106 _) rfl) (sS (sT1 rfl) sB0 sF0) ?_
                        refine AL_cons (LR_assign (at_c (v' := U8 (0#8)) rfl) rfl) (sS sT0 sB0 sF0) ?_
                        refine AL_nil ?_
                        refine thenN ?_
                        refine AW_ret ?_
                        refine blR ?_
                        refine thenR ?_
                        obtain rfl := Option.some.inj hr
                        exact res2 rfl (rvT rfl) (rvT rfl)
                      · have hr := hr.trans (cond_f h)
                        clear h
                        refine AW_cut (σ := Bool) (fun v => ⟨[(1, .inl (is (U8 a1))), (5, .inr (.inl (5, 0))), (12, .inr (.inl (12, 0))), (13, .inr (.inl (13, 0))), (14, .inr (.inl (14, 0))), (15, .inl (is (Bl x14))), (17, .inl (is (Bl x16))), (107, .inl (is (Bl v)))], [(5, pb 23 [is (U8 a0_0), is (U8 a0_1)]), (12, pb 112 [is (Bl x2), is (I8 x3), is (I16 x4), is (U64 x5)]), (13, pb 112 [is (Bl x6), is (I8 x7), is (I16 x8), is (U64 x9)]), (14, pb 112 [is (Bl x10), is (I8 x11), is (I16 x12), is (U64 x13)])]⟩) (fun v => some r = F172_8 N a0_0 a0_1 a1 x2 x3 x4 x5 x6 x7 x8 x9 x10 x11 x12 x13 x14 x16 v) ?_ ?_
                        · skip
                          refine AW_region ?_
                          refine AL_cons (LR_fieldAddr (off := 0) (o := 1) (at_tmp 14 _) (fun b w => fa112_1 b 0 w) rfl) (sS (sT1 rfl) sB0 sF0) ?_
                          refine AL_cons (LR_load (at_tmp 108 _) na110 rfl rfl) (sS (sT1 rfl) (sB1 rfl) sF0) ?_
                          refine AL_cons (LR_bin (at_tmp 109 _) (at_c (v' := I8 3) rfl) (eql_I8 x11 3) rfl) (sS (sA (sT1 rfl) sT0) sB0 sF0) ?_
                          refine AL_cons (LR_assign (at_tmp 110 _) rfl) (sS (sT1 rfl) sB0 sF0) ?_
                          refine AL_nil ?_
                          exact thenN (cutLeaf (v := x11 == 3) hr (weak0 ((sT rfl (sT rfl (sT rfl (sT rfl (sT rfl (sT rfl (sT rfl (sT rfl sT0))))))))) (sub_keep (sub_keep (sub_keep (sub_keep sub_nil))))))
                        · rintro x19 hr
                          show AW Hfaa.prog _ _ _ ⟨[(1, .inl (is (U8 a1))), (5, .inr (.inl (5, 0))), (12, .inr (.inl (12, 0))), (13, .inr (.inl (13, 0))), (14, .inr (.inl (14, 0))), (15, .inl (is (Bl x14))), (17, .inl (is (Bl x16))), (107, .inl (is (Bl x19)))], [(5, pb 23 [is (U8 a0_0), is (U8 a0_1)]), (12, pb 112 [is (Bl x2), is (I8 x3), is (I16 x4), is (U64 x5)]), (13, pb 112 [is (Bl x6), is (I8 x7), is (I16 x8), is (U64 x9)]), (14, pb 112 [is (Bl x10), is (I8 x11), is (I16 x12), is (U64 x13)])]⟩
                          have hr : some r = F172_8 N a0_0 a0_1 a1 x2 x3 x4 x5 x6 x7 x8 x9 x10 x11 x12 x13 x14 x16 x19 := hr
                          refine AW_condT (b := x19) rfl (fun h => ?_) (fun h => ?_)
                          · have hr := hr.trans (cond_t h)
                            clear h
                            refine AW_seq1 ?_
                            refine AW_region ?_
                            refine AL_cons (LR_loads (at_tmp 5 _) ag23 sz23 rfl rfl rfl) (sS (sT1 rfl) (sB1 rfl) sF0) ?_
                            refine AL_cons (LR_fieldAddr (off := 0) (o := 0) (at_tmp 14 _) (fun b w => fa112_0 b 0 w) rfl) (sS (sT1 rfl) sB0 sF0) ?_
                            refine AL_cons (LR_load (at_tmp 112 _) na4 rfl rfl) (sS (sT1 rfl) (sB1 rfl) sF0) ?_
                            obtain ⟨y32, hy32, hr⟩ := lt_some hr
                            refine AL_cons (LR_call Hfaa.func67 rfl rfl (C67 a0_0 a0_1 x10 y32 hy32) (all_cons (at_tmp 111 _) (all_cons (at_tmp 113 _) all_nil)) rfl) (sS (sA (sT1 rfl) (sA (sT1 rfl) sT0)) sB0 sF0) ?_
                            refine AL_cons (LR_assign (at_tmp 114 _) rfl) (sS (sT1 rfl) sB0 sF0) ?_
                            refine AL_cons (LR_assign (at_c (v' := U8 (0#8)) rfl) rfl) (sS sT0 sB0 sF0) ?_
                            refine AL_nil ?_
                            refine thenN ?_
                            refine AW_ret ?_
                            refine blR ?_
                            refine thenR ?_
                            obtain rfl := Option.some.inj hr
                            exact res2 rfl (rvT rfl) (rvT rfl)
                          · have hr := hr.trans (cond_f h)
                            clear h
                            refine AW_seq1 ?_
                            refine AW_region ?_
                            refine AL_cons (LR_move (at_tmp 17 _) rfl) (sS (sT1 rfl) sB0 sF0) ?_
                            refine AL_cons (LR_assign (at_tmp 116 _) rfl) (sS (sT1 rfl) sB0 sF0) ?_
                            refine AL_nil ?_
                            refine thenN ?_
                            refine AW_condT (b := x16) rfl (fun h => ?_) (fun h => ?_)
                            · have hr := hr.trans (cond_t h)
                              clear h
                              refine AW_seq1 ?_
                              refine AW_region ?_
                              refine AL_cons (LR_loads (at_tmp 5 _) ag23 sz23 rfl rfl rfl) (sS (sT1 rfl) (sB1 rfl) sF0) ?_
                              refine AL_cons (LR_move (at_tmp 1 _) rfl) (sS (sT1 rfl) sB0 sF0) ?_
                              refine AL_cons (LR_move (at_tmp 15 _) rfl) (sS (sT1 rfl) sB0 sF0) ?_
                              refine AL_cons (bl112 (parts_cons (i := 0) (off := 0) (at_tmp 119 _) (cells_one (one_is rfl)) rfl rfl parts_nil) rfl rfl) (sS (sA (sT1 rfl) sT0) sB0 sF0) ?_
                              refine AL_cons (LR_loads (at_tmp 14 _) ag112 sz112 rfl rfl rfl) (sS (sT1 rfl) (sB1 rfl) sF0) ?_
                              obtain ⟨y34, hy34, hr⟩ := bind_some hr
                              refine AL_cons (LR_call Hfaa.func271 rfl rfl (C271 N a0_0 a0_1 a1 x14 0 0 (0#64) x10 x11 x12 x13 y34 hy34) (all_cons (at_tmp 117 _) (all_cons (at_tmp 118 _) (all_cons (at_tmp 120 _) (all_cons (at_tmp 121 _) all_nil)))) rfl) (sS (sA (sT1 rfl) (sA (sT1 rfl) (sA (sT1 rfl) (sA (sT1 rfl) sT0)))) sB0 sF0) ?_
                              refine AL_cons (LR_extract (at_tmp 122 _) rfl rfl) (sS (sT1 rfl) sB0 sF0) ?_
                              refine AL_cons (LR_extract (at_tmp 122 _) rfl rfl) (sS (sT1 rfl) sB0 sF0) ?_
                              refine AL_cons (LR_assign (at_tmp 123 _) rfl) (sS (sT1 rfl) sB0 sF0) ?_
                              refine AL_cons (LR_assign (at_tmp 124 _) rfl) (sS (sT1 rfl) sB0 sF0) ?_
                              refine AL_nil ?_
                              refine thenN ?_
                              refine AW_ret ?_
                              refine blR ?_
                              refine thenR ?_
                              obtain rfl := Option.some.inj hr
                              exact res2 rfl (rvT rfl) (rvT rfl)
                            · have hr := hr.trans (cond_f h)
                              clear h
                              refine AW_skip ?_
                              refine blN ?_
                              refine thenN ?_
                              refine AW_cut (σ := BitVec 64 × Int) (fun v => ⟨[(1, .inl (is (U8 a1))), (5, .inr (.inl (5, 0))), (13, .inr (.inl (13, 0))), (14, .inr (.inl (14, 0))), (15, .inl (is (Bl x14))), (18, .inl (is (U64 v.1))), (19, .inl (is (I16 v.2)))], [(5, pb 23 [is (U8 a0_0), is (U8 a0_1)]), (13, pb 112 [is (Bl x6), is (I8 x7), is (I16 x8), is (U64 x9)]), (14, pb 112 [is (Bl x10), is (I8 x11), is (I16 x12), is (U64 x13)])]⟩) (fun v => some r = F172_9 N a0_0 a0_1 a1 x6 x7 x8 x9 x10 x11 x12 x13 x14 v.1 v.2) ?_ ?_
                              · skip
                                refine AW_region ?_
                                refine AL_cons (LR_loads (at_tmp 5 _) ag23 sz23 rfl rfl rfl) (sS (sT1 rfl) (sB1 rfl) sF0) ?_
                                refine AL_cons (LR_loads (at_tmp 12 _) ag112 sz112 rfl rfl rfl) (sS (sT1 rfl) (sB1 rfl) sF0) ?_
                                obtain ⟨y54, hy54, hr⟩ := lt_some hr
                                refine AL_cons (LR_call Hfaa.func260 rfl rfl (C260 a0_0 a0_1 x2 x3 x4 x5 y54 hy54) (all_cons (at_tmp 126 _) (all_cons (at_tmp 127 _) all_nil)) rfl) (sS (sA (sT1 rfl) (sA (sT1 rfl) sT0)) sB0 sF0) ?_
                                refine AL_cons (LR_move (at_tmp 128 _) rfl) (sS (sT1 rfl) sB0 sF0) ?_
                                refine AL_cons (LR_extract (at_tmp 125 _) rfl rfl) (sS (sT1 rfl) sB0 sF0) ?_
                                refine AL_cons (LR_extract (at_tmp 125 _) rfl rfl) (sS (sT1 rfl) sB0 sF0) ?_
                                refine AL_cons (LR_assign (at_tmp 129 _) rfl) (sS (sT1 rfl) sB0 sF0) ?_
                                refine AL_cons (LR_assign (at_tmp 130 _) rfl) (sS (sT1 rfl) sB0 sF0) ?_
                                refine AL_nil ?_
                                exact thenN (cutLeaf (v := (y54.1, y54.2)) hr (weak0 ((sT rfl (sT rfl (sT rfl (sT rfl (sT rfl (sT rfl (sT rfl sT0)))))))) (sub_keep (sub_drop (sub_keep (sub_keep sub_nil))))))
                              · rintro ⟨x20, x21⟩ hr
                                show AW Hfaa.prog _ _ _ ⟨[(1, .inl (is (U8 a1))), (5, .inr (.inl (5, 0))), (13, .inr (.inl (13, 0))), (14, .inr (.inl (14, 0))), (15, .inl (is (Bl x14))), (18, .inl (is (U64 x20))), (19, .inl (is (I16 x21)))], [(5, pb 23 [is (U8 a0_0), is (U8 a0_1)]), (13, pb 112 [is (Bl x6), is (I8 x7), is (I16 x8), is (U64 x9)]), (14, pb 112 [is (Bl x10), is (I8 x11), is (I16 x12), is (U64 x13)])]⟩
                                have hr : some r = F172_9 N a0_0 a0_1 a1 x6 x7 x8 x9 x10 x11 x12 x13 x14 x20 x21 := hr
                                refine AW_cut (σ := BitVec 64 × Int) (fun v => ⟨[(1, .inl (is (U8 a1))), (5, .inr (.inl (5, 0))), (14, .inr (.inl (14, 0))), (15, .inl (is (Bl x14))), (18, .inl (is (U64 x20))), (19, .inl (is (I16 x21))), (20, .inl (is (U64 v.1))), (21, .inl (is (I16 v.2)))], [(5, pb 23 [is (U8 a0_0), is (U8 a0_1)]), (14, pb 112 [is (Bl x10), is (I8 x11), is (I16 x12), is (U64 x13)])]⟩) (fun v => some r = F172_10 N a0_0 a0_1 a1 x10 x11 x12 x13 x14 x20 x21 v.1 v.2) ?_ ?_
                                · skip
                                  refine AW_region ?_
                                  refine AL_cons (LR_loads (at_tmp 5 _) ag23 sz23 rfl rfl rfl) (sS (sT1 rfl) (sB1 rfl) sF0) ?_
                                  refine AL_cons (LR_loads (at_tmp 13 _) ag112 sz112 rfl rfl rfl) (sS (sT1 rfl) (sB1 rfl) sF0) ?_
                                  obtain ⟨y53, hy53, hr⟩ := lt_some hr
                                  refine AL_cons (LR_call Hfaa.func260 rfl rfl (C260 a0_0 a0_1 x6 x7 x8 x9 y53 hy53) (all_cons (at_tmp 132 _) (all_cons (at_tmp 133 _) all_nil)) rfl) (sS (sA (sT1 rfl) (sA (sT1 rfl) sT0)) sB0 sF0) ?_
                                  refine AL_cons (LR_move (at_tmp 134 _) rfl) (sS (sT1 rfl) sB0 sF0) ?_
                                  refine AL_cons (LR_extract (at_tmp 131 _) rfl rfl) (sS (sT1 rfl) sB0 sF0) ?_
                                  refine AL_cons (LR_extract (at_tmp 131 _) rfl rfl) (sS (sT1 rfl) sB0 sF0) ?_
                                  refine AL_cons (LR_assign (at_tmp 135 _) rfl) (sS (sT1 rfl) sB0 sF0) ?_
                                  refine AL_cons (LR_assign (at_tmp 136 _) rfl) (sS (sT1 rfl) sB0 sF0) ?_
                                  refine AL_nil ?_
                                  exact thenN (cutLeaf (v := (y53.1, y53.2)) hr (weak0 ((sT rfl (sT rfl (sT rfl (sT rfl (sT rfl (sT rfl (sT rfl (sT rfl sT0))))))))) (sub_keep (sub_drop (sub_keep sub_nil)))))
                                · rintro ⟨x22, x23⟩ hr
                                  show AW Hfaa.prog _ _ _ ⟨[(1, .inl (is (U8 a1))), (5, .inr (.inl (5, 0))), (14, .inr (.inl (14, 0))), (15, .inl (is (Bl x14))), (18, .inl (is (U64 x20))), (19, .inl (is (I16 x21))), (20, .inl (is (U64 x22))), (21, .inl (is (I16 x23)))], [(5, pb 23 [is (U8 a0_0), is (U8 a0_1)]), (14, pb 112 [is (Bl x10), is (I8 x11), is (I16 x12), is (U64 x13)])]⟩
                                  have hr : some r = F172_10 N a0_0 a0_1 a1 x10 x11 x12 x13 x14 x20 x21 x22 x23 := hr
                                  refine AW_cut (σ := Int × BitVec 64 × BitVec 64) (fun v => ⟨[(1, .inl (is (U8 a1))), (5, .inr (.inl (5, 0))), (14, .inr (.inl (14, 0))), (15, .inl (is (Bl x14))), (22, .inr (.inl (22, 0)))], [(5, pb 23 [is (U8 a0_0), is (U8 a0_1)]), (14, pb 112 [is (Bl x10), is (I8 x11), is (I16 x12), is (U64 x13)]), (22, pb 272 [is (Bl x14), is (I16 v.1), is (U64 v.2.1), is (U64 v.2.2)])]⟩) (fun v => some r = F172_11 N a0_0 a0_1 a1 x10 x11 x12 x13 x14 v.1 v.2.1 v.2.2) ?_ ?_
                                  · skip
                                    refine AW_region ?_
                                    refine AL_cons (LR_move (at_tmp 15 _) rfl) (sS (sT1 rfl) sB0 sF0) ?_
                                    refine AL_cons (LR_move (at_tmp 19 _) rfl) (sS (sT1 rfl) sB0 sF0) ?_
                                    refine AL_cons (LR_move (at_tmp 21 _) rfl) (sS (sT1 rfl) sB0 sF0) ?_
                                    refine AL_cons (LR_bin (at_tmp 138 _) (at_tmp 139 _) (add_I16 x21 x23) rfl) (sS (sA (sT1 rfl) (sT1 rfl)) sB0 sF0) ?_
                                    refine AL_cons (LR_bin (at_tmp 140 _) (at_c (v' := I16 1) rfl) (add_I16 (w16 (x21 + x23)) 1) rfl) (sS (sA (sT1 rfl) sT0) sB0 sF0) ?_
                                    refine AL_cons (LR_move (at_tmp 18 _) rfl) (sS (sT1 rfl) sB0 sF0) ?_
                                    refine AL_cons (LR_move (at_tmp 20 _) rfl) (sS (sT1 rfl) sB0 sF0) ?_
                                    obtain ⟨y51, hy51, hr⟩ := lt_some hr
                                    refine AL_cons (LR_call Hfaa.func165 rfl rfl (C165 x20 x22 y51 hy51) (all_cons (at_tmp 142 _) (all_cons (at_tmp 143 _) all_nil)) rfl) (sS (sA (sT1 rfl) (sA (sT1 rfl) sT0)) sB0 sF0) ?_
                                    obtain ⟨y52, hy52, hr⟩ := lt_some hr
                                    refine AL_cons (LR_call Hfaa.func217 rfl rfl (C217 y51.1 y51.2 (1#8) y52 hy52) (all_cons (at_tmp 144 _) (all_cons (at_c (v' := U8 (1#8)) rfl) all_nil)) rfl) (sS (sA (sT1 rfl) (sA sT0 sT0)) sB0 sF0) ?_
                                    refine AL_cons (bl272 (parts_cons (i := 0) (off := 0) (at_tmp 137 _) (cells_one (one_is rfl)) rfl rfl (parts_cons (i := 1) (off := 1) (at_tmp 141 _) (cells_one (one_is rfl)) rfl rfl (parts_cons (i := 2) (off := 2) (at_tmp 145 _) (cells_agg _) rfl rfl parts_nil))) rfl rfl) (sS (sA (sT1 rfl) (sA (sT1 rfl) (sA (sT1 rfl) sT0))) sB0 sF0) ?_
                                    refine AL_cons (zl272 rfl) (sS sT0 sB0 (sF1 rfl)) ?_
                                    refine AL_cons (LR_store (at_tmp 22 _) (at_tmp 146 _) (cells_agg _) (onC (one_is rfl) (onC (one_is rfl) (onC (one_is rfl) (onC (one_is rfl) onN)))) sz272 rfl rfl) (sS (sA (sT1 rfl) (sT1 rfl)) (sB1 rfl) sF0) ?_
                                    refine AL_nil ?_
                                    exact thenN (cutLeaf (v := (w16 ((w16 (x21 + x23)) + 1), y52.1, y52.2)) hr (weak0 ((sT rfl (sT rfl (sT rfl (sT rfl (sT rfl sT0)))))) (sub_keep (sub_keep (sub_keep sub_nil)))))
                                  · rintro ⟨x24, x25, x26⟩ hr
                                    show AW Hfaa.prog _ _ _ ⟨[(1, .inl (is (U8 a1))), (5, .inr (.inl (5, 0))), (14, .inr (.inl (14, 0))), (15, .inl (is (Bl x14))), (22, .inr (.inl (22, 0)))], [(5, pb 23 [is (U8 a0_0), is (U8 a0_1)]), (14, pb 112 [is (Bl x10), is (I8 x11), is (I16 x12), is (U64 x13)]), (22, pb 272 [is (Bl x14), is (I16 x24), is (U64 x25), is (U64 x26)])]⟩
                                    have hr : some r = F172_11 N a0_0 a0_1 a1 x10 x11 x12 x13 x14 x24 x25 x26 := hr
                                    refine AW_seq1 ?_
                                    refine AW_cut (σ := Bool) (fun v => ⟨[(1, .inl (is (U8 a1))), (5, .inr (.inl (5, 0))), (14, .inr (.inl (14, 0))), (15, .inl (is (Bl x14))), (22, .inr (.inl (22, 0))), (149, .inl (is (Bl v)))], [(5, pb 23 [is (U8 a0_0), is (U8 a0_1)]), (14, pb 112 [is (Bl x10), is (I8 x11), is (I16 x12), is (U64 x13)]), (22, pb 272 [is (Bl x14), is (I16 x24), is (U64 x25), is (U64 x26)])]⟩) (fun v => some r = F172_12 N a0_0 a0_1 a1 x10 x11 x12 x13 x14 x24 x25 x26 v) ?_ ?_
                                    · skip
                                      refine AW_region ?_
                                      refine AL_cons (LR_fieldAddr (off := 0) (o := 1) (at_tmp 14 _) (fun b w => fa112_1 b 0 w) rfl) (sS (sT1 rfl) sB0 sF0) ?_
                                      refine AL_cons (LR_load (at_tmp 147 _) na110 rfl rfl) (sS (sT1 rfl) (sB1 rfl) sF0) ?_
                                      refine AL_cons (LR_bin (at_tmp 148 _) (at_c (v' := I8 0) rfl) (eql_I8 x11 0) rfl) (sS (sA (sT1 rfl) sT0) sB0 sF0) ?_
                                      refine AL_nil ?_
                                      exact thenN (cutLeaf (v := x11 == 0) hr (weak0 ((sT rfl (sT rfl (sT rfl (sT rfl (sT rfl (sT rfl sT0))))))) (sub_keep (sub_keep (sub_keep sub_nil)))))
                                    · rintro x27 hr
                                      show AW Hfaa.prog _ _ _ ⟨[(1, .inl (is (U8 a1))), (5, .inr (.inl (5, 0))), (14, .inr (.inl (14, 0))), (15, .inl (is (Bl x14))), (22, .inr (.inl (22, 0))), (149, .inl (is (Bl x27)))], [(5, pb 23 [is (U8 a0_0), is (U8 a0_1)]), (14, pb 112 [is (Bl x10), is (I8 x11), is (I16 x12), is (U64 x13)]), (22, pb 272 [is (Bl x14), is (I16 x24), is (U64 x25), is (U64 x26)])]⟩
                                      have hr : some r = F172_12 N a0_0 a0_1 a1 x10 x11 x12 x13 x14 x24 x25 x26 x27 := hr
                                      refine AW_condT (b := x27) rfl (fun h => ?_) (fun h => ?_)
                                      · have hr := hr.trans (cond_t h)
                                        clear h
                                        refine AW_cut (σ := BitVec 64 × Int) (fun v => ⟨[(1, .inl (is (U8 a1))), (5, .inr (.inl (5, 0))), (15, .inl (is (Bl x14))), (23, .inl (is (U64 v.1))), (24, .inl (is (I16 v.2)))], [(5, pb 23 [is (U8 a0_0), is (U8 a0_1)])]⟩) (fun v => some r = F172_13 N a0_0 a0_1 a1 x14 v.1 v.2) ?_ ?_
                                        · skip
                                          refine AW_region ?_
                                          refine AL_cons (LR_fieldAddr (off := 0) (o := 2) (at_tmp 22 _) (fun b w => fa272_2 b 0 w) rfl) (sS (sT1 rfl) sB0 sF0) ?_
                                          refine AL_cons (LR_loads (at_tmp 151 _) ag42 sz42 rfl rfl rfl) (sS (sT1 rfl) (sB1 rfl) sF0) ?_
                                          refine AL_cons (LR_fieldAddr (off := 0) (o := 1) (at_tmp 22 _) (fun b w => fa272_1 b 0 w) rfl) (sS (sT1 rfl) sB0 sF0) ?_
                                          refine AL_cons (LR_load (at_tmp 153 _) na44 rfl rfl) (sS (sT1 rfl) (sB1 rfl) sF0) ?_
                                          obtain ⟨y46, hy46, hr⟩ := bind_some hr
                                          refine AL_cons (LR_call Hfaa.func272 rfl rfl (C272 N x25 x26 x24 y46 hy46) (all_cons (at_tmp 152 _) (all_cons (at_tmp 154 _) all_nil)) rfl) (sS (sA (sT1 rfl) (sA (sT1 rfl) sT0)) sB0 sF0) ?_
                                          refine AL_cons (LR_move (at_tmp 155 _) rfl) (sS (sT1 rfl) sB0 sF0) ?_
                                          refine AL_cons (LR_extract (at_tmp 150 _) rfl rfl) (sS (sT1 rfl) sB0 sF0) ?_
                                          refine AL_cons (LR_extract (at_tmp 150 _) rfl rfl) (sS (sT1 rfl) sB0 sF0) ?_
                                          refine AL_cons (LR_assign (at_tmp 156 _) rfl) (sS (sT1 rfl) sB0 sF0) ?_
                                          refine AL_cons (LR_assign (at_tmp 157 _) rfl) (sS (sT1 rfl) sB0 sF0) ?_
                                          refine AL_nil ?_
                                          exact thenN (cutLeaf (v := (y46.1, y46.2)) hr (weak0 ((sT rfl (sT rfl (sT rfl (sT rfl (sT rfl sT0)))))) (sub_keep (sub_drop (sub_drop sub_nil)))))
                                        · rintro ⟨x28, x29⟩ hr
                                          show AW Hfaa.prog _ _ _ ⟨[(1, .inl (is (U8 a1))), (5, .inr (.inl (5, 0))), (15, .inl (is (Bl x14))), (23, .inl (is (U64 x28))), (24, .inl (is (I16 x29)))], [(5, pb 23 [is (U8 a0_0), is (U8 a0_1)])]⟩
                                          have hr : some r = F172_13 N a0_0 a0_1 a1 x14 x28 x29 := hr
                                          refine AW_seq1 ?_
                                          refine AW_region ?_
                                          refine AL_cons (LR_loads (at_tmp 5 _) ag23 sz23 rfl rfl rfl) (sS (sT1 rfl) (sB1 rfl) sF0) ?_
                                          refine AL_cons (LR_move (at_tmp 1 _) rfl) (sS (sT1 rfl) sB0 sF0) ?_
                                          refine AL_cons (LR_move (at_tmp 15 _) rfl) (sS (sT1 rfl) sB0 sF0) ?_
                                          refine AL_cons (LR_move (at_tmp 24 _) rfl) (sS (sT1 rfl) sB0 sF0) ?_
                                          refine AL_cons (LR_move (at_tmp 23 _) rfl) (sS (sT1 rfl) sB0 sF0) ?_
                                          obtain ⟨y45, hy45, hr⟩ := bind_some hr
                                          refine AL_cons (LR_call Hfaa.func215 rfl rfl (C215 N a0_0 a0_1 a1 x14 x29 x28 y45 hy45) (all_cons (at_tmp 158 _) (all_cons (at_tmp 159 _) (all_cons (at_tmp 160 _) (all_cons (at_tmp 161 _) (all_cons (at_tmp 162 _) all_nil))))) rfl) (sS (sA (sT1 rfl) (sA (sT1 rfl) (sA (sT1 rfl) (sA (sT1 rfl) (sA (sT1 rfl) sT0))))) sB0 sF0) ?_
                                          refine AL_cons (LR_extract (at_tmp 163 _) rfl rfl) (sS (sT1 rfl) sB0 sF0) ?_
                                          refine AL_cons (LR_extract (at_tmp 163 _) rfl rfl) (sS (sT1 rfl) sB0 sF0) ?_
                                          refine AL_cons (LR_assign (at_tmp 164 _) rfl) (sS (sT1 rfl) sB0 sF0) ?_
                                          refine AL_cons (LR_assign (at_tmp 165 _) rfl) (sS (sT1 rfl) sB0 sF0) ?_
                                          refine AL_nil ?_
                                          refine thenN ?_
                                          refine AW_ret ?_
                                          refine thenR ?_
                                          obtain rfl := Option.some.inj hr
                                          exact res2 rfl (rvT rfl) (rvT rfl)
                                      · have hr := hr.trans (cond_f h)
                                        clear h
                                        refine AW_skip ?_
                                        refine thenN ?_
                                        refine AW_seq1 ?_
                                        obtain ⟨y49, hy49, hr⟩ := lt_some hr
                                        obtain ⟨y50, hy50, hr⟩ := bind_some hr
                                        refine AW_draw mixed
                                          (lrC (LR_loads (at_tmp 5 _) ag23 sz23 rfl rfl rfl)
                                          (lrC (LR_move (at_tmp 1 _) rfl)
                                          (lrC (LR_loads (at_tmp 22 _) ag272 sz272 rfl rfl rfl)
                                          (lrC (LR_loads (at_tmp 5 _) ag23 sz23 rfl rfl rfl)
                                          (lrC (LR_loads (at_tmp 14 _) ag112 sz112 rfl rfl rfl)
                                          (lrC (LR_call Hfaa.func274 rfl rfl (C274 a0_0 a0_1 x10 x11 x12 x13 y49 hy49) (all_cons (at_tmp 169 _) (all_cons (at_tmp 170 _) all_nil)) rfl)
                                          (lrC (LR_call Hfaa.func273 rfl rfl (C273 N a0_0 a0_1 a1 x14 x24 x25 x26 y49.1 y49.2.1 y49.2.2.1 y49.2.2.2 y50 hy50) (all_cons (at_tmp 166 _) (all_cons (at_tmp 167 _) (all_cons (at_tmp 168 _) (all_cons (at_tmp 171 _) all_nil)))) rfl)
                                          (lrC (LR_extract (at_tmp 172 _) rfl rfl)
                                          (lrC (LR_extract (at_tmp 172 _) rfl rfl)
                                          (lrC (LR_assign (at_tmp 173 _) rfl)
                                          (lrC (LR_assign (at_tmp 174 _) rfl)
                                          lrN)))))))))))
                                          (by kernel_rfl)
                                          (saC (sS (sT1 rfl) (sB1 rfl) sF0) (saC (sS (sT1 rfl) sB0 sF0) (saC (sS (sT1 rfl) (sB1 rfl) sF0) (saC (sS (sT1 rfl) (sB1 rfl) sF0) (saC (sS (sT1 rfl) (sB1 rfl) sF0) (saC (sS (sA (sT1 rfl) (sA (sT1 rfl) sT0)) sB0 sF0) (saC (sS (sA (sT1 rfl) (sA (sT1 rfl) (sA (sT1 rfl) (sA (sT1 rfl) sT0)))) sB0 sF0) (saC (sS (sT1 rfl) sB0 sF0) (saC (sS (sT1 rfl) sB0 sF0) (saC (sS (sT1 rfl) sB0 sF0) (saC (sS (sT1 rfl) sB0 sF0) saN))))))))))) ?_
                                        refine thenN ?_
                                        refine AW_ret ?_
                                        obtain rfl := Option.some.inj hr
                                        exact res2 rfl (rvT rfl) (rvT rfl)
end Go.Proofs.YfwaawGreat
