import Derived.Test.YfwaawGreatG1
import Derived.Test.YfwaawGreatG8
import Derived.Test.YfwaawGreatG9
import Derived.Test.YfwaawGreatG41
import Derived.Test.YfwaawGreatG42
namespace Go.Proofs.YfwaawGreat
open Go.Aw
set_option linter.unusedVariables false
set_option maxRecDepth 100000
set_option maxHeartbeats 1000000
/-- ryu.Shortest -/
def F94_16 (N : Nat) (x20 : Bool) (x21 : List UInt8) (x22 : Int) : Option (Bool × List UInt8 × Int) := some (x20, x21, x22)
def F94_15 (N : Nat) (x2 : Bool) (x7 : Int) (x18 : BitVec 64) (x19 : Int) : Option (Bool × List UInt8 × Int) := (F170 N (w64 (x18.toNat : Int))).bind fun y13 => lt (F171 x7) fun y14 => (F39 N x2 y13 (w64 (w16 ((w16 (y14 - 1)) + x19)))).bind fun y15 => F94_16 N y15.1 y15.2.1 y15.2.2.1
def F94_14 (N : Nat) (x2 : Bool) (x7 : Int) (x10 : BitVec 64) (x11 : Bool) (x14 : BitVec 64) (x15 : Bool) (x16 : Bool) (x17 : BitVec 64) : Option (Bool × List UInt8 × Int) := (F169 N x14 x10 x17 x15 x11 x16 (0#64)).bind fun y16 => F94_15 N x2 x7 y16.1 y16.2.1
def F94_17 (N : Nat) (x2 : Bool) (x7 : Int) (x10 : BitVec 64) (x11 : Bool) (x13 : BitVec 64) (x14 : BitVec 64) (x15 : Bool) (x16 : Bool) (x23 : Bool) : Option (Bool × List UInt8 × Int) := bif x23 then F94_14 N x2 x7 x10 x11 x14 x15 x16 (x13 - (1#64)) else F94_14 N x2 x7 x10 x11 x14 x15 x16 x13
def F94_13 (N : Nat) (x2 : Bool) (x7 : Int) (x10 : BitVec 64) (x11 : Bool) (x12 : Bool) (x13 : BitVec 64) (x14 : BitVec 64) (x15 : Bool) (x16 : Bool) : Option (Bool × List UInt8 × Int) := F94_17 N x2 x7 x10 x11 x13 x14 x15 x16 (x12 && (!x16))
def F94_12 (N : Nat) (x2 : Bool) (x7 : Int) (x8 : BitVec 64) (x10 : BitVec 64) (x11 : Bool) (x12 : Bool) (x13 : BitVec 64) (x14 : BitVec 64) (x15 : Bool) : Option (Bool × List UInt8 × Int) := F94_13 N x2 x7 x10 x11 x12 x13 x14 x15 ((x8 &&& (1#64)) == (0#64))
def F94_11 (N : Nat) (a0 : Tab) (x2 : Bool) (x7 : Int) (x8 : BitVec 64) (x9 : BitVec 64) (x10 : BitVec 64) (x11 : Bool) (x12 : Bool) (x13 : BitVec 64) : Option (Bool × List UInt8 × Int) := (F117 N a0 (((4#64) * x8) - x9) x7).bind fun y17 => F94_12 N x2 x7 x8 x10 x11 x12 x13 y17.1 y17.2
def F94_10 (N : Nat) (a0 : Tab) (x2 : Bool) (x7 : Int) (x8 : BitVec 64) (x9 : BitVec 64) (x10 : BitVec 64) (x11 : Bool) : Option (Bool × List UInt8 × Int) := (F117 N a0 (((4#64) * x8) + (2#64)) x7).bind fun y18 => F94_11 N a0 x2 x7 x8 x9 x10 x11 y18.2 y18.1
def F94_9 (N : Nat) (a0 : Tab) (x2 : Bool) (x7 : Int) (x8 : BitVec 64) (x9 : BitVec 64) : Option (Bool × List UInt8 × Int) := (F117 N a0 ((4#64) * x8) x7).bind fun y19 => F94_10 N a0 x2 x7 x8 x9 y19.1 y19.2
def F94_18 (N : Nat) (a0 : Tab) (x2 : Bool) (x7 : Int) (x8 : BitVec 64) (x24 : Bool) : Option (Bool × List UInt8 × Int) := bif x24 then F94_9 N a0 x2 x7 x8 (1#64) else F94_9 N a0 x2 x7 x8 (2#64)
def F94_8 (N : Nat) (a0 : Tab) (x2 : Bool) (x3 : Int) (x4 : BitVec 64) (x7 : Int) (x8 : BitVec 64) : Option (Bool × List UInt8 × Int) := F94_18 N a0 x2 x7 x8 ((x4 == (0#64)) && (decide (x3 > 1)))
def F94_19 (N : Nat) (a0 : Tab) (a1_0 : BitVec 8) (a1_1 : BitVec 8) (x2 : Bool) (x3 : Int) (x4 : BitVec 64) (x7 : Int) (x25 : Bool) : Option (Bool × List UInt8 × Int) := bif x25 then F94_8 N a0 x2 x3 x4 x7 (x4 ||| ((1#64) <<< a1_1.toNat)) else F94_8 N a0 x2 x3 x4 x7 x4
def F94_7 (N : Nat) (a0 : Tab) (a1_0 : BitVec 8) (a1_1 : BitVec 8) (x2 : Bool) (x3 : Int) (x4 : BitVec 64) (x7 : Int) : Option (Bool × List UInt8 × Int) := F94_19 N a0 a1_0 a1_1 x2 x3 x4 x7 (decide (x3 > 0))
def F94_6 (N : Nat) (a0 : Tab) (a1_0 : BitVec 8) (a1_1 : BitVec 8) (x2 : Bool) (x3 : Int) (x4 : BitVec 64) (x6 : Bool) : Option (Bool × List UInt8 × Int) := bif x6 then some ((x2, ([] : List UInt8), 0)) else lt (F71 a1_0 a1_1) fun y20 => F94_7 N a0 a1_0 a1_1 x2 x3 x4 (w16 ((w16 ((w16 ((max x3 1) - y20)) - (w16 (a1_1.toNat : Int)))) - 2))
def F94_5 (N : Nat) (a0 : Tab) (a1_0 : BitVec 8) (a1_1 : BitVec 8) (x2 : Bool) (x3 : Int) (x4 : BitVec 64) (x5 : Bool) : Option (Bool × List UInt8 × Int) := bif x5 then some ((false, ([] : List UInt8), 0)) else F94_6 N a0 a1_0 a1_1 x2 x3 x4 ((x3 == 0) && (x4 == (0#64)))
def F94_4 (N : Nat) (a0 : Tab) (a1_0 : BitVec 8) (a1_1 : BitVec 8) (x2 : Bool) (x3 : Int) (x4 : BitVec 64) : Option (Bool × List UInt8 × Int) := F94_5 N a0 a1_0 a1_1 x2 x3 x4 (x3 == (w16 ((w16 (1 * 2 ^ (min a1_0.toNat 16))) - 1)))
def F94_3 (N : Nat) (a0 : Tab) (a1_0 : BitVec 8) (a1_1 : BitVec 8) (a2 : BitVec 64) (x2 : Bool) (x3 : Int) : Option (Bool × List UInt8 × Int) := F94_4 N a0 a1_0 a1_1 x2 x3 (a2 &&& (((1#64) <<< a1_1.toNat) - (1#64)))
def F94_2 (N : Nat) (a0 : Tab) (a1_0 : BitVec 8) (a1_1 : BitVec 8) (a2 : BitVec 64) (x2 : Bool) : Option (Bool × List UInt8 × Int) := F94_3 N a0 a1_0 a1_1 a2 x2 (w16 (((a2 >>> a1_1.toNat) &&& (((1#64) <<< a1_0.toNat) - (1#64))).toNat : Int))
def F94_1 (N : Nat) (a0 : Tab) (a1_0 : BitVec 8) (a1_1 : BitVec 8) (a2 : BitVec 64) (x1 : Bool) : Option (Bool × List UInt8 × Int) := bif x1 then some ((false, ([] : List UInt8), 0)) else lt (F70 a1_0 a1_1) fun y21 => F94_2 N a0 a1_0 a1_1 a2 ((a2 &&& y21) != (0#64))
def F94 (N : Nat) (a0 : Tab) (a1_0 : BitVec 8) (a1_1 : BitVec 8) (a2 : BitVec 64) : Option (Bool × List UInt8 × Int) := lt (F40 a1_0 a1_1) fun y22 => F94_1 N a0 a1_0 a1_1 a2 (!y22)
theorem C94 (N : Nat) (a0 : Tab) (a1_0 : BitVec 8) (a1_1 : BitVec 8) (a2 : BitVec 64) (r : Bool × List UInt8 × Int) (hr : some r = F94 N a0 a1_0 a1_1 a2) : Aw.Fn Hfaa.prog 94 [tabp a0, agg [is (U8 a1_0), is (U8 a1_1)], is (U64 a2)] (agg [is (Bl r.1), is (Sv r.2.1), is (I16 r.2.2)]) := by
  refine fn_intro Hfaa.func94 rfl rfl rfl ?_
  intro bn0 w0 H0
  refine AW_seq1 ?_
  refine AW_region ?_
  refine AL_cons (LR_box (at_tmp 1 _) (cells_agg _) rfl) (sS (sT1 rfl) sB0 (sF1 rfl)) ?_
  refine AL_cons (zl76 rfl) (sS sT0 sB0 (sF1 rfl)) ?_
  refine AL_nil ?_
  refine thenN ?_
  refine AW_seq1 ?_
  refine AW_cut (σ := Bool) (fun v => ⟨[(0, .inl (tabp a0)), (2, .inl (is (U64 a2))), (4, .inr (.inl (4, 0))), (6, .inr (.inl (6, 0))), (25, .inl (is (Bl v)))], [(4, pb 23 [is (U8 a1_0), is (U8 a1_1)]), (6, pb 76 [is (Bl false), is (Sv ([] : List UInt8)), is (I16 0)])]⟩) (fun v => some r = F94_1 N a0 a1_0 a1_1 a2 v) ?_ ?_
  · skip
    refine AW_region ?_
    refine AL_cons (LR_move (at_tmp 0 _) rfl) (sS (sT1 rfl) sB0 sF0) ?_
    refine AL_cons (LR_binA (at_tmp 19 _) (at_c (v' := .pointer none) rfl) (eqTabNil Hfaa.underlying27 a0) rfl) (sS (sA (sT1 rfl) sT0) sB0 sF0) ?_
    refine AL_cons (LR_move (at_tmp 20 _) rfl) (sS (sT1 rfl) sB0 sF0) ?_
    refine AL_cons (LR_on rfl rfl rfl (LR_loads (at_tmp 4 _) ag23 sz23 rfl rfl rfl)) (sS (sT rfl (sT1 rfl)) (sB1 rfl) sF0) ?_
    obtain ⟨y22, hy22, hr⟩ := lt_some hr
    refine AL_cons (LR_on rfl rfl rfl (LR_call Hfaa.func40 rfl rfl (C40 a1_0 a1_1 y22 hy22) (all_cons (at_tmp 22 _) all_nil) rfl)) (sS (sT rfl (sA (sT1 rfl) sT0)) sB0 sF0) ?_
    refine AL_cons (LR_on rfl rfl rfl (LR_un (at_tmp 23 _) (not_Bl y22) rfl)) (sS (sT rfl (sT1 rfl)) sB0 sF0) ?_
    refine AL_cons (LR_pick (b := false) (at_tmp 21 _) (at_c (v' := Bl true) rfl) (at_tmp 24 _) rfl) (sS (sA (sT1 rfl) (sA sT0 (sT1 rfl))) sB0 sF0) ?_
    refine AL_nil ?_
    exact thenN (cutLeaf (v := !y22) hr (weak0 ((sT rfl (sT rfl (sT rfl (sT rfl (sT rfl sT0)))))) (sub_keep (sub_keep sub_nil))))
  · rintro x1 hr
    show AW Hfaa.prog _ _ _ ⟨[(0, .inl (tabp a0)), (2, .inl (is (U64 a2))), (4, .inr (.inl (4, 0))), (6, .inr (.inl (6, 0))), (25, .inl (is (Bl x1)))], [(4, pb 23 [is (U8 a1_0), is (U8 a1_1)]), (6, pb 76 [is (Bl false), is (Sv ([] : List UInt8)), is (I16 0)])]⟩
    have hr : some r = F94_1 N a0 a1_0 a1_1 a2 x1 := hr
    refine AW_condT (b := x1) rfl (fun h => ?_) (fun h => ?_)
    · have hr := hr.trans (cond_t h)
      clear h
      refine AW_seq1 ?_
      refine AW_region ?_
      refine AL_cons (bl76 parts_nil rfl rfl) (sS sT0 sB0 sF0) ?_
      refine AL_cons (LR_store (at_tmp 6 _) (at_tmp 26 _) (cells_agg _) (onC (one_is rfl) (onC (one_is rfl) (onC (one_is rfl) onN))) sz76 rfl rfl) (sS (sA (sT1 rfl) (sT1 rfl)) (sB1 rfl) sF0) ?_
      refine AL_nil ?_
      refine thenN ?_
      refine AW_ret ?_
      refine thenR ?_
      obtain rfl := Option.some.inj hr
      exact res1 rfl (rvC rfl rfl ag76 sz76 rfl)
    · have hr := hr.trans (cond_f h)
      clear h
      refine AW_skip ?_
      refine thenN ?_
      refine AW_cut (σ := Bool) (fun v => ⟨[(0, .inl (tabp a0)), (2, .inl (is (U64 a2))), (4, .inr (.inl (4, 0))), (6, .inr (.inl (6, 0))), (7, .inl (is (Bl v)))], [(4, pb 23 [is (U8 a1_0), is (U8 a1_1)]), (6, pb 76 [is (Bl false), is (Sv ([] : List UInt8)), is (I16 0)])]⟩) (fun v => some r = F94_2 N a0 a1_0 a1_1 a2 v) ?_ ?_
      · skip
        refine AW_region ?_
        refine AL_cons (LR_move (at_tmp 2 _) rfl) (sS (sT1 rfl) sB0 sF0) ?_
        refine AL_cons (LR_loads (at_tmp 4 _) ag23 sz23 rfl rfl rfl) (sS (sT1 rfl) (sB1 rfl) sF0) ?_
        obtain ⟨y21, hy21, hr⟩ := lt_some hr
        refine AL_cons (LR_call Hfaa.func70 rfl rfl (C70 a1_0 a1_1 y21 hy21) (all_cons (at_tmp 28 _) all_nil) rfl) (sS (sA (sT1 rfl) sT0) sB0 sF0) ?_
        refine AL_cons (LR_bin (at_tmp 27 _) (at_tmp 29 _) (and_U64 a2 y21) rfl) (sS (sA (sT1 rfl) (sT1 rfl)) sB0 sF0) ?_
        refine AL_cons (LR_bin (at_tmp 30 _) (at_c (v' := U64 (0#64)) rfl) (neq_U64 (a2 &&& y21) (0#64)) rfl) (sS (sA (sT1 rfl) sT0) sB0 sF0) ?_
        refine AL_cons (LR_assign (at_tmp 31 _) rfl) (sS (sT1 rfl) sB0 sF0) ?_
        refine AL_nil ?_
        exact thenN (cutLeaf (v := (a2 &&& y21) != (0#64)) hr (weak0 ((sT rfl (sT rfl (sT rfl (sT rfl (sT rfl sT0)))))) (sub_keep (sub_keep sub_nil))))
      · rintro x2 hr
        show AW Hfaa.prog _ _ _ ⟨[(0, .inl (tabp a0)), (2, .inl (is (U64 a2))), (4, .inr (.inl (4, 0))), (6, .inr (.inl (6, 0))), (7, .inl (is (Bl x2)))], [(4, pb 23 [is (U8 a1_0), is (U8 a1_1)]), (6, pb 76 [is (Bl false), is (Sv ([] : List UInt8)), is (I16 0)])]⟩
        have hr : some r = F94_2 N a0 a1_0 a1_1 a2 x2 := hr
        refine AW_cut (σ := Int) (fun v => ⟨[(0, .inl (tabp a0)), (2, .inl (is (U64 a2))), (4, .inr (.inl (4, 0))), (6, .inr (.inl (6, 0))), (7, .inl (is (Bl x2))), (8, .inl (is (I16 v)))], [(4, pb 23 [is (U8 a1_0), is (U8 a1_1)]), (6, pb 76 [is (Bl false), is (Sv ([] : List UInt8)), is (I16 0)])]⟩) (fun v => some r = F94_3 N a0 a1_0 a1_1 a2 x2 v) ?_ ?_
        · skip
          refine AW_region ?_
          refine AL_cons (LR_move (at_tmp 2 _) rfl) (sS (sT1 rfl) sB0 sF0) ?_
          refine AL_cons (LR_fieldAddr (off := 0) (o := 1) (at_tmp 4 _) (fun b w => fa23_1 b 0 w) rfl) (sS (sT1 rfl) sB0 sF0) ?_
          refine AL_cons (LR_load (at_tmp 33 _) na5 rfl rfl) (sS (sT1 rfl) (sB1 rfl) sF0) ?_
          refine AL_cons (LR_bin (at_tmp 32 _) (at_tmp 34 _) (shr_U64 a2 (a1_1.toNat : Int) (Int.natCast_nonneg _)) rfl) (sS (sA (sT1 rfl) (sT1 rfl)) sB0 sF0) ?_
          refine AL_cons (LR_fieldAddr (off := 0) (o := 0) (at_tmp 4 _) (fun b w => fa23_0 b 0 w) rfl) (sS (sT1 rfl) sB0 sF0) ?_
          refine AL_cons (LR_load (at_tmp 36 _) na5 rfl rfl) (sS (sT1 rfl) (sB1 rfl) sF0) ?_
          refine AL_cons (LR_bin (at_c (v' := U64 (1#64)) rfl) (at_tmp 37 _) (shl_U64 (1#64) (a1_0.toNat : Int) (Int.natCast_nonneg _)) rfl) (sS (sA sT0 (sT1 rfl)) sB0 sF0) ?_
          refine AL_cons (LR_bin (at_tmp 38 _) (at_c (v' := U64 (1#64)) rfl) (sub_U64 ((1#64) <<< a1_0.toNat) (1#64)) rfl) (sS (sA (sT1 rfl) sT0) sB0 sF0) ?_
          refine AL_cons (LR_bin (at_tmp 35 _) (at_tmp 39 _) (and_U64 (a2 >>> a1_1.toNat) (((1#64) <<< a1_0.toNat) - (1#64))) rfl) (sS (sA (sT1 rfl) (sT1 rfl)) sB0 sF0) ?_
          refine AL_cons (LR_conv (vx := U64 ((a2 >>> a1_1.toNat) &&& (((1#64) <<< a1_0.toNat) - (1#64)))) (at_tmp 40 _) (conv_I16 Hfaa.underlying30 Hfaa.underlying44 (((a2 >>> a1_1.toNat) &&& (((1#64) <<< a1_0.toNat) - (1#64))).toNat : Int)) rfl) (sS (sT1 rfl) sB0 sF0) ?_
          refine AL_cons (LR_assign (at_tmp 41 _) rfl) (sS (sT1 rfl) sB0 sF0) ?_
          refine AL_nil ?_
          exact thenN (cutLeaf (v := w16 (((a2 >>> a1_1.toNat) &&& (((1#64) <<< a1_0.toNat) - (1#64))).toNat : Int)) hr (weak0 ((sT rfl (sT rfl (sT rfl (sT rfl (sT rfl (sT rfl sT0))))))) (sub_keep (sub_keep sub_nil))))
        · rintro x3 hr
          show AW Hfaa.prog _ _ _ ⟨[(0, .inl (tabp a0)), (2, .inl (is (U64 a2))), (4, .inr (.inl (4, 0))), (6, .inr (.inl (6, 0))), (7, .inl (is (Bl x2))), (8, .inl (is (I16 x3)))], [(4, pb 23 [is (U8 a1_0), is (U8 a1_1)]), (6, pb 76 [is (Bl false), is (Sv ([] : List UInt8)), is (I16 0)])]⟩
          have hr : some r = F94_3 N a0 a1_0 a1_1 a2 x2 x3 := hr
          refine AW_cut (σ := BitVec 64) (fun v => ⟨[(0, .inl (tabp a0)), (4, .inr (.inl (4, 0))), (6, .inr (.inl (6, 0))), (7, .inl (is (Bl x2))), (8, .inl (is (I16 x3))), (9, .inl (is (U64 v)))], [(4, pb 23 [is (U8 a1_0), is (U8 a1_1)]), (6, pb 76 [is (Bl false), is (Sv ([] : List UInt8)), is (I16 0)])]⟩) (fun v => some r = F94_4 N a0 a1_0 a1_1 x2 x3 v) ?_ ?_
          · skip
            refine AW_region ?_
            refine AL_cons (LR_move (at_tmp 2 _) rfl) (sS (sT1 rfl) sB0 sF0) ?_
            refine AL_cons (LR_fieldAddr (off := 0) (o := 1) (at_tmp 4 _) (fun b w => fa23_1 b 0 w) rfl) (sS (sT1 rfl) sB0 sF0) ?_
            refine AL_cons (LR_load (at_tmp 43 _) na5 rfl rfl) (sS (sT1 rfl) (sB1 rfl) sF0) ?_
            refine AL_cons (LR_bin (at_c (v' := U64 (1#64)) rfl) (at_tmp 44 _) (shl_U64 (1#64) (a1_1.toNat : Int) (Int.natCast_nonneg _)) rfl) (sS (sA sT0 (sT1 rfl)) sB0 sF0) ?_
            refine AL_cons (LR_bin (at_tmp 45 _) (at_c (v' := U64 (1#64)) rfl) (sub_U64 ((1#64) <<< a1_1.toNat) (1#64)) rfl) (sS (sA (sT1 rfl) sT0) sB0 sF0) ?_
            refine AL_cons (LR_bin (at_tmp 42 _) (at_tmp 46 _) (and_U64 a2 (((1#64) <<< a1_1.toNat) - (1#64))) rfl) (sS (sA (sT1 rfl) (sT1 rfl)) sB0 sF0) ?_
            refine AL_cons (LR_assign (at_tmp 47 _) rfl) (sS (sT1 rfl) sB0 sF0) ?_
            refine AL_nil ?_
            exact thenN (cutLeaf (v := a2 &&& (((1#64) <<< a1_1.toNat) - (1#64))) hr (weak0 ((sT rfl (sT rfl (sT rfl (sT rfl (sT rfl (sT rfl sT0))))))) (sub_keep (sub_keep sub_nil))))
          · rintro x4 hr
            show AW Hfaa.prog _ _ _ ⟨[(0, .inl (tabp a0)), (4, .inr (.inl (4, 0))), (6, .inr (.inl (6, 0))), (7, .inl (is (Bl x2))), (8, .inl (is (I16 x3))), (9, .inl (is (U64 x4)))], [(4, pb 23 [is (U8 a1_0), is (U8 a1_1)]), (6, pb 76 [is (Bl false), is (Sv ([] : List UInt8)), is (I16 0)])]⟩
            have hr : some r = F94_4 N a0 a1_0 a1_1 x2 x3 x4 := hr
            refine AW_seq1 ?_
            refine AW_block ?_
            refine AW_cut (σ := Bool) (fun v => ⟨[(0, .inl (tabp a0)), (4, .inr (.inl (4, 0))), (6, .inr (.inl (6, 0))), (7, .inl (is (Bl x2))), (8, .inl (is (I16 x3))), (9, .inl (is (U64 x4))), (48, .inl (is (Bl v)))], [(4, pb 23 [is (U8 a1_0), is (U8 a1_1)]), (6, pb 76 [is (Bl false), is (Sv ([] : List UInt8)), is (I16 0)])]⟩) (fun v => some r = F94_5 N a0 a1_0 a1_1 x2 x3 x4 v) ?_ ?_
            · skip
              refine AW_region ?_
              refine AL_cons (LR_move (at_tmp 8 _) rfl) (sS (sT1 rfl) sB0 sF0) ?_
              refine AL_cons (LR_fieldAddr (off := 0) (o := 0) (at_tmp 4 _) (fun b w => fa23_0 b 0 w) rfl) (sS (sT1 rfl) sB0 sF0) ?_
              refine AL_cons (LR_load (at_tmp 50 _) na5 rfl rfl) (sS (sT1 rfl) (sB1 rfl) sF0) ?_
              refine AL_cons (LR_bin (at_c (v' := I16 1) rfl) (at_tmp 51 _) (shl_I16 1 (a1_0.toNat : Int) (Int.natCast_nonneg _)) rfl) (sS (sA sT0 (sT1 rfl)) sB0 sF0) ?_
              refine AL_cons (LR_bin (at_tmp 52 _) (at_c (v' := I16 1) rfl) (sub_I16 (w16 (1 * 2 ^ (min a1_0.toNat 16))) 1) rfl) (sS (sA (sT1 rfl) sT0) sB0 sF0) ?_
              refine AL_cons (LR_bin (at_tmp 49 _) (at_tmp 53 _) (eql_I16 x3 (w16 ((w16 (1 * 2 ^ (min a1_0.toNat 16))) - 1))) rfl) (sS (sA (sT1 rfl) (sT1 rfl)) sB0 sF0) ?_
              refine AL_cons (LR_assign (at_tmp 54 _) rfl) (sS (sT1 rfl) sB0 sF0) ?_
              refine AL_nil ?_
              exact thenN (cutLeaf (v := x3 == (w16 ((w16 (1 * 2 ^ (min a1_0.toNat 16))) - 1))) hr (weak0 ((sT rfl (sT rfl (sT rfl (sT rfl (sT rfl (sT rfl (sT rfl sT0)))))))) (sub_keep (sub_keep sub_nil))))
            · rintro x5 hr
              show AW Hfaa.prog _ _ _ ⟨[(0, .inl (tabp a0)), (4, .inr (.inl (4, 0))), (6, .inr (.inl (6, 0))), (7, .inl (is (Bl x2))), (8, .inl (is (I16 x3))), (9, .inl (is (U64 x4))), (48, .inl (is (Bl x5)))], [(4, pb 23 [is (U8 a1_0), is (U8 a1_1)]), (6, pb 76 [is (Bl false), is (Sv ([] : List UInt8)), is (I16 0)])]⟩
              have hr : some r = F94_5 N a0 a1_0 a1_1 x2 x3 x4 x5 := hr
              refine AW_condT (b := x5) rfl (fun h => ?_) (fun h => ?_)
              · have hr := hr.trans (cond_t h)
                clear h
                refine AW_seq1 ?_
                refine AW_region ?_
                refine AL_cons (bl76 parts_nil rfl rfl) (sS sT0 sB0 sF0) ?_
                refine AL_cons (LR_store (at_tmp 6 _) (at_tmp 55 _) (cells_agg _) (onC (one_is rfl) (onC (one_is rfl) (onC (one_is rfl) onN))) sz76 rfl rfl) (sS (sA (sT1 rfl) (sT1 rfl)) (sB1 rfl) sF0) ?_
                refine AL_nil ?_
                refine thenN ?_
                refine AW_ret ?_
                refine blR ?_
                refine thenR ?_
                obtain rfl := Option.some.inj hr
                exact res1 rfl (rvC rfl rfl ag76 sz76 rfl)
              · have hr := hr.trans (cond_f h)
                clear h
                refine AW_cut (σ := Bool) (fun v => ⟨[(0, .inl (tabp a0)), (4, .inr (.inl (4, 0))), (6, .inr (.inl (6, 0))), (7, .inl (is (Bl x2))), (8, .inl (is (I16 x3))), (9, .inl (is (U64 x4))), (56, .inl (is (Bl v)))], [(4, pb 23 [is (U8 a1_0), is (U8 a1_1)]), (6, pb 76 [is (Bl false), is (Sv ([] : List UInt8)), is (I16 0)])]⟩) (fun v => some r = F94_6 N a0 a1_0 a1_1 x2 x3 x4 v) ?_ ?_
                · skip
                  refine AW_region ?_
                  refine AL_cons (LR_move (at_tmp 8 _) rfl) (sS (sT1 rfl) sB0 sF0) ?_
                  refine AL_cons (LR_bin (at_tmp 57 _) (at_c (v' := I16 0) rfl) (eql_I16 x3 0) rfl) (sS (sA (sT1 rfl) sT0) sB0 sF0) ?_
                  refine AL_cons (LR_move (at_tmp 58 _) rfl) (sS (sT1 rfl) sB0 sF0) ?_
                  refine AL_cutAt 3 ⟨[(0, .inl (tabp a0)), (4, .inr (.inl (4, 0))), (6, .inr (.inl (6, 0))), (7, .inl (is (Bl x2))), (8, .inl (is (I16 x3))), (9, .inl (is (U64 x4))), (48, .inl (is (Bl x5))), (57, .inl (is (I16 x3))), (58, .inl (is (Bl (x3 == 0)))), (59, .inl (is (Bl (x3 == 0)))), (62, .inl (is (Bl ((x3 == 0) && (x4 == (0#64))))))], [(4, pb 23 [is (U8 a1_0), is (U8 a1_1)]), (6, pb 76 [is (Bl false), is (Sv ([] : List UInt8)), is (I16 0)])]⟩ ?_ ?_
                  · cases hb : x3 == 0
                    · skip
                      refine AL_cons (LR_off (b := false) rfl rfl rfl rfl) (sS (sT1 rfl) sB0 sF0) ?_
                      refine AL_cons (LR_off (b := false) rfl rfl rfl rfl) (sS (sT1 rfl) sB0 sF0) ?_
                      refine AL_cons (LR_pick (b := false) (at_tmp 59 _) (at_tmp 61 _) (at_c (v' := Bl false) rfl) rfl) (sS (sA (sT1 rfl) (sA (sT1 rfl) sT0)) sB0 sF0) ?_
                      exact AL_nil ⟨rfl, weak0 ((sT rfl (sT rfl (sT rfl (sT rfl (sT rfl (sT rfl (sT rfl (sT rfl (sT rfl (sT rfl (sT rfl sT0)))))))))))) (sub_keep (sub_keep sub_nil))⟩
                    · skip
                      refine AL_cons (LR_on rfl rfl rfl (LR_move (at_tmp 9 _) rfl)) (sS (sT rfl (sT1 rfl)) sB0 sF0) ?_
                      refine AL_cons (LR_on rfl rfl rfl (LR_bin (at_tmp 60 _) (at_c (v' := U64 (0#64)) rfl) (eql_U64 x4 (0#64)) rfl)) (sS (sT rfl (sA (sT1 rfl) sT0)) sB0 sF0) ?_
                      refine AL_cons (LR_pick (b := true) (at_tmp 59 _) (at_tmp 61 _) (at_c (v' := Bl false) rfl) rfl) (sS (sA (sT1 rfl) (sA (sT1 rfl) sT0)) sB0 sF0) ?_
                      exact AL_nil ⟨rfl, weak0 ((sT rfl (sT rfl (sT rfl (sT rfl (sT rfl (sT rfl (sT rfl (sT rfl (sT rfl (sT rfl (sT rfl sT0)))))))))))) (sub_keep (sub_keep sub_nil))⟩
                  refine AL_cons (LR_assign (at_tmp 62 _) rfl) (sS (sT1 rfl) sB0 sF0) ?_
                  refine AL_nil ?_
                  exact thenN (cutLeaf (v := (x3 == 0) && (x4 == (0#64))) hr (weak0 ((sT rfl (sT rfl (sT rfl (sT rfl (sT rfl (sT rfl (sT rfl sT0)))))))) (sub_keep (sub_keep sub_nil))))
                · rintro x6 hr
                  show AW Hfaa.prog _ _ _ ⟨[(0, .inl (tabp a0)), (4, .inr (.inl (4, 0))), (6, .inr (.inl (6, 0))), (7, .inl (is (Bl x2))), (8, .inl (is (I16 x3))), (9, .inl (is (U64 x4))), (56, .inl (is (Bl x6)))], [(4, pb 23 [is (U8 a1_0), is (U8 a1_1)]), (6, pb 76 [is (Bl false), is (Sv ([] : List UInt8)), is (I16 0)])]⟩
                  have hr : some r = F94_6 N a0 a1_0 a1_1 x2 x3 x4 x6 := hr
                  refine AW_condT (b := x6) rfl (fun h => ?_) (fun h => ?_)
                  · have hr := hr.trans (cond_t h)
                    clear h
                    refine AW_seq1 ?_
                    refine AW_region ?_
                    refine AL_cons (LR_move (at_tmp 7 _) rfl) (sS (sT1 rfl) sB0 sF0) ?_
                    refine AL_cons (bl76 (parts_cons (i := 0) (off := 0) (at_tmp 63 _) (cells_one (one_is rfl)) rfl rfl parts_nil) rfl rfl) (sS (sA (sT1 rfl) sT0) sB0 sF0) ?_
                    refine AL_cons (LR_store (at_tmp 6 _) (at_tmp 64 _) (cells_agg _) (onC (one_is rfl) (onC (one_is rfl) (onC (one_is rfl) onN))) sz76 rfl rfl) (sS (sA (sT1 rfl) (sT1 rfl)) (sB1 rfl) sF0) ?_
                    refine AL_nil ?_
                    refine thenN ?_
                    refine AW_ret ?_
                    refine blR ?_
                    refine thenR ?_
                    obtain rfl := Option.some.inj hr
                    exact res1 rfl (rvC rfl rfl ag76 sz76 rfl)
                  · have hr := hr.trans (cond_f h)
                    clear h
                    refine AW_skip ?_
                    refine blN ?_
                    refine thenN ?_
                    refine AW_cut (σ := Int) (fun v => ⟨[(0, .inl (tabp a0)), (4, .inr (.inl (4, 0))), (6, .inr (.inl (6, 0))), (7, .inl (is (Bl x2))), (8, .inl (is (I16 x3))), (9, .inl (is (U64 x4))), (10, .inl (is (U64 x4))), (11, .inl (is (I16 v)))], [(4, pb 23 [is (U8 a1_0), is (U8 a1_1)]), (6, pb 76 [is (Bl false), is (Sv ([] : List UInt8)), is (I16 0)])]⟩) (fun v => some r = F94_7 N a0 a1_0 a1_1 x2 x3 x4 v) ?_ ?_
                    · skip
                      obtain ⟨y20, hy20, hr⟩ := lt_some hr
                      refine AW_draw mixed
                        (lrC (LR_move (at_tmp 9 _) rfl)
                        (lrC (LR_move (at_tmp 8 _) rfl)
                        (lrC (LR_bi2 (vx := I16 x3) (vy := I16 1) (v := I16 (max x3 1)) (at_tmp 66 _) (at_c (v' := I16 1) rfl) (fun cs w => max_I .i16 x3 1 cs w) rfl)
                        (lrC (LR_loads (at_tmp 4 _) ag23 sz23 rfl rfl rfl)
                        (lrC (LR_call Hfaa.func71 rfl rfl (C71 a1_0 a1_1 y20 hy20) (all_cons (at_tmp 68 _) all_nil) rfl)
                        (lrC (LR_bin (at_tmp 67 _) (at_tmp 69 _) (sub_I16 (max x3 1) y20) rfl)
                        (lrC (LR_fieldAddr (off := 0) (o := 1) (at_tmp 4 _) (fun b w => fa23_1 b 0 w) rfl)
                        (lrC (LR_load (at_tmp 71 _) na5 rfl rfl)
                        (lrC (LR_conv (vx := U8 a1_1) (at_tmp 72 _) (conv_I16 Hfaa.underlying5 Hfaa.underlying44 (a1_1.toNat : Int)) rfl)
                        (lrC (LR_bin (at_tmp 70 _) (at_tmp 73 _) (sub_I16 (w16 ((max x3 1) - y20)) (w16 (a1_1.toNat : Int))) rfl)
                        (lrC (LR_bin (at_tmp 74 _) (at_c (v' := I16 2) rfl) (sub_I16 (w16 ((w16 ((max x3 1) - y20)) - (w16 (a1_1.toNat : Int)))) 2) rfl)
                        (lrC (LR_assign (at_tmp 65 _) rfl)
                        (lrC (LR_assign (at_tmp 75 _) rfl)
                        lrN)))))))))))))
                        (by kernel_rfl)
                        (saC (sS (sT1 rfl) sB0 sF0) (saC (sS (sT1 rfl) sB0 sF0) (saC (sS (sA (sT1 rfl) sT0) sB0 sF0) (saC (sS (sT1 rfl) (sB1 rfl) sF0) (saC (sS (sA (sT1 rfl) sT0) sB0 sF0) (saC (sS (sA (sT1 rfl) (sT1 rfl)) sB0 sF0) (saC (sS (sT1 rfl) sB0 sF0) (saC (sS (sT1 rfl) (sB1 rfl) sF0) (saC (sS (sT1 rfl) sB0 sF0) (saC (sS (sA (sT1 rfl) (sT1 rfl)) sB0 sF0) (saC (sS (sA (sT1 rfl) sT0) sB0 sF0) (saC (sS (sT1 rfl) sB0 sF0) (saC (sS (sT1 rfl) sB0 sF0) saN))))))))))))) ?_
                      exact thenN (cutLeaf (v := w16 ((w16 ((w16 ((max x3 1) - y20)) - (w16 (a1_1.toNat : Int)))) - 2)) hr (weak0 ((sT rfl (sT rfl (sT rfl (sT rfl (sT rfl (sT rfl (sT rfl (sT rfl sT0))))))))) (sub_keep (sub_keep sub_nil))))
                    · rintro x7 hr
                      show AW Hfaa.prog _ _ _ ⟨[(0, .inl (tabp a0)), (4, .inr (.inl (4, 0))), (6, .inr (.inl (6, 0))), (7, .inl (is (Bl x2))), (8, .inl (is (I16 x3))), (9, .inl (is (U64 x4))), (10, .inl (is (U64 x4))), (11, .inl (is (I16 x7)))], [(4, pb 23 [is (U8 a1_0), is (U8 a1_1)]), (6, pb 76 [is (Bl false), is (Sv ([] : List UInt8)), is (I16 0)])]⟩
                      have hr : some r = F94_7 N a0 a1_0 a1_1 x2 x3 x4 x7 := hr
                      refine AW_cut (σ := BitVec 64) (fun v => ⟨[(0, .inl (tabp a0)), (6, .inr (.inl (6, 0))), (7, .inl (is (Bl x2))), (8, .inl (is (I16 x3))), (9, .inl (is (U64 x4))), (10, .inl (is (U64 v))), (11, .inl (is (I16 x7)))], [(6, pb 76 [is (Bl false), is (Sv ([] : List UInt8)), is (I16 0)])]⟩) (fun v => some r = F94_8 N a0 x2 x3 x4 x7 v) ?_ ?_
                      · skip
                        refine AW_cut (σ := Bool) (fun v => ⟨[(0, .inl (tabp a0)), (4, .inr (.inl (4, 0))), (6, .inr (.inl (6, 0))), (7, .inl (is (Bl x2))), (8, .inl (is (I16 x3))), (9, .inl (is (U64 x4))), (10, .inl (is (U64 x4))), (11, .inl (is (I16 x7))), (77, .inl (is (Bl v)))], [(4, pb 23 [is (U8 a1_0), is (U8 a1_1)]), (6, pb 76 [is (Bl false), is (Sv ([] : List UInt8)), is (I16 0)])]⟩) (fun v => some r = F94_19 N a0 a1_0 a1_1 x2 x3 x4 x7 v) ?_ ?_
                        · skip
                          refine AW_region ?_
                          refine AL_cons (LR_move (at_tmp 8 _) rfl) (sS (sT1 rfl) sB0 sF0) ?_
                          refine AL_cons (LR_bin (at_tmp 76 _) (at_c (v' := I16 0) rfl) (gtr_I16 x3 0) rfl) (sS (sA (sT1 rfl) sT0) sB0 sF0) ?_
                          refine AL_nil ?_
                          exact thenN (cutLeaf (v := decide (x3 > 0)) hr (weak0 ((sT rfl (sT rfl (sT rfl (sT rfl (sT rfl (sT rfl (sT rfl (sT rfl (sT rfl sT0)))))))))) (sub_keep (sub_keep sub_nil))))
                        · rintro x25 hr
                          show AW Hfaa.prog _ _ _ ⟨[(0, .inl (tabp a0)), (4, .inr (.inl (4, 0))), (6, .inr (.inl (6, 0))), (7, .inl (is (Bl x2))), (8, .inl (is (I16 x3))), (9, .inl (is (U64 x4))), (10, .inl (is (U64 x4))), (11, .inl (is (I16 x7))), (77, .inl (is (Bl x25)))], [(4, pb 23 [is (U8 a1_0), is (U8 a1_1)]), (6, pb 76 [is (Bl false), is (Sv ([] : List UInt8)), is (I16 0)])]⟩
                          have hr : some r = F94_19 N a0 a1_0 a1_1 x2 x3 x4 x7 x25 := hr
                          refine AW_condT (b := x25) rfl (fun h => ?_) (fun h => ?_)
                          · have hr := hr.trans (cond_t h)
                            clear h
                            refine AW_region ?_
                            refine AL_cons (LR_move (at_tmp 10 _) rfl) (sS (sT1 rfl) sB0 sF0) ?_
                            refine AL_cons (LR_fieldAddr (off := 0) (o := 1) (at_tmp 4 _) (fun b w => fa23_1 b 0 w) rfl) (sS (sT1 rfl) sB0 sF0) ?_
                            refine AL_cons (LR_load (at_tmp 79 _) na5 rfl rfl) (sS (sT1 rfl) (sB1 rfl) sF0) ?_
                            refine AL_cons (LR_bin (at_c (v' := U64 (1#64)) rfl) (at_tmp 80 _) (shl_U64 (1#64) (a1_1.toNat : Int) (Int.natCast_nonneg _)) rfl) (sS (sA sT0 (sT1 rfl)) sB0 sF0) ?_
                            refine AL_cons (LR_bin (at_tmp 78 _) (at_tmp 81 _) (or_U64 x4 ((1#64) <<< a1_1.toNat)) rfl) (sS (sA (sT1 rfl) (sT1 rfl)) sB0 sF0) ?_
                            refine AL_cons (LR_assign (at_tmp 82 _) rfl) (sS (sT1 rfl) sB0 sF0) ?_
                            refine AL_nil ?_
                            exact thenN (cutLeaf (v := x4 ||| ((1#64) <<< a1_1.toNat)) hr (weak0 ((sT rfl (sT rfl (sT rfl (sT rfl (sT rfl (sT rfl (sT rfl sT0)))))))) (sub_drop (sub_keep sub_nil))))
                          · have hr := hr.trans (cond_f h)
                            clear h
                            refine AW_skip ?_
                            exact thenN (cutLeaf (v := x4) hr (weak0 ((sT rfl (sT rfl (sT rfl (sT rfl (sT rfl (sT rfl (sT rfl sT0)))))))) (sub_drop (sub_keep sub_nil))))
                      · rintro x8 hr
                        show AW Hfaa.prog _ _ _ ⟨[(0, .inl (tabp a0)), (6, .inr (.inl (6, 0))), (7, .inl (is (Bl x2))), (8, .inl (is (I16 x3))), (9, .inl (is (U64 x4))), (10, .inl (is (U64 x8))), (11, .inl (is (I16 x7)))], [(6, pb 76 [is (Bl false), is (Sv ([] : List UInt8)), is (I16 0)])]⟩
                        have hr : some r = F94_8 N a0 x2 x3 x4 x7 x8 := hr
                        refine AW_seq1 ?_
                        refine AW_region ?_
                        refine AL_cons (LR_assign (at_c (v' := U64 (2#64)) rfl) rfl) (sS sT0 sB0 sF0) ?_
                        refine AL_nil ?_
                        refine thenN ?_
                        refine AW_cut (σ := BitVec 64) (fun v => ⟨[(0, .inl (tabp a0)), (6, .inr (.inl (6, 0))), (7, .inl (is (Bl x2))), (10, .inl (is (U64 x8))), (11, .inl (is (I16 x7))), (12, .inl (is (U64 v)))], [(6, pb 76 [is (Bl false), is (Sv ([] : List UInt8)), is (I16 0)])]⟩) (fun v => some r = F94_9 N a0 x2 x7 x8 v) ?_ ?_
                        · skip
                          refine AW_cut (σ := Bool) (fun v => ⟨[(0, .inl (tabp a0)), (6, .inr (.inl (6, 0))), (7, .inl (is (Bl x2))), (10, .inl (is (U64 x8))), (11, .inl (is (I16 x7))), (12, .inl (is (U64 (2#64)))), (88, .inl (is (Bl v)))], [(6, pb 76 [is (Bl false), is (Sv ([] : List UInt8)), is (I16 0)])]⟩) (fun v => some r = F94_18 N a0 x2 x7 x8 v) ?_ ?_
                          · skip
                            refine AW_region ?_
                            refine AL_cons (LR_move (at_tmp 9 _) rfl) (sS (sT1 rfl) sB0 sF0) ?_
                            refine AL_cons (LR_bin (at_tmp 83 _) (at_c (v' := U64 (0#64)) rfl) (eql_U64 x4 (0#64)) rfl) (sS (sA (sT1 rfl) sT0) sB0 sF0) ?_
                            refine AL_cons (LR_move (at_tmp 84 _) rfl) (sS (sT1 rfl) sB0 sF0) ?_
                            refine AL_cutAt 3 ⟨[(0, .inl (tabp a0)), (6, .inr (.inl (6, 0))), (7, .inl (is (Bl x2))), (8, .inl (is (I16 x3))), (9, .inl (is (U64 x4))), (10, .inl (is (U64 x8))), (11, .inl (is (I16 x7))), (12, .inl (is (U64 (2#64)))), (83, .inl (is (U64 x4))), (84, .inl (is (Bl (x4 == (0#64))))), (85, .inl (is (Bl (x4 == (0#64))))), (88, .inl (is (Bl ((x4 == (0#64)) && (decide (x3 > 1))))))], [(6, pb 76 [is (Bl false), is (Sv ([] : List UInt8)), is (I16 0)])]⟩ ?_ ?_
                            · cases hb : x4 == (0#64)
                              · skip
                                refine AL_cons (LR_off (b := false) rfl rfl rfl rfl) (sS (sT1 rfl) sB0 sF0) ?_
                                refine AL_cons (LR_off (b := false) rfl rfl rfl rfl) (sS (sT1 rfl) sB0 sF0) ?_
                                refine AL_cons (LR_pick (b := false) (at_tmp 85 _) (at_tmp 87 _) (at_c (v' := Bl false) rfl) rfl) (sS (sA (sT1 rfl) (sA (sT1 rfl) sT0)) sB0 sF0) ?_
                                exact AL_nil ⟨rfl, weak0 ((sT rfl (sT rfl (sT rfl (sT rfl (sT rfl (sT rfl (sT rfl (sT rfl (sT rfl (sT rfl (sT rfl (sT rfl sT0))))))))))))) (sub_keep sub_nil)⟩
                              · skip
                                refine AL_cons (LR_on rfl rfl rfl (LR_move (at_tmp 8 _) rfl)) (sS (sT rfl (sT1 rfl)) sB0 sF0) ?_
                                refine AL_cons (LR_on rfl rfl rfl (LR_bin (at_tmp 86 _) (at_c (v' := I16 1) rfl) (gtr_I16 x3 1) rfl)) (sS (sT rfl (sA (sT1 rfl) sT0)) sB0 sF0) ?_
                                refine AL_cons (LR_pick (b := true) (at_tmp 85 _) (at_tmp 87 _) (at_c (v' := Bl false) rfl) rfl) (sS (sA (sT1 rfl) (sA (sT1 rfl) sT0)) sB0 sF0) ?_
                                exact AL_nil ⟨rfl, weak0 ((sT rfl (sT rfl (sT rfl (sT rfl (sT rfl (sT rfl (sT rfl (sT rfl (sT rfl (sT rfl (sT rfl (sT rfl sT0))))))))))))) (sub_keep sub_nil)⟩
                            refine AL_nil ?_
                            exact thenN (cutLeaf (v := (x4 == (0#64)) && (decide (x3 > 1))) hr (weak0 ((sT rfl (sT rfl (sT rfl (sT rfl (sT rfl (sT rfl (sT rfl sT0)))))))) (sub_keep sub_nil)))
                          · rintro x24 hr
                            show AW Hfaa.prog _ _ _ ⟨[(0, .inl (tabp a0)), (6, .inr (.inl (6, 0))), (7, .inl (is (Bl x2))), (10, .inl (is (U64 x8))), (11, .inl (is (I16 x7))), (12, .inl (is (U64 (2#64)))), (88, .inl (is (Bl x24)))], [(6, pb 76 [is (Bl false), is (Sv ([] : List UInt8)), is (I16 0)])]⟩
                            have hr : some r = F94_18 N a0 x2 x7 x8 x24 := hr
                            refine AW_condT (b := x24) rfl (fun h => ?_) (fun h => ?_)
                            · have hr := hr.trans (cond_t h)
                              clear h
                              refine AW_region ?_
                              refine AL_cons (LR_assign (at_c (v' := U64 (1#64)) rfl) rfl) (sS sT0 sB0 sF0) ?_
                              refine AL_nil ?_
                              exact thenN (cutLeaf (v := 1#64) hr (weak0 ((sT rfl (sT rfl (sT rfl (sT rfl (sT rfl (sT rfl sT0))))))) (sub_keep sub_nil)))
                            · have hr := hr.trans (cond_f h)
                              clear h
                              refine AW_skip ?_
                              exact thenN (cutLeaf (v := 2#64) hr (weak0 ((sT rfl (sT rfl (sT rfl (sT rfl (sT rfl (sT rfl sT0))))))) (sub_keep sub_nil)))
                        · rintro x9 hr
                          show AW Hfaa.prog _ _ _ ⟨[(0, .inl (tabp a0)), (6, .inr (.inl (6, 0))), (7, .inl (is (Bl x2))), (10, .inl (is (U64 x8))), (11, .inl (is (I16 x7))), (12, .inl (is (U64 x9)))], [(6, pb 76 [is (Bl false), is (Sv ([] : List UInt8)), is (I16 0)])]⟩
                          have hr : some r = F94_9 N a0 x2 x7 x8 x9 := hr
                          refine AW_seq1 ?_
                          refine AW_region ?_
                          refine AL_cons (zl199 rfl) (sS sT0 sB0 (sF1 rfl)) ?_
                          refine AL_nil ?_
                          refine thenN ?_
                          refine AW_seq1 ?_
                          refine AW_region ?_
                          refine AL_cons (LR_assign (at_c (v' := Bl false) rfl) rfl) (sS sT0 sB0 sF0) ?_
                          refine AL_nil ?_
                          refine thenN ?_
                          refine AW_cut (σ := BitVec 64 × Bool) (fun v => ⟨[(0, .inl (tabp a0)), (6, .inr (.inl (6, 0))), (7, .inl (is (Bl x2))), (10, .inl (is (U64 x8))), (11, .inl (is (I16 x7))), (12, .inl (is (U64 x9))), (13, .inr (.inl (13, 0)))], [(6, pb 76 [is (Bl false), is (Sv ([] : List UInt8)), is (I16 0)]), (13, pb 199 [is (U64 (0#64)), is (U64 v.1), is (U64 (0#64)), is (Bl false), is (Bl v.2), is (Bl false), is (U64 (0#64))])]⟩) (fun v => some r = F94_10 N a0 x2 x7 x8 x9 v.1 v.2) ?_ ?_
                          · skip
                            refine AW_region ?_
                            refine AL_cons (LR_move (at_tmp 0 _) rfl) (sS (sT1 rfl) sB0 sF0) ?_
                            refine AL_cons (LR_move (at_tmp 10 _) rfl) (sS (sT1 rfl) sB0 sF0) ?_
                            refine AL_cons (LR_bin (at_c (v' := U64 (4#64)) rfl) (at_tmp 91 _) (mul_U64 (4#64) x8) rfl) (sS (sA sT0 (sT1 rfl)) sB0 sF0) ?_
                            refine AL_cons (LR_move (at_tmp 11 _) rfl) (sS (sT1 rfl) sB0 sF0) ?_
                            obtain ⟨y19, hy19, hr⟩ := bind_some hr
                            refine AL_cons (LR_call Hfaa.func117 rfl rfl (C117 N a0 ((4#64) * x8) x7 y19 hy19) (all_cons (at_tmp 90 _) (all_cons (at_tmp 92 _) (all_cons (at_tmp 93 _) all_nil))) rfl) (sS (sA (sT1 rfl) (sA (sT1 rfl) (sA (sT1 rfl) sT0))) sB0 sF0) ?_
                            refine AL_cons (LR_move (at_tmp 94 _) rfl) (sS (sT1 rfl) sB0 sF0) ?_
                            refine AL_cons (LR_extract (at_tmp 89 _) rfl rfl) (sS (sT1 rfl) sB0 sF0) ?_
                            refine AL_cons (LR_extract (at_tmp 89 _) rfl rfl) (sS (sT1 rfl) sB0 sF0) ?_
                            refine AL_cons (LR_fieldAddr (off := 0) (o := 1) (at_tmp 13 _) (fun b w => fa199_1 b 0 w) rfl) (sS (sT1 rfl) sB0 sF0) ?_
                            refine AL_cons (LR_store (at_tmp 97 _) (at_tmp 95 _) (cells_one (one_is rfl)) (onC (one_is rfl) onN) sz30 rfl rfl) (sS (sA (sT1 rfl) (sT1 rfl)) (sB1 rfl) sF0) ?_
                            refine AL_cons (LR_fieldAddr (off := 0) (o := 4) (at_tmp 13 _) (fun b w => fa199_4 b 0 w) rfl) (sS (sT1 rfl) sB0 sF0) ?_
                            refine AL_cons (LR_store (at_tmp 98 _) (at_tmp 96 _) (cells_one (one_is rfl)) (onC (one_is rfl) onN) sz4 rfl rfl) (sS (sA (sT1 rfl) (sT1 rfl)) (sB1 rfl) sF0) ?_
                            refine AL_nil ?_
                            exact thenN (cutLeaf (v := (y19.1, y19.2)) hr (weak0 ((sT rfl (sT rfl (sT rfl (sT rfl (sT rfl (sT rfl (sT rfl sT0)))))))) (sub_keep (sub_keep sub_nil))))
                          · rintro ⟨x10, x11⟩ hr
                            show AW Hfaa.prog _ _ _ ⟨[(0, .inl (tabp a0)), (6, .inr (.inl (6, 0))), (7, .inl (is (Bl x2))), (10, .inl (is (U64 x8))), (11, .inl (is (I16 x7))), (12, .inl (is (U64 x9))), (13, .inr (.inl (13, 0)))], [(6, pb 76 [is (Bl false), is (Sv ([] : List UInt8)), is (I16 0)]), (13, pb 199 [is (U64 (0#64)), is (U64 x10), is (U64 (0#64)), is (Bl false), is (Bl x11), is (Bl false), is (U64 (0#64))])]⟩
                            have hr : some r = F94_10 N a0 x2 x7 x8 x9 x10 x11 := hr
                            refine AW_cut (σ := Bool × BitVec 64) (fun v => ⟨[(0, .inl (tabp a0)), (6, .inr (.inl (6, 0))), (7, .inl (is (Bl x2))), (10, .inl (is (U64 x8))), (11, .inl (is (I16 x7))), (12, .inl (is (U64 x9))), (13, .inr (.inl (13, 0))), (14, .inl (is (Bl v.1)))], [(6, pb 76 [is (Bl false), is (Sv ([] : List UInt8)), is (I16 0)]), (13, pb 199 [is (U64 (0#64)), is (U64 x10), is (U64 v.2), is (Bl false), is (Bl x11), is (Bl false), is (U64 (0#64))])]⟩) (fun v => some r = F94_11 N a0 x2 x7 x8 x9 x10 x11 v.1 v.2) ?_ ?_
                            · skip
                              refine AW_region ?_
                              refine AL_cons (LR_move (at_tmp 0 _) rfl) (sS (sT1 rfl) sB0 sF0) ?_
                              refine AL_cons (LR_move (at_tmp 10 _) rfl) (sS (sT1 rfl) sB0 sF0) ?_
                              refine AL_cons (LR_bin (at_c (v' := U64 (4#64)) rfl) (at_tmp 101 _) (mul_U64 (4#64) x8) rfl) (sS (sA sT0 (sT1 rfl)) sB0 sF0) ?_
                              refine AL_cons (LR_bin (at_tmp 102 _) (at_c (v' := U64 (2#64)) rfl) (add_U64 ((4#64) * x8) (2#64)) rfl) (sS (sA (sT1 rfl) sT0) sB0 sF0) ?_
                              refine AL_cons (LR_move (at_tmp 11 _) rfl) (sS (sT1 rfl) sB0 sF0) ?_
                              obtain ⟨y18, hy18, hr⟩ := bind_some hr
                              refine AL_cons (LR_call Hfaa.func117 rfl rfl (C117 N a0 (((4#64) * x8) + (2#64)) x7 y18 hy18) (all_cons (at_tmp 100 _) (all_cons (at_tmp 103 _) (all_cons (at_tmp 104 _) all_nil))) rfl) (sS (sA (sT1 rfl) (sA (sT1 rfl) (sA (sT1 rfl) sT0))) sB0 sF0) ?_
                              refine AL_cons (LR_move (at_tmp 105 _) rfl) (sS (sT1 rfl) sB0 sF0) ?_
                              refine AL_cons (LR_extract (at_tmp 99 _) rfl rfl) (sS (sT1 rfl) sB0 sF0) ?_
                              refine AL_cons (LR_extract (at_tmp 99 _) rfl rfl) (sS (sT1 rfl) sB0 sF0) ?_
                              refine AL_cons (LR_fieldAddr (off := 0) (o := 2) (at_tmp 13 _) (fun b w => fa199_2 b 0 w) rfl) (sS (sT1 rfl) sB0 sF0) ?_
                              refine AL_cons (LR_store (at_tmp 108 _) (at_tmp 106 _) (cells_one (one_is rfl)) (onC (one_is rfl) onN) sz30 rfl rfl) (sS (sA (sT1 rfl) (sT1 rfl)) (sB1 rfl) sF0) ?_
                              refine AL_cons (LR_assign (at_tmp 107 _) rfl) (sS (sT1 rfl) sB0 sF0) ?_
                              refine AL_nil ?_
                              exact thenN (cutLeaf (v := (y18.2, y18.1)) hr (weak0 ((sT rfl (sT rfl (sT rfl (sT rfl (sT rfl (sT rfl (sT rfl (sT rfl sT0))))))))) (sub_keep (sub_keep sub_nil))))
                            · rintro ⟨x12, x13⟩ hr
                              show AW Hfaa.prog _ _ _ ⟨[(0, .inl (tabp a0)), (6, .inr (.inl (6, 0))), (7, .inl (is (Bl x2))), (10, .inl (is (U64 x8))), (11, .inl (is (I16 x7))), (12, .inl (is (U64 x9))), (13, .inr (.inl (13, 0))), (14, .inl (is (Bl x12)))], [(6, pb 76 [is (Bl false), is (Sv ([] : List UInt8)), is (I16 0)]), (13, pb 199 [is (U64 (0#64)), is (U64 x10), is (U64 x13), is (Bl false), is (Bl x11), is (Bl false), is (U64 (0#64))])]⟩
                              have hr : some r = F94_11 N a0 x2 x7 x8 x9 x10 x11 x12 x13 := hr
                              refine AW_cut (σ := BitVec 64 × Bool) (fun v => ⟨[(6, .inr (.inl (6, 0))), (7, .inl (is (Bl x2))), (10, .inl (is (U64 x8))), (11, .inl (is (I16 x7))), (13, .inr (.inl (13, 0))), (14, .inl (is (Bl x12)))], [(6, pb 76 [is (Bl false), is (Sv ([] : List UInt8)), is (I16 0)]), (13, pb 199 [is (U64 v.1), is (U64 x10), is (U64 x13), is (Bl v.2), is (Bl x11), is (Bl false), is (U64 (0#64))])]⟩) (fun v => some r = F94_12 N x2 x7 x8 x10 x11 x12 x13 v.1 v.2) ?_ ?_
                              · skip
                                refine AW_region ?_
                                refine AL_cons (LR_move (at_tmp 0 _) rfl) (sS (sT1 rfl) sB0 sF0) ?_
                                refine AL_cons (LR_move (at_tmp 10 _) rfl) (sS (sT1 rfl) sB0 sF0) ?_
                                refine AL_cons (LR_bin (at_c (v' := U64 (4#64)) rfl) (at_tmp 111 _) (mul_U64 (4#64) x8) rfl) (sS (sA sT0 (sT1 rfl)) sB0 sF0) ?_
                                refine AL_cons (LR_move (at_tmp 12 _) rfl) (sS (sT1 rfl) sB0 sF0) ?_
                                refine AL_cons (LR_bin (at_tmp 112 _) (at_tmp 113 _) (sub_U64 ((4#64) * x8) x9) rfl) (sS (sA (sT1 rfl) (sT1 rfl)) sB0 sF0) ?_
                                refine AL_cons (LR_move (at_tmp 11 _) rfl) (sS (sT1 rfl) sB0 sF0) ?_
                                obtain ⟨y17, hy17, hr⟩ := bind_some hr
                                refine AL_cons (LR_call Hfaa.func117 rfl rfl (C117 N a0 (((4#64) * x8) - x9) x7 y17 hy17) (all_cons (at_tmp 110 _) (all_cons (at_tmp 114 _) (all_cons (at_tmp 115 _) all_nil))) rfl) (sS (sA (sT1 rfl) (sA (sT1 rfl) (sA (sT1 rfl) sT0))) sB0 sF0) ?_
                                refine AL_cons (LR_move (at_tmp 116 _) rfl) (sS (sT1 rfl) sB0 sF0) ?_
                                refine AL_cons (LR_extract (at_tmp 109 _) rfl rfl) (sS (sT1 rfl) sB0 sF0) ?_
                                refine AL_cons (LR_extract (at_tmp 109 _) rfl rfl) (sS (sT1 rfl) sB0 sF0) ?_
                                refine AL_cons (LR_fieldAddr (off := 0) (o := 0) (at_tmp 13 _) (fun b w => fa199_0 b 0 w) rfl) (sS (sT1 rfl) sB0 sF0) ?_
                                refine AL_cons (LR_store (at_tmp 119 _) (at_tmp 117 _) (cells_one (one_is rfl)) (onC (one_is rfl) onN) sz30 rfl rfl) (sS (sA (sT1 rfl) (sT1 rfl)) (sB1 rfl) sF0) ?_
                                refine AL_cons (LR_fieldAddr (off := 0) (o := 3) (at_tmp 13 _) (fun b w => fa199_3 b 0 w) rfl) (sS (sT1 rfl) sB0 sF0) ?_
                                refine AL_cons (LR_store (at_tmp 120 _) (at_tmp 118 _) (cells_one (one_is rfl)) (onC (one_is rfl) onN) sz4 rfl rfl) (sS (sA (sT1 rfl) (sT1 rfl)) (sB1 rfl) sF0) ?_
                                refine AL_nil ?_
                                exact thenN (cutLeaf (v := (y17.1, y17.2)) hr (weak0 ((sT rfl (sT rfl (sT rfl (sT rfl (sT rfl (sT rfl sT0))))))) (sub_keep (sub_keep sub_nil))))
                              · rintro ⟨x14, x15⟩ hr
                                show AW Hfaa.prog _ _ _ ⟨[(6, .inr (.inl (6, 0))), (7, .inl (is (Bl x2))), (10, .inl (is (U64 x8))), (11, .inl (is (I16 x7))), (13, .inr (.inl (13, 0))), (14, .inl (is (Bl x12)))], [(6, pb 76 [is (Bl false), is (Sv ([] : List UInt8)), is (I16 0)]), (13, pb 199 [is (U64 x14), is (U64 x10), is (U64 x13), is (Bl x15), is (Bl x11), is (Bl false), is (U64 (0#64))])]⟩
                                have hr : some r = F94_12 N x2 x7 x8 x10 x11 x12 x13 x14 x15 := hr
                                refine AW_cut (σ := Bool) (fun v => ⟨[(6, .inr (.inl (6, 0))), (7, .inl (is (Bl x2))), (11, .inl (is (I16 x7))), (13, .inr (.inl (13, 0))), (14, .inl (is (Bl x12)))], [(6, pb 76 [is (Bl false), is (Sv ([] : List UInt8)), is (I16 0)]), (13, pb 199 [is (U64 x14), is (U64 x10), is (U64 x13), is (Bl x15), is (Bl x11), is (Bl v), is (U64 (0#64))])]⟩) (fun v => some r = F94_13 N x2 x7 x10 x11 x12 x13 x14 x15 v) ?_ ?_
                                · skip
                                  refine AW_region ?_
                                  refine AL_cons (LR_move (at_tmp 10 _) rfl) (sS (sT1 rfl) sB0 sF0) ?_
                                  refine AL_cons (LR_bin (at_tmp 121 _) (at_c (v' := U64 (1#64)) rfl) (and_U64 x8 (1#64)) rfl) (sS (sA (sT1 rfl) sT0) sB0 sF0) ?_
                                  refine AL_cons (LR_bin (at_tmp 122 _) (at_c (v' := U64 (0#64)) rfl) (eql_U64 (x8 &&& (1#64)) (0#64)) rfl) (sS (sA (sT1 rfl) sT0) sB0 sF0) ?_
                                  refine AL_cons (LR_fieldAddr (off := 0) (o := 5) (at_tmp 13 _) (fun b w => fa199_5 b 0 w) rfl) (sS (sT1 rfl) sB0 sF0) ?_
                                  refine AL_cons (LR_store (at_tmp 124 _) (at_tmp 123 _) (cells_one (one_is rfl)) (onC (one_is rfl) onN) sz4 rfl rfl) (sS (sA (sT1 rfl) (sT1 rfl)) (sB1 rfl) sF0) ?_
                                  refine AL_nil ?_
                                  exact thenN (cutLeaf (v := (x8 &&& (1#64)) == (0#64)) hr (weak0 ((sT rfl (sT rfl (sT rfl (sT rfl (sT rfl sT0)))))) (sub_keep (sub_keep sub_nil))))
                                · rintro x16 hr
                                  show AW Hfaa.prog _ _ _ ⟨[(6, .inr (.inl (6, 0))), (7, .inl (is (Bl x2))), (11, .inl (is (I16 x7))), (13, .inr (.inl (13, 0))), (14, .inl (is (Bl x12)))], [(6, pb 76 [is (Bl false), is (Sv ([] : List UInt8)), is (I16 0)]), (13, pb 199 [is (U64 x14), is (U64 x10), is (U64 x13), is (Bl x15), is (Bl x11), is (Bl x16), is (U64 (0#64))])]⟩
                                  have hr : some r = F94_13 N x2 x7 x10 x11 x12 x13 x14 x15 x16 := hr
                                  refine AW_cut (σ := BitVec 64) (fun v => ⟨[(6, .inr (.inl (6, 0))), (7, .inl (is (Bl x2))), (11, .inl (is (I16 x7))), (13, .inr (.inl (13, 0)))], [(6, pb 76 [is (Bl false), is (Sv ([] : List UInt8)), is (I16 0)]), (13, pb 199 [is (U64 x14), is (U64 x10), is (U64 v), is (Bl x15), is (Bl x11), is (Bl x16), is (U64 (0#64))])]⟩) (fun v => some r = F94_14 N x2 x7 x10 x11 x14 x15 x16 v) ?_ ?_
                                  · skip
                                    refine AW_cut (σ := Bool) (fun v => ⟨[(6, .inr (.inl (6, 0))), (7, .inl (is (Bl x2))), (11, .inl (is (I16 x7))), (13, .inr (.inl (13, 0))), (130, .inl (is (Bl v)))], [(6, pb 76 [is (Bl false), is (Sv ([] : List UInt8)), is (I16 0)]), (13, pb 199 [is (U64 x14), is (U64 x10), is (U64 x13), is (Bl x15), is (Bl x11), is (Bl x16), is (U64 (0#64))])]⟩) (fun v => some r = F94_17 N x2 x7 x10 x11 x13 x14 x15 x16 v) ?_ ?_
                                    · skip
                                      refine AW_region ?_
                                      refine AL_cons (LR_move (at_tmp 14 _) rfl) (sS (sT1 rfl) sB0 sF0) ?_
                                      refine AL_cons (LR_move (at_tmp 125 _) rfl) (sS (sT1 rfl) sB0 sF0) ?_
                                      refine AL_cutAt 4 ⟨[(6, .inr (.inl (6, 0))), (7, .inl (is (Bl x2))), (11, .inl (is (I16 x7))), (13, .inr (.inl (13, 0))), (14, .inl (is (Bl x12))), (125, .inl (is (Bl x12))), (126, .inl (is (Bl x12))), (130, .inl (is (Bl (x12 && (!x16)))))], [(6, pb 76 [is (Bl false), is (Sv ([] : List UInt8)), is (I16 0)]), (13, pb 199 [is (U64 x14), is (U64 x10), is (U64 x13), is (Bl x15), is (Bl x11), is (Bl x16), is (U64 (0#64))])]⟩ ?_ ?_
                                      · cases hb : x12
                                        · skip
                                          refine AL_cons (LR_off (b := false) rfl rfl rfl rfl) (sS (sT1 rfl) sB0 sF0) ?_
                                          refine AL_cons (LR_off (b := false) rfl rfl rfl rfl) (sS (sT1 rfl) sB0 sF0) ?_
                                          refine AL_cons (LR_off (b := false) rfl rfl rfl rfl) (sS (sT1 rfl) sB0 sF0) ?_
                                          refine AL_cons (LR_pick (b := false) (at_tmp 126 _) (at_tmp 129 _) (at_c (v' := Bl false) rfl) rfl) (sS (sA (sT1 rfl) (sA (sT1 rfl) sT0)) sB0 sF0) ?_
                                          exact AL_nil ⟨rfl, weak0 ((sT rfl (sT rfl (sT rfl (sT rfl (sT rfl (sT rfl (sT rfl (sT rfl sT0))))))))) (sub_keep (sub_keep sub_nil))⟩
                                        · skip
                                          refine AL_cons (LR_on rfl rfl rfl (LR_fieldAddr (off := 0) (o := 5) (at_tmp 13 _) (fun b w => fa199_5 b 0 w) rfl)) (sS (sT rfl (sT1 rfl)) sB0 sF0) ?_
                                          refine AL_cons (LR_on rfl rfl rfl (LR_load (at_tmp 127 _) na4 rfl rfl)) (sS (sT rfl (sT1 rfl)) (sB1 rfl) sF0) ?_
                                          refine AL_cons (LR_on rfl rfl rfl (LR_un (at_tmp 128 _) (not_Bl x16) rfl)) (sS (sT rfl (sT1 rfl)) sB0 sF0) ?_
                                          refine AL_cons (LR_pick (b := true) (at_tmp 126 _) (at_tmp 129 _) (at_c (v' := Bl false) rfl) rfl) (sS (sA (sT1 rfl) (sA (sT1 rfl) sT0)) sB0 sF0) ?_
                                          exact AL_nil ⟨rfl, weak0 ((sT rfl (sT rfl (sT rfl (sT rfl (sT rfl (sT rfl (sT rfl (sT rfl sT0))))))))) (sub_keep (sub_keep sub_nil))⟩
                                      refine AL_nil ?_
                                      exact thenN (cutLeaf (v := x12 && (!x16)) hr (weak0 ((sT rfl (sT rfl (sT rfl (sT rfl (sT rfl sT0)))))) (sub_keep (sub_keep sub_nil))))
                                    · rintro x23 hr
                                      show AW Hfaa.prog _ _ _ ⟨[(6, .inr (.inl (6, 0))), (7, .inl (is (Bl x2))), (11, .inl (is (I16 x7))), (13, .inr (.inl (13, 0))), (130, .inl (is (Bl x23)))], [(6, pb 76 [is (Bl false), is (Sv ([] : List UInt8)), is (I16 0)]), (13, pb 199 [is (U64 x14), is (U64 x10), is (U64 x13), is (Bl x15), is (Bl x11), is (Bl x16), is (U64 (0#64))])]⟩
                                      have hr : some r = F94_17 N x2 x7 x10 x11 x13 x14 x15 x16 x23 := hr
                                      refine AW_condT (b := x23) rfl (fun h => ?_) (fun h => ?_)
                                      · have hr := hr.trans (cond_t h)
                                        clear h
                                        refine AW_region ?_
                                        refine AL_cons (LR_fieldAddr (off := 0) (o := 2) (at_tmp 13 _) (fun b w => fa199_2 b 0 w) rfl) (sS (sT1 rfl) sB0 sF0) ?_
                                        refine AL_cons (LR_load (at_tmp 131 _) na30 rfl rfl) (sS (sT1 rfl) (sB1 rfl) sF0) ?_
                                        refine AL_cons (LR_bin (at_tmp 132 _) (at_c (v' := U64 (1#64)) rfl) (sub_U64 x13 (1#64)) rfl) (sS (sA (sT1 rfl) sT0) sB0 sF0) ?_
                                        refine AL_cons (LR_fieldAddr (off := 0) (o := 2) (at_tmp 13 _) (fun b w => fa199_2 b 0 w) rfl) (sS (sT1 rfl) sB0 sF0) ?_
                                        refine AL_cons (LR_store (at_tmp 134 _) (at_tmp 133 _) (cells_one (one_is rfl)) (onC (one_is rfl) onN) sz30 rfl rfl) (sS (sA (sT1 rfl) (sT1 rfl)) (sB1 rfl) sF0) ?_
                                        refine AL_nil ?_
                                        exact thenN (cutLeaf (v := x13 - (1#64)) hr (weak0 ((sT rfl (sT rfl (sT rfl (sT rfl sT0))))) (sub_keep (sub_keep sub_nil))))
                                      · have hr := hr.trans (cond_f h)
                                        clear h
                                        refine AW_skip ?_
                                        exact thenN (cutLeaf (v := x13) hr (weak0 ((sT rfl (sT rfl (sT rfl (sT rfl sT0))))) (sub_keep (sub_keep sub_nil))))
                                  · rintro x17 hr
                                    show AW Hfaa.prog _ _ _ ⟨[(6, .inr (.inl (6, 0))), (7, .inl (is (Bl x2))), (11, .inl (is (I16 x7))), (13, .inr (.inl (13, 0)))], [(6, pb 76 [is (Bl false), is (Sv ([] : List UInt8)), is (I16 0)]), (13, pb 199 [is (U64 x14), is (U64 x10), is (U64 x17), is (Bl x15), is (Bl x11), is (Bl x16), is (U64 (0#64))])]⟩
                                    have hr : some r = F94_14 N x2 x7 x10 x11 x14 x15 x16 x17 := hr
                                    refine AW_cut (σ := BitVec 64 × Int) (fun v => ⟨[(6, .inr (.inl (6, 0))), (7, .inl (is (Bl x2))), (11, .inl (is (I16 x7))), (15, .inl (is (U64 v.1))), (16, .inl (is (I16 v.2)))], [(6, pb 76 [is (Bl false), is (Sv ([] : List UInt8)), is (I16 0)])]⟩) (fun v => some r = F94_15 N x2 x7 v.1 v.2) ?_ ?_
                                    · skip
                                      refine AW_region ?_
                                      obtain ⟨y16, hy16, hr⟩ := bind_some hr
                                      refine AL_cons (LR_callB [(0, 13)] [(13, 0)] Hfaa.func169 rfl rfl (C169 N x14 x10 x17 x15 x11 x16 (0#64) y16 hy16) (aTC (at_tmp 13 _) aT0) rfl rfl rfl rfl rfl) (sS (sA (sT1 rfl) sT0) (sB1 rfl) sF0) ?_
                                      refine AL_cons (LR_move (at_tmp 136 _) rfl) (sS (sT1 rfl) sB0 sF0) ?_
                                      refine AL_cons (LR_extract (at_tmp 135 _) rfl rfl) (sS (sT1 rfl) sB0 sF0) ?_
                                      refine AL_cons (LR_extract (at_tmp 135 _) rfl rfl) (sS (sT1 rfl) sB0 sF0) ?_
                                      refine AL_cons (LR_assign (at_tmp 137 _) rfl) (sS (sT1 rfl) sB0 sF0) ?_
                                      refine AL_cons (LR_assign (at_tmp 138 _) rfl) (sS (sT1 rfl) sB0 sF0) ?_
                                      refine AL_nil ?_
                                      exact thenN (cutLeaf (v := (y16.1, y16.2.1)) hr (weak0 ((sT rfl (sT rfl (sT rfl (sT rfl (sT rfl sT0)))))) (sub_keep (sub_drop sub_nil))))
                                    · rintro ⟨x18, x19⟩ hr
                                      show AW Hfaa.prog _ _ _ ⟨[(6, .inr (.inl (6, 0))), (7, .inl (is (Bl x2))), (11, .inl (is (I16 x7))), (15, .inl (is (U64 x18))), (16, .inl (is (I16 x19)))], [(6, pb 76 [is (Bl false), is (Sv ([] : List UInt8)), is (I16 0)])]⟩
                                      have hr : some r = F94_15 N x2 x7 x18 x19 := hr
                                      refine AW_cut (σ := Bool × List UInt8 × Int) (fun v => ⟨[(6, .inr (.inl (6, 0))), (17, .inr (.inl (17, 0)))], [(6, pb 76 [is (Bl false), is (Sv ([] : List UInt8)), is (I16 0)]), (17, pb 76 [is (Bl v.1), is (Sv v.2.1), is (I16 v.2.2)])]⟩) (fun v => some r = F94_16 N v.1 v.2.1 v.2.2) ?_ ?_
                                      · skip
                                        refine AW_region ?_
                                        refine AL_cons (LR_move (at_tmp 7 _) rfl) (sS (sT1 rfl) sB0 sF0) ?_
                                        refine AL_cons (LR_move (at_tmp 15 _) rfl) (sS (sT1 rfl) sB0 sF0) ?_
                                        refine AL_cons (LR_conv (vx := U64 x18) (at_tmp 141 _) (conv_I64 Hfaa.underlying30 Hfaa.underlying2 (x18.toNat : Int)) rfl) (sS (sT1 rfl) sB0 sF0) ?_
                                        obtain ⟨y13, hy13, hr⟩ := bind_some hr
                                        refine AL_cons (LR_call Hfaa.func170 rfl rfl (C170 N (w64 (x18.toNat : Int)) y13 hy13) (all_cons (at_tmp 142 _) all_nil) rfl) (sS (sA (sT1 rfl) sT0) sB0 sF0) ?_
                                        refine AL_cons (LR_move (at_tmp 11 _) rfl) (sS (sT1 rfl) sB0 sF0) ?_
                                        obtain ⟨y14, hy14, hr⟩ := lt_some hr
                                        refine AL_cons (LR_call Hfaa.func171 rfl rfl (C171 x7 y14 hy14) (all_cons (at_tmp 144 _) all_nil) rfl) (sS (sA (sT1 rfl) sT0) sB0 sF0) ?_
                                        refine AL_cons (LR_bin (at_tmp 145 _) (at_c (v' := I16 1) rfl) (sub_I16 y14 1) rfl) (sS (sA (sT1 rfl) sT0) sB0 sF0) ?_
                                        refine AL_cons (LR_move (at_tmp 16 _) rfl) (sS (sT1 rfl) sB0 sF0) ?_
                                        refine AL_cons (LR_bin (at_tmp 146 _) (at_tmp 147 _) (add_I16 (w16 (y14 - 1)) x19) rfl) (sS (sA (sT1 rfl) (sT1 rfl)) sB0 sF0) ?_
                                        refine AL_cons (LR_conv (vx := I16 (w16 ((w16 (y14 - 1)) + x19))) (at_tmp 148 _) (conv_I64 Hfaa.underlying44 Hfaa.underlying3 (w16 ((w16 (y14 - 1)) + x19))) rfl) (sS (sT1 rfl) sB0 sF0) ?_
                                        obtain ⟨y15, hy15, hr⟩ := bind_some hr
                                        refine AL_cons (LR_call Hfaa.func39 rfl rfl (C39 N x2 y13 (w64 (w16 ((w16 (y14 - 1)) + x19))) y15 hy15) (all_cons (at_tmp 140 _) (all_cons (at_tmp 143 _) (all_cons (at_tmp 149 _) all_nil))) rfl) (sS (sA (sT1 rfl) (sA (sT1 rfl) (sA (sT1 rfl) sT0))) sB0 sF0) ?_
                                        refine AL_cons (LR_move (at_tmp 150 _) rfl) (sS (sT1 rfl) sB0 sF0) ?_
                                        refine AL_cons (LR_extract (at_tmp 139 _) rfl rfl) (sS (sT1 rfl) sB0 sF0) ?_
                                        refine AL_cons (LR_extract (at_tmp 139 _) rfl rfl) (sS (sT1 rfl) sB0 sF0) ?_
                                        refine AL_cons (zl76 rfl) (sS sT0 sB0 (sF1 rfl)) ?_
                                        refine AL_cons (LR_store (at_tmp 17 _) (at_tmp 151 _) (cells_agg _) (onC (one_is rfl) (onC (one_is rfl) (onC (one_is rfl) onN))) sz76 rfl rfl) (sS (sA (sT1 rfl) (sT1 rfl)) (sB1 rfl) sF0) ?_
                                        refine AL_cons (LR_assign (at_tmp 152 _) rfl) (sS (sT1 rfl) sB0 sF0) ?_
                                        refine AL_nil ?_
                                        exact thenN (cutLeaf (v := (y15.1, y15.2.1, y15.2.2.1)) hr (weak0 ((sT rfl (sT rfl sT0))) (sub_keep (sub_keep sub_nil))))
                                      · rintro ⟨x20, x21, x22⟩ hr
                                        show AW Hfaa.prog _ _ _ ⟨[(6, .inr (.inl (6, 0))), (17, .inr (.inl (17, 0)))], [(6, pb 76 [is (Bl false), is (Sv ([] : List UInt8)), is (I16 0)]), (17, pb 76 [is (Bl x20), is (Sv x21), is (I16 x22)])]⟩
                                        have hr : some r = F94_16 N x20 x21 x22 := hr
                                        refine AW_seq1 ?_
                                        refine AW_region ?_
                                        refine AL_cons (LR_loads (at_tmp 17 _) ag76 sz76 rfl rfl rfl) (sS (sT1 rfl) (sB1 rfl) sF0) ?_
                                        refine AL_cons (LR_store (at_tmp 6 _) (at_tmp 153 _) (cells_agg _) (onC (one_is rfl) (onC (one_is rfl) (onC (one_is rfl) onN))) sz76 rfl rfl) (sS (sA (sT1 rfl) (sT1 rfl)) (sB1 rfl) sF0) ?_
                                        refine AL_nil ?_
                                        refine thenN ?_
                                        refine AW_ret ?_
                                        obtain rfl := Option.some.inj hr
                                        exact res1 rfl (rvC rfl rfl ag76 sz76 rfl)
/-- calc/so.orName -/
def F313_4 (a2 : List UInt8) (x7 : Bool) : List UInt8 := bif x7 then ([43, 73, 110, 102] : List UInt8) else a2
def F313_3 (a2 : List UInt8) (x1 : Bool) (x2 : Int) (x3 : Int) (x4 : BitVec 64) (x6 : Bool) : List UInt8 := bif x6 then ([45, 73, 110, 102] : List UInt8) else F313_4 a2 (x2 == 3)
def F313_2 (a2 : List UInt8) (x1 : Bool) (x2 : Int) (x3 : Int) (x4 : BitVec 64) (x5 : Bool) : List UInt8 := bif x5 then ([78, 97, 78] : List UInt8) else F313_3 a2 x1 x2 x3 x4 ((x2 == 3) && x1)
def F313_1 (a2 : List UInt8) (x1 : Bool) (x2 : Int) (x3 : Int) (x4 : BitVec 64) : List UInt8 := F313_2 a2 x1 x2 x3 x4 (x2 == 4)
def F313 (a0_0 : BitVec 8) (a0_1 : BitVec 8) (a1 : BitVec 64) (a2 : List UInt8) : List UInt8 := lt (F65 a0_0 a0_1 a1) fun y4 => F313_1 a2 y4.1 y4.2.1 y4.2.2.1 y4.2.2.2
theorem C313 (a0_0 : BitVec 8) (a0_1 : BitVec 8) (a1 : BitVec 64) (a2 : List UInt8) (r : List UInt8) (hr : r = F313 a0_0 a0_1 a1 a2) : Aw.Fn Hfaa.prog 313 [agg [is (U8 a0_0), is (U8 a0_1)], is (U64 a1), is (Sv a2)] (is (Sv r)) := by
  refine fn_intro Hfaa.func313 rfl rfl rfl ?_
  intro bn0 w0 H0
  refine AW_seq1 ?_
  refine AW_region ?_
  refine AL_cons (LR_box (at_tmp 0 _) (cells_agg _) rfl) (sS (sT1 rfl) sB0 (sF1 rfl)) ?_
  refine AL_cons (LR_assign (at_c (v' := Sv ([] : List UInt8)) rfl) rfl) (sS sT0 sB0 sF0) ?_
  refine AL_nil ?_
  refine thenN ?_
  refine AW_seq1 ?_
  refine AW_cut (σ := Bool × Int × Int × BitVec 64) (fun v => ⟨[(2, .inl (is (Sv a2))), (7, .inr (.inl (7, 0)))], [(7, pb 112 [is (Bl v.1), is (I8 v.2.1), is (I16 v.2.2.1), is (U64 v.2.2.2)])]⟩) (fun v => r = F313_1 a2 v.1 v.2.1 v.2.2.1 v.2.2.2) ?_ ?_
  · skip
    refine AW_region ?_
    refine AL_cons (LR_loads (at_tmp 3 _) ag23 sz23 rfl rfl rfl) (sS (sT1 rfl) (sB1 rfl) sF0) ?_
    refine AL_cons (LR_move (at_tmp 1 _) rfl) (sS (sT1 rfl) sB0 sF0) ?_
    obtain ⟨y4, hy4, hr⟩ := lt_some hr
    refine AL_cons (LR_call Hfaa.func65 rfl rfl (C65 a0_0 a0_1 a1 y4 hy4) (all_cons (at_tmp 8 _) (all_cons (at_tmp 9 _) all_nil)) rfl) (sS (sA (sT1 rfl) (sA (sT1 rfl) sT0)) sB0 sF0) ?_
    refine AL_cons (zl112 rfl) (sS sT0 sB0 (sF1 rfl)) ?_
    refine AL_cons (LR_store (at_tmp 7 _) (at_tmp 10 _) (cells_agg _) (onC (one_is rfl) (onC (one_is rfl) (onC (one_is rfl) (onC (one_is rfl) onN)))) sz112 rfl rfl) (sS (sA (sT1 rfl) (sT1 rfl)) (sB1 rfl) sF0) ?_
    refine AL_nil ?_
    exact thenN (cutLeaf (v := (y4.1, y4.2.1, y4.2.2.1, y4.2.2.2)) hr (weak0 ((sT rfl (sT rfl sT0))) (sub_drop (sub_keep sub_nil))))
  · rintro ⟨x1, x2, x3, x4⟩ hr
    show AW Hfaa.prog _ _ _ ⟨[(2, .inl (is (Sv a2))), (7, .inr (.inl (7, 0)))], [(7, pb 112 [is (Bl x1), is (I8 x2), is (I16 x3), is (U64 x4)])]⟩
    have hr : r = F313_1 a2 x1 x2 x3 x4 := hr
    refine AW_block ?_
    refine AW_cut (σ := Bool) (fun v => ⟨[(2, .inl (is (Sv a2))), (7, .inr (.inl (7, 0))), (11, .inl (is (Bl v)))], [(7, pb 112 [is (Bl x1), is (I8 x2), is (I16 x3), is (U64 x4)])]⟩) (fun v => r = F313_2 a2 x1 x2 x3 x4 v) ?_ ?_
    · skip
      refine AW_region ?_
      refine AL_cons (LR_fieldAddr (off := 0) (o := 1) (at_tmp 7 _) (fun b w => fa112_1 b 0 w) rfl) (sS (sT1 rfl) sB0 sF0) ?_
      refine AL_cons (LR_load (at_tmp 12 _) na110 rfl rfl) (sS (sT1 rfl) (sB1 rfl) sF0) ?_
      refine AL_cons (LR_bin (at_tmp 13 _) (at_c (v' := I8 4) rfl) (eql_I8 x2 4) rfl) (sS (sA (sT1 rfl) sT0) sB0 sF0) ?_
      refine AL_cons (LR_assign (at_tmp 14 _) rfl) (sS (sT1 rfl) sB0 sF0) ?_
      refine AL_nil ?_
      exact thenN (cutLeaf (v := x2 == 4) hr (weak0 ((sT rfl (sT rfl (sT rfl sT0)))) (sub_keep sub_nil)))
    · rintro x5 hr
      show AW Hfaa.prog _ _ _ ⟨[(2, .inl (is (Sv a2))), (7, .inr (.inl (7, 0))), (11, .inl (is (Bl x5)))], [(7, pb 112 [is (Bl x1), is (I8 x2), is (I16 x3), is (U64 x4)])]⟩
      have hr : r = F313_2 a2 x1 x2 x3 x4 x5 := hr
      refine AW_condT (b := x5) rfl (fun h => ?_) (fun h => ?_)
      · have hr := hr.trans (cond_t h)
        clear h
        refine AW_seq1 ?_
        refine AW_region ?_
        refine AL_cons (LR_assign (at_c (v' := Sv ([78, 97, 78] : List UInt8)) rfl) rfl) (sS sT0 sB0 sF0) ?_
        refine AL_nil ?_
        refine thenN ?_
        refine AW_ret ?_
        refine blR ?_
        refine thenR ?_
        subst hr
        exact res1 rfl (rvT rfl)
      · have hr := hr.trans (cond_f h)
        clear h
        refine AW_cut (σ := Bool) (fun v => ⟨[(2, .inl (is (Sv a2))), (7, .inr (.inl (7, 0))), (15, .inl (is (Bl v)))], [(7, pb 112 [is (Bl x1), is (I8 x2), is (I16 x3), is (U64 x4)])]⟩) (fun v => r = F313_3 a2 x1 x2 x3 x4 v) ?_ ?_
        · skip
          refine AW_region ?_
          refine AL_cons (LR_fieldAddr (off := 0) (o := 1) (at_tmp 7 _) (fun b w => fa112_1 b 0 w) rfl) (sS (sT1 rfl) sB0 sF0) ?_
          refine AL_cons (LR_load (at_tmp 16 _) na110 rfl rfl) (sS (sT1 rfl) (sB1 rfl) sF0) ?_
          refine AL_cons (LR_bin (at_tmp 17 _) (at_c (v' := I8 3) rfl) (eql_I8 x2 3) rfl) (sS (sA (sT1 rfl) sT0) sB0 sF0) ?_
          refine AL_cons (LR_move (at_tmp 18 _) rfl) (sS (sT1 rfl) sB0 sF0) ?_
          refine AL_cutAt 3 ⟨[(2, .inl (is (Sv a2))), (7, .inr (.inl (7, 0))), (11, .inl (is (Bl x5))), (16, .inr (.inl (7, 1))), (17, .inl (is (I8 x2))), (18, .inl (is (Bl (x2 == 3)))), (19, .inl (is (Bl (x2 == 3)))), (22, .inl (is (Bl ((x2 == 3) && x1))))], [(7, pb 112 [is (Bl x1), is (I8 x2), is (I16 x3), is (U64 x4)])]⟩ ?_ ?_
          · cases hb : x2 == 3
            · skip
              refine AL_cons (LR_off (b := false) rfl rfl rfl rfl) (sS (sT1 rfl) sB0 sF0) ?_
              refine AL_cons (LR_off (b := false) rfl rfl rfl rfl) (sS (sT1 rfl) sB0 sF0) ?_
              refine AL_cons (LR_pick (b := false) (at_tmp 19 _) (at_tmp 21 _) (at_c (v' := Bl false) rfl) rfl) (sS (sA (sT1 rfl) (sA (sT1 rfl) sT0)) sB0 sF0) ?_
              exact AL_nil ⟨rfl, weak0 ((sT rfl (sT rfl (sT rfl (sT rfl (sT rfl (sT rfl (sT rfl (sT rfl sT0))))))))) (sub_keep sub_nil)⟩
            · skip
              refine AL_cons (LR_on rfl rfl rfl (LR_fieldAddr (off := 0) (o := 0) (at_tmp 7 _) (fun b w => fa112_0 b 0 w) rfl)) (sS (sT rfl (sT1 rfl)) sB0 sF0) ?_
              refine AL_cons (LR_on rfl rfl rfl (LR_load (at_tmp 20 _) na4 rfl rfl)) (sS (sT rfl (sT1 rfl)) (sB1 rfl) sF0) ?_
              refine AL_cons (LR_pick (b := true) (at_tmp 19 _) (at_tmp 21 _) (at_c (v' := Bl false) rfl) rfl) (sS (sA (sT1 rfl) (sA (sT1 rfl) sT0)) sB0 sF0) ?_
              exact AL_nil ⟨rfl, weak0 ((sT rfl (sT rfl (sT rfl (sT rfl (sT rfl (sT rfl (sT rfl (sT rfl sT0))))))))) (sub_keep sub_nil)⟩
          refine AL_cons (LR_assign (at_tmp 22 _) rfl) (sS (sT1 rfl) sB0 sF0) ?_
          refine AL_nil ?_
          exact thenN (cutLeaf (v := (x2 == 3) && x1) hr (weak0 ((sT rfl (sT rfl (sT rfl sT0)))) (sub_keep sub_nil)))
        · rintro x6 hr
          show AW Hfaa.prog _ _ _ ⟨[(2, .inl (is (Sv a2))), (7, .inr (.inl (7, 0))), (15, .inl (is (Bl x6)))], [(7, pb 112 [is (Bl x1), is (I8 x2), is (I16 x3), is (U64 x4)])]⟩
          have hr : r = F313_3 a2 x1 x2 x3 x4 x6 := hr
          refine AW_condT (b := x6) rfl (fun h => ?_) (fun h => ?_)
          · have hr := hr.trans (cond_t h)
            clear h
            refine AW_seq1 ?_
            refine AW_region ?_
            refine AL_cons (LR_assign (at_c (v' := Sv ([45, 73, 110, 102] : List UInt8)) rfl) rfl) (sS sT0 sB0 sF0) ?_
            refine AL_nil ?_
            refine thenN ?_
            refine AW_ret ?_
            refine blR ?_
            refine thenR ?_
            subst hr
            exact res1 rfl (rvT rfl)
          · have hr := hr.trans (cond_f h)
            clear h
            refine AW_cut (σ := Bool) (fun v => ⟨[(2, .inl (is (Sv a2))), (23, .inl (is (Bl v)))], []⟩) (fun v => r = F313_4 a2 v) ?_ ?_
            · skip
              refine AW_region ?_
              refine AL_cons (LR_fieldAddr (off := 0) (o := 1) (at_tmp 7 _) (fun b w => fa112_1 b 0 w) rfl) (sS (sT1 rfl) sB0 sF0) ?_
              refine AL_cons (LR_load (at_tmp 24 _) na110 rfl rfl) (sS (sT1 rfl) (sB1 rfl) sF0) ?_
              refine AL_cons (LR_bin (at_tmp 25 _) (at_c (v' := I8 3) rfl) (eql_I8 x2 3) rfl) (sS (sA (sT1 rfl) sT0) sB0 sF0) ?_
              refine AL_cons (LR_assign (at_tmp 26 _) rfl) (sS (sT1 rfl) sB0 sF0) ?_
              refine AL_nil ?_
              exact thenN (cutLeaf (v := x2 == 3) hr (weak0 ((sT rfl (sT rfl sT0))) (sub_drop sub_nil)))
            · rintro x7 hr
              show AW Hfaa.prog _ _ _ ⟨[(2, .inl (is (Sv a2))), (23, .inl (is (Bl x7)))], []⟩
              have hr : r = F313_4 a2 x7 := hr
              refine AW_condT (b := x7) rfl (fun h => ?_) (fun h => ?_)
              · have hr := hr.trans (cond_t h)
                clear h
                refine AW_seq1 ?_
                refine AW_region ?_
                refine AL_cons (LR_assign (at_c (v' := Sv ([43, 73, 110, 102] : List UInt8)) rfl) rfl) (sS sT0 sB0 sF0) ?_
                refine AL_nil ?_
                refine thenN ?_
                refine AW_ret ?_
                refine blR ?_
                refine thenR ?_
                subst hr
                exact res1 rfl (rvT rfl)
              · have hr := hr.trans (cond_f h)
                clear h
                refine AW_skip ?_
                refine blN ?_
                refine thenN ?_
                refine AW_seq1 ?_
                refine AW_region ?_
                refine AL_cons (LR_move (at_tmp 2 _) rfl) (sS (sT1 rfl) sB0 sF0) ?_
                refine AL_cons (LR_assign (at_tmp 27 _) rfl) (sS (sT1 rfl) sB0 sF0) ?_
                refine AL_nil ?_
                refine thenN ?_
                refine AW_ret ?_
                subst hr
                exact res1 rfl (rvT rfl)
end Go.Proofs.YfwaawGreat
