import Derived.Test.YfwaawGreatG0
import Derived.Test.YfwaawGreatG1
import Derived.Test.YfwaawGreatG2
import Derived.Test.YfwaawGreatG10
import Derived.Test.YfwaawGreatG25
import Derived.Test.YfwaawGreatG26
import Derived.Test.YfwaawGreatG28
import Derived.Test.YfwaawGreatG34
import Derived.Test.YfwaawGreatG38
import Derived.Test.YfwaawGreatG40
import Derived.Test.YfwaawGreatG53
namespace Go.Proofs.YfwaawGreat
open Go.Aw
set_option linter.unusedVariables false
set_option maxRecDepth 100000
set_option maxHeartbeats 1000000
/-- parse/total.Total -/
def F102_13 (N : Nat) (a1_0 : BitVec 8) (a1_1 : BitVec 8) (x17 : Int) (x18 : BitVec 64) (x19 : BitVec 64) (x21 : Bool) : Option (BitVec 64 × Bool) := (F205 N a1_0 a1_1 x18 x17 x21).bind fun y23 => some (y23, true)
def F102_12 (N : Nat) (a1_0 : BitVec 8) (a1_1 : BitVec 8) (a3 : Int) (x12 : BitVec 64) (x17 : Int) (x18 : BitVec 64) (x19 : BitVec 64) (x20 : BitVec 64) : Option (BitVec 64 × Bool) := F102_13 N a1_0 a1_1 x17 x18 x19 ((((x19 ||| x20) != (0#64)) || (decide (a3 < 0))) || (decide (a3 > 55)))
def F102_17 (N : Nat) (a1_0 : BitVec 8) (a1_1 : BitVec 8) (a3 : Int) (x12 : BitVec 64) (x16 : Int) (x23 : BitVec 64) (x25 : BitVec 64) (x26 : BitVec 64) : Option (BitVec 64 × Bool) := F102_12 N a1_0 a1_1 a3 x12 (w16 (x16 - 1)) x23 x25 x26
def F102_16 (N : Nat) (a1_0 : BitVec 8) (a1_1 : BitVec 8) (a3 : Int) (x12 : BitVec 64) (x13 : BitVec 64) (x16 : Int) (x23 : BitVec 64) (x25 : BitVec 64) : Option (BitVec 64 × Bool) := F102_17 N a1_0 a1_1 a3 x12 x16 x23 x25 (x13 <<< 1)
def F102_15 (N : Nat) (a1_0 : BitVec 8) (a1_1 : BitVec 8) (a3 : Int) (x12 : BitVec 64) (x13 : BitVec 64) (x16 : Int) (x23 : BitVec 64) (x24 : BitVec 64) : Option (BitVec 64 × Bool) := F102_16 N a1_0 a1_1 a3 x12 x13 x16 x23 (x24 ||| (x13 >>> 63))
def F102_14 (N : Nat) (a1_0 : BitVec 8) (a1_1 : BitVec 8) (a3 : Int) (x12 : BitVec 64) (x13 : BitVec 64) (x14 : BitVec 64) (x15 : BitVec 64) (x16 : Int) (x22 : Bool) : Option (BitVec 64 × Bool) := bif x22 then lt (F206 x14 x15 (1#8)) fun y25 => F102_15 N a1_0 a1_1 a3 x12 x13 x16 y25.1 y25.2 else F102_12 N a1_0 a1_1 a3 x12 x16 x14 x15 x13
def F102_11 (N : Nat) (a1_0 : BitVec 8) (a1_1 : BitVec 8) (a3 : Int) (x12 : BitVec 64) (x13 : BitVec 64) (x14 : BitVec 64) (x15 : BitVec 64) (x16 : Int) : Option (BitVec 64 × Bool) := F102_14 N a1_0 a1_1 a3 x12 x13 x14 x15 x16 ((x14 >>> 63) == (0#64))
def F102_10 (N : Nat) (a1_0 : BitVec 8) (a1_1 : BitVec 8) (a3 : Int) (x4 : Int) (x8 : BitVec 8) (x12 : BitVec 64) (x13 : BitVec 64) (x14 : BitVec 64) (x15 : BitVec 64) : Option (BitVec 64 × Bool) := F102_11 N a1_0 a1_1 a3 x12 x13 x14 x15 (w16 (x4 + (w16 (128 - (w16 (x8.toNat : Int))))))
def F102_9 (N : Nat) (a1_0 : BitVec 8) (a1_1 : BitVec 8) (a3 : Int) (x4 : Int) (x8 : BitVec 8) (x10 : BitVec 64) (x11 : BitVec 64) (x12 : BitVec 64) (x13 : BitVec 64) : Option (BitVec 64 × Bool) := lt (F166 x10 x11 (0#64) x12) fun y26 => F102_10 N a1_0 a1_1 a3 x4 x8 x12 x13 y26.1 y26.2.1
def F102_8 (N : Nat) (a1_0 : BitVec 8) (a1_1 : BitVec 8) (a3 : Int) (x4 : Int) (x5 : BitVec 64) (x6 : BitVec 64) (x8 : BitVec 8) (x9 : BitVec 64) : Option (BitVec 64 × Bool) := lt (F165 x9 x5) fun y27 => lt (F165 x9 x6) fun y28 => F102_9 N a1_0 a1_1 a3 x4 x8 y27.1 y27.2 y28.1 y28.2
def F102_7 (N : Nat) (a1_0 : BitVec 8) (a1_1 : BitVec 8) (a2 : BitVec 64) (a3 : Int) (x4 : Int) (x5 : BitVec 64) (x6 : BitVec 64) (x8 : BitVec 8) : Option (BitVec 64 × Bool) := F102_8 N a1_0 a1_1 a3 x4 x5 x6 x8 (a2 <<< x8.toNat)
def F102_6 (N : Nat) (a1_0 : BitVec 8) (a1_1 : BitVec 8) (a2 : BitVec 64) (a3 : Int) (x4 : Int) (x5 : BitVec 64) (x6 : BitVec 64) (x7 : Bool) : Option (BitVec 64 × Bool) := bif x7 then some (0#64, false) else (F164 N a2).bind fun y29 => F102_7 N a1_0 a1_1 a2 a3 x4 x5 x6 y29
def F102_5 (N : Nat) (a1_0 : BitVec 8) (a1_1 : BitVec 8) (a2 : BitVec 64) (a3 : Int) (x4 : Int) (x5 : BitVec 64) (x6 : BitVec 64) : Option (BitVec 64 × Bool) := lt (F27 x5 x6 x4) fun y30 => F102_6 N a1_0 a1_1 a2 a3 x4 x5 x6 (!y30)
def F102_4 (N : Nat) (a0 : Tab) (a1_0 : BitVec 8) (a1_1 : BitVec 8) (a2 : BitVec 64) (a3 : Int) : Option (BitVec 64 × Bool) := (F116 N a0 a3).bind fun y31 => F102_5 N a1_0 a1_1 a2 a3 y31.2.2.1 y31.1 y31.2.1
def F102_19 (N : Nat) (a0 : Tab) (a1_0 : BitVec 8) (a1_1 : BitVec 8) (a2 : BitVec 64) (a3 : Int) (x28 : BitVec 64) (x29 : Bool) : Option (BitVec 64 × Bool) := bif x29 then (F205 N a1_0 a1_1 x28 a3 false).bind fun y34 => some (y34, true) else F102_4 N a0 a1_0 a1_1 a2 a3
def F102_18 (N : Nat) (a0 : Tab) (a1_0 : BitVec 8) (a1_1 : BitVec 8) (a2 : BitVec 64) (a3 : Int) (x27 : Bool) : Option (BitVec 64 × Bool) := bif x27 then (F204 N a2 (w16 (0 - a3))).bind fun y35 => F102_19 N a0 a1_0 a1_1 a2 a3 y35.1 y35.2 else F102_4 N a0 a1_0 a1_1 a2 a3
def F102_3 (N : Nat) (a0 : Tab) (a1_0 : BitVec 8) (a1_1 : BitVec 8) (a2 : BitVec 64) (a3 : Int) (x3 : Bool) : Option (BitVec 64 × Bool) := bif x3 then lt (F67 a1_0 a1_1 false) fun y7 => some (y7, true) else F102_18 N a0 a1_0 a1_1 a2 a3 ((decide ((-27) ≤ a3)) && (decide (a3 < 0)))
def F102_2 (N : Nat) (a0 : Tab) (a1_0 : BitVec 8) (a1_1 : BitVec 8) (a2 : BitVec 64) (a3 : Int) (x2 : Bool) : Option (BitVec 64 × Bool) := bif x2 then some (0#64, true) else F102_3 N a0 a1_0 a1_1 a2 a3 (decide (a3 > 347))
def F102_1 (N : Nat) (a0 : Tab) (a1_0 : BitVec 8) (a1_1 : BitVec 8) (a2 : BitVec 64) (a3 : Int) (x1 : Bool) : Option (BitVec 64 × Bool) := bif x1 then some (0#64, false) else F102_2 N a0 a1_0 a1_1 a2 a3 ((a2 == (0#64)) || (decide (a3 < (-348))))
def F102 (N : Nat) (a0 : Tab) (a1_0 : BitVec 8) (a1_1 : BitVec 8) (a2 : BitVec 64) (a3 : Int) : Option (BitVec 64 × Bool) := bif !((a1_0 == F13.1) && (a1_1 == F13.2)) then F102_1 N a0 a1_0 a1_1 a2 a3 (!((a1_0 == F14.1) && (a1_1 == F14.2))) else F102_1 N a0 a1_0 a1_1 a2 a3 false
theorem C102 (N : Nat) (a0 : Tab) (a1_0 : BitVec 8) (a1_1 : BitVec 8) (a2 : BitVec 64) (a3 : Int) (r : BitVec 64 × Bool) (hr : some r = F102 N a0 a1_0 a1_1 a2 a3) : Aw.Fn Hfaa.prog 102 [tabp a0, agg [is (U8 a1_0), is (U8 a1_1)], is (U64 a2), is (I16 a3)] (tup [is (U64 r.1), is (Bl r.2)]) := by
  refine fn_intro Hfaa.func102 rfl rfl rfl ?_
  intro bn0 w0 H0
  refine AW_seq1 ?_
  refine AW_region ?_
  refine AL_cons (LR_box (at_tmp 1 _) (cells_agg _) rfl) (sS (sT1 rfl) sB0 (sF1 rfl)) ?_
  refine AL_cons (LR_assign (at_c (v' := U64 (0#64)) rfl) rfl) (sS sT0 sB0 sF0) ?_
  refine AL_cons (LR_assign (at_c (v' := Bl false) rfl) rfl) (sS sT0 sB0 sF0) ?_
  refine AL_nil ?_
  refine thenN ?_
  refine AW_seq1 ?_
  refine AW_block ?_
  refine AW_cut (σ := Bool) (fun v => ⟨[(0, .inl (tabp a0)), (2, .inl (is (U64 a2))), (3, .inl (is (I16 a3))), (5, .inr (.inl (5, 0))), (19, .inl (is (Bl v)))], [(5, pb 23 [is (U8 a1_0), is (U8 a1_1)])]⟩) (fun v => some r = F102_1 N a0 a1_0 a1_1 a2 a3 v) ?_ ?_
  · skip
    rcases bool_em (!((a1_0 == F13.1) && (a1_1 == F13.2))) with hb4 | hb4
    · have hr := hr.trans (cond_f hb4)
      refine AW_draw mixed
        (lrC (LR_move (at_tmp 0 _) rfl)
        (lrC (LR_binA (at_tmp 20 _) (at_c (v' := .pointer none) rfl) (eqTabNil Hfaa.underlying27 a0) rfl)
        (lrC (LR_move (at_tmp 21 _) rfl)
        (lrC (LR_on rfl rfl rfl (LR_loads (at_tmp 5 _) ag23 sz23 rfl rfl rfl))
        (lrC (LR_on rfl rfl rfl (LR_call Hfaa.func13 rfl rfl (C13 _ rfl) all_nil rfl))
        (lrC (LR_on rfl rfl rfl (LR_asB (LR_binA (at_tmp 23 _) (at_tmp 24 _) (neqA23 a1_0 a1_1 F13.1 F13.2) rfl) hb4))
        (lrC (LR_on rfl rfl rfl (LR_move (at_tmp 25 _) rfl))
        (lrC (LR_off (b := false) rfl rfl rfl rfl)
        (lrC (LR_off (b := false) rfl rfl rfl rfl)
        (lrC (LR_off (b := false) rfl rfl rfl rfl)
        (lrC (LR_on rfl rfl rfl (LR_pick (b := false) (at_tmp 26 _) (at_tmp 29 _) (at_c (v' := Bl false) rfl) rfl))
        (lrC (LR_pick (b := false) (at_tmp 22 _) (at_c (v' := Bl true) rfl) (at_tmp 30 _) rfl)
        (lrC (LR_assign (at_tmp 31 _) rfl)
        lrN)))))))))))))
        (by kernel_rfl)
        (saC (sS (sT1 rfl) sB0 sF0) (saC (sS (sA (sT1 rfl) sT0) sB0 sF0) (saC (sS (sT1 rfl) sB0 sF0) (saC (sS (sT rfl (sT1 rfl)) (sB1 rfl) sF0) (saC (sS (sT rfl sT0) sB0 sF0) (saC (sS (sT rfl (sA (sT1 rfl) (sT1 rfl))) sB0 sF0) (saC (sS (sT rfl (sT1 rfl)) sB0 sF0) (saC (sS (sT1 rfl) sB0 sF0) (saC (sS (sT1 rfl) sB0 sF0) (saC (sS (sT1 rfl) sB0 sF0) (saC (sS (sT rfl (sA (sT1 rfl) (sA (sT1 rfl) sT0))) sB0 sF0) (saC (sS (sA (sT1 rfl) (sA sT0 (sT1 rfl))) sB0 sF0) (saC (sS (sT1 rfl) sB0 sF0) saN))))))))))))) ?_
      exact thenN (cutLeaf (v := false) hr (weak0 ((sT rfl (sT rfl (sT rfl (sT rfl (sT rfl sT0)))))) (sub_keep sub_nil)))
    · have hr := hr.trans (cond_t hb4)
      refine AW_draw mixed
        (lrC (LR_move (at_tmp 0 _) rfl)
        (lrC (LR_binA (at_tmp 20 _) (at_c (v' := .pointer none) rfl) (eqTabNil Hfaa.underlying27 a0) rfl)
        (lrC (LR_move (at_tmp 21 _) rfl)
        (lrC (LR_on rfl rfl rfl (LR_loads (at_tmp 5 _) ag23 sz23 rfl rfl rfl))
        (lrC (LR_on rfl rfl rfl (LR_call Hfaa.func13 rfl rfl (C13 _ rfl) all_nil rfl))
        (lrC (LR_on rfl rfl rfl (LR_asB (LR_binA (at_tmp 23 _) (at_tmp 24 _) (neqA23 a1_0 a1_1 F13.1 F13.2) rfl) hb4))
        (lrC (LR_on rfl rfl rfl (LR_move (at_tmp 25 _) rfl))
        (lrC (LR_on rfl rfl rfl (LR_loads (at_tmp 5 _) ag23 sz23 rfl rfl rfl))
        (lrC (LR_on rfl rfl rfl (LR_call Hfaa.func14 rfl rfl (C14 _ rfl) all_nil rfl))
        (lrC (LR_on rfl rfl rfl (LR_binA (at_tmp 27 _) (at_tmp 28 _) (neqA23 a1_0 a1_1 F14.1 F14.2) rfl))
        (lrC (LR_on rfl rfl rfl (LR_pick (b := true) (at_tmp 26 _) (at_tmp 29 _) (at_c (v' := Bl false) rfl) rfl))
        (lrC (LR_pick (b := false) (at_tmp 22 _) (at_c (v' := Bl true) rfl) (at_tmp 30 _) rfl)
        (lrC (LR_assign (at_tmp 31 _) rfl)
        lrN)))))))))))))
        (by kernel_rfl)
        (saC (sS (sT1 rfl) sB0 sF0) (saC (sS (sA (sT1 rfl) sT0) sB0 sF0) (saC (sS (sT1 rfl) sB0 sF0) (saC (sS (sT rfl (sT1 rfl)) (sB1 rfl) sF0) (saC (sS (sT rfl sT0) sB0 sF0) (saC (sS (sT rfl (sA (sT1 rfl) (sT1 rfl))) sB0 sF0) (saC (sS (sT rfl (sT1 rfl)) sB0 sF0) (saC (sS (sT rfl (sT1 rfl)) (sB1 rfl) sF0) (saC (sS (sT rfl sT0) sB0 sF0) (saC (sS (sT rfl (sA (sT1 rfl) (sT1 rfl))) sB0 sF0) (saC (sS (sT rfl (sA (sT1 rfl) (sA (sT1 rfl) sT0))) sB0 sF0) (saC (sS (sA (sT1 rfl) (sA sT0 (sT1 rfl))) sB0 sF0) (saC (sS (sT1 rfl) sB0 sF0) saN))))))))))))) ?_
      exact thenN (cutLeaf (v := !((a1_0 == F14.1) && (a1_1 == F14.2))) hr (weak0 ((sT rfl (sT rfl (sT rfl (sT rfl (sT rfl sT0)))))) (sub_keep sub_nil)))
  · rintro x1 hr
    show AW Hfaa.prog _ _ _ ⟨[(0, .inl (tabp a0)), (2, .inl (is (U64 a2))), (3, .inl (is (I16 a3))), (5, .inr (.inl (5, 0))), (19, .inl (is (Bl x1)))], [(5, pb 23 [is (U8 a1_0), is (U8 a1_1)])]⟩
    have hr : some r = F102_1 N a0 a1_0 a1_1 a2 a3 x1 := hr
    refine AW_condT (b := x1) rfl (fun h => ?_) (fun h => ?_)
    · have hr := hr.trans (cond_t h)
      clear h
      refine AW_seq1 ?_
      refine AW_region ?_
      refine AL_cons (LR_assign (at_c (v' := U64 (0#64)) rfl) rfl) (sS sT0 sB0 sF0) ?_
      refine AL_cons (LR_assign (at_c (v' := Bl false) rfl) rfl) (sS sT0 sB0 sF0) ?_
      refine AL_nil ?_
      refine thenN ?_
      refine AW_ret ?_
      refine blR ?_
      refine thenR ?_
      obtain rfl := Option.some.inj hr
      exact res2 rfl (rvT rfl) (rvT rfl)
    · have hr := hr.trans (cond_f h)
      clear h
      refine AW_cut (σ := Bool) (fun v => ⟨[(0, .inl (tabp a0)), (2, .inl (is (U64 a2))), (3, .inl (is (I16 a3))), (5, .inr (.inl (5, 0))), (32, .inl (is (Bl v)))], [(5, pb 23 [is (U8 a1_0), is (U8 a1_1)])]⟩) (fun v => some r = F102_2 N a0 a1_0 a1_1 a2 a3 v) ?_ ?_
      · skip
        refine AW_region ?_
        refine AL_cons (LR_move (at_tmp 2 _) rfl) (sS (sT1 rfl) sB0 sF0) ?_
        refine AL_cons (LR_bin (at_tmp 33 _) (at_c (v' := U64 (0#64)) rfl) (eql_U64 a2 (0#64)) rfl) (sS (sA (sT1 rfl) sT0) sB0 sF0) ?_
        refine AL_cons (LR_move (at_tmp 34 _) rfl) (sS (sT1 rfl) sB0 sF0) ?_
        refine AL_cutAt 3 ⟨[(0, .inl (tabp a0)), (2, .inl (is (U64 a2))), (3, .inl (is (I16 a3))), (5, .inr (.inl (5, 0))), (19, .inl (is (Bl x1))), (33, .inl (is (U64 a2))), (34, .inl (is (Bl (a2 == (0#64))))), (35, .inl (is (Bl (a2 == (0#64))))), (38, .inl (is (Bl ((a2 == (0#64)) || (decide (a3 < (-348)))))))], [(5, pb 23 [is (U8 a1_0), is (U8 a1_1)])]⟩ ?_ ?_
        · cases hb : a2 == (0#64)
          · skip
            refine AL_cons (LR_on rfl rfl rfl (LR_move (at_tmp 3 _) rfl)) (sS (sT rfl (sT1 rfl)) sB0 sF0) ?_
            refine AL_cons (LR_on rfl rfl rfl (LR_bin (at_tmp 36 _) (at_c (v' := I16 (-348)) rfl) (lss_I16 a3 (-348)) rfl)) (sS (sT rfl (sA (sT1 rfl) sT0)) sB0 sF0) ?_
            refine AL_cons (LR_pick (b := false) (at_tmp 35 _) (at_c (v' := Bl true) rfl) (at_tmp 37 _) rfl) (sS (sA (sT1 rfl) (sA sT0 (sT1 rfl))) sB0 sF0) ?_
            exact AL_nil ⟨rfl, weak0 ((sT rfl (sT rfl (sT rfl (sT rfl (sT rfl (sT rfl (sT rfl (sT rfl (sT rfl sT0)))))))))) (sub_keep sub_nil)⟩
          · skip
            refine AL_cons (LR_off (b := true) rfl rfl rfl rfl) (sS (sT1 rfl) sB0 sF0) ?_
            refine AL_cons (LR_off (b := true) rfl rfl rfl rfl) (sS (sT1 rfl) sB0 sF0) ?_
            refine AL_cons (LR_pick (b := true) (at_tmp 35 _) (at_c (v' := Bl true) rfl) (at_tmp 37 _) rfl) (sS (sA (sT1 rfl) (sA sT0 (sT1 rfl))) sB0 sF0) ?_
            exact AL_nil ⟨rfl, weak0 ((sT rfl (sT rfl (sT rfl (sT rfl (sT rfl (sT rfl (sT rfl (sT rfl (sT rfl sT0)))))))))) (sub_keep sub_nil)⟩
        refine AL_cons (LR_assign (at_tmp 38 _) rfl) (sS (sT1 rfl) sB0 sF0) ?_
        refine AL_nil ?_
        exact thenN (cutLeaf (v := (a2 == (0#64)) || (decide (a3 < (-348)))) hr (weak0 ((sT rfl (sT rfl (sT rfl (sT rfl (sT rfl sT0)))))) (sub_keep sub_nil)))
      · rintro x2 hr
        show AW Hfaa.prog _ _ _ ⟨[(0, .inl (tabp a0)), (2, .inl (is (U64 a2))), (3, .inl (is (I16 a3))), (5, .inr (.inl (5, 0))), (32, .inl (is (Bl x2)))], [(5, pb 23 [is (U8 a1_0), is (U8 a1_1)])]⟩
        have hr : some r = F102_2 N a0 a1_0 a1_1 a2 a3 x2 := hr
        refine AW_condT (b := x2) rfl (fun h => ?_) (fun h => ?_)
        · have hr := hr.trans (cond_t h)
          clear h
          refine AW_seq1 ?_
          refine AW_region ?_
          refine AL_cons (LR_assign (at_c (v' := U64 (0#64)) rfl) rfl) (sS sT0 sB0 sF0) ?_
          refine AL_cons (LR_assign (at_c (v' := Bl true) rfl) rfl) (sS sT0 sB0 sF0) ?_
          refine AL_nil ?_
          refine thenN ?_
          refine AW_ret ?_
          refine blR ?_
          refine thenR ?_
          obtain rfl := Option.some.inj hr
          exact res2 rfl (rvT rfl) (rvT rfl)
        · have hr := hr.trans (cond_f h)
          clear h
          refine AW_cut (σ := Bool) (fun v => ⟨[(0, .inl (tabp a0)), (2, .inl (is (U64 a2))), (3, .inl (is (I16 a3))), (5, .inr (.inl (5, 0))), (39, .inl (is (Bl v)))], [(5, pb 23 [is (U8 a1_0), is (U8 a1_1)])]⟩) (fun v => some r = F102_3 N a0 a1_0 a1_1 a2 a3 v) ?_ ?_
          · skip
            refine AW_region ?_
            refine AL_cons (LR_move (at_tmp 3 _) rfl) (sS (sT1 rfl) sB0 sF0) ?_
            refine AL_cons (LR_bin (at_tmp 40 _) (at_c (v' := I16 347) rfl) (gtr_I16 a3 347) rfl) (sS (sA (sT1 rfl) sT0) sB0 sF0) ?_
            refine AL_cons (LR_assign (at_tmp 41 _) rfl) (sS (sT1 rfl) sB0 sF0) ?_
            refine AL_nil ?_
            exact thenN (cutLeaf (v := decide (a3 > 347)) hr (weak0 ((sT rfl (sT rfl (sT rfl (sT rfl (sT rfl sT0)))))) (sub_keep sub_nil)))
          · rintro x3 hr
            show AW Hfaa.prog _ _ _ ⟨[(0, .inl (tabp a0)), (2, .inl (is (U64 a2))), (3, .inl (is (I16 a3))), (5, .inr (.inl (5, 0))), (39, .inl (is (Bl x3)))], [(5, pb 23 [is (U8 a1_0), is (U8 a1_1)])]⟩
            have hr : some r = F102_3 N a0 a1_0 a1_1 a2 a3 x3 := hr
            refine AW_condT (b := x3) rfl (fun h => ?_) (fun h => ?_)
            · have hr := hr.trans (cond_t h)
              clear h
              refine AW_seq1 ?_
              refine AW_region ?_
              refine AL_cons (LR_loads (at_tmp 5 _) ag23 sz23 rfl rfl rfl) (sS (sT1 rfl) (sB1 rfl) sF0) ?_
              obtain ⟨y7, hy7, hr⟩ := lt_some hr
              refine AL_cons (LR_call Hfaa.func67 rfl rfl (C67 a1_0 a1_1 false y7 hy7) (all_cons (at_tmp 42 _) (all_cons (at_c (v' := Bl false) rfl) all_nil)) rfl) (sS (sA (sT1 rfl) (sA sT0 sT0)) sB0 sF0) ?_
              refine AL_cons (LR_assign (at_tmp 43 _) rfl) (sS (sT1 rfl) sB0 sF0) ?_
              refine AL_cons (LR_assign (at_c (v' := Bl true) rfl) rfl) (sS sT0 sB0 sF0) ?_
              refine AL_nil ?_
              refine thenN ?_
              refine AW_ret ?_
              refine blR ?_
              refine thenR ?_
              obtain rfl := Option.some.inj hr
              exact res2 rfl (rvT rfl) (rvT rfl)
            · have hr := hr.trans (cond_f h)
              clear h
              refine AW_skip ?_
              refine blN ?_
              refine thenN ?_
              refine AW_cut (σ := Unit) (fun _ => ⟨[(0, .inl (tabp a0)), (2, .inl (is (U64 a2))), (3, .inl (is (I16 a3))), (5, .inr (.inl (5, 0)))], [(5, pb 23 [is (U8 a1_0), is (U8 a1_1)])]⟩) (fun _ => some r = F102_4 N a0 a1_0 a1_1 a2 a3) ?_ ?_
              · skip
                refine AW_cut (σ := Bool) (fun v => ⟨[(0, .inl (tabp a0)), (2, .inl (is (U64 a2))), (3, .inl (is (I16 a3))), (5, .inr (.inl (5, 0))), (49, .inl (is (Bl v)))], [(5, pb 23 [is (U8 a1_0), is (U8 a1_1)])]⟩) (fun v => some r = F102_18 N a0 a1_0 a1_1 a2 a3 v) ?_ ?_
                · skip
                  refine AW_region ?_
                  refine AL_cons (LR_move (at_tmp 3 _) rfl) (sS (sT1 rfl) sB0 sF0) ?_
                  refine AL_cons (LR_bin (at_c (v' := I16 (-27)) rfl) (at_tmp 44 _) (leq_I16 (-27) a3) rfl) (sS (sA sT0 (sT1 rfl)) sB0 sF0) ?_
                  refine AL_cons (LR_move (at_tmp 45 _) rfl) (sS (sT1 rfl) sB0 sF0) ?_
                  refine AL_cutAt 3 ⟨[(0, .inl (tabp a0)), (2, .inl (is (U64 a2))), (3, .inl (is (I16 a3))), (5, .inr (.inl (5, 0))), (39, .inl (is (Bl x3))), (44, .inl (is (I16 a3))), (45, .inl (is (Bl (decide ((-27) ≤ a3))))), (46, .inl (is (Bl (decide ((-27) ≤ a3))))), (49, .inl (is (Bl ((decide ((-27) ≤ a3)) && (decide (a3 < 0))))))], [(5, pb 23 [is (U8 a1_0), is (U8 a1_1)])]⟩ ?_ ?_
                  · cases hb : decide ((-27) ≤ a3)
                    · skip
                      refine AL_cons (LR_off (b := false) rfl rfl rfl rfl) (sS (sT1 rfl) sB0 sF0) ?_
                      refine AL_cons (LR_off (b := false) rfl rfl rfl rfl) (sS (sT1 rfl) sB0 sF0) ?_
                      refine AL_cons (LR_pick (b := false) (at_tmp 46 _) (at_tmp 48 _) (at_c (v' := Bl false) rfl) rfl) (sS (sA (sT1 rfl) (sA (sT1 rfl) sT0)) sB0 sF0) ?_
                      exact AL_nil ⟨rfl, weak0 ((sT rfl (sT rfl (sT rfl (sT rfl (sT rfl (sT rfl (sT rfl (sT rfl (sT rfl sT0)))))))))) (sub_keep sub_nil)⟩
                    · skip
                      refine AL_cons (LR_on rfl rfl rfl (LR_move (at_tmp 3 _) rfl)) (sS (sT rfl (sT1 rfl)) sB0 sF0) ?_
                      refine AL_cons (LR_on rfl rfl rfl (LR_bin (at_tmp 47 _) (at_c (v' := I16 0) rfl) (lss_I16 a3 0) rfl)) (sS (sT rfl (sA (sT1 rfl) sT0)) sB0 sF0) ?_
                      refine AL_cons (LR_pick (b := true) (at_tmp 46 _) (at_tmp 48 _) (at_c (v' := Bl false) rfl) rfl) (sS (sA (sT1 rfl) (sA (sT1 rfl) sT0)) sB0 sF0) ?_
                      exact AL_nil ⟨rfl, weak0 ((sT rfl (sT rfl (sT rfl (sT rfl (sT rfl (sT rfl (sT rfl (sT rfl (sT rfl sT0)))))))))) (sub_keep sub_nil)⟩
                  refine AL_nil ?_
                  exact thenN (cutLeaf (v := (decide ((-27) ≤ a3)) && (decide (a3 < 0))) hr (weak0 ((sT rfl (sT rfl (sT rfl (sT rfl (sT rfl sT0)))))) (sub_keep sub_nil)))
                · rintro x27 hr
                  show AW Hfaa.prog _ _ _ ⟨[(0, .inl (tabp a0)), (2, .inl (is (U64 a2))), (3, .inl (is (I16 a3))), (5, .inr (.inl (5, 0))), (49, .inl (is (Bl x27)))], [(5, pb 23 [is (U8 a1_0), is (U8 a1_1)])]⟩
                  have hr : some r = F102_18 N a0 a1_0 a1_1 a2 a3 x27 := hr
                  refine AW_condT (b := x27) rfl (fun h => ?_) (fun h => ?_)
                  · have hr := hr.trans (cond_t h)
                    clear h
                    refine AW_cut (σ := BitVec 64 × Bool) (fun v => ⟨[(0, .inl (tabp a0)), (2, .inl (is (U64 a2))), (3, .inl (is (I16 a3))), (5, .inr (.inl (5, 0))), (10, .inl (is (U64 v.1))), (11, .inl (is (Bl v.2)))], [(5, pb 23 [is (U8 a1_0), is (U8 a1_1)])]⟩) (fun v => some r = F102_19 N a0 a1_0 a1_1 a2 a3 v.1 v.2) ?_ ?_
                    · skip
                      refine AW_region ?_
                      refine AL_cons (LR_move (at_tmp 2 _) rfl) (sS (sT1 rfl) sB0 sF0) ?_
                      refine AL_cons (LR_move (at_tmp 3 _) rfl) (sS (sT1 rfl) sB0 sF0) ?_
                      refine AL_cons (LR_un (at_tmp 52 _) (neg_I16 a3) rfl) (sS (sT1 rfl) sB0 sF0) ?_
                      obtain ⟨y35, hy35, hr⟩ := bind_some hr
                      refine AL_cons (LR_call Hfaa.func204 rfl rfl (C204 N a2 (w16 (0 - a3)) y35 hy35) (all_cons (at_tmp 51 _) (all_cons (at_tmp 53 _) all_nil)) rfl) (sS (sA (sT1 rfl) (sA (sT1 rfl) sT0)) sB0 sF0) ?_
                      refine AL_cons (LR_move (at_tmp 54 _) rfl) (sS (sT1 rfl) sB0 sF0) ?_
                      refine AL_cons (LR_extract (at_tmp 50 _) rfl rfl) (sS (sT1 rfl) sB0 sF0) ?_
                      refine AL_cons (LR_extract (at_tmp 50 _) rfl rfl) (sS (sT1 rfl) sB0 sF0) ?_
                      refine AL_cons (LR_assign (at_tmp 55 _) rfl) (sS (sT1 rfl) sB0 sF0) ?_
                      refine AL_cons (LR_assign (at_tmp 56 _) rfl) (sS (sT1 rfl) sB0 sF0) ?_
                      refine AL_nil ?_
                      exact thenN (cutLeaf (v := (y35.1, y35.2)) hr (weak0 ((sT rfl (sT rfl (sT rfl (sT rfl (sT rfl (sT rfl sT0))))))) (sub_keep sub_nil)))
                    · rintro ⟨x28, x29⟩ hr
                      show AW Hfaa.prog _ _ _ ⟨[(0, .inl (tabp a0)), (2, .inl (is (U64 a2))), (3, .inl (is (I16 a3))), (5, .inr (.inl (5, 0))), (10, .inl (is (U64 x28))), (11, .inl (is (Bl x29)))], [(5, pb 23 [is (U8 a1_0), is (U8 a1_1)])]⟩
                      have hr : some r = F102_19 N a0 a1_0 a1_1 a2 a3 x28 x29 := hr
                      refine AW_seq1 ?_
                      refine AW_region ?_
                      refine AL_cons (LR_move (at_tmp 11 _) rfl) (sS (sT1 rfl) sB0 sF0) ?_
                      refine AL_nil ?_
                      refine thenN ?_
                      refine AW_condT (b := x29) rfl (fun h => ?_) (fun h => ?_)
                      · have hr := hr.trans (cond_t h)
                        clear h
                        refine AW_seq1 ?_
                        refine AW_region ?_
                        refine AL_cons (LR_loads (at_tmp 5 _) ag23 sz23 rfl rfl rfl) (sS (sT1 rfl) (sB1 rfl) sF0) ?_
                        refine AL_cons (LR_move (at_tmp 10 _) rfl) (sS (sT1 rfl) sB0 sF0) ?_
                        refine AL_cons (LR_move (at_tmp 3 _) rfl) (sS (sT1 rfl) sB0 sF0) ?_
                        obtain ⟨y34, hy34, hr⟩ := bind_some hr
                        refine AL_cons (LR_call Hfaa.func205 rfl rfl (C205 N a1_0 a1_1 x28 a3 false y34 hy34) (all_cons (at_tmp 58 _) (all_cons (at_tmp 59 _) (all_cons (at_tmp 60 _) (all_cons (at_c (v' := Bl false) rfl) all_nil)))) rfl) (sS (sA (sT1 rfl) (sA (sT1 rfl) (sA (sT1 rfl) (sA sT0 sT0)))) sB0 sF0) ?_
                        refine AL_cons (LR_assign (at_tmp 61 _) rfl) (sS (sT1 rfl) sB0 sF0) ?_
                        refine AL_cons (LR_assign (at_c (v' := Bl true) rfl) rfl) (sS sT0 sB0 sF0) ?_
                        refine AL_nil ?_
                        refine thenN ?_
                        refine AW_ret ?_
                        refine thenR ?_
                        obtain rfl := Option.some.inj hr
                        exact res2 rfl (rvT rfl) (rvT rfl)
                      · have hr := hr.trans (cond_f h)
                        clear h
                        refine AW_skip ?_
                        exact thenN (cutLeaf (v := ()) hr (weak0 ((sT rfl (sT rfl (sT rfl (sT rfl sT0))))) (sub_keep sub_nil)))
                  · have hr := hr.trans (cond_f h)
                    clear h
                    refine AW_skip ?_
                    exact thenN (cutLeaf (v := ()) hr (weak0 ((sT rfl (sT rfl (sT rfl (sT rfl sT0))))) (sub_keep sub_nil)))
              · rintro _ hr
                show AW Hfaa.prog _ _ _ ⟨[(0, .inl (tabp a0)), (2, .inl (is (U64 a2))), (3, .inl (is (I16 a3))), (5, .inr (.inl (5, 0)))], [(5, pb 23 [is (U8 a1_0), is (U8 a1_1)])]⟩
                have hr : some r = F102_4 N a0 a1_0 a1_1 a2 a3 := hr
                refine AW_cut (σ := Int × BitVec 64 × BitVec 64) (fun v => ⟨[(2, .inl (is (U64 a2))), (3, .inl (is (I16 a3))), (5, .inr (.inl (5, 0))), (12, .inr (.inl (12, 0))), (13, .inl (is (I16 v.1)))], [(5, pb 23 [is (U8 a1_0), is (U8 a1_1)]), (12, pb 42 [is (U64 v.2.1), is (U64 v.2.2)])]⟩) (fun v => some r = F102_5 N a1_0 a1_1 a2 a3 v.1 v.2.1 v.2.2) ?_ ?_
                · skip
                  refine AW_region ?_
                  refine AL_cons (LR_move (at_tmp 0 _) rfl) (sS (sT1 rfl) sB0 sF0) ?_
                  refine AL_cons (LR_move (at_tmp 3 _) rfl) (sS (sT1 rfl) sB0 sF0) ?_
                  obtain ⟨y31, hy31, hr⟩ := bind_some hr
                  refine AL_cons (LR_call Hfaa.func116 rfl rfl (C116 N a0 a3 y31 hy31) (all_cons (at_tmp 63 _) (all_cons (at_tmp 64 _) all_nil)) rfl) (sS (sA (sT1 rfl) (sA (sT1 rfl) sT0)) sB0 sF0) ?_
                  refine AL_cons (LR_move (at_tmp 65 _) rfl) (sS (sT1 rfl) sB0 sF0) ?_
                  refine AL_cons (LR_extract (at_tmp 62 _) rfl rfl) (sS (sT1 rfl) sB0 sF0) ?_
                  refine AL_cons (LR_extract (at_tmp 62 _) rfl rfl) (sS (sT1 rfl) sB0 sF0) ?_
                  refine AL_cons (LR_extract (at_tmp 62 _) rfl rfl) (sS (sT1 rfl) sB0 sF0) ?_
                  refine AL_cons (zl42 rfl) (sS sT0 sB0 (sF1 rfl)) ?_
                  refine AL_cons (LR_store (at_tmp 12 _) (at_tmp 66 _) (cells_agg _) (onC (one_is rfl) (onC (one_is rfl) onN)) sz42 rfl rfl) (sS (sA (sT1 rfl) (sT1 rfl)) (sB1 rfl) sF0) ?_
                  refine AL_cons (LR_assign (at_tmp 67 _) rfl) (sS (sT1 rfl) sB0 sF0) ?_
                  refine AL_cons (LR_assign (at_tmp 68 _) rfl) (sS (sT1 rfl) sB0 sF0) ?_
                  refine AL_nil ?_
                  exact thenN (cutLeaf (v := (y31.2.2.1, y31.1, y31.2.1)) hr (weak0 ((sT rfl (sT rfl (sT rfl (sT rfl (sT rfl sT0)))))) (sub_keep (sub_keep sub_nil))))
                · rintro ⟨x4, x5, x6⟩ hr
                  show AW Hfaa.prog _ _ _ ⟨[(2, .inl (is (U64 a2))), (3, .inl (is (I16 a3))), (5, .inr (.inl (5, 0))), (12, .inr (.inl (12, 0))), (13, .inl (is (I16 x4)))], [(5, pb 23 [is (U8 a1_0), is (U8 a1_1)]), (12, pb 42 [is (U64 x5), is (U64 x6)])]⟩
                  have hr : some r = F102_5 N a1_0 a1_1 a2 a3 x4 x5 x6 := hr
                  refine AW_seq1 ?_
                  refine AW_cut (σ := Bool) (fun v => ⟨[(2, .inl (is (U64 a2))), (3, .inl (is (I16 a3))), (5, .inr (.inl (5, 0))), (12, .inr (.inl (12, 0))), (13, .inl (is (I16 x4))), (72, .inl (is (Bl v)))], [(5, pb 23 [is (U8 a1_0), is (U8 a1_1)]), (12, pb 42 [is (U64 x5), is (U64 x6)])]⟩) (fun v => some r = F102_6 N a1_0 a1_1 a2 a3 x4 x5 x6 v) ?_ ?_
                  · skip
                    refine AW_region ?_
                    refine AL_cons (LR_loads (at_tmp 12 _) ag42 sz42 rfl rfl rfl) (sS (sT1 rfl) (sB1 rfl) sF0) ?_
                    refine AL_cons (LR_move (at_tmp 13 _) rfl) (sS (sT1 rfl) sB0 sF0) ?_
                    obtain ⟨y30, hy30, hr⟩ := lt_some hr
                    refine AL_cons (LR_call Hfaa.func27 rfl rfl (C27 x5 x6 x4 y30 hy30) (all_cons (at_tmp 69 _) (all_cons (at_tmp 70 _) all_nil)) rfl) (sS (sA (sT1 rfl) (sA (sT1 rfl) sT0)) sB0 sF0) ?_
                    refine AL_cons (LR_un (at_tmp 71 _) (not_Bl y30) rfl) (sS (sT1 rfl) sB0 sF0) ?_
                    refine AL_nil ?_
                    exact thenN (cutLeaf (v := !y30) hr (weak0 ((sT rfl (sT rfl (sT rfl (sT rfl (sT rfl (sT rfl sT0))))))) (sub_keep (sub_keep sub_nil))))
                  · rintro x7 hr
                    show AW Hfaa.prog _ _ _ ⟨[(2, .inl (is (U64 a2))), (3, .inl (is (I16 a3))), (5, .inr (.inl (5, 0))), (12, .inr (.inl (12, 0))), (13, .inl (is (I16 x4))), (72, .inl (is (Bl x7)))], [(5, pb 23 [is (U8 a1_0), is (U8 a1_1)]), (12, pb 42 [is (U64 x5), is (U64 x6)])]⟩
                    have hr : some r = F102_6 N a1_0 a1_1 a2 a3 x4 x5 x6 x7 := hr
                    refine AW_condT (b := x7) rfl (fun h => ?_) (fun h => ?_)
                    · have hr := hr.trans (cond_t h)
                      clear h
                      refine AW_seq1 ?_
                      refine AW_region ?_
                      refine AL_cons (LR_assign (at_c (v' := U64 (0#64)) rfl) rfl) (sS sT0 sB0 sF0) ?_
                      refine AL_cons (LR_assign (at_c (v' := Bl false) rfl) rfl) (sS sT0 sB0 sF0) ?_
                      refine AL_nil ?_
                      refine thenN ?_
                      refine AW_ret ?_
                      refine thenR ?_
                      obtain rfl := Option.some.inj hr
                      exact res2 rfl (rvT rfl) (rvT rfl)
                    · have hr := hr.trans (cond_f h)
                      clear h
                      refine AW_skip ?_
                      refine thenN ?_
                      refine AW_cut (σ := BitVec 8) (fun v => ⟨[(2, .inl (is (U64 a2))), (3, .inl (is (I16 a3))), (5, .inr (.inl (5, 0))), (12, .inr (.inl (12, 0))), (13, .inl (is (I16 x4))), (15, .inl (is (U8 v)))], [(5, pb 23 [is (U8 a1_0), is (U8 a1_1)]), (12, pb 42 [is (U64 x5), is (U64 x6)])]⟩) (fun v => some r = F102_7 N a1_0 a1_1 a2 a3 x4 x5 x6 v) ?_ ?_
                      · skip
                        refine AW_region ?_
                        refine AL_cons (LR_move (at_tmp 2 _) rfl) (sS (sT1 rfl) sB0 sF0) ?_
                        obtain ⟨y29, hy29, hr⟩ := bind_some hr
                        refine AL_cons (LR_call Hfaa.func164 rfl rfl (C164 N a2 y29 hy29) (all_cons (at_tmp 73 _) all_nil) rfl) (sS (sA (sT1 rfl) sT0) sB0 sF0) ?_
                        refine AL_cons (LR_assign (at_tmp 74 _) rfl) (sS (sT1 rfl) sB0 sF0) ?_
                        refine AL_nil ?_
                        exact thenN (cutLeaf (v := y29) hr (weak0 ((sT rfl (sT rfl (sT rfl (sT rfl (sT rfl (sT rfl sT0))))))) (sub_keep (sub_keep sub_nil))))
                      · rintro x8 hr
                        show AW Hfaa.prog _ _ _ ⟨[(2, .inl (is (U64 a2))), (3, .inl (is (I16 a3))), (5, .inr (.inl (5, 0))), (12, .inr (.inl (12, 0))), (13, .inl (is (I16 x4))), (15, .inl (is (U8 x8)))], [(5, pb 23 [is (U8 a1_0), is (U8 a1_1)]), (12, pb 42 [is (U64 x5), is (U64 x6)])]⟩
                        have hr : some r = F102_7 N a1_0 a1_1 a2 a3 x4 x5 x6 x8 := hr
                        refine AW_cut (σ := BitVec 64) (fun v => ⟨[(2, .inl (is (U64 v))), (3, .inl (is (I16 a3))), (5, .inr (.inl (5, 0))), (12, .inr (.inl (12, 0))), (13, .inl (is (I16 x4))), (15, .inl (is (U8 x8)))], [(5, pb 23 [is (U8 a1_0), is (U8 a1_1)]), (12, pb 42 [is (U64 x5), is (U64 x6)])]⟩) (fun v => some r = F102_8 N a1_0 a1_1 a3 x4 x5 x6 x8 v) ?_ ?_
                        · skip
                          refine AW_region ?_
                          refine AL_cons (LR_move (at_tmp 2 _) rfl) (sS (sT1 rfl) sB0 sF0) ?_
                          refine AL_cons (LR_move (at_tmp 15 _) rfl) (sS (sT1 rfl) sB0 sF0) ?_
                          refine AL_cons (LR_bin (at_tmp 75 _) (at_tmp 76 _) (shl_U64 a2 (x8.toNat : Int) (Int.natCast_nonneg _)) rfl) (sS (sA (sT1 rfl) (sT1 rfl)) sB0 sF0) ?_
                          refine AL_cons (LR_assign (at_tmp 77 _) rfl) (sS (sT1 rfl) sB0 sF0) ?_
                          refine AL_nil ?_
                          exact thenN (cutLeaf (v := a2 <<< x8.toNat) hr (weak0 ((sT rfl (sT rfl (sT rfl (sT rfl (sT rfl (sT rfl sT0))))))) (sub_keep (sub_keep sub_nil))))
                        · rintro x9 hr
                          show AW Hfaa.prog _ _ _ ⟨[(2, .inl (is (U64 x9))), (3, .inl (is (I16 a3))), (5, .inr (.inl (5, 0))), (12, .inr (.inl (12, 0))), (13, .inl (is (I16 x4))), (15, .inl (is (U8 x8)))], [(5, pb 23 [is (U8 a1_0), is (U8 a1_1)]), (12, pb 42 [is (U64 x5), is (U64 x6)])]⟩
                          have hr : some r = F102_8 N a1_0 a1_1 a3 x4 x5 x6 x8 x9 := hr
                          refine AW_cut (σ := BitVec 64 × BitVec 64 × BitVec 64 × BitVec 64) (fun v => ⟨[(3, .inl (is (I16 a3))), (5, .inr (.inl (5, 0))), (13, .inl (is (I16 x4))), (15, .inl (is (U8 x8))), (16, .inr (.inl (16, 0))), (17, .inr (.inl (17, 0)))], [(5, pb 23 [is (U8 a1_0), is (U8 a1_1)]), (16, pb 42 [is (U64 v.1), is (U64 v.2.1)]), (17, pb 42 [is (U64 v.2.2.1), is (U64 v.2.2.2)])]⟩) (fun v => some r = F102_9 N a1_0 a1_1 a3 x4 x8 v.1 v.2.1 v.2.2.1 v.2.2.2) ?_ ?_
                          · skip
                            obtain ⟨y27, hy27, hr⟩ := lt_some hr
                            obtain ⟨y28, hy28, hr⟩ := lt_some hr
                            refine AW_draw mixed
                              (lrC (LR_move (at_tmp 2 _) rfl)
                              (lrC (LR_fieldAddr (off := 0) (o := 0) (at_tmp 12 _) (fun b w => fa42_0 b 0 w) rfl)
                              (lrC (LR_load (at_tmp 79 _) na30 rfl rfl)
                              (lrC (LR_call Hfaa.func165 rfl rfl (C165 x9 x5 y27 hy27) (all_cons (at_tmp 78 _) (all_cons (at_tmp 80 _) all_nil)) rfl)
                              (lrC (LR_move (at_tmp 2 _) rfl)
                              (lrC (LR_fieldAddr (off := 0) (o := 1) (at_tmp 12 _) (fun b w => fa42_1 b 0 w) rfl)
                              (lrC (LR_load (at_tmp 83 _) na30 rfl rfl)
                              (lrC (LR_call Hfaa.func165 rfl rfl (C165 x9 x6 y28 hy28) (all_cons (at_tmp 82 _) (all_cons (at_tmp 84 _) all_nil)) rfl)
                              (lrC (zl42 rfl)
                              (lrC (zl42 rfl)
                              (lrC (LR_store (at_tmp 16 _) (at_tmp 81 _) (cells_agg _) (onC (one_is rfl) (onC (one_is rfl) onN)) sz42 rfl rfl)
                              (lrC (LR_store (at_tmp 17 _) (at_tmp 85 _) (cells_agg _) (onC (one_is rfl) (onC (one_is rfl) onN)) sz42 rfl rfl)
                              lrN))))))))))))
                              (by kernel_rfl)
                              (saC (sS (sT1 rfl) sB0 sF0) (saC (sS (sT1 rfl) sB0 sF0) (saC (sS (sT1 rfl) (sB1 rfl) sF0) (saC (sS (sA (sT1 rfl) (sA (sT1 rfl) sT0)) sB0 sF0) (saC (sS (sT1 rfl) sB0 sF0) (saC (sS (sT1 rfl) sB0 sF0) (saC (sS (sT1 rfl) (sB1 rfl) sF0) (saC (sS (sA (sT1 rfl) (sA (sT1 rfl) sT0)) sB0 sF0) (saC (sS sT0 sB0 (sF1 rfl)) (saC (sS sT0 sB0 (sF1 rfl)) (saC (sS (sA (sT1 rfl) (sT1 rfl)) (sB1 rfl) sF0) (saC (sS (sA (sT1 rfl) (sT1 rfl)) (sB1 rfl) sF0) saN)))))))))))) ?_
                            exact thenN (cutLeaf (v := (y27.1, y27.2, y28.1, y28.2)) hr (weak0 ((sT rfl (sT rfl (sT rfl (sT rfl (sT rfl (sT rfl sT0))))))) (sub_keep (sub_drop (sub_keep (sub_keep sub_nil))))))
                          · rintro ⟨x10, x11, x12, x13⟩ hr
                            show AW Hfaa.prog _ _ _ ⟨[(3, .inl (is (I16 a3))), (5, .inr (.inl (5, 0))), (13, .inl (is (I16 x4))), (15, .inl (is (U8 x8))), (16, .inr (.inl (16, 0))), (17, .inr (.inl (17, 0)))], [(5, pb 23 [is (U8 a1_0), is (U8 a1_1)]), (16, pb 42 [is (U64 x10), is (U64 x11)]), (17, pb 42 [is (U64 x12), is (U64 x13)])]⟩
                            have hr : some r = F102_9 N a1_0 a1_1 a3 x4 x8 x10 x11 x12 x13 := hr
                            refine AW_cut (σ := BitVec 64 × BitVec 64) (fun v => ⟨[(3, .inl (is (I16 a3))), (5, .inr (.inl (5, 0))), (13, .inl (is (I16 x4))), (15, .inl (is (U8 x8))), (16, .inr (.inl (16, 0))), (17, .inr (.inl (17, 0)))], [(5, pb 23 [is (U8 a1_0), is (U8 a1_1)]), (16, pb 42 [is (U64 v.1), is (U64 v.2)]), (17, pb 42 [is (U64 x12), is (U64 x13)])]⟩) (fun v => some r = F102_10 N a1_0 a1_1 a3 x4 x8 x12 x13 v.1 v.2) ?_ ?_
                            · skip
                              refine AW_region ?_
                              refine AL_cons (LR_loads (at_tmp 16 _) ag42 sz42 rfl rfl rfl) (sS (sT1 rfl) (sB1 rfl) sF0) ?_
                              refine AL_cons (LR_fieldAddr (off := 0) (o := 0) (at_tmp 17 _) (fun b w => fa42_0 b 0 w) rfl) (sS (sT1 rfl) sB0 sF0) ?_
                              refine AL_cons (LR_load (at_tmp 88 _) na30 rfl rfl) (sS (sT1 rfl) (sB1 rfl) sF0) ?_
                              refine AL_cons (bl42 (parts_cons (i := 1) (off := 1) (at_tmp 89 _) (cells_one (one_is rfl)) rfl rfl parts_nil) rfl rfl) (sS (sA (sT1 rfl) sT0) sB0 sF0) ?_
                              obtain ⟨y26, hy26, hr⟩ := lt_some hr
                              refine AL_cons (LR_call Hfaa.func166 rfl rfl (C166 x10 x11 (0#64) x12 y26 hy26) (all_cons (at_tmp 87 _) (all_cons (at_tmp 90 _) all_nil)) rfl) (sS (sA (sT1 rfl) (sA (sT1 rfl) sT0)) sB0 sF0) ?_
                              refine AL_cons (LR_move (at_tmp 91 _) rfl) (sS (sT1 rfl) sB0 sF0) ?_
                              refine AL_cons (LR_extract (at_tmp 86 _) rfl rfl) (sS (sT1 rfl) sB0 sF0) ?_
                              refine AL_cons (LR_extract (at_tmp 86 _) rfl rfl) (sS (sT1 rfl) sB0 sF0) ?_
                              refine AL_cons (LR_store (at_tmp 16 _) (at_tmp 92 _) (cells_agg _) (onC (one_is rfl) (onC (one_is rfl) onN)) sz42 rfl rfl) (sS (sA (sT1 rfl) (sT1 rfl)) (sB1 rfl) sF0) ?_
                              refine AL_nil ?_
                              exact thenN (cutLeaf (v := (y26.1, y26.2.1)) hr (weak0 ((sT rfl (sT rfl (sT rfl (sT rfl (sT rfl (sT rfl sT0))))))) (sub_keep (sub_keep (sub_keep sub_nil)))))
                            · rintro ⟨x14, x15⟩ hr
                              show AW Hfaa.prog _ _ _ ⟨[(3, .inl (is (I16 a3))), (5, .inr (.inl (5, 0))), (13, .inl (is (I16 x4))), (15, .inl (is (U8 x8))), (16, .inr (.inl (16, 0))), (17, .inr (.inl (17, 0)))], [(5, pb 23 [is (U8 a1_0), is (U8 a1_1)]), (16, pb 42 [is (U64 x14), is (U64 x15)]), (17, pb 42 [is (U64 x12), is (U64 x13)])]⟩
                              have hr : some r = F102_10 N a1_0 a1_1 a3 x4 x8 x12 x13 x14 x15 := hr
                              refine AW_cut (σ := Int) (fun v => ⟨[(3, .inl (is (I16 a3))), (5, .inr (.inl (5, 0))), (13, .inl (is (I16 v))), (16, .inr (.inl (16, 0))), (17, .inr (.inl (17, 0)))], [(5, pb 23 [is (U8 a1_0), is (U8 a1_1)]), (16, pb 42 [is (U64 x14), is (U64 x15)]), (17, pb 42 [is (U64 x12), is (U64 x13)])]⟩) (fun v => some r = F102_11 N a1_0 a1_1 a3 x12 x13 x14 x15 v) ?_ ?_
                              · skip
                                refine AW_region ?_
                                refine AL_cons (LR_move (at_tmp 13 _) rfl) (sS (sT1 rfl) sB0 sF0) ?_
                                refine AL_cons (LR_move (at_tmp 15 _) rfl) (sS (sT1 rfl) sB0 sF0) ?_
                                refine AL_cons (LR_conv (vx := U8 x8) (at_tmp 95 _) (conv_I16 Hfaa.underlying5 Hfaa.underlying44 (x8.toNat : Int)) rfl) (sS (sT1 rfl) sB0 sF0) ?_
                                refine AL_cons (LR_bin (at_c (v' := I16 128) rfl) (at_tmp 96 _) (sub_I16 128 (w16 (x8.toNat : Int))) rfl) (sS (sA sT0 (sT1 rfl)) sB0 sF0) ?_
                                refine AL_cons (LR_bin (at_tmp 94 _) (at_tmp 97 _) (add_I16 x4 (w16 (128 - (w16 (x8.toNat : Int))))) rfl) (sS (sA (sT1 rfl) (sT1 rfl)) sB0 sF0) ?_
                                refine AL_cons (LR_assign (at_tmp 98 _) rfl) (sS (sT1 rfl) sB0 sF0) ?_
                                refine AL_nil ?_
                                exact thenN (cutLeaf (v := w16 (x4 + (w16 (128 - (w16 (x8.toNat : Int)))))) hr (weak0 ((sT rfl (sT rfl (sT rfl (sT rfl (sT rfl sT0)))))) (sub_keep (sub_keep (sub_keep sub_nil)))))
                              · rintro x16 hr
                                show AW Hfaa.prog _ _ _ ⟨[(3, .inl (is (I16 a3))), (5, .inr (.inl (5, 0))), (13, .inl (is (I16 x16))), (16, .inr (.inl (16, 0))), (17, .inr (.inl (17, 0)))], [(5, pb 23 [is (U8 a1_0), is (U8 a1_1)]), (16, pb 42 [is (U64 x14), is (U64 x15)]), (17, pb 42 [is (U64 x12), is (U64 x13)])]⟩
                                have hr : some r = F102_11 N a1_0 a1_1 a3 x12 x13 x14 x15 x16 := hr
                                refine AW_cut (σ := Int × BitVec 64 × BitVec 64 × BitVec 64) (fun v => ⟨[(3, .inl (is (I16 a3))), (5, .inr (.inl (5, 0))), (13, .inl (is (I16 v.1))), (16, .inr (.inl (16, 0))), (17, .inr (.inl (17, 0)))], [(5, pb 23 [is (U8 a1_0), is (U8 a1_1)]), (16, pb 42 [is (U64 v.2.1), is (U64 v.2.2.1)]), (17, pb 42 [is (U64 x12), is (U64 v.2.2.2)])]⟩) (fun v => some r = F102_12 N a1_0 a1_1 a3 x12 v.1 v.2.1 v.2.2.1 v.2.2.2) ?_ ?_
                                · skip
                                  refine AW_cut (σ := Bool) (fun v => ⟨[(3, .inl (is (I16 a3))), (5, .inr (.inl (5, 0))), (13, .inl (is (I16 x16))), (16, .inr (.inl (16, 0))), (17, .inr (.inl (17, 0))), (102, .inl (is (Bl v)))], [(5, pb 23 [is (U8 a1_0), is (U8 a1_1)]), (16, pb 42 [is (U64 x14), is (U64 x15)]), (17, pb 42 [is (U64 x12), is (U64 x13)])]⟩) (fun v => some r = F102_14 N a1_0 a1_1 a3 x12 x13 x14 x15 x16 v) ?_ ?_
                                  · skip
                                    refine AW_region ?_
                                    refine AL_cons (LR_fieldAddr (off := 0) (o := 0) (at_tmp 16 _) (fun b w => fa42_0 b 0 w) rfl) (sS (sT1 rfl) sB0 sF0) ?_
                                    refine AL_cons (LR_load (at_tmp 99 _) na30 rfl rfl) (sS (sT1 rfl) (sB1 rfl) sF0) ?_
                                    refine AL_cons (LR_bin (at_tmp 100 _) (at_c (v' := U64 (63#64)) rfl) (shr_U64 x14 ((63#64).toNat : Int) (Int.natCast_nonneg _)) rfl) (sS (sA (sT1 rfl) sT0) sB0 sF0) ?_
                                    refine AL_cons (LR_bin (at_tmp 101 _) (at_c (v' := U64 (0#64)) rfl) (eql_U64 (x14 >>> 63) (0#64)) rfl) (sS (sA (sT1 rfl) sT0) sB0 sF0) ?_
                                    refine AL_nil ?_
                                    exact thenN (cutLeaf (v := (x14 >>> 63) == (0#64)) hr (weak0 ((sT rfl (sT rfl (sT rfl (sT rfl (sT rfl (sT rfl sT0))))))) (sub_keep (sub_keep (sub_keep sub_nil)))))
                                  · rintro x22 hr
                                    show AW Hfaa.prog _ _ _ ⟨[(3, .inl (is (I16 a3))), (5, .inr (.inl (5, 0))), (13, .inl (is (I16 x16))), (16, .inr (.inl (16, 0))), (17, .inr (.inl (17, 0))), (102, .inl (is (Bl x22)))], [(5, pb 23 [is (U8 a1_0), is (U8 a1_1)]), (16, pb 42 [is (U64 x14), is (U64 x15)]), (17, pb 42 [is (U64 x12), is (U64 x13)])]⟩
                                    have hr : some r = F102_14 N a1_0 a1_1 a3 x12 x13 x14 x15 x16 x22 := hr
                                    refine AW_condT (b := x22) rfl (fun h => ?_) (fun h => ?_)
                                    · have hr := hr.trans (cond_t h)
                                      clear h
                                      refine AW_cut (σ := BitVec 64 × BitVec 64) (fun v => ⟨[(3, .inl (is (I16 a3))), (5, .inr (.inl (5, 0))), (13, .inl (is (I16 x16))), (16, .inr (.inl (16, 0))), (17, .inr (.inl (17, 0)))], [(5, pb 23 [is (U8 a1_0), is (U8 a1_1)]), (16, pb 42 [is (U64 v.1), is (U64 v.2)]), (17, pb 42 [is (U64 x12), is (U64 x13)])]⟩) (fun v => some r = F102_15 N a1_0 a1_1 a3 x12 x13 x16 v.1 v.2) ?_ ?_
                                      · skip
                                        refine AW_region ?_
                                        refine AL_cons (LR_loads (at_tmp 16 _) ag42 sz42 rfl rfl rfl) (sS (sT1 rfl) (sB1 rfl) sF0) ?_
                                        obtain ⟨y25, hy25, hr⟩ := lt_some hr
                                        refine AL_cons (LR_call Hfaa.func206 rfl rfl (C206 x14 x15 (1#8) y25 hy25) (all_cons (at_tmp 103 _) (all_cons (at_c (v' := U8 (1#8)) rfl) all_nil)) rfl) (sS (sA (sT1 rfl) (sA sT0 sT0)) sB0 sF0) ?_
                                        refine AL_cons (LR_store (at_tmp 16 _) (at_tmp 104 _) (cells_agg _) (onC (one_is rfl) (onC (one_is rfl) onN)) sz42 rfl rfl) (sS (sA (sT1 rfl) (sT1 rfl)) (sB1 rfl) sF0) ?_
                                        refine AL_nil ?_
                                        exact thenN (cutLeaf (v := (y25.1, y25.2)) hr (weak0 ((sT rfl (sT rfl (sT rfl (sT rfl (sT rfl sT0)))))) (sub_keep (sub_keep (sub_keep sub_nil)))))
                                      · rintro ⟨x23, x24⟩ hr
                                        show AW Hfaa.prog _ _ _ ⟨[(3, .inl (is (I16 a3))), (5, .inr (.inl (5, 0))), (13, .inl (is (I16 x16))), (16, .inr (.inl (16, 0))), (17, .inr (.inl (17, 0)))], [(5, pb 23 [is (U8 a1_0), is (U8 a1_1)]), (16, pb 42 [is (U64 x23), is (U64 x24)]), (17, pb 42 [is (U64 x12), is (U64 x13)])]⟩
                                        have hr : some r = F102_15 N a1_0 a1_1 a3 x12 x13 x16 x23 x24 := hr
                                        refine AW_cut (σ := BitVec 64) (fun v => ⟨[(3, .inl (is (I16 a3))), (5, .inr (.inl (5, 0))), (13, .inl (is (I16 x16))), (16, .inr (.inl (16, 0))), (17, .inr (.inl (17, 0)))], [(5, pb 23 [is (U8 a1_0), is (U8 a1_1)]), (16, pb 42 [is (U64 x23), is (U64 v)]), (17, pb 42 [is (U64 x12), is (U64 x13)])]⟩) (fun v => some r = F102_16 N a1_0 a1_1 a3 x12 x13 x16 x23 v) ?_ ?_
                                        · skip
                                          refine AW_region ?_
                                          refine AL_cons (LR_fieldAddr (off := 0) (o := 1) (at_tmp 16 _) (fun b w => fa42_1 b 0 w) rfl) (sS (sT1 rfl) sB0 sF0) ?_
                                          refine AL_cons (LR_load (at_tmp 105 _) na30 rfl rfl) (sS (sT1 rfl) (sB1 rfl) sF0) ?_
                                          refine AL_cons (LR_fieldAddr (off := 0) (o := 1) (at_tmp 17 _) (fun b w => fa42_1 b 0 w) rfl) (sS (sT1 rfl) sB0 sF0) ?_
                                          refine AL_cons (LR_load (at_tmp 107 _) na30 rfl rfl) (sS (sT1 rfl) (sB1 rfl) sF0) ?_
                                          refine AL_cons (LR_bin (at_tmp 108 _) (at_c (v' := U64 (63#64)) rfl) (shr_U64 x13 ((63#64).toNat : Int) (Int.natCast_nonneg _)) rfl) (sS (sA (sT1 rfl) sT0) sB0 sF0) ?_
                                          refine AL_cons (LR_bin (at_tmp 106 _) (at_tmp 109 _) (or_U64 x24 (x13 >>> 63)) rfl) (sS (sA (sT1 rfl) (sT1 rfl)) sB0 sF0) ?_
                                          refine AL_cons (LR_fieldAddr (off := 0) (o := 1) (at_tmp 16 _) (fun b w => fa42_1 b 0 w) rfl) (sS (sT1 rfl) sB0 sF0) ?_
                                          refine AL_cons (LR_store (at_tmp 111 _) (at_tmp 110 _) (cells_one (one_is rfl)) (onC (one_is rfl) onN) sz30 rfl rfl) (sS (sA (sT1 rfl) (sT1 rfl)) (sB1 rfl) sF0) ?_
                                          refine AL_nil ?_
                                          exact thenN (cutLeaf (v := x24 ||| (x13 >>> 63)) hr (weak0 ((sT rfl (sT rfl (sT rfl (sT rfl (sT rfl sT0)))))) (sub_keep (sub_keep (sub_keep sub_nil)))))
                                        · rintro x25 hr
                                          show AW Hfaa.prog _ _ _ ⟨[(3, .inl (is (I16 a3))), (5, .inr (.inl (5, 0))), (13, .inl (is (I16 x16))), (16, .inr (.inl (16, 0))), (17, .inr (.inl (17, 0)))], [(5, pb 23 [is (U8 a1_0), is (U8 a1_1)]), (16, pb 42 [is (U64 x23), is (U64 x25)]), (17, pb 42 [is (U64 x12), is (U64 x13)])]⟩
                                          have hr : some r = F102_16 N a1_0 a1_1 a3 x12 x13 x16 x23 x25 := hr
                                          refine AW_cut (σ := BitVec 64) (fun v => ⟨[(3, .inl (is (I16 a3))), (5, .inr (.inl (5, 0))), (13, .inl (is (I16 x16))), (16, .inr (.inl (16, 0))), (17, .inr (.inl (17, 0)))], [(5, pb 23 [is (U8 a1_0), is (U8 a1_1)]), (16, pb 42 [is (U64 x23), is (U64 x25)]), (17, pb 42 [is (U64 x12), is (U64 v)])]⟩) (fun v => some r = F102_17 N a1_0 a1_1 a3 x12 x16 x23 x25 v) ?_ ?_
                                          · skip
                                            refine AW_region ?_
                                            refine AL_cons (LR_fieldAddr (off := 0) (o := 1) (at_tmp 17 _) (fun b w => fa42_1 b 0 w) rfl) (sS (sT1 rfl) sB0 sF0) ?_
                                            refine AL_cons (LR_load (at_tmp 112 _) na30 rfl rfl) (sS (sT1 rfl) (sB1 rfl) sF0) ?_
                                            refine AL_cons (LR_bin (at_tmp 113 _) (at_c (v' := U64 (1#64)) rfl) (shl_U64 x13 ((1#64).toNat : Int) (Int.natCast_nonneg _)) rfl) (sS (sA (sT1 rfl) sT0) sB0 sF0) ?_
                                            refine AL_cons (LR_fieldAddr (off := 0) (o := 1) (at_tmp 17 _) (fun b w => fa42_1 b 0 w) rfl) (sS (sT1 rfl) sB0 sF0) ?_
                                            refine AL_cons (LR_store (at_tmp 115 _) (at_tmp 114 _) (cells_one (one_is rfl)) (onC (one_is rfl) onN) sz30 rfl rfl) (sS (sA (sT1 rfl) (sT1 rfl)) (sB1 rfl) sF0) ?_
                                            refine AL_nil ?_
                                            exact thenN (cutLeaf (v := x13 <<< 1) hr (weak0 ((sT rfl (sT rfl (sT rfl (sT rfl (sT rfl sT0)))))) (sub_keep (sub_keep (sub_keep sub_nil)))))
                                          · rintro x26 hr
                                            show AW Hfaa.prog _ _ _ ⟨[(3, .inl (is (I16 a3))), (5, .inr (.inl (5, 0))), (13, .inl (is (I16 x16))), (16, .inr (.inl (16, 0))), (17, .inr (.inl (17, 0)))], [(5, pb 23 [is (U8 a1_0), is (U8 a1_1)]), (16, pb 42 [is (U64 x23), is (U64 x25)]), (17, pb 42 [is (U64 x12), is (U64 x26)])]⟩
                                            have hr : some r = F102_17 N a1_0 a1_1 a3 x12 x16 x23 x25 x26 := hr
                                            refine AW_region ?_
                                            refine AL_cons (LR_move (at_tmp 13 _) rfl) (sS (sT1 rfl) sB0 sF0) ?_
                                            refine AL_cons (LR_bin (at_tmp 116 _) (at_c (v' := I16 1) rfl) (sub_I16 x16 1) rfl) (sS (sA (sT1 rfl) sT0) sB0 sF0) ?_
                                            refine AL_cons (LR_assign (at_tmp 117 _) rfl) (sS (sT1 rfl) sB0 sF0) ?_
                                            refine AL_nil ?_
                                            exact thenN (cutLeaf (v := (w16 (x16 - 1), x23, x25, x26)) hr (weak0 ((sT rfl (sT rfl (sT rfl (sT rfl (sT rfl sT0)))))) (sub_keep (sub_keep (sub_keep sub_nil)))))
                                    · have hr := hr.trans (cond_f h)
                                      clear h
                                      refine AW_skip ?_
                                      exact thenN (cutLeaf (v := (x16, x14, x15, x13)) hr (weak0 ((sT rfl (sT rfl (sT rfl (sT rfl (sT rfl sT0)))))) (sub_keep (sub_keep (sub_keep sub_nil)))))
                                · rintro ⟨x17, x18, x19, x20⟩ hr
                                  show AW Hfaa.prog _ _ _ ⟨[(3, .inl (is (I16 a3))), (5, .inr (.inl (5, 0))), (13, .inl (is (I16 x17))), (16, .inr (.inl (16, 0))), (17, .inr (.inl (17, 0)))], [(5, pb 23 [is (U8 a1_0), is (U8 a1_1)]), (16, pb 42 [is (U64 x18), is (U64 x19)]), (17, pb 42 [is (U64 x12), is (U64 x20)])]⟩
                                  have hr : some r = F102_12 N a1_0 a1_1 a3 x12 x17 x18 x19 x20 := hr
                                  refine AW_cut (σ := Bool) (fun v => ⟨[(5, .inr (.inl (5, 0))), (13, .inl (is (I16 x17))), (16, .inr (.inl (16, 0))), (18, .inl (is (Bl v)))], [(5, pb 23 [is (U8 a1_0), is (U8 a1_1)]), (16, pb 42 [is (U64 x18), is (U64 x19)])]⟩) (fun v => some r = F102_13 N a1_0 a1_1 x17 x18 x19 v) ?_ ?_
                                  · skip
                                    refine AW_region ?_
                                    refine AL_cons (LR_fieldAddr (off := 0) (o := 1) (at_tmp 16 _) (fun b w => fa42_1 b 0 w) rfl) (sS (sT1 rfl) sB0 sF0) ?_
                                    refine AL_cons (LR_load (at_tmp 118 _) na30 rfl rfl) (sS (sT1 rfl) (sB1 rfl) sF0) ?_
                                    refine AL_cons (LR_fieldAddr (off := 0) (o := 1) (at_tmp 17 _) (fun b w => fa42_1 b 0 w) rfl) (sS (sT1 rfl) sB0 sF0) ?_
                                    refine AL_cons (LR_load (at_tmp 120 _) na30 rfl rfl) (sS (sT1 rfl) (sB1 rfl) sF0) ?_
                                    refine AL_cons (LR_bin (at_tmp 119 _) (at_tmp 121 _) (or_U64 x19 x20) rfl) (sS (sA (sT1 rfl) (sT1 rfl)) sB0 sF0) ?_
                                    refine AL_cons (LR_bin (at_tmp 122 _) (at_c (v' := U64 (0#64)) rfl) (neq_U64 (x19 ||| x20) (0#64)) rfl) (sS (sA (sT1 rfl) sT0) sB0 sF0) ?_
                                    refine AL_cons (LR_move (at_tmp 123 _) rfl) (sS (sT1 rfl) sB0 sF0) ?_
                                    refine AL_cutAt 3 ⟨[(3, .inl (is (I16 a3))), (5, .inr (.inl (5, 0))), (13, .inl (is (I16 x17))), (16, .inr (.inl (16, 0))), (17, .inr (.inl (17, 0))), (118, .inr (.inl (16, 1))), (119, .inl (is (U64 x19))), (120, .inr (.inl (17, 1))), (121, .inl (is (U64 x20))), (122, .inl (is (U64 (x19 ||| x20)))), (123, .inl (is (Bl ((x19 ||| x20) != (0#64))))), (124, .inl (is (Bl ((x19 ||| x20) != (0#64))))), (127, .inl (is (Bl (((x19 ||| x20) != (0#64)) || (decide (a3 < 0))))))], [(5, pb 23 [is (U8 a1_0), is (U8 a1_1)]), (16, pb 42 [is (U64 x18), is (U64 x19)]), (17, pb 42 [is (U64 x12), is (U64 x20)])]⟩ ?_ ?_
                                    · cases hb : (x19 ||| x20) != (0#64)
                                      · skip
                                        refine AL_cons (LR_on rfl rfl rfl (LR_move (at_tmp 3 _) rfl)) (sS (sT rfl (sT1 rfl)) sB0 sF0) ?_
                                        refine AL_cons (LR_on rfl rfl rfl (LR_bin (at_tmp 125 _) (at_c (v' := I16 0) rfl) (lss_I16 a3 0) rfl)) (sS (sT rfl (sA (sT1 rfl) sT0)) sB0 sF0) ?_
                                        refine AL_cons (LR_pick (b := false) (at_tmp 124 _) (at_c (v' := Bl true) rfl) (at_tmp 126 _) rfl) (sS (sA (sT1 rfl) (sA sT0 (sT1 rfl))) sB0 sF0) ?_
                                        exact AL_nil ⟨rfl, weak0 ((sT rfl (sT rfl (sT rfl (sT rfl (sT rfl (sT rfl (sT rfl (sT rfl (sT rfl (sT rfl (sT rfl (sT rfl (sT rfl sT0)))))))))))))) (sub_keep (sub_keep (sub_keep sub_nil)))⟩
                                      · skip
                                        refine AL_cons (LR_off (b := true) rfl rfl rfl rfl) (sS (sT1 rfl) sB0 sF0) ?_
                                        refine AL_cons (LR_off (b := true) rfl rfl rfl rfl) (sS (sT1 rfl) sB0 sF0) ?_
                                        refine AL_cons (LR_pick (b := true) (at_tmp 124 _) (at_c (v' := Bl true) rfl) (at_tmp 126 _) rfl) (sS (sA (sT1 rfl) (sA sT0 (sT1 rfl))) sB0 sF0) ?_
                                        exact AL_nil ⟨rfl, weak0 ((sT rfl (sT rfl (sT rfl (sT rfl (sT rfl (sT rfl (sT rfl (sT rfl (sT rfl (sT rfl (sT rfl (sT rfl (sT rfl sT0)))))))))))))) (sub_keep (sub_keep (sub_keep sub_nil)))⟩
                                    refine AL_cons (LR_move (at_tmp 127 _) rfl) (sS (sT1 rfl) sB0 sF0) ?_
                                    refine AL_cutAt 3 ⟨[(3, .inl (is (I16 a3))), (5, .inr (.inl (5, 0))), (13, .inl (is (I16 x17))), (16, .inr (.inl (16, 0))), (17, .inr (.inl (17, 0))), (118, .inr (.inl (16, 1))), (119, .inl (is (U64 x19))), (120, .inr (.inl (17, 1))), (121, .inl (is (U64 x20))), (122, .inl (is (U64 (x19 ||| x20)))), (123, .inl (is (Bl ((x19 ||| x20) != (0#64))))), (124, .inl (is (Bl ((x19 ||| x20) != (0#64))))), (127, .inl (is (Bl (((x19 ||| x20) != (0#64)) || (decide (a3 < 0)))))), (128, .inl (is (Bl (((x19 ||| x20) != (0#64)) || (decide (a3 < 0)))))), (131, .inl (is (Bl ((((x19 ||| x20) != (0#64)) || (decide (a3 < 0))) || (decide (a3 > 55))))))], [(5, pb 23 [is (U8 a1_0), is (U8 a1_1)]), (16, pb 42 [is (U64 x18), is (U64 x19)]), (17, pb 42 [is (U64 x12), is (U64 x20)])]⟩ ?_ ?_
                                    · cases hb : ((x19 ||| x20) != (0#64)) || (decide (a3 < 0))
                                      · skip
                                        refine AL_cons (LR_on rfl rfl rfl (LR_move (at_tmp 3 _) rfl)) (sS (sT rfl (sT1 rfl)) sB0 sF0) ?_
                                        refine AL_cons (LR_on rfl rfl rfl (LR_bin (at_tmp 129 _) (at_c (v' := I16 55) rfl) (gtr_I16 a3 55) rfl)) (sS (sT rfl (sA (sT1 rfl) sT0)) sB0 sF0) ?_
                                        refine AL_cons (LR_pick (b := false) (at_tmp 128 _) (at_c (v' := Bl true) rfl) (at_tmp 130 _) rfl) (sS (sA (sT1 rfl) (sA sT0 (sT1 rfl))) sB0 sF0) ?_
                                        exact AL_nil ⟨rfl, weak0 ((sT rfl (sT rfl (sT rfl (sT rfl (sT rfl (sT rfl (sT rfl (sT rfl (sT rfl (sT rfl (sT rfl (sT rfl (sT rfl (sT rfl (sT rfl sT0)))))))))))))))) (sub_keep (sub_keep (sub_keep sub_nil)))⟩
                                      · skip
                                        refine AL_cons (LR_off (b := true) rfl rfl rfl rfl) (sS (sT1 rfl) sB0 sF0) ?_
                                        refine AL_cons (LR_off (b := true) rfl rfl rfl rfl) (sS (sT1 rfl) sB0 sF0) ?_
                                        refine AL_cons (LR_pick (b := true) (at_tmp 128 _) (at_c (v' := Bl true) rfl) (at_tmp 130 _) rfl) (sS (sA (sT1 rfl) (sA sT0 (sT1 rfl))) sB0 sF0) ?_
                                        exact AL_nil ⟨rfl, weak0 ((sT rfl (sT rfl (sT rfl (sT rfl (sT rfl (sT rfl (sT rfl (sT rfl (sT rfl (sT rfl (sT rfl (sT rfl (sT rfl (sT rfl (sT rfl sT0)))))))))))))))) (sub_keep (sub_keep (sub_keep sub_nil)))⟩
                                    refine AL_cons (LR_assign (at_tmp 131 _) rfl) (sS (sT1 rfl) sB0 sF0) ?_
                                    refine AL_nil ?_
                                    exact thenN (cutLeaf (v := (((x19 ||| x20) != (0#64)) || (decide (a3 < 0))) || (decide (a3 > 55))) hr (weak0 ((sT rfl (sT rfl (sT rfl (sT rfl sT0))))) (sub_keep (sub_keep (sub_drop sub_nil)))))
                                  · rintro x21 hr
                                    show AW Hfaa.prog _ _ _ ⟨[(5, .inr (.inl (5, 0))), (13, .inl (is (I16 x17))), (16, .inr (.inl (16, 0))), (18, .inl (is (Bl x21)))], [(5, pb 23 [is (U8 a1_0), is (U8 a1_1)]), (16, pb 42 [is (U64 x18), is (U64 x19)])]⟩
                                    have hr : some r = F102_13 N a1_0 a1_1 x17 x18 x19 x21 := hr
                                    refine AW_seq1 ?_
                                    refine AW_region ?_
                                    refine AL_cons (LR_loads (at_tmp 5 _) ag23 sz23 rfl rfl rfl) (sS (sT1 rfl) (sB1 rfl) sF0) ?_
                                    refine AL_cons (LR_fieldAddr (off := 0) (o := 0) (at_tmp 16 _) (fun b w => fa42_0 b 0 w) rfl) (sS (sT1 rfl) sB0 sF0) ?_
                                    refine AL_cons (LR_load (at_tmp 133 _) na30 rfl rfl) (sS (sT1 rfl) (sB1 rfl) sF0) ?_
                                    refine AL_cons (LR_move (at_tmp 13 _) rfl) (sS (sT1 rfl) sB0 sF0) ?_
                                    refine AL_cons (LR_move (at_tmp 18 _) rfl) (sS (sT1 rfl) sB0 sF0) ?_
                                    obtain ⟨y23, hy23, hr⟩ := bind_some hr
                                    refine AL_cons (LR_call Hfaa.func205 rfl rfl (C205 N a1_0 a1_1 x18 x17 x21 y23 hy23) (all_cons (at_tmp 132 _) (all_cons (at_tmp 134 _) (all_cons (at_tmp 135 _) (all_cons (at_tmp 136 _) all_nil)))) rfl) (sS (sA (sT1 rfl) (sA (sT1 rfl) (sA (sT1 rfl) (sA (sT1 rfl) sT0)))) sB0 sF0) ?_
                                    refine AL_cons (LR_assign (at_tmp 137 _) rfl) (sS (sT1 rfl) sB0 sF0) ?_
                                    refine AL_cons (LR_assign (at_c (v' := Bl true) rfl) rfl) (sS sT0 sB0 sF0) ?_
                                    refine AL_nil ?_
                                    refine thenN ?_
                                    refine AW_ret ?_
                                    obtain rfl := Option.some.inj hr
                                    exact res2 rfl (rvT rfl) (rvT rfl)
/-- parse/second.Parse -/
def F101_9 (N : Nat) (a1_0 : BitVec 8) (a1_1 : BitVec 8) (a2 : BitVec 8) (a3_0 : Bool) (a3_1 : List UInt8) (a3_2 : Int) (x2 : BitVec 64) (x8 : BitVec 64) (x9 : Bool) : Option (BitVec 64 × BitVec 8) := bif x9 then some (x8 ||| x2, 2#8) else (F92 N a1_0 a1_1 a2 a3_0 a3_1 a3_2).bind fun y38 => some (y38, 4#8)
def F101_8 (N : Nat) (a0 : Tab) (a1_0 : BitVec 8) (a1_1 : BitVec 8) (a2 : BitVec 8) (a3_0 : Bool) (a3_1 : List UInt8) (a3_2 : Int) (x2 : BitVec 64) (x6 : BitVec 64) : Option (BitVec 64 × BitVec 8) := (F102 N a0 a1_0 a1_1 x6 a3_2).bind fun y39 => F101_9 N a1_0 a1_1 a2 a3_0 a3_1 a3_2 x2 y39.1 y39.2
def F101_10 (N : Nat) (a0 : Tab) (a1_0 : BitVec 8) (a1_1 : BitVec 8) (a2 : BitVec 8) (a3_0 : Bool) (a3_1 : List UInt8) (a3_2 : Int) (x2 : BitVec 64) (x6 : BitVec 64) (x10 : BitVec 64) (x11 : Bool) : Option (BitVec 64 × BitVec 8) := bif x11 then some (x10 ||| x2, 1#8) else F101_8 N a0 a1_0 a1_1 a2 a3_0 a3_1 a3_2 x2 x6
def F101_14 (N : Nat) (a1_0 : BitVec 8) (a1_1 : BitVec 8) (a2 : BitVec 8) (a3_0 : Bool) (a3_1 : List UInt8) (a3_2 : Int) (x2 : BitVec 64) (x13 : BitVec 64) (x17 : Bool) : Option (BitVec 64 × BitVec 8) := bif x17 then some (x13 ||| x2, 3#8) else (F92 N a1_0 a1_1 a2 a3_0 a3_1 a3_2).bind fun y47 => some (y47, 4#8)
def F101_13 (N : Nat) (a1_0 : BitVec 8) (a1_1 : BitVec 8) (a2 : BitVec 8) (a3_0 : Bool) (a3_1 : List UInt8) (a3_2 : Int) (x2 : BitVec 64) (x13 : BitVec 64) (x14 : Bool) (x15 : BitVec 64) (x16 : Bool) : Option (BitVec 64 × BitVec 8) := F101_14 N a1_0 a1_1 a2 a3_0 a3_1 a3_2 x2 x13 ((x14 && x16) && (x15 == x13))
def F101_12 (N : Nat) (a0 : Tab) (a1_0 : BitVec 8) (a1_1 : BitVec 8) (a2 : BitVec 8) (a3_0 : Bool) (a3_1 : List UInt8) (a3_2 : Int) (x2 : BitVec 64) (x6 : BitVec 64) (x12 : Int) (x13 : BitVec 64) (x14 : Bool) : Option (BitVec 64 × BitVec 8) := (F102 N a0 a1_0 a1_1 (x6 + (1#64)) x12).bind fun y48 => F101_13 N a1_0 a1_1 a2 a3_0 a3_1 a3_2 x2 x13 x14 y48.1 y48.2
def F101_11 (N : Nat) (a0 : Tab) (a1_0 : BitVec 8) (a1_1 : BitVec 8) (a2 : BitVec 8) (a3_0 : Bool) (a3_1 : List UInt8) (a3_2 : Int) (x2 : BitVec 64) (x6 : BitVec 64) (x12 : Int) : Option (BitVec 64 × BitVec 8) := (F102 N a0 a1_0 a1_1 x6 x12).bind fun y49 => F101_12 N a0 a1_0 a1_1 a2 a3_0 a3_1 a3_2 x2 x6 x12 y49.1 y49.2
def F101_7 (N : Nat) (a0 : Tab) (a1_0 : BitVec 8) (a1_1 : BitVec 8) (a2 : BitVec 8) (a3_0 : Bool) (a3_1 : List UInt8) (a3_2 : Int) (a4 : Bool) (x2 : BitVec 64) (x3 : Int) (x6 : BitVec 64) (x7 : Bool) : Option (BitVec 64 × BitVec 8) := bif x7 then bif a4 then (F90 N a1_0 a1_1 x6 a3_2).bind fun y41 => F101_10 N a0 a1_0 a1_1 a2 a3_0 a3_1 a3_2 x2 x6 y41.1 y41.2 else F101_8 N a0 a1_0 a1_1 a2 a3_0 a3_1 a3_2 x2 x6 else F101_11 N a0 a1_0 a1_1 a2 a3_0 a3_1 a3_2 x2 x6 (w16 (a3_2 + (w16 (w64 (x3 - 19)))))
def F101_6 (N : Nat) (a0 : Tab) (a1_0 : BitVec 8) (a1_1 : BitVec 8) (a2 : BitVec 8) (a3_0 : Bool) (a3_1 : List UInt8) (a3_2 : Int) (a4 : Bool) (x2 : BitVec 64) (x3 : Int) (x6 : BitVec 64) : Option (BitVec 64 × BitVec 8) := F101_7 N a0 a1_0 a1_1 a2 a3_0 a3_1 a3_2 a4 x2 x3 x6 (decide (x3 ≤ 19))
def F101_5 (N : Nat) (a0 : Tab) (a1_0 : BitVec 8) (a1_1 : BitVec 8) (a2 : BitVec 8) (a3_0 : Bool) (a3_1 : List UInt8) (a3_2 : Int) (a4 : Bool) (x2 : BitVec 64) (x3 : Int) (x5 : Bool) : Option (BitVec 64 × BitVec 8) := bif x5 then (F92 N a1_0 a1_1 a2 a3_0 a3_1 a3_2).bind fun y20 => some (y20, 4#8) else (F203 N a3_1).bind fun y50 => F101_6 N a0 a1_0 a1_1 a2 a3_0 a3_1 a3_2 a4 x2 x3 y50
def F101_15 (N : Nat) (a0 : Tab) (a1_0 : BitVec 8) (a1_1 : BitVec 8) (a2 : BitVec 8) (a3_0 : Bool) (a3_1 : List UInt8) (a3_2 : Int) (a4 : Bool) (x2 : BitVec 64) (x3 : Int) (x18 : Bool) : Option (BitVec 64 × BitVec 8) := bif x18 then F101_5 N a0 a1_0 a1_1 a2 a3_0 a3_1 a3_2 a4 x2 x3 x18 else F101_5 N a0 a1_0 a1_1 a2 a3_0 a3_1 a3_2 a4 x2 x3 ((a2 != (0#8)) && (decide (a2.toNat ≤ (4#8).toNat)))
def F101_4 (N : Nat) (a0 : Tab) (a1_0 : BitVec 8) (a1_1 : BitVec 8) (a2 : BitVec 8) (a3_0 : Bool) (a3_1 : List UInt8) (a3_2 : Int) (a4 : Bool) (x2 : BitVec 64) (x3 : Int) (x4 : Bool) : Option (BitVec 64 × BitVec 8) := bif x4 then some (x2, 0#8) else bif !((a1_0 == F13.1) && (a1_1 == F13.2)) then F101_15 N a0 a1_0 a1_1 a2 a3_0 a3_1 a3_2 a4 x2 x3 (!((a1_0 == F14.1) && (a1_1 == F14.2))) else F101_15 N a0 a1_0 a1_1 a2 a3_0 a3_1 a3_2 a4 x2 x3 false
def F101_3 (N : Nat) (a0 : Tab) (a1_0 : BitVec 8) (a1_1 : BitVec 8) (a2 : BitVec 8) (a3_0 : Bool) (a3_1 : List UInt8) (a3_2 : Int) (a4 : Bool) (x2 : BitVec 64) (x3 : Int) : Option (BitVec 64 × BitVec 8) := F101_4 N a0 a1_0 a1_1 a2 a3_0 a3_1 a3_2 a4 x2 x3 (x3 == 0)
def F101_2 (N : Nat) (a0 : Tab) (a1_0 : BitVec 8) (a1_1 : BitVec 8) (a2 : BitVec 8) (a3_0 : Bool) (a3_1 : List UInt8) (a3_2 : Int) (a4 : Bool) (x2 : BitVec 64) : Option (BitVec 64 × BitVec 8) := F101_3 N a0 a1_0 a1_1 a2 a3_0 a3_1 a3_2 a4 x2 (a3_1.length : Int)
def F101_1 (N : Nat) (a0 : Tab) (a1_0 : BitVec 8) (a1_1 : BitVec 8) (a2 : BitVec 8) (a3_0 : Bool) (a3_1 : List UInt8) (a3_2 : Int) (a4 : Bool) (x1 : Bool) : Option (BitVec 64 × BitVec 8) := bif x1 then some (0#64, 0#8) else bif a3_0 then lt (F70 a1_0 a1_1) fun y53 => F101_2 N a0 a1_0 a1_1 a2 a3_0 a3_1 a3_2 a4 y53 else F101_2 N a0 a1_0 a1_1 a2 a3_0 a3_1 a3_2 a4 (0#64)
def F101 (N : Nat) (a0 : Tab) (a1_0 : BitVec 8) (a1_1 : BitVec 8) (a2 : BitVec 8) (a3_0 : Bool) (a3_1 : List UInt8) (a3_2 : Int) (a4 : Bool) : Option (BitVec 64 × BitVec 8) := lt (F40 a1_0 a1_1) fun y54 => bif !y54 then F101_1 N a0 a1_0 a1_1 a2 a3_0 a3_1 a3_2 a4 true else (F137 N a3_0 a3_1 a3_2).bind fun y56 => F101_1 N a0 a1_0 a1_1 a2 a3_0 a3_1 a3_2 a4 (!y56)
theorem C101 (N : Nat) (a0 : Tab) (a1_0 : BitVec 8) (a1_1 : BitVec 8) (a2 : BitVec 8) (a3_0 : Bool) (a3_1 : List UInt8) (a3_2 : Int) (a4 : Bool) (r : BitVec 64 × BitVec 8) (hr : some r = F101 N a0 a1_0 a1_1 a2 a3_0 a3_1 a3_2 a4) : Aw.Fn Hfaa.prog 101 [tabp a0, agg [is (U8 a1_0), is (U8 a1_1)], is (U8 a2), agg [is (Bl a3_0), is (Sv a3_1), is (I16 a3_2)], is (Bl a4)] (tup [is (U64 r.1), is (U8 r.2)]) := by
  refine fn_intro Hfaa.func101 rfl rfl rfl ?_
  intro bn0 w0 H0
  refine AW_seq1 ?_
  refine AW_region ?_
  refine AL_cons (LR_box (at_tmp 1 _) (cells_agg _) rfl) (sS (sT1 rfl) sB0 (sF1 rfl)) ?_
  refine AL_cons (LR_box (at_tmp 3 _) (cells_agg _) rfl) (sS (sT1 rfl) sB0 (sF1 rfl)) ?_
  refine AL_cons (LR_assign (at_c (v' := U64 (0#64)) rfl) rfl) (sS sT0 sB0 sF0) ?_
  refine AL_cons (LR_assign (at_c (v' := U8 (0#8)) rfl) rfl) (sS sT0 sB0 sF0) ?_
  refine AL_nil ?_
  refine thenN ?_
  refine AW_seq1 ?_
  refine AW_cut (σ := Bool) (fun v => ⟨[(0, .inl (tabp a0)), (2, .inl (is (U8 a2))), (4, .inl (is (Bl a4))), (6, .inr (.inl (6, 0))), (8, .inr (.inl (8, 0))), (35, .inl (is (Bl v)))], [(6, pb 23 [is (U8 a1_0), is (U8 a1_1)]), (8, pb 76 [is (Bl a3_0), is (Sv a3_1), is (I16 a3_2)])]⟩) (fun v => some r = F101_1 N a0 a1_0 a1_1 a2 a3_0 a3_1 a3_2 a4 v) ?_ ?_
  · skip
    refine AW_region ?_
    refine AL_cons (LR_move (at_tmp 0 _) rfl) (sS (sT1 rfl) sB0 sF0) ?_
    refine AL_cons (LR_binA (at_tmp 24 _) (at_c (v' := .pointer none) rfl) (eqTabNil Hfaa.underlying27 a0) rfl) (sS (sA (sT1 rfl) sT0) sB0 sF0) ?_
    refine AL_cons (LR_move (at_tmp 25 _) rfl) (sS (sT1 rfl) sB0 sF0) ?_
    refine AL_cons (LR_on rfl rfl rfl (LR_loads (at_tmp 6 _) ag23 sz23 rfl rfl rfl)) (sS (sT rfl (sT1 rfl)) (sB1 rfl) sF0) ?_
    obtain ⟨y54, hy54, hr⟩ := lt_some hr
    refine AL_cons (LR_on rfl rfl rfl (LR_call Hfaa.func40 rfl rfl (C40 a1_0 a1_1 y54 hy54) (all_cons (at_tmp 27 _) all_nil) rfl)) (sS (sT rfl (sA (sT1 rfl) sT0)) sB0 sF0) ?_
    refine AL_cons (LR_on rfl rfl rfl (LR_un (at_tmp 28 _) (not_Bl y54) rfl)) (sS (sT rfl (sT1 rfl)) sB0 sF0) ?_
    refine AL_cons (LR_pick (b := false) (at_tmp 26 _) (at_c (v' := Bl true) rfl) (at_tmp 29 _) rfl) (sS (sA (sT1 rfl) (sA sT0 (sT1 rfl))) sB0 sF0) ?_
    refine AL_cons (LR_move (at_tmp 30 _) rfl) (sS (sT1 rfl) sB0 sF0) ?_
    cases hb : !y54
    · have hr := hr.trans (cond_f hb)
      refine AL_cons (LR_on rfl rfl rfl (LR_loads (at_tmp 8 _) ag76 sz76 rfl rfl rfl)) (sS (sT rfl (sT1 rfl)) (sB1 rfl) sF0) ?_
      obtain ⟨y56, hy56, hr⟩ := bind_some hr
      refine AL_cons (LR_on rfl rfl rfl (LR_call Hfaa.func137 rfl rfl (C137 N a3_0 a3_1 a3_2 y56 hy56) (all_cons (at_tmp 32 _) all_nil) rfl)) (sS (sT rfl (sA (sT1 rfl) sT0)) sB0 sF0) ?_
      refine AL_cons (LR_on rfl rfl rfl (LR_un (at_tmp 33 _) (not_Bl y56) rfl)) (sS (sT rfl (sT1 rfl)) sB0 sF0) ?_
      refine AL_cons (LR_pick (b := false) (at_tmp 31 _) (at_c (v' := Bl true) rfl) (at_tmp 34 _) rfl) (sS (sA (sT1 rfl) (sA sT0 (sT1 rfl))) sB0 sF0) ?_
      refine AL_nil ?_
      exact thenN (cutLeaf (v := !y56) hr (weak0 ((sT rfl (sT rfl (sT rfl (sT rfl (sT rfl (sT rfl sT0))))))) (sub_keep (sub_keep sub_nil))))
    · have hr := hr.trans (cond_t hb)
      refine AL_cons (LR_off (b := true) rfl rfl rfl rfl) (sS (sT1 rfl) sB0 sF0) ?_
      refine AL_cons (LR_off (b := true) rfl rfl rfl rfl) (sS (sT1 rfl) sB0 sF0) ?_
      refine AL_cons (LR_off (b := true) rfl rfl rfl rfl) (sS (sT1 rfl) sB0 sF0) ?_
      refine AL_cons (LR_pick (b := true) (at_tmp 31 _) (at_c (v' := Bl true) rfl) (at_tmp 34 _) rfl) (sS (sA (sT1 rfl) (sA sT0 (sT1 rfl))) sB0 sF0) ?_
      refine AL_nil ?_
      exact thenN (cutLeaf (v := true) hr (weak0 ((sT rfl (sT rfl (sT rfl (sT rfl (sT rfl (sT rfl sT0))))))) (sub_keep (sub_keep sub_nil))))
  · rintro x1 hr
    show AW Hfaa.prog _ _ _ ⟨[(0, .inl (tabp a0)), (2, .inl (is (U8 a2))), (4, .inl (is (Bl a4))), (6, .inr (.inl (6, 0))), (8, .inr (.inl (8, 0))), (35, .inl (is (Bl x1)))], [(6, pb 23 [is (U8 a1_0), is (U8 a1_1)]), (8, pb 76 [is (Bl a3_0), is (Sv a3_1), is (I16 a3_2)])]⟩
    have hr : some r = F101_1 N a0 a1_0 a1_1 a2 a3_0 a3_1 a3_2 a4 x1 := hr
    refine AW_condT (b := x1) rfl (fun h => ?_) (fun h => ?_)
    · have hr := hr.trans (cond_t h)
      clear h
      refine AW_seq1 ?_
      refine AW_region ?_
      refine AL_cons (LR_assign (at_c (v' := U64 (0#64)) rfl) rfl) (sS sT0 sB0 sF0) ?_
      refine AL_cons (LR_assign (at_c (v' := U8 (0#8)) rfl) rfl) (sS sT0 sB0 sF0) ?_
      refine AL_nil ?_
      refine thenN ?_
      refine AW_ret ?_
      refine thenR ?_
      obtain rfl := Option.some.inj hr
      exact res2 rfl (rvT rfl) (rvT rfl)
    · have hr := hr.trans (cond_f h)
      clear h
      refine AW_skip ?_
      refine thenN ?_
      refine AW_seq1 ?_
      refine AW_region ?_
      refine AL_cons (LR_assign (at_c (v' := U64 (0#64)) rfl) rfl) (sS sT0 sB0 sF0) ?_
      refine AL_nil ?_
      refine thenN ?_
      refine AW_cut (σ := BitVec 64) (fun v => ⟨[(0, .inl (tabp a0)), (2, .inl (is (U8 a2))), (4, .inl (is (Bl a4))), (6, .inr (.inl (6, 0))), (8, .inr (.inl (8, 0))), (12, .inl (is (U64 v)))], [(6, pb 23 [is (U8 a1_0), is (U8 a1_1)]), (8, pb 76 [is (Bl a3_0), is (Sv a3_1), is (I16 a3_2)])]⟩) (fun v => some r = F101_2 N a0 a1_0 a1_1 a2 a3_0 a3_1 a3_2 a4 v) ?_ ?_
      · skip
        refine AW_seq1 ?_
        refine AW_region ?_
        refine AL_cons (LR_fieldAddr (off := 0) (o := 0) (at_tmp 8 _) (fun b w => fa76_0 b 0 w) rfl) (sS (sT1 rfl) sB0 sF0) ?_
        refine AL_cons (LR_load (at_tmp 36 _) na4 rfl rfl) (sS (sT1 rfl) (sB1 rfl) sF0) ?_
        refine AL_nil ?_
        refine thenN ?_
        refine AW_condT (b := a3_0) rfl (fun h => ?_) (fun h => ?_)
        · have hr := hr.trans (cond_t h)
          clear h
          refine AW_region ?_
          refine AL_cons (LR_loads (at_tmp 6 _) ag23 sz23 rfl rfl rfl) (sS (sT1 rfl) (sB1 rfl) sF0) ?_
          obtain ⟨y53, hy53, hr⟩ := lt_some hr
          refine AL_cons (LR_call Hfaa.func70 rfl rfl (C70 a1_0 a1_1 y53 hy53) (all_cons (at_tmp 38 _) all_nil) rfl) (sS (sA (sT1 rfl) sT0) sB0 sF0) ?_
          refine AL_cons (LR_assign (at_tmp 39 _) rfl) (sS (sT1 rfl) sB0 sF0) ?_
          refine AL_nil ?_
          exact thenN (cutLeaf (v := y53) hr (weak0 ((sT rfl (sT rfl (sT rfl (sT rfl (sT rfl (sT rfl sT0))))))) (sub_keep (sub_keep sub_nil))))
        · have hr := hr.trans (cond_f h)
          clear h
          refine AW_skip ?_
          exact thenN (cutLeaf (v := 0#64) hr (weak0 ((sT rfl (sT rfl (sT rfl (sT rfl (sT rfl (sT rfl sT0))))))) (sub_keep (sub_keep sub_nil))))
      · rintro x2 hr
        show AW Hfaa.prog _ _ _ ⟨[(0, .inl (tabp a0)), (2, .inl (is (U8 a2))), (4, .inl (is (Bl a4))), (6, .inr (.inl (6, 0))), (8, .inr (.inl (8, 0))), (12, .inl (is (U64 x2)))], [(6, pb 23 [is (U8 a1_0), is (U8 a1_1)]), (8, pb 76 [is (Bl a3_0), is (Sv a3_1), is (I16 a3_2)])]⟩
        have hr : some r = F101_2 N a0 a1_0 a1_1 a2 a3_0 a3_1 a3_2 a4 x2 := hr
        refine AW_cut (σ := Int) (fun v => ⟨[(0, .inl (tabp a0)), (2, .inl (is (U8 a2))), (4, .inl (is (Bl a4))), (6, .inr (.inl (6, 0))), (8, .inr (.inl (8, 0))), (12, .inl (is (U64 x2))), (13, .inl (is (I64 v)))], [(6, pb 23 [is (U8 a1_0), is (U8 a1_1)]), (8, pb 76 [is (Bl a3_0), is (Sv a3_1), is (I16 a3_2)])]⟩) (fun v => some r = F101_3 N a0 a1_0 a1_1 a2 a3_0 a3_1 a3_2 a4 x2 v) ?_ ?_
        · skip
          refine AW_region ?_
          refine AL_cons (LR_fieldAddr (off := 0) (o := 1) (at_tmp 8 _) (fun b w => fa76_1 b 0 w) rfl) (sS (sT1 rfl) sB0 sF0) ?_
          refine AL_cons (LR_load (at_tmp 40 _) na9 rfl rfl) (sS (sT1 rfl) (sB1 rfl) sF0) ?_
          refine AL_cons (LR_bi1 (at_tmp 41 _) (len_S Hfaa.underlying9 a3_1) rfl) (sS (sT1 rfl) sB0 sF0) ?_
          refine AL_cons (LR_assign (at_tmp 42 _) rfl) (sS (sT1 rfl) sB0 sF0) ?_
          refine AL_nil ?_
          exact thenN (cutLeaf (v := (a3_1.length : Int)) hr (weak0 ((sT rfl (sT rfl (sT rfl (sT rfl (sT rfl (sT rfl (sT rfl sT0)))))))) (sub_keep (sub_keep sub_nil))))
        · rintro x3 hr
          show AW Hfaa.prog _ _ _ ⟨[(0, .inl (tabp a0)), (2, .inl (is (U8 a2))), (4, .inl (is (Bl a4))), (6, .inr (.inl (6, 0))), (8, .inr (.inl (8, 0))), (12, .inl (is (U64 x2))), (13, .inl (is (I64 x3)))], [(6, pb 23 [is (U8 a1_0), is (U8 a1_1)]), (8, pb 76 [is (Bl a3_0), is (Sv a3_1), is (I16 a3_2)])]⟩
          have hr : some r = F101_3 N a0 a1_0 a1_1 a2 a3_0 a3_1 a3_2 a4 x2 x3 := hr
          refine AW_seq1 ?_
          refine AW_block ?_
          refine AW_cut (σ := Bool) (fun v => ⟨[(0, .inl (tabp a0)), (2, .inl (is (U8 a2))), (4, .inl (is (Bl a4))), (6, .inr (.inl (6, 0))), (8, .inr (.inl (8, 0))), (12, .inl (is (U64 x2))), (13, .inl (is (I64 x3))), (43, .inl (is (Bl v)))], [(6, pb 23 [is (U8 a1_0), is (U8 a1_1)]), (8, pb 76 [is (Bl a3_0), is (Sv a3_1), is (I16 a3_2)])]⟩) (fun v => some r = F101_4 N a0 a1_0 a1_1 a2 a3_0 a3_1 a3_2 a4 x2 x3 v) ?_ ?_
          · skip
            refine AW_region ?_
            refine AL_cons (LR_move (at_tmp 13 _) rfl) (sS (sT1 rfl) sB0 sF0) ?_
            refine AL_cons (LR_bin (at_tmp 44 _) (at_c (v' := I64 0) rfl) (eql_I64 x3 0) rfl) (sS (sA (sT1 rfl) sT0) sB0 sF0) ?_
            refine AL_cons (LR_assign (at_tmp 45 _) rfl) (sS (sT1 rfl) sB0 sF0) ?_
            refine AL_nil ?_
            exact thenN (cutLeaf (v := x3 == 0) hr (weak0 ((sT rfl (sT rfl (sT rfl (sT rfl (sT rfl (sT rfl (sT rfl (sT rfl sT0))))))))) (sub_keep (sub_keep sub_nil))))
          · rintro x4 hr
            show AW Hfaa.prog _ _ _ ⟨[(0, .inl (tabp a0)), (2, .inl (is (U8 a2))), (4, .inl (is (Bl a4))), (6, .inr (.inl (6, 0))), (8, .inr (.inl (8, 0))), (12, .inl (is (U64 x2))), (13, .inl (is (I64 x3))), (43, .inl (is (Bl x4)))], [(6, pb 23 [is (U8 a1_0), is (U8 a1_1)]), (8, pb 76 [is (Bl a3_0), is (Sv a3_1), is (I16 a3_2)])]⟩
            have hr : some r = F101_4 N a0 a1_0 a1_1 a2 a3_0 a3_1 a3_2 a4 x2 x3 x4 := hr
            refine AW_condT (b := x4) rfl (fun h => ?_) (fun h => ?_)
            · have hr := hr.trans (cond_t h)
              clear h
              refine AW_seq1 ?_
              refine AW_region ?_
              refine AL_cons (LR_move (at_tmp 12 _) rfl) (sS (sT1 rfl) sB0 sF0) ?_
              refine AL_cons (LR_assign (at_tmp 46 _) rfl) (sS (sT1 rfl) sB0 sF0) ?_
              refine AL_cons (LR_assign (at_c (v' := U8 (0#8)) rfl) rfl) (sS sT0 sB0 sF0) ?_
              refine AL_nil ?_
              refine thenN ?_
              refine AW_ret ?_
              refine blR ?_
              refine thenR ?_
              obtain rfl := Option.some.inj hr
              exact res2 rfl (rvT rfl) (rvT rfl)
            · have hr := hr.trans (cond_f h)
              clear h
              refine AW_cut (σ := Bool) (fun v => ⟨[(0, .inl (tabp a0)), (2, .inl (is (U8 a2))), (4, .inl (is (Bl a4))), (6, .inr (.inl (6, 0))), (8, .inr (.inl (8, 0))), (12, .inl (is (U64 x2))), (13, .inl (is (I64 x3))), (47, .inl (is (Bl v)))], [(6, pb 23 [is (U8 a1_0), is (U8 a1_1)]), (8, pb 76 [is (Bl a3_0), is (Sv a3_1), is (I16 a3_2)])]⟩) (fun v => some r = F101_5 N a0 a1_0 a1_1 a2 a3_0 a3_1 a3_2 a4 x2 x3 v) ?_ ?_
              · skip
                refine AW_cut (σ := Bool) (fun v => ⟨[(0, .inl (tabp a0)), (2, .inl (is (U8 a2))), (4, .inl (is (Bl a4))), (6, .inr (.inl (6, 0))), (8, .inr (.inl (8, 0))), (12, .inl (is (U64 x2))), (13, .inl (is (I64 x3))), (47, .inl (is (Bl v)))], [(6, pb 23 [is (U8 a1_0), is (U8 a1_1)]), (8, pb 76 [is (Bl a3_0), is (Sv a3_1), is (I16 a3_2)])]⟩) (fun v => some r = F101_15 N a0 a1_0 a1_1 a2 a3_0 a3_1 a3_2 a4 x2 x3 v) ?_ ?_
                · skip
                  rcases bool_em (!((a1_0 == F13.1) && (a1_1 == F13.2))) with hb8 | hb8
                  · have hr := hr.trans (cond_f hb8)
                    refine AW_draw mixed
                      (lrC (LR_loads (at_tmp 6 _) ag23 sz23 rfl rfl rfl)
                      (lrC (LR_call Hfaa.func13 rfl rfl (C13 _ rfl) all_nil rfl)
                      (lrC (LR_asB (LR_binA (at_tmp 48 _) (at_tmp 49 _) (neqA23 a1_0 a1_1 F13.1 F13.2) rfl) hb8)
                      (lrC (LR_move (at_tmp 50 _) rfl)
                      (lrC (LR_off (b := false) rfl rfl rfl rfl)
                      (lrC (LR_off (b := false) rfl rfl rfl rfl)
                      (lrC (LR_off (b := false) rfl rfl rfl rfl)
                      (lrC (LR_pick (b := false) (at_tmp 51 _) (at_tmp 54 _) (at_c (v' := Bl false) rfl) rfl)
                      (lrC (LR_assign (at_tmp 55 _) rfl)
                      lrN)))))))))
                      (by kernel_rfl)
                      (saC (sS (sT1 rfl) (sB1 rfl) sF0) (saC (sS sT0 sB0 sF0) (saC (sS (sA (sT1 rfl) (sT1 rfl)) sB0 sF0) (saC (sS (sT1 rfl) sB0 sF0) (saC (sS (sT1 rfl) sB0 sF0) (saC (sS (sT1 rfl) sB0 sF0) (saC (sS (sT1 rfl) sB0 sF0) (saC (sS (sA (sT1 rfl) (sA (sT1 rfl) sT0)) sB0 sF0) (saC (sS (sT1 rfl) sB0 sF0) saN))))))))) ?_
                    exact thenN (cutLeaf (v := false) hr (weak0 ((sT rfl (sT rfl (sT rfl (sT rfl (sT rfl (sT rfl (sT rfl (sT rfl sT0))))))))) (sub_keep (sub_keep sub_nil))))
                  · have hr := hr.trans (cond_t hb8)
                    refine AW_draw mixed
                      (lrC (LR_loads (at_tmp 6 _) ag23 sz23 rfl rfl rfl)
                      (lrC (LR_call Hfaa.func13 rfl rfl (C13 _ rfl) all_nil rfl)
                      (lrC (LR_asB (LR_binA (at_tmp 48 _) (at_tmp 49 _) (neqA23 a1_0 a1_1 F13.1 F13.2) rfl) hb8)
                      (lrC (LR_move (at_tmp 50 _) rfl)
                      (lrC (LR_on rfl rfl rfl (LR_loads (at_tmp 6 _) ag23 sz23 rfl rfl rfl))
                      (lrC (LR_on rfl rfl rfl (LR_call Hfaa.func14 rfl rfl (C14 _ rfl) all_nil rfl))
                      (lrC (LR_on rfl rfl rfl (LR_binA (at_tmp 52 _) (at_tmp 53 _) (neqA23 a1_0 a1_1 F14.1 F14.2) rfl))
                      (lrC (LR_pick (b := true) (at_tmp 51 _) (at_tmp 54 _) (at_c (v' := Bl false) rfl) rfl)
                      (lrC (LR_assign (at_tmp 55 _) rfl)
                      lrN)))))))))
                      (by kernel_rfl)
                      (saC (sS (sT1 rfl) (sB1 rfl) sF0) (saC (sS sT0 sB0 sF0) (saC (sS (sA (sT1 rfl) (sT1 rfl)) sB0 sF0) (saC (sS (sT1 rfl) sB0 sF0) (saC (sS (sT rfl (sT1 rfl)) (sB1 rfl) sF0) (saC (sS (sT rfl sT0) sB0 sF0) (saC (sS (sT rfl (sA (sT1 rfl) (sT1 rfl))) sB0 sF0) (saC (sS (sA (sT1 rfl) (sA (sT1 rfl) sT0)) sB0 sF0) (saC (sS (sT1 rfl) sB0 sF0) saN))))))))) ?_
                    exact thenN (cutLeaf (v := !((a1_0 == F14.1) && (a1_1 == F14.2))) hr (weak0 ((sT rfl (sT rfl (sT rfl (sT rfl (sT rfl (sT rfl (sT rfl (sT rfl sT0))))))))) (sub_keep (sub_keep sub_nil))))
                · rintro x18 hr
                  show AW Hfaa.prog _ _ _ ⟨[(0, .inl (tabp a0)), (2, .inl (is (U8 a2))), (4, .inl (is (Bl a4))), (6, .inr (.inl (6, 0))), (8, .inr (.inl (8, 0))), (12, .inl (is (U64 x2))), (13, .inl (is (I64 x3))), (47, .inl (is (Bl x18)))], [(6, pb 23 [is (U8 a1_0), is (U8 a1_1)]), (8, pb 76 [is (Bl a3_0), is (Sv a3_1), is (I16 a3_2)])]⟩
                  have hr : some r = F101_15 N a0 a1_0 a1_1 a2 a3_0 a3_1 a3_2 a4 x2 x3 x18 := hr
                  refine AW_condT (b := x18) rfl (fun h => ?_) (fun h => ?_)
                  · have hr := hr.trans (cond_t h)
                    clear h
                    refine AW_skip ?_
                    exact thenN (cutLeaf (v := x18) hr (weak0 ((sT rfl (sT rfl (sT rfl (sT rfl (sT rfl (sT rfl (sT rfl (sT rfl sT0))))))))) (sub_keep (sub_keep sub_nil))))
                  · have hr := hr.trans (cond_f h)
                    clear h
                    refine AW_region ?_
                    refine AL_cons (LR_move (at_tmp 2 _) rfl) (sS (sT1 rfl) sB0 sF0) ?_
                    refine AL_cons (LR_bin (at_tmp 56 _) (at_c (v' := U8 (0#8)) rfl) (neq_U8 a2 (0#8)) rfl) (sS (sA (sT1 rfl) sT0) sB0 sF0) ?_
                    refine AL_cons (LR_move (at_tmp 57 _) rfl) (sS (sT1 rfl) sB0 sF0) ?_
                    refine AL_cutAt 3 ⟨[(0, .inl (tabp a0)), (2, .inl (is (U8 a2))), (4, .inl (is (Bl a4))), (6, .inr (.inl (6, 0))), (8, .inr (.inl (8, 0))), (12, .inl (is (U64 x2))), (13, .inl (is (I64 x3))), (47, .inl (is (Bl x18))), (56, .inl (is (U8 a2))), (57, .inl (is (Bl (a2 != (0#8))))), (58, .inl (is (Bl (a2 != (0#8))))), (61, .inl (is (Bl ((a2 != (0#8)) && (decide (a2.toNat ≤ (4#8).toNat))))))], [(6, pb 23 [is (U8 a1_0), is (U8 a1_1)]), (8, pb 76 [is (Bl a3_0), is (Sv a3_1), is (I16 a3_2)])]⟩ ?_ ?_
                    · cases hb : a2 != (0#8)
                      · skip
                        refine AL_cons (LR_off (b := false) rfl rfl rfl rfl) (sS (sT1 rfl) sB0 sF0) ?_
                        refine AL_cons (LR_off (b := false) rfl rfl rfl rfl) (sS (sT1 rfl) sB0 sF0) ?_
                        refine AL_cons (LR_pick (b := false) (at_tmp 58 _) (at_tmp 60 _) (at_c (v' := Bl false) rfl) rfl) (sS (sA (sT1 rfl) (sA (sT1 rfl) sT0)) sB0 sF0) ?_
                        exact AL_nil ⟨rfl, weak0 ((sT rfl (sT rfl (sT rfl (sT rfl (sT rfl (sT rfl (sT rfl (sT rfl (sT rfl (sT rfl (sT rfl (sT rfl sT0))))))))))))) (sub_keep (sub_keep sub_nil))⟩
                      · skip
                        refine AL_cons (LR_on rfl rfl rfl (LR_move (at_tmp 2 _) rfl)) (sS (sT rfl (sT1 rfl)) sB0 sF0) ?_
                        refine AL_cons (LR_on rfl rfl rfl (LR_bin (at_tmp 59 _) (at_c (v' := U8 (4#8)) rfl) (leq_U8 a2 (4#8)) rfl)) (sS (sT rfl (sA (sT1 rfl) sT0)) sB0 sF0) ?_
                        refine AL_cons (LR_pick (b := true) (at_tmp 58 _) (at_tmp 60 _) (at_c (v' := Bl false) rfl) rfl) (sS (sA (sT1 rfl) (sA (sT1 rfl) sT0)) sB0 sF0) ?_
                        exact AL_nil ⟨rfl, weak0 ((sT rfl (sT rfl (sT rfl (sT rfl (sT rfl (sT rfl (sT rfl (sT rfl (sT rfl (sT rfl (sT rfl (sT rfl sT0))))))))))))) (sub_keep (sub_keep sub_nil))⟩
                    refine AL_cons (LR_assign (at_tmp 61 _) rfl) (sS (sT1 rfl) sB0 sF0) ?_
                    refine AL_nil ?_
                    exact thenN (cutLeaf (v := (a2 != (0#8)) && (decide (a2.toNat ≤ (4#8).toNat))) hr (weak0 ((sT rfl (sT rfl (sT rfl (sT rfl (sT rfl (sT rfl (sT rfl (sT rfl sT0))))))))) (sub_keep (sub_keep sub_nil))))
              · rintro x5 hr
                show AW Hfaa.prog _ _ _ ⟨[(0, .inl (tabp a0)), (2, .inl (is (U8 a2))), (4, .inl (is (Bl a4))), (6, .inr (.inl (6, 0))), (8, .inr (.inl (8, 0))), (12, .inl (is (U64 x2))), (13, .inl (is (I64 x3))), (47, .inl (is (Bl x5)))], [(6, pb 23 [is (U8 a1_0), is (U8 a1_1)]), (8, pb 76 [is (Bl a3_0), is (Sv a3_1), is (I16 a3_2)])]⟩
                have hr : some r = F101_5 N a0 a1_0 a1_1 a2 a3_0 a3_1 a3_2 a4 x2 x3 x5 := hr
                refine AW_condT (b := x5) rfl (fun h => ?_) (fun h => ?_)
                · have hr := hr.trans (cond_t h)
                  clear h
                  refine AW_seq1 ?_
                  refine AW_region ?_
                  refine AL_cons (LR_loads (at_tmp 6 _) ag23 sz23 rfl rfl rfl) (sS (sT1 rfl) (sB1 rfl) sF0) ?_
                  refine AL_cons (LR_move (at_tmp 2 _) rfl) (sS (sT1 rfl) sB0 sF0) ?_
                  refine AL_cons (LR_loads (at_tmp 8 _) ag76 sz76 rfl rfl rfl) (sS (sT1 rfl) (sB1 rfl) sF0) ?_
                  obtain ⟨y20, hy20, hr⟩ := bind_some hr
                  refine AL_cons (LR_call Hfaa.func92 rfl rfl (C92 N a1_0 a1_1 a2 a3_0 a3_1 a3_2 y20 hy20) (all_cons (at_tmp 62 _) (all_cons (at_tmp 63 _) (all_cons (at_tmp 64 _) all_nil))) rfl) (sS (sA (sT1 rfl) (sA (sT1 rfl) (sA (sT1 rfl) sT0))) sB0 sF0) ?_
                  refine AL_cons (LR_assign (at_tmp 65 _) rfl) (sS (sT1 rfl) sB0 sF0) ?_
                  refine AL_cons (LR_assign (at_c (v' := U8 (4#8)) rfl) rfl) (sS sT0 sB0 sF0) ?_
                  refine AL_nil ?_
                  refine thenN ?_
                  refine AW_ret ?_
                  refine blR ?_
                  refine thenR ?_
                  obtain rfl := Option.some.inj hr
                  exact res2 rfl (rvT rfl) (rvT rfl)
                · have hr := hr.trans (cond_f h)
                  clear h
                  refine AW_skip ?_
                  refine blN ?_
                  refine thenN ?_
                  refine AW_cut (σ := BitVec 64) (fun v => ⟨[(0, .inl (tabp a0)), (2, .inl (is (U8 a2))), (4, .inl (is (Bl a4))), (6, .inr (.inl (6, 0))), (8, .inr (.inl (8, 0))), (12, .inl (is (U64 x2))), (13, .inl (is (I64 x3))), (14, .inl (is (U64 v)))], [(6, pb 23 [is (U8 a1_0), is (U8 a1_1)]), (8, pb 76 [is (Bl a3_0), is (Sv a3_1), is (I16 a3_2)])]⟩) (fun v => some r = F101_6 N a0 a1_0 a1_1 a2 a3_0 a3_1 a3_2 a4 x2 x3 v) ?_ ?_
                  · skip
                    refine AW_region ?_
                    refine AL_cons (LR_fieldAddr (off := 0) (o := 1) (at_tmp 8 _) (fun b w => fa76_1 b 0 w) rfl) (sS (sT1 rfl) sB0 sF0) ?_
                    refine AL_cons (LR_load (at_tmp 66 _) na9 rfl rfl) (sS (sT1 rfl) (sB1 rfl) sF0) ?_
                    obtain ⟨y50, hy50, hr⟩ := bind_some hr
                    refine AL_cons (LR_call Hfaa.func203 rfl rfl (C203 N a3_1 y50 hy50) (all_cons (at_tmp 67 _) all_nil) rfl) (sS (sA (sT1 rfl) sT0) sB0 sF0) ?_
                    refine AL_cons (LR_assign (at_tmp 68 _) rfl) (sS (sT1 rfl) sB0 sF0) ?_
                    refine AL_nil ?_
                    exact thenN (cutLeaf (v := y50) hr (weak0 ((sT rfl (sT rfl (sT rfl (sT rfl (sT rfl (sT rfl (sT rfl (sT rfl sT0))))))))) (sub_keep (sub_keep sub_nil))))
                  · rintro x6 hr
                    show AW Hfaa.prog _ _ _ ⟨[(0, .inl (tabp a0)), (2, .inl (is (U8 a2))), (4, .inl (is (Bl a4))), (6, .inr (.inl (6, 0))), (8, .inr (.inl (8, 0))), (12, .inl (is (U64 x2))), (13, .inl (is (I64 x3))), (14, .inl (is (U64 x6)))], [(6, pb 23 [is (U8 a1_0), is (U8 a1_1)]), (8, pb 76 [is (Bl a3_0), is (Sv a3_1), is (I16 a3_2)])]⟩
                    have hr : some r = F101_6 N a0 a1_0 a1_1 a2 a3_0 a3_1 a3_2 a4 x2 x3 x6 := hr
                    refine AW_seq1 ?_
                    refine AW_cut (σ := Bool) (fun v => ⟨[(0, .inl (tabp a0)), (2, .inl (is (U8 a2))), (4, .inl (is (Bl a4))), (6, .inr (.inl (6, 0))), (8, .inr (.inl (8, 0))), (12, .inl (is (U64 x2))), (13, .inl (is (I64 x3))), (14, .inl (is (U64 x6))), (70, .inl (is (Bl v)))], [(6, pb 23 [is (U8 a1_0), is (U8 a1_1)]), (8, pb 76 [is (Bl a3_0), is (Sv a3_1), is (I16 a3_2)])]⟩) (fun v => some r = F101_7 N a0 a1_0 a1_1 a2 a3_0 a3_1 a3_2 a4 x2 x3 x6 v) ?_ ?_
                    · skip
                      refine AW_region ?_
                      refine AL_cons (LR_move (at_tmp 13 _) rfl) (sS (sT1 rfl) sB0 sF0) ?_
                      refine AL_cons (LR_bin (at_tmp 69 _) (at_c (v' := I64 19) rfl) (leq_I64 x3 19) rfl) (sS (sA (sT1 rfl) sT0) sB0 sF0) ?_
                      refine AL_nil ?_
                      exact thenN (cutLeaf (v := decide (x3 ≤ 19)) hr (weak0 ((sT rfl (sT rfl (sT rfl (sT rfl (sT rfl (sT rfl (sT rfl (sT rfl (sT rfl sT0)))))))))) (sub_keep (sub_keep sub_nil))))
                    · rintro x7 hr
                      show AW Hfaa.prog _ _ _ ⟨[(0, .inl (tabp a0)), (2, .inl (is (U8 a2))), (4, .inl (is (Bl a4))), (6, .inr (.inl (6, 0))), (8, .inr (.inl (8, 0))), (12, .inl (is (U64 x2))), (13, .inl (is (I64 x3))), (14, .inl (is (U64 x6))), (70, .inl (is (Bl x7)))], [(6, pb 23 [is (U8 a1_0), is (U8 a1_1)]), (8, pb 76 [is (Bl a3_0), is (Sv a3_1), is (I16 a3_2)])]⟩
                      have hr : some r = F101_7 N a0 a1_0 a1_1 a2 a3_0 a3_1 a3_2 a4 x2 x3 x6 x7 := hr
                      refine AW_condT (b := x7) rfl (fun h => ?_) (fun h => ?_)
                      · have hr := hr.trans (cond_t h)
                        clear h
                        refine AW_cut (σ := Unit) (fun _ => ⟨[(0, .inl (tabp a0)), (2, .inl (is (U8 a2))), (6, .inr (.inl (6, 0))), (8, .inr (.inl (8, 0))), (12, .inl (is (U64 x2))), (14, .inl (is (U64 x6)))], [(6, pb 23 [is (U8 a1_0), is (U8 a1_1)]), (8, pb 76 [is (Bl a3_0), is (Sv a3_1), is (I16 a3_2)])]⟩) (fun _ => some r = F101_8 N a0 a1_0 a1_1 a2 a3_0 a3_1 a3_2 x2 x6) ?_ ?_
                        · skip
                          refine AW_seq1 ?_
                          refine AW_region ?_
                          refine AL_cons (LR_move (at_tmp 4 _) rfl) (sS (sT1 rfl) sB0 sF0) ?_
                          refine AL_nil ?_
                          refine thenN ?_
                          refine AW_condT (b := a4) rfl (fun h => ?_) (fun h => ?_)
                          · have hr := hr.trans (cond_t h)
                            clear h
                            refine AW_cut (σ := BitVec 64 × Bool) (fun v => ⟨[(0, .inl (tabp a0)), (2, .inl (is (U8 a2))), (6, .inr (.inl (6, 0))), (8, .inr (.inl (8, 0))), (12, .inl (is (U64 x2))), (14, .inl (is (U64 x6))), (15, .inl (is (U64 v.1))), (16, .inl (is (Bl v.2)))], [(6, pb 23 [is (U8 a1_0), is (U8 a1_1)]), (8, pb 76 [is (Bl a3_0), is (Sv a3_1), is (I16 a3_2)])]⟩) (fun v => some r = F101_10 N a0 a1_0 a1_1 a2 a3_0 a3_1 a3_2 x2 x6 v.1 v.2) ?_ ?_
                            · skip
                              refine AW_region ?_
                              refine AL_cons (LR_loads (at_tmp 6 _) ag23 sz23 rfl rfl rfl) (sS (sT1 rfl) (sB1 rfl) sF0) ?_
                              refine AL_cons (LR_move (at_tmp 14 _) rfl) (sS (sT1 rfl) sB0 sF0) ?_
                              refine AL_cons (LR_fieldAddr (off := 0) (o := 2) (at_tmp 8 _) (fun b w => fa76_2 b 0 w) rfl) (sS (sT1 rfl) sB0 sF0) ?_
                              refine AL_cons (LR_load (at_tmp 75 _) na44 rfl rfl) (sS (sT1 rfl) (sB1 rfl) sF0) ?_
                              obtain ⟨y41, hy41, hr⟩ := bind_some hr
                              refine AL_cons (LR_call Hfaa.func90 rfl rfl (C90 N a1_0 a1_1 x6 a3_2 y41 hy41) (all_cons (at_tmp 73 _) (all_cons (at_tmp 74 _) (all_cons (at_tmp 76 _) all_nil))) rfl) (sS (sA (sT1 rfl) (sA (sT1 rfl) (sA (sT1 rfl) sT0))) sB0 sF0) ?_
                              refine AL_cons (LR_move (at_tmp 77 _) rfl) (sS (sT1 rfl) sB0 sF0) ?_
                              refine AL_cons (LR_extract (at_tmp 72 _) rfl rfl) (sS (sT1 rfl) sB0 sF0) ?_
                              refine AL_cons (LR_extract (at_tmp 72 _) rfl rfl) (sS (sT1 rfl) sB0 sF0) ?_
                              refine AL_cons (LR_assign (at_tmp 78 _) rfl) (sS (sT1 rfl) sB0 sF0) ?_
                              refine AL_cons (LR_assign (at_tmp 79 _) rfl) (sS (sT1 rfl) sB0 sF0) ?_
                              refine AL_nil ?_
                              exact thenN (cutLeaf (v := (y41.1, y41.2)) hr (weak0 ((sT rfl (sT rfl (sT rfl (sT rfl (sT rfl (sT rfl (sT rfl (sT rfl sT0))))))))) (sub_keep (sub_keep sub_nil))))
                            · rintro ⟨x10, x11⟩ hr
                              show AW Hfaa.prog _ _ _ ⟨[(0, .inl (tabp a0)), (2, .inl (is (U8 a2))), (6, .inr (.inl (6, 0))), (8, .inr (.inl (8, 0))), (12, .inl (is (U64 x2))), (14, .inl (is (U64 x6))), (15, .inl (is (U64 x10))), (16, .inl (is (Bl x11)))], [(6, pb 23 [is (U8 a1_0), is (U8 a1_1)]), (8, pb 76 [is (Bl a3_0), is (Sv a3_1), is (I16 a3_2)])]⟩
                              have hr : some r = F101_10 N a0 a1_0 a1_1 a2 a3_0 a3_1 a3_2 x2 x6 x10 x11 := hr
                              refine AW_seq1 ?_
                              refine AW_region ?_
                              refine AL_cons (LR_move (at_tmp 16 _) rfl) (sS (sT1 rfl) sB0 sF0) ?_
                              refine AL_nil ?_
                              refine thenN ?_
                              refine AW_condT (b := x11) rfl (fun h => ?_) (fun h => ?_)
                              · have hr := hr.trans (cond_t h)
                                clear h
                                refine AW_seq1 ?_
                                refine AW_region ?_
                                refine AL_cons (LR_move (at_tmp 15 _) rfl) (sS (sT1 rfl) sB0 sF0) ?_
                                refine AL_cons (LR_move (at_tmp 12 _) rfl) (sS (sT1 rfl) sB0 sF0) ?_
                                refine AL_cons (LR_bin (at_tmp 81 _) (at_tmp 82 _) (or_U64 x10 x2) rfl) (sS (sA (sT1 rfl) (sT1 rfl)) sB0 sF0) ?_
                                refine AL_cons (LR_assign (at_tmp 83 _) rfl) (sS (sT1 rfl) sB0 sF0) ?_
                                refine AL_cons (LR_assign (at_c (v' := U8 (1#8)) rfl) rfl) (sS sT0 sB0 sF0) ?_
                                refine AL_nil ?_
                                refine thenN ?_
                                refine AW_ret ?_
                                refine thenR ?_
                                refine thenR ?_
                                obtain rfl := Option.some.inj hr
                                exact res2 rfl (rvT rfl) (rvT rfl)
                              · have hr := hr.trans (cond_f h)
                                clear h
                                refine AW_skip ?_
                                exact thenN (cutLeaf (v := ()) hr (weak0 ((sT rfl (sT rfl (sT rfl (sT rfl (sT rfl (sT rfl sT0))))))) (sub_keep (sub_keep sub_nil))))
                          · have hr := hr.trans (cond_f h)
                            clear h
                            refine AW_skip ?_
                            exact thenN (cutLeaf (v := ()) hr (weak0 ((sT rfl (sT rfl (sT rfl (sT rfl (sT rfl (sT rfl sT0))))))) (sub_keep (sub_keep sub_nil))))
                        · rintro _ hr
                          show AW Hfaa.prog _ _ _ ⟨[(0, .inl (tabp a0)), (2, .inl (is (U8 a2))), (6, .inr (.inl (6, 0))), (8, .inr (.inl (8, 0))), (12, .inl (is (U64 x2))), (14, .inl (is (U64 x6)))], [(6, pb 23 [is (U8 a1_0), is (U8 a1_1)]), (8, pb 76 [is (Bl a3_0), is (Sv a3_1), is (I16 a3_2)])]⟩
                          have hr : some r = F101_8 N a0 a1_0 a1_1 a2 a3_0 a3_1 a3_2 x2 x6 := hr
                          refine AW_seq1 ?_
                          refine AW_cut (σ := BitVec 64 × Bool) (fun v => ⟨[(2, .inl (is (U8 a2))), (6, .inr (.inl (6, 0))), (8, .inr (.inl (8, 0))), (12, .inl (is (U64 x2))), (17, .inl (is (U64 v.1))), (18, .inl (is (Bl v.2)))], [(6, pb 23 [is (U8 a1_0), is (U8 a1_1)]), (8, pb 76 [is (Bl a3_0), is (Sv a3_1), is (I16 a3_2)])]⟩) (fun v => some r = F101_9 N a1_0 a1_1 a2 a3_0 a3_1 a3_2 x2 v.1 v.2) ?_ ?_
                          · skip
                            refine AW_region ?_
                            refine AL_cons (LR_move (at_tmp 0 _) rfl) (sS (sT1 rfl) sB0 sF0) ?_
                            refine AL_cons (LR_loads (at_tmp 6 _) ag23 sz23 rfl rfl rfl) (sS (sT1 rfl) (sB1 rfl) sF0) ?_
                            refine AL_cons (LR_move (at_tmp 14 _) rfl) (sS (sT1 rfl) sB0 sF0) ?_
                            refine AL_cons (LR_fieldAddr (off := 0) (o := 2) (at_tmp 8 _) (fun b w => fa76_2 b 0 w) rfl) (sS (sT1 rfl) sB0 sF0) ?_
                            refine AL_cons (LR_load (at_tmp 88 _) na44 rfl rfl) (sS (sT1 rfl) (sB1 rfl) sF0) ?_
                            obtain ⟨y39, hy39, hr⟩ := bind_some hr
                            refine AL_cons (LR_call Hfaa.func102 rfl rfl (C102 N a0 a1_0 a1_1 x6 a3_2 y39 hy39) (all_cons (at_tmp 85 _) (all_cons (at_tmp 86 _) (all_cons (at_tmp 87 _) (all_cons (at_tmp 89 _) all_nil)))) rfl) (sS (sA (sT1 rfl) (sA (sT1 rfl) (sA (sT1 rfl) (sA (sT1 rfl) sT0)))) sB0 sF0) ?_
                            refine AL_cons (LR_move (at_tmp 90 _) rfl) (sS (sT1 rfl) sB0 sF0) ?_
                            refine AL_cons (LR_extract (at_tmp 84 _) rfl rfl) (sS (sT1 rfl) sB0 sF0) ?_
                            refine AL_cons (LR_extract (at_tmp 84 _) rfl rfl) (sS (sT1 rfl) sB0 sF0) ?_
                            refine AL_cons (LR_assign (at_tmp 91 _) rfl) (sS (sT1 rfl) sB0 sF0) ?_
                            refine AL_cons (LR_assign (at_tmp 92 _) rfl) (sS (sT1 rfl) sB0 sF0) ?_
                            refine AL_nil ?_
                            exact thenN (cutLeaf (v := (y39.1, y39.2)) hr (weak0 ((sT rfl (sT rfl (sT rfl (sT rfl (sT rfl (sT rfl sT0))))))) (sub_keep (sub_keep sub_nil))))
                          · rintro ⟨x8, x9⟩ hr
                            show AW Hfaa.prog _ _ _ ⟨[(2, .inl (is (U8 a2))), (6, .inr (.inl (6, 0))), (8, .inr (.inl (8, 0))), (12, .inl (is (U64 x2))), (17, .inl (is (U64 x8))), (18, .inl (is (Bl x9)))], [(6, pb 23 [is (U8 a1_0), is (U8 a1_1)]), (8, pb 76 [is (Bl a3_0), is (Sv a3_1), is (I16 a3_2)])]⟩
                            have hr : some r = F101_9 N a1_0 a1_1 a2 a3_0 a3_1 a3_2 x2 x8 x9 := hr
                            refine AW_seq1 ?_
                            refine AW_region ?_
                            refine AL_cons (LR_move (at_tmp 18 _) rfl) (sS (sT1 rfl) sB0 sF0) ?_
                            refine AL_nil ?_
                            refine thenN ?_
                            refine AW_condT (b := x9) rfl (fun h => ?_) (fun h => ?_)
                            · have hr := hr.trans (cond_t h)
                              clear h
                              refine AW_seq1 ?_
                              refine AW_region ?_
                              refine AL_cons (LR_move (at_tmp 17 _) rfl) (sS (sT1 rfl) sB0 sF0) ?_
                              refine AL_cons (LR_move (at_tmp 12 _) rfl) (sS (sT1 rfl) sB0 sF0) ?_
                              refine AL_cons (LR_bin (at_tmp 94 _) (at_tmp 95 _) (or_U64 x8 x2) rfl) (sS (sA (sT1 rfl) (sT1 rfl)) sB0 sF0) ?_
                              refine AL_cons (LR_assign (at_tmp 96 _) rfl) (sS (sT1 rfl) sB0 sF0) ?_
                              refine AL_cons (LR_assign (at_c (v' := U8 (2#8)) rfl) rfl) (sS sT0 sB0 sF0) ?_
                              refine AL_nil ?_
                              refine thenN ?_
                              refine AW_ret ?_
                              refine thenR ?_
                              refine thenR ?_
                              obtain rfl := Option.some.inj hr
                              exact res2 rfl (rvT rfl) (rvT rfl)
                            · have hr := hr.trans (cond_f h)
                              clear h
                              refine AW_skip ?_
                              refine thenN ?_
                              refine AW_seq1 ?_
                              refine AW_region ?_
                              refine AL_cons (LR_loads (at_tmp 6 _) ag23 sz23 rfl rfl rfl) (sS (sT1 rfl) (sB1 rfl) sF0) ?_
                              refine AL_cons (LR_move (at_tmp 2 _) rfl) (sS (sT1 rfl) sB0 sF0) ?_
                              refine AL_cons (LR_loads (at_tmp 8 _) ag76 sz76 rfl rfl rfl) (sS (sT1 rfl) (sB1 rfl) sF0) ?_
                              obtain ⟨y38, hy38, hr⟩ := bind_some hr
                              refine AL_cons (LR_call Hfaa.func92 rfl rfl (C92 N a1_0 a1_1 a2 a3_0 a3_1 a3_2 y38 hy38) (all_cons (at_tmp 97 _) (all_cons (at_tmp 98 _) (all_cons (at_tmp 99 _) all_nil))) rfl) (sS (sA (sT1 rfl) (sA (sT1 rfl) (sA (sT1 rfl) sT0))) sB0 sF0) ?_
                              refine AL_cons (LR_assign (at_tmp 100 _) rfl) (sS (sT1 rfl) sB0 sF0) ?_
                              refine AL_cons (LR_assign (at_c (v' := U8 (4#8)) rfl) rfl) (sS sT0 sB0 sF0) ?_
                              refine AL_nil ?_
                              refine thenN ?_
                              refine AW_ret ?_
                              refine thenR ?_
                              obtain rfl := Option.some.inj hr
                              exact res2 rfl (rvT rfl) (rvT rfl)
                      · have hr := hr.trans (cond_f h)
                        clear h
                        refine AW_skip ?_
                        refine thenN ?_
                        refine AW_cut (σ := Int) (fun v => ⟨[(0, .inl (tabp a0)), (2, .inl (is (U8 a2))), (6, .inr (.inl (6, 0))), (8, .inr (.inl (8, 0))), (12, .inl (is (U64 x2))), (14, .inl (is (U64 x6))), (19, .inl (is (I16 v)))], [(6, pb 23 [is (U8 a1_0), is (U8 a1_1)]), (8, pb 76 [is (Bl a3_0), is (Sv a3_1), is (I16 a3_2)])]⟩) (fun v => some r = F101_11 N a0 a1_0 a1_1 a2 a3_0 a3_1 a3_2 x2 x6 v) ?_ ?_
                        · skip
                          refine AW_region ?_
                          refine AL_cons (LR_fieldAddr (off := 0) (o := 2) (at_tmp 8 _) (fun b w => fa76_2 b 0 w) rfl) (sS (sT1 rfl) sB0 sF0) ?_
                          refine AL_cons (LR_load (at_tmp 101 _) na44 rfl rfl) (sS (sT1 rfl) (sB1 rfl) sF0) ?_
                          refine AL_cons (LR_move (at_tmp 13 _) rfl) (sS (sT1 rfl) sB0 sF0) ?_
                          refine AL_cons (LR_bin (at_tmp 103 _) (at_c (v' := I64 19) rfl) (sub_I64 x3 19) rfl) (sS (sA (sT1 rfl) sT0) sB0 sF0) ?_
                          refine AL_cons (LR_conv (vx := I64 (w64 (x3 - 19))) (at_tmp 104 _) (conv_I16 Hfaa.underlying3 Hfaa.underlying44 (w64 (x3 - 19))) rfl) (sS (sT1 rfl) sB0 sF0) ?_
                          refine AL_cons (LR_bin (at_tmp 102 _) (at_tmp 105 _) (add_I16 a3_2 (w16 (w64 (x3 - 19)))) rfl) (sS (sA (sT1 rfl) (sT1 rfl)) sB0 sF0) ?_
                          refine AL_cons (LR_assign (at_tmp 106 _) rfl) (sS (sT1 rfl) sB0 sF0) ?_
                          refine AL_nil ?_
                          exact thenN (cutLeaf (v := w16 (a3_2 + (w16 (w64 (x3 - 19))))) hr (weak0 ((sT rfl (sT rfl (sT rfl (sT rfl (sT rfl (sT rfl (sT rfl sT0)))))))) (sub_keep (sub_keep sub_nil))))
                        · rintro x12 hr
                          show AW Hfaa.prog _ _ _ ⟨[(0, .inl (tabp a0)), (2, .inl (is (U8 a2))), (6, .inr (.inl (6, 0))), (8, .inr (.inl (8, 0))), (12, .inl (is (U64 x2))), (14, .inl (is (U64 x6))), (19, .inl (is (I16 x12)))], [(6, pb 23 [is (U8 a1_0), is (U8 a1_1)]), (8, pb 76 [is (Bl a3_0), is (Sv a3_1), is (I16 a3_2)])]⟩
                          have hr : some r = F101_11 N a0 a1_0 a1_1 a2 a3_0 a3_1 a3_2 x2 x6 x12 := hr
                          refine AW_cut (σ := BitVec 64 × Bool) (fun v => ⟨[(0, .inl (tabp a0)), (2, .inl (is (U8 a2))), (6, .inr (.inl (6, 0))), (8, .inr (.inl (8, 0))), (12, .inl (is (U64 x2))), (14, .inl (is (U64 x6))), (19, .inl (is (I16 x12))), (20, .inl (is (U64 v.1))), (21, .inl (is (Bl v.2)))], [(6, pb 23 [is (U8 a1_0), is (U8 a1_1)]), (8, pb 76 [is (Bl a3_0), is (Sv a3_1), is (I16 a3_2)])]⟩) (fun v => some r = F101_12 N a0 a1_0 a1_1 a2 a3_0 a3_1 a3_2 x2 x6 x12 v.1 v.2) ?_ ?_
                          · skip
                            refine AW_region ?_
                            refine AL_cons (LR_move (at_tmp 0 _) rfl) (sS (sT1 rfl) sB0 sF0) ?_
                            refine AL_cons (LR_loads (at_tmp 6 _) ag23 sz23 rfl rfl rfl) (sS (sT1 rfl) (sB1 rfl) sF0) ?_
                            refine AL_cons (LR_move (at_tmp 14 _) rfl) (sS (sT1 rfl) sB0 sF0) ?_
                            refine AL_cons (LR_move (at_tmp 19 _) rfl) (sS (sT1 rfl) sB0 sF0) ?_
                            obtain ⟨y49, hy49, hr⟩ := bind_some hr
                            refine AL_cons (LR_call Hfaa.func102 rfl rfl (C102 N a0 a1_0 a1_1 x6 x12 y49 hy49) (all_cons (at_tmp 108 _) (all_cons (at_tmp 109 _) (all_cons (at_tmp 110 _) (all_cons (at_tmp 111 _) all_nil)))) rfl) (sS (sA (sT1 rfl) (sA (sT1 rfl) (sA (sT1 rfl) (sA (sT1 rfl) sT0)))) sB0 sF0) ?_
                            refine AL_cons (LR_move (at_tmp 112 _) rfl) (sS (sT1 rfl) sB0 sF0) ?_
                            refine AL_cons (LR_extract (at_tmp 107 _) rfl rfl) (sS (sT1 rfl) sB0 sF0) ?_
                            refine AL_cons (LR_extract (at_tmp 107 _) rfl rfl) (sS (sT1 rfl) sB0 sF0) ?_
                            refine AL_cons (LR_assign (at_tmp 113 _) rfl) (sS (sT1 rfl) sB0 sF0) ?_
                            refine AL_cons (LR_assign (at_tmp 114 _) rfl) (sS (sT1 rfl) sB0 sF0) ?_
                            refine AL_nil ?_
                            exact thenN (cutLeaf (v := (y49.1, y49.2)) hr (weak0 ((sT rfl (sT rfl (sT rfl (sT rfl (sT rfl (sT rfl (sT rfl (sT rfl (sT rfl sT0)))))))))) (sub_keep (sub_keep sub_nil))))
                          · rintro ⟨x13, x14⟩ hr
                            show AW Hfaa.prog _ _ _ ⟨[(0, .inl (tabp a0)), (2, .inl (is (U8 a2))), (6, .inr (.inl (6, 0))), (8, .inr (.inl (8, 0))), (12, .inl (is (U64 x2))), (14, .inl (is (U64 x6))), (19, .inl (is (I16 x12))), (20, .inl (is (U64 x13))), (21, .inl (is (Bl x14)))], [(6, pb 23 [is (U8 a1_0), is (U8 a1_1)]), (8, pb 76 [is (Bl a3_0), is (Sv a3_1), is (I16 a3_2)])]⟩
                            have hr : some r = F101_12 N a0 a1_0 a1_1 a2 a3_0 a3_1 a3_2 x2 x6 x12 x13 x14 := hr
                            refine AW_seq1 ?_
                            refine AW_cut (σ := BitVec 64 × Bool) (fun v => ⟨[(2, .inl (is (U8 a2))), (6, .inr (.inl (6, 0))), (8, .inr (.inl (8, 0))), (12, .inl (is (U64 x2))), (20, .inl (is (U64 x13))), (21, .inl (is (Bl x14))), (22, .inl (is (U64 v.1))), (23, .inl (is (Bl v.2)))], [(6, pb 23 [is (U8 a1_0), is (U8 a1_1)]), (8, pb 76 [is (Bl a3_0), is (Sv a3_1), is (I16 a3_2)])]⟩) (fun v => some r = F101_13 N a1_0 a1_1 a2 a3_0 a3_1 a3_2 x2 x13 x14 v.1 v.2) ?_ ?_
                            · skip
                              refine AW_region ?_
                              refine AL_cons (LR_move (at_tmp 0 _) rfl) (sS (sT1 rfl) sB0 sF0) ?_
                              refine AL_cons (LR_loads (at_tmp 6 _) ag23 sz23 rfl rfl rfl) (sS (sT1 rfl) (sB1 rfl) sF0) ?_
                              refine AL_cons (LR_move (at_tmp 14 _) rfl) (sS (sT1 rfl) sB0 sF0) ?_
                              refine AL_cons (LR_bin (at_tmp 118 _) (at_c (v' := U64 (1#64)) rfl) (add_U64 x6 (1#64)) rfl) (sS (sA (sT1 rfl) sT0) sB0 sF0) ?_
                              refine AL_cons (LR_move (at_tmp 19 _) rfl) (sS (sT1 rfl) sB0 sF0) ?_
                              obtain ⟨y48, hy48, hr⟩ := bind_some hr
                              refine AL_cons (LR_call Hfaa.func102 rfl rfl (C102 N a0 a1_0 a1_1 (x6 + (1#64)) x12 y48 hy48) (all_cons (at_tmp 116 _) (all_cons (at_tmp 117 _) (all_cons (at_tmp 119 _) (all_cons (at_tmp 120 _) all_nil)))) rfl) (sS (sA (sT1 rfl) (sA (sT1 rfl) (sA (sT1 rfl) (sA (sT1 rfl) sT0)))) sB0 sF0) ?_
                              refine AL_cons (LR_move (at_tmp 121 _) rfl) (sS (sT1 rfl) sB0 sF0) ?_
                              refine AL_cons (LR_extract (at_tmp 115 _) rfl rfl) (sS (sT1 rfl) sB0 sF0) ?_
                              refine AL_cons (LR_extract (at_tmp 115 _) rfl rfl) (sS (sT1 rfl) sB0 sF0) ?_
                              refine AL_cons (LR_assign (at_tmp 122 _) rfl) (sS (sT1 rfl) sB0 sF0) ?_
                              refine AL_cons (LR_assign (at_tmp 123 _) rfl) (sS (sT1 rfl) sB0 sF0) ?_
                              refine AL_nil ?_
                              exact thenN (cutLeaf (v := (y48.1, y48.2)) hr (weak0 ((sT rfl (sT rfl (sT rfl (sT rfl (sT rfl (sT rfl (sT rfl (sT rfl sT0))))))))) (sub_keep (sub_keep sub_nil))))
                            · rintro ⟨x15, x16⟩ hr
                              show AW Hfaa.prog _ _ _ ⟨[(2, .inl (is (U8 a2))), (6, .inr (.inl (6, 0))), (8, .inr (.inl (8, 0))), (12, .inl (is (U64 x2))), (20, .inl (is (U64 x13))), (21, .inl (is (Bl x14))), (22, .inl (is (U64 x15))), (23, .inl (is (Bl x16)))], [(6, pb 23 [is (U8 a1_0), is (U8 a1_1)]), (8, pb 76 [is (Bl a3_0), is (Sv a3_1), is (I16 a3_2)])]⟩
                              have hr : some r = F101_13 N a1_0 a1_1 a2 a3_0 a3_1 a3_2 x2 x13 x14 x15 x16 := hr
                              refine AW_cut (σ := Bool) (fun v => ⟨[(2, .inl (is (U8 a2))), (6, .inr (.inl (6, 0))), (8, .inr (.inl (8, 0))), (12, .inl (is (U64 x2))), (20, .inl (is (U64 x13))), (132, .inl (is (Bl v)))], [(6, pb 23 [is (U8 a1_0), is (U8 a1_1)]), (8, pb 76 [is (Bl a3_0), is (Sv a3_1), is (I16 a3_2)])]⟩) (fun v => some r = F101_14 N a1_0 a1_1 a2 a3_0 a3_1 a3_2 x2 x13 v) ?_ ?_
                              · skip
                                refine AW_region ?_
                                refine AL_cons (LR_move (at_tmp 21 _) rfl) (sS (sT1 rfl) sB0 sF0) ?_
                                refine AL_cons (LR_move (at_tmp 124 _) rfl) (sS (sT1 rfl) sB0 sF0) ?_
                                refine AL_cutAt 2 ⟨[(2, .inl (is (U8 a2))), (6, .inr (.inl (6, 0))), (8, .inr (.inl (8, 0))), (12, .inl (is (U64 x2))), (20, .inl (is (U64 x13))), (21, .inl (is (Bl x14))), (22, .inl (is (U64 x15))), (23, .inl (is (Bl x16))), (124, .inl (is (Bl x14))), (125, .inl (is (Bl x14))), (127, .inl (is (Bl (x14 && x16))))], [(6, pb 23 [is (U8 a1_0), is (U8 a1_1)]), (8, pb 76 [is (Bl a3_0), is (Sv a3_1), is (I16 a3_2)])]⟩ ?_ ?_
                                · cases hb : x14
                                  · skip
                                    refine AL_cons (LR_off (b := false) rfl rfl rfl rfl) (sS (sT1 rfl) sB0 sF0) ?_
                                    refine AL_cons (LR_pick (b := false) (at_tmp 125 _) (at_tmp 126 _) (at_c (v' := Bl false) rfl) rfl) (sS (sA (sT1 rfl) (sA (sT1 rfl) sT0)) sB0 sF0) ?_
                                    exact AL_nil ⟨rfl, weak0 ((sT rfl (sT rfl (sT rfl (sT rfl (sT rfl (sT rfl (sT rfl (sT rfl (sT rfl (sT rfl (sT rfl sT0)))))))))))) (sub_keep (sub_keep sub_nil))⟩
                                  · skip
                                    refine AL_cons (LR_on rfl rfl rfl (LR_move (at_tmp 23 _) rfl)) (sS (sT rfl (sT1 rfl)) sB0 sF0) ?_
                                    refine AL_cons (LR_pick (b := true) (at_tmp 125 _) (at_tmp 126 _) (at_c (v' := Bl false) rfl) rfl) (sS (sA (sT1 rfl) (sA (sT1 rfl) sT0)) sB0 sF0) ?_
                                    exact AL_nil ⟨rfl, weak0 ((sT rfl (sT rfl (sT rfl (sT rfl (sT rfl (sT rfl (sT rfl (sT rfl (sT rfl (sT rfl (sT rfl sT0)))))))))))) (sub_keep (sub_keep sub_nil))⟩
                                refine AL_cons (LR_move (at_tmp 127 _) rfl) (sS (sT1 rfl) sB0 sF0) ?_
                                refine AL_cutAt 4 ⟨[(2, .inl (is (U8 a2))), (6, .inr (.inl (6, 0))), (8, .inr (.inl (8, 0))), (12, .inl (is (U64 x2))), (20, .inl (is (U64 x13))), (21, .inl (is (Bl x14))), (22, .inl (is (U64 x15))), (23, .inl (is (Bl x16))), (124, .inl (is (Bl x14))), (125, .inl (is (Bl x14))), (127, .inl (is (Bl (x14 && x16)))), (128, .inl (is (Bl (x14 && x16)))), (132, .inl (is (Bl ((x14 && x16) && (x15 == x13)))))], [(6, pb 23 [is (U8 a1_0), is (U8 a1_1)]), (8, pb 76 [is (Bl a3_0), is (Sv a3_1), is (I16 a3_2)])]⟩ ?_ ?_
                                · cases hb : x14 && x16
                                  · skip
                                    refine AL_cons (LR_off (b := false) rfl rfl rfl rfl) (sS (sT1 rfl) sB0 sF0) ?_
                                    refine AL_cons (LR_off (b := false) rfl rfl rfl rfl) (sS (sT1 rfl) sB0 sF0) ?_
                                    refine AL_cons (LR_off (b := false) rfl rfl rfl rfl) (sS (sT1 rfl) sB0 sF0) ?_
                                    refine AL_cons (LR_pick (b := false) (at_tmp 128 _) (at_tmp 131 _) (at_c (v' := Bl false) rfl) rfl) (sS (sA (sT1 rfl) (sA (sT1 rfl) sT0)) sB0 sF0) ?_
                                    exact AL_nil ⟨rfl, weak0 ((sT rfl (sT rfl (sT rfl (sT rfl (sT rfl (sT rfl (sT rfl (sT rfl (sT rfl (sT rfl (sT rfl (sT rfl (sT rfl sT0)))))))))))))) (sub_keep (sub_keep sub_nil))⟩
                                  · skip
                                    refine AL_cons (LR_on rfl rfl rfl (LR_move (at_tmp 22 _) rfl)) (sS (sT rfl (sT1 rfl)) sB0 sF0) ?_
                                    refine AL_cons (LR_on rfl rfl rfl (LR_move (at_tmp 20 _) rfl)) (sS (sT rfl (sT1 rfl)) sB0 sF0) ?_
                                    refine AL_cons (LR_on rfl rfl rfl (LR_bin (at_tmp 129 _) (at_tmp 130 _) (eql_U64 x15 x13) rfl)) (sS (sT rfl (sA (sT1 rfl) (sT1 rfl))) sB0 sF0) ?_
                                    refine AL_cons (LR_pick (b := true) (at_tmp 128 _) (at_tmp 131 _) (at_c (v' := Bl false) rfl) rfl) (sS (sA (sT1 rfl) (sA (sT1 rfl) sT0)) sB0 sF0) ?_
                                    exact AL_nil ⟨rfl, weak0 ((sT rfl (sT rfl (sT rfl (sT rfl (sT rfl (sT rfl (sT rfl (sT rfl (sT rfl (sT rfl (sT rfl (sT rfl (sT rfl sT0)))))))))))))) (sub_keep (sub_keep sub_nil))⟩
                                refine AL_nil ?_
                                exact thenN (cutLeaf (v := (x14 && x16) && (x15 == x13)) hr (weak0 ((sT rfl (sT rfl (sT rfl (sT rfl (sT rfl (sT rfl sT0))))))) (sub_keep (sub_keep sub_nil))))
                              · rintro x17 hr
                                show AW Hfaa.prog _ _ _ ⟨[(2, .inl (is (U8 a2))), (6, .inr (.inl (6, 0))), (8, .inr (.inl (8, 0))), (12, .inl (is (U64 x2))), (20, .inl (is (U64 x13))), (132, .inl (is (Bl x17)))], [(6, pb 23 [is (U8 a1_0), is (U8 a1_1)]), (8, pb 76 [is (Bl a3_0), is (Sv a3_1), is (I16 a3_2)])]⟩
                                have hr : some r = F101_14 N a1_0 a1_1 a2 a3_0 a3_1 a3_2 x2 x13 x17 := hr
                                refine AW_condT (b := x17) rfl (fun h => ?_) (fun h => ?_)
                                · have hr := hr.trans (cond_t h)
                                  clear h
                                  refine AW_seq1 ?_
                                  refine AW_region ?_
                                  refine AL_cons (LR_move (at_tmp 20 _) rfl) (sS (sT1 rfl) sB0 sF0) ?_
                                  refine AL_cons (LR_move (at_tmp 12 _) rfl) (sS (sT1 rfl) sB0 sF0) ?_
                                  refine AL_cons (LR_bin (at_tmp 133 _) (at_tmp 134 _) (or_U64 x13 x2) rfl) (sS (sA (sT1 rfl) (sT1 rfl)) sB0 sF0) ?_
                                  refine AL_cons (LR_assign (at_tmp 135 _) rfl) (sS (sT1 rfl) sB0 sF0) ?_
                                  refine AL_cons (LR_assign (at_c (v' := U8 (3#8)) rfl) rfl) (sS sT0 sB0 sF0) ?_
                                  refine AL_nil ?_
                                  refine thenN ?_
                                  refine AW_ret ?_
                                  refine thenR ?_
                                  obtain rfl := Option.some.inj hr
                                  exact res2 rfl (rvT rfl) (rvT rfl)
                                · have hr := hr.trans (cond_f h)
                                  clear h
                                  refine AW_skip ?_
                                  refine thenN ?_
                                  refine AW_seq1 ?_
                                  refine AW_region ?_
                                  refine AL_cons (LR_loads (at_tmp 6 _) ag23 sz23 rfl rfl rfl) (sS (sT1 rfl) (sB1 rfl) sF0) ?_
                                  refine AL_cons (LR_move (at_tmp 2 _) rfl) (sS (sT1 rfl) sB0 sF0) ?_
                                  refine AL_cons (LR_loads (at_tmp 8 _) ag76 sz76 rfl rfl rfl) (sS (sT1 rfl) (sB1 rfl) sF0) ?_
                                  obtain ⟨y47, hy47, hr⟩ := bind_some hr
                                  refine AL_cons (LR_call Hfaa.func92 rfl rfl (C92 N a1_0 a1_1 a2 a3_0 a3_1 a3_2 y47 hy47) (all_cons (at_tmp 136 _) (all_cons (at_tmp 137 _) (all_cons (at_tmp 138 _) all_nil))) rfl) (sS (sA (sT1 rfl) (sA (sT1 rfl) (sA (sT1 rfl) sT0))) sB0 sF0) ?_
                                  refine AL_cons (LR_assign (at_tmp 139 _) rfl) (sS (sT1 rfl) sB0 sF0) ?_
                                  refine AL_cons (LR_assign (at_c (v' := U8 (4#8)) rfl) rfl) (sS sT0 sB0 sF0) ?_
                                  refine AL_nil ?_
                                  refine thenN ?_
                                  refine AW_ret ?_
                                  obtain rfl := Option.some.inj hr
                                  exact res2 rfl (rvT rfl) (rvT rfl)
end Go.Proofs.YfwaawGreat
