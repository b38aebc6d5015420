import Derived.Test.YfwaawGreatG1
import Derived.Test.YfwaawGreatG2
import Derived.Test.YfwaawGreatG8
import Derived.Test.YfwaawGreatG9
import Derived.Test.YfwaawGreatG25
import Derived.Test.YfwaawGreatG31
namespace Go.Proofs.YfwaawGreat
open Go.Aw
set_option linter.unusedVariables false
set_option maxRecDepth 100000
set_option maxHeartbeats 1000000
/-- soft.ToInt64 -/
def F83_1 (N : Nat) (x1 : Int) (x2 : Bool) : Option (Int × Bool) := some (x1, x2)
def F83 (N : Nat) (a0_0 : BitVec 8) (a0_1 : BitVec 8) (a1 : BitVec 8) (a2 : BitVec 64) : Option (Int × Bool) := (F151 N a0_0 a0_1 a1 a2).bind fun y2 => F83_1 N y2.1 y2.2.1
theorem C83 (N : Nat) (a0_0 : BitVec 8) (a0_1 : BitVec 8) (a1 : BitVec 8) (a2 : BitVec 64) (r : Int × Bool) (hr : some r = F83 N a0_0 a0_1 a1 a2) : Aw.Fn Hfaa.prog 83 [agg [is (U8 a0_0), is (U8 a0_1)], is (U8 a1), is (U64 a2)] (tup [is (I64 r.1), is (Bl r.2)]) := by
  refine fn_intro Hfaa.func83 rfl rfl rfl ?_
  intro bn0 w0 H0
  refine AW_seq1 ?_
  refine AW_region ?_
  refine AL_cons (LR_box (at_tmp 0 _) (cells_agg _) rfl) (sS (sT1 rfl) sB0 (sF1 rfl)) ?_
  refine AL_cons (LR_assign (at_c (v' := I64 0) rfl) rfl) (sS sT0 sB0 sF0) ?_
  refine AL_cons (LR_assign (at_c (v' := Bl false) rfl) rfl) (sS sT0 sB0 sF0) ?_
  refine AL_nil ?_
  refine thenN ?_
  refine AW_cut (σ := Int × Bool) (fun v => ⟨[(8, .inl (is (I64 v.1))), (9, .inl (is (Bl v.2)))], []⟩) (fun v => some r = F83_1 N v.1 v.2) ?_ ?_
  · skip
    refine AW_region ?_
    refine AL_cons (LR_loads (at_tmp 3 _) ag23 sz23 rfl rfl rfl) (sS (sT1 rfl) (sB1 rfl) sF0) ?_
    refine AL_cons (LR_move (at_tmp 1 _) rfl) (sS (sT1 rfl) sB0 sF0) ?_
    refine AL_cons (LR_move (at_tmp 2 _) rfl) (sS (sT1 rfl) sB0 sF0) ?_
    obtain ⟨y2, hy2, hr⟩ := bind_some hr
    refine AL_cons (LR_call Hfaa.func151 rfl rfl (C151 N a0_0 a0_1 a1 a2 y2 hy2) (all_cons (at_tmp 12 _) (all_cons (at_tmp 13 _) (all_cons (at_tmp 14 _) all_nil))) rfl) (sS (sA (sT1 rfl) (sA (sT1 rfl) (sA (sT1 rfl) sT0))) sB0 sF0) ?_
    refine AL_cons (LR_move (at_tmp 15 _) rfl) (sS (sT1 rfl) sB0 sF0) ?_
    refine AL_cons (LR_extract (at_tmp 11 _) rfl rfl) (sS (sT1 rfl) sB0 sF0) ?_
    refine AL_cons (LR_extract (at_tmp 11 _) rfl rfl) (sS (sT1 rfl) sB0 sF0) ?_
    refine AL_cons (LR_extract (at_tmp 11 _) rfl rfl) (sS (sT1 rfl) sB0 sF0) ?_
    refine AL_cons (LR_assign (at_tmp 16 _) rfl) (sS (sT1 rfl) sB0 sF0) ?_
    refine AL_cons (LR_assign (at_tmp 17 _) rfl) (sS (sT1 rfl) sB0 sF0) ?_
    refine AL_cons (LR_assign (at_tmp 18 _) rfl) (sS (sT1 rfl) sB0 sF0) ?_
    refine AL_nil ?_
    exact thenN (cutLeaf (v := (y2.1, y2.2.1)) hr (weak0 ((sT rfl (sT rfl sT0))) (sub_drop sub_nil)))
  · rintro ⟨x1, x2⟩ hr
    show AW Hfaa.prog _ _ _ ⟨[(8, .inl (is (I64 x1))), (9, .inl (is (Bl x2)))], []⟩
    have hr : some r = F83_1 N x1 x2 := hr
    refine AW_seq1 ?_
    refine AW_region ?_
    refine AL_cons (LR_move (at_tmp 8 _) rfl) (sS (sT1 rfl) sB0 sF0) ?_
    refine AL_cons (LR_move (at_tmp 9 _) rfl) (sS (sT1 rfl) sB0 sF0) ?_
    refine AL_cons (LR_assign (at_tmp 19 _) rfl) (sS (sT1 rfl) sB0 sF0) ?_
    refine AL_cons (LR_assign (at_tmp 20 _) rfl) (sS (sT1 rfl) sB0 sF0) ?_
    refine AL_nil ?_
    refine thenN ?_
    refine AW_ret ?_
    obtain rfl := Option.some.inj hr
    exact res2 rfl (rvT rfl) (rvT rfl)
/-- calc/so.whole -/
def F310_1 (N : Nat) (a0 : Int) (x1 : Bool) : Option (List UInt8) := bif x1 then some ([33] : List UInt8) else (F170 N a0).bind fun y2 => some y2
def F310 (N : Nat) (a0 : Int) (a1 : Bool) : Option (List UInt8) := F310_1 N a0 (!a1)
theorem C310 (N : Nat) (a0 : Int) (a1 : Bool) (r : List UInt8) (hr : some r = F310 N a0 a1) : Aw.Fn Hfaa.prog 310 [is (I64 a0), is (Bl a1)] (is (Sv r)) := by
  refine fn_intro Hfaa.func310 rfl rfl rfl ?_
  intro bn0 w0 H0
  refine AW_seq1 ?_
  refine AW_region ?_
  refine AL_cons (LR_assign (at_c (v' := Sv ([] : List UInt8)) rfl) rfl) (sS sT0 sB0 sF0) ?_
  refine AL_nil ?_
  refine thenN ?_
  refine AW_seq1 ?_
  refine AW_cut (σ := Bool) (fun v => ⟨[(0, .inl (is (I64 a0))), (6, .inl (is (Bl v)))], []⟩) (fun v => some r = F310_1 N a0 v) ?_ ?_
  · skip
    refine AW_region ?_
    refine AL_cons (LR_move (at_tmp 1 _) rfl) (sS (sT1 rfl) sB0 sF0) ?_
    refine AL_cons (LR_un (at_tmp 5 _) (not_Bl a1) rfl) (sS (sT1 rfl) sB0 sF0) ?_
    refine AL_nil ?_
    exact thenN (cutLeaf (v := !a1) hr (weak0 ((sT rfl (sT rfl sT0))) sub_nil))
  · rintro x1 hr
    show AW Hfaa.prog _ _ _ ⟨[(0, .inl (is (I64 a0))), (6, .inl (is (Bl x1)))], []⟩
    have hr : some r = F310_1 N a0 x1 := hr
    refine AW_condT (b := x1) rfl (fun h => ?_) (fun h => ?_)
    · have hr := hr.trans (cond_t h)
      clear h
      refine AW_seq1 ?_
      refine AW_region ?_
      refine AL_cons (LR_assign (at_c (v' := Sv ([33] : List UInt8)) rfl) rfl) (sS sT0 sB0 sF0) ?_
      refine AL_nil ?_
      refine thenN ?_
      refine AW_ret ?_
      refine thenR ?_
      obtain rfl := Option.some.inj hr
      exact res1 rfl (rvT rfl)
    · have hr := hr.trans (cond_f h)
      clear h
      refine AW_skip ?_
      refine thenN ?_
      refine AW_seq1 ?_
      refine AW_region ?_
      refine AL_cons (LR_move (at_tmp 0 _) rfl) (sS (sT1 rfl) sB0 sF0) ?_
      obtain ⟨y2, hy2, hr⟩ := bind_some hr
      refine AL_cons (LR_call Hfaa.func170 rfl rfl (C170 N a0 y2 hy2) (all_cons (at_tmp 7 _) all_nil) rfl) (sS (sA (sT1 rfl) sT0) sB0 sF0) ?_
      refine AL_cons (LR_assign (at_tmp 8 _) rfl) (sS (sT1 rfl) sB0 sF0) ?_
      refine AL_nil ?_
      refine thenN ?_
      refine AW_ret ?_
      obtain rfl := Option.some.inj hr
      exact res1 rfl (rvT rfl)
/-- calc/so.toInt -/
def F230 (N : Nat) (a0_0 : BitVec 8) (a0_1 : BitVec 8) (a1 : BitVec 64) : Option (List UInt8) := (F83 N a0_0 a0_1 (2#8) a1).bind fun y3 => (F310 N y3.1 y3.2).bind fun y4 => some y4
theorem C230 (N : Nat) (a0_0 : BitVec 8) (a0_1 : BitVec 8) (a1 : BitVec 64) (r : List UInt8) (hr : some r = F230 N a0_0 a0_1 a1) : Aw.Fn Hfaa.prog 230 [agg [is (U8 a0_0), is (U8 a0_1)], is (U64 a1)] (is (Sv r)) := by
  refine fn_intro Hfaa.func230 rfl rfl rfl ?_
  intro bn0 w0 H0
  refine AW_seq1 ?_
  refine AW_region ?_
  refine AL_cons (LR_box (at_tmp 0 _) (cells_agg _) rfl) (sS (sT1 rfl) sB0 (sF1 rfl)) ?_
  refine AL_cons (LR_assign (at_c (v' := Sv ([] : List UInt8)) rfl) rfl) (sS sT0 sB0 sF0) ?_
  refine AL_nil ?_
  refine thenN ?_
  refine AW_seq1 ?_
  refine AW_region ?_
  refine AL_cons (LR_loads (at_tmp 2 _) ag23 sz23 rfl rfl rfl) (sS (sT1 rfl) (sB1 rfl) sF0) ?_
  refine AL_cons (LR_move (at_tmp 1 _) rfl) (sS (sT1 rfl) sB0 sF0) ?_
  obtain ⟨y3, hy3, hr⟩ := bind_some hr
  refine AL_cons (LR_call Hfaa.func83 rfl rfl (C83 N a0_0 a0_1 (2#8) a1 y3 hy3) (all_cons (at_tmp 5 _) (all_cons (at_c (v' := U8 (2#8)) rfl) (all_cons (at_tmp 6 _) all_nil))) rfl) (sS (sA (sT1 rfl) (sA sT0 (sA (sT1 rfl) sT0))) sB0 sF0) ?_
  refine AL_cons (LR_extract (at_tmp 7 _) rfl rfl) (sS (sT1 rfl) sB0 sF0) ?_
  refine AL_cons (LR_extract (at_tmp 7 _) rfl rfl) (sS (sT1 rfl) sB0 sF0) ?_
  obtain ⟨y4, hy4, hr⟩ := bind_some hr
  refine AL_cons (LR_call Hfaa.func310 rfl rfl (C310 N y3.1 y3.2 y4 hy4) (all_cons (at_tmp 8 _) (all_cons (at_tmp 9 _) all_nil)) rfl) (sS (sA (sT1 rfl) (sA (sT1 rfl) sT0)) sB0 sF0) ?_
  refine AL_cons (LR_assign (at_tmp 10 _) rfl) (sS (sT1 rfl) sB0 sF0) ?_
  refine AL_nil ?_
  refine thenN ?_
  refine AW_ret ?_
  obtain rfl := Option.some.inj hr
  exact res1 rfl (rvT rfl)
/-- soft.ConvertFlags -/
def F115_4 (N : Nat) (a1_0 : BitVec 8) (a1_1 : BitVec 8) (a2 : BitVec 8) (x2 : Bool) (x3 : Int) (x4 : Int) (x5 : BitVec 64) (x7 : Bool) : Option (BitVec 64 × BitVec 8) := bif x7 then lt (F67 a1_0 a1_1 x2) fun y16 => some (y16, 0#8) else (F215 N a1_0 a1_1 a2 x2 x4 x5).bind fun y18 => some (y18.1, y18.2)
def F115_3 (N : Nat) (a0_0 : BitVec 8) (a0_1 : BitVec 8) (a1_0 : BitVec 8) (a1_1 : BitVec 8) (a2 : BitVec 8) (a3 : BitVec 64) (x2 : Bool) (x3 : Int) (x4 : Int) (x5 : BitVec 64) (x6 : Bool) : Option (BitVec 64 × BitVec 8) := bif x6 then lt (F66 a1_0 a1_1) fun y13 => lt (F214 a0_0 a0_1 a3 a3) fun y14 => some (y13, y14) else F115_4 N a1_0 a1_1 a2 x2 x3 x4 x5 (x3 == 3)
def F115_2 (N : Nat) (a0_0 : BitVec 8) (a0_1 : BitVec 8) (a1_0 : BitVec 8) (a1_1 : BitVec 8) (a2 : BitVec 8) (a3 : BitVec 64) (x2 : Bool) (x3 : Int) (x4 : Int) (x5 : BitVec 64) : Option (BitVec 64 × BitVec 8) := F115_3 N a0_0 a0_1 a1_0 a1_1 a2 a3 x2 x3 x4 x5 (x3 == 4)
def F115_1 (N : Nat) (a0_0 : BitVec 8) (a0_1 : BitVec 8) (a1_0 : BitVec 8) (a1_1 : BitVec 8) (a2 : BitVec 8) (a3 : BitVec 64) (x1 : Bool) : Option (BitVec 64 × BitVec 8) := bif x1 then some (0#64, 0#8) else lt (F65 a0_0 a0_1 a3) fun y19 => F115_2 N a0_0 a0_1 a1_0 a1_1 a2 a3 y19.1 y19.2.1 y19.2.2.1 y19.2.2.2
def F115 (N : Nat) (a0_0 : BitVec 8) (a0_1 : BitVec 8) (a1_0 : BitVec 8) (a1_1 : BitVec 8) (a2 : BitVec 8) (a3 : BitVec 64) : Option (BitVec 64 × BitVec 8) := lt (F40 a0_0 a0_1) fun y20 => F115_1 N a0_0 a0_1 a1_0 a1_1 a2 a3 ((!y20) || (!(F40 a1_0 a1_1)))
theorem C115 (N : Nat) (a0_0 : BitVec 8) (a0_1 : BitVec 8) (a1_0 : BitVec 8) (a1_1 : BitVec 8) (a2 : BitVec 8) (a3 : BitVec 64) (r : BitVec 64 × BitVec 8) (hr : some r = F115 N a0_0 a0_1 a1_0 a1_1 a2 a3) : Aw.Fn Hfaa.prog 115 [agg [is (U8 a0_0), is (U8 a0_1)], agg [is (U8 a1_0), is (U8 a1_1)], is (U8 a2), is (U64 a3)] (tup [is (U64 r.1), is (U8 r.2)]) := by
  refine fn_intro Hfaa.func115 rfl rfl rfl ?_
  intro bn0 w0 H0
  refine AW_seq1 ?_
  refine AW_region ?_
  refine AL_cons (LR_box (at_tmp 0 _) (cells_agg _) rfl) (sS (sT1 rfl) sB0 (sF1 rfl)) ?_
  refine AL_cons (LR_box (at_tmp 1 _) (cells_agg _) rfl) (sS (sT1 rfl) sB0 (sF1 rfl)) ?_
  refine AL_cons (LR_assign (at_c (v' := U64 (0#64)) rfl) rfl) (sS sT0 sB0 sF0) ?_
  refine AL_cons (LR_assign (at_c (v' := U8 (0#8)) rfl) rfl) (sS sT0 sB0 sF0) ?_
  refine AL_nil ?_
  refine thenN ?_
  refine AW_seq1 ?_
  refine AW_cut (σ := Bool) (fun v => ⟨[(2, .inl (is (U8 a2))), (3, .inl (is (U64 a3))), (4, .inr (.inl (4, 0))), (5, .inr (.inl (5, 0))), (18, .inl (is (Bl v)))], [(4, pb 23 [is (U8 a0_0), is (U8 a0_1)]), (5, pb 23 [is (U8 a1_0), is (U8 a1_1)])]⟩) (fun v => some r = F115_1 N a0_0 a0_1 a1_0 a1_1 a2 a3 v) ?_ ?_
  · skip
    refine AW_region ?_
    refine AL_cons (LR_loads (at_tmp 4 _) ag23 sz23 rfl rfl rfl) (sS (sT1 rfl) (sB1 rfl) sF0) ?_
    obtain ⟨y20, hy20, hr⟩ := lt_some hr
    refine AL_cons (LR_call Hfaa.func40 rfl rfl (C40 a0_0 a0_1 y20 hy20) (all_cons (at_tmp 11 _) all_nil) rfl) (sS (sA (sT1 rfl) sT0) sB0 sF0) ?_
    refine AL_cons (LR_un (at_tmp 12 _) (not_Bl y20) rfl) (sS (sT1 rfl) sB0 sF0) ?_
    refine AL_cons (LR_move (at_tmp 13 _) rfl) (sS (sT1 rfl) sB0 sF0) ?_
    refine AL_cutAt 4 ⟨[(0, .inl (agg [is (U8 a0_0), is (U8 a0_1)])), (1, .inl (agg [is (U8 a1_0), is (U8 a1_1)])), (2, .inl (is (U8 a2))), (3, .inl (is (U64 a3))), (4, .inr (.inl (4, 0))), (5, .inr (.inl (5, 0))), (8, .inl (is (U64 (0#64)))), (9, .inl (is (U8 (0#8)))), (11, .inl (agg [is (U8 a0_0), is (U8 a0_1)])), (12, .inl (is (Bl y20))), (13, .inl (is (Bl (!y20)))), (14, .inl (is (Bl (!y20)))), (18, .inl (is (Bl ((!y20) || (!(F40 a1_0 a1_1))))))], [(4, pb 23 [is (U8 a0_0), is (U8 a0_1)]), (5, pb 23 [is (U8 a1_0), is (U8 a1_1)])]⟩ ?_ ?_
    · cases hb : !y20
      · skip
        refine AL_cons (LR_on rfl rfl rfl (LR_loads (at_tmp 5 _) ag23 sz23 rfl rfl rfl)) (sS (sT rfl (sT1 rfl)) (sB1 rfl) sF0) ?_
        refine AL_cons (LR_on rfl rfl rfl (LR_call Hfaa.func40 rfl rfl (C40 a1_0 a1_1 _ rfl) (all_cons (at_tmp 15 _) all_nil) rfl)) (sS (sT rfl (sA (sT1 rfl) sT0)) sB0 sF0) ?_
        refine AL_cons (LR_on rfl rfl rfl (LR_un (at_tmp 16 _) (not_Bl (F40 a1_0 a1_1)) rfl)) (sS (sT rfl (sT1 rfl)) sB0 sF0) ?_
        refine AL_cons (LR_pick (b := false) (at_tmp 14 _) (at_c (v' := Bl true) rfl) (at_tmp 17 _) rfl) (sS (sA (sT1 rfl) (sA sT0 (sT1 rfl))) sB0 sF0) ?_
        exact AL_nil ⟨rfl, weak0 ((sT rfl (sT rfl (sT rfl (sT rfl (sT rfl (sT rfl (sT rfl (sT rfl (sT rfl (sT rfl (sT rfl (sT rfl (sT rfl sT0)))))))))))))) (sub_keep (sub_keep sub_nil))⟩
      · skip
        refine AL_cons (LR_off (b := true) rfl rfl rfl rfl) (sS (sT1 rfl) sB0 sF0) ?_
        refine AL_cons (LR_off (b := true) rfl rfl rfl rfl) (sS (sT1 rfl) sB0 sF0) ?_
        refine AL_cons (LR_off (b := true) rfl rfl rfl rfl) (sS (sT1 rfl) sB0 sF0) ?_
        refine AL_cons (LR_pick (b := true) (at_tmp 14 _) (at_c (v' := Bl true) rfl) (at_tmp 17 _) rfl) (sS (sA (sT1 rfl) (sA sT0 (sT1 rfl))) sB0 sF0) ?_
        exact AL_nil ⟨rfl, weak0 ((sT rfl (sT rfl (sT rfl (sT rfl (sT rfl (sT rfl (sT rfl (sT rfl (sT rfl (sT rfl (sT rfl (sT rfl (sT rfl sT0)))))))))))))) (sub_keep (sub_keep sub_nil))⟩
    refine AL_nil ?_
    exact thenN (cutLeaf (v := (!y20) || (!(F40 a1_0 a1_1))) hr (weak0 ((sT rfl (sT rfl (sT rfl (sT rfl (sT rfl sT0)))))) (sub_keep (sub_keep sub_nil))))
  · rintro x1 hr
    show AW Hfaa.prog _ _ _ ⟨[(2, .inl (is (U8 a2))), (3, .inl (is (U64 a3))), (4, .inr (.inl (4, 0))), (5, .inr (.inl (5, 0))), (18, .inl (is (Bl x1)))], [(4, pb 23 [is (U8 a0_0), is (U8 a0_1)]), (5, pb 23 [is (U8 a1_0), is (U8 a1_1)])]⟩
    have hr : some r = F115_1 N a0_0 a0_1 a1_0 a1_1 a2 a3 x1 := hr
    refine AW_condT (b := x1) rfl (fun h => ?_) (fun h => ?_)
    · have hr := hr.trans (cond_t h)
      clear h
      refine AW_seq1 ?_
      refine AW_region ?_
      refine AL_cons (LR_assign (at_c (v' := U64 (0#64)) rfl) rfl) (sS sT0 sB0 sF0) ?_
      refine AL_cons (LR_assign (at_c (v' := U8 (0#8)) rfl) rfl) (sS sT0 sB0 sF0) ?_
      refine AL_nil ?_
      refine thenN ?_
      refine AW_ret ?_
      refine thenR ?_
      obtain rfl := Option.some.inj hr
      exact res2 rfl (rvT rfl) (rvT rfl)
    · have hr := hr.trans (cond_f h)
      clear h
      refine AW_skip ?_
      refine thenN ?_
      refine AW_cut (σ := Bool × Int × Int × BitVec 64) (fun v => ⟨[(2, .inl (is (U8 a2))), (3, .inl (is (U64 a3))), (4, .inr (.inl (4, 0))), (5, .inr (.inl (5, 0))), (10, .inr (.inl (10, 0)))], [(4, pb 23 [is (U8 a0_0), is (U8 a0_1)]), (5, pb 23 [is (U8 a1_0), is (U8 a1_1)]), (10, pb 112 [is (Bl v.1), is (I8 v.2.1), is (I16 v.2.2.1), is (U64 v.2.2.2)])]⟩) (fun v => some r = F115_2 N a0_0 a0_1 a1_0 a1_1 a2 a3 v.1 v.2.1 v.2.2.1 v.2.2.2) ?_ ?_
      · skip
        refine AW_region ?_
        refine AL_cons (LR_loads (at_tmp 4 _) ag23 sz23 rfl rfl rfl) (sS (sT1 rfl) (sB1 rfl) sF0) ?_
        refine AL_cons (LR_move (at_tmp 3 _) rfl) (sS (sT1 rfl) sB0 sF0) ?_
        obtain ⟨y19, hy19, hr⟩ := lt_some hr
        refine AL_cons (LR_call Hfaa.func65 rfl rfl (C65 a0_0 a0_1 a3 y19 hy19) (all_cons (at_tmp 19 _) (all_cons (at_tmp 20 _) all_nil)) rfl) (sS (sA (sT1 rfl) (sA (sT1 rfl) sT0)) sB0 sF0) ?_
        refine AL_cons (zl112 rfl) (sS sT0 sB0 (sF1 rfl)) ?_
        refine AL_cons (LR_store (at_tmp 10 _) (at_tmp 21 _) (cells_agg _) (onC (one_is rfl) (onC (one_is rfl) (onC (one_is rfl) (onC (one_is rfl) onN)))) sz112 rfl rfl) (sS (sA (sT1 rfl) (sT1 rfl)) (sB1 rfl) sF0) ?_
        refine AL_nil ?_
        exact thenN (cutLeaf (v := (y19.1, y19.2.1, y19.2.2.1, y19.2.2.2)) hr (weak0 ((sT rfl (sT rfl (sT rfl (sT rfl (sT rfl sT0)))))) (sub_keep (sub_keep (sub_keep sub_nil)))))
      · rintro ⟨x2, x3, x4, x5⟩ hr
        show AW Hfaa.prog _ _ _ ⟨[(2, .inl (is (U8 a2))), (3, .inl (is (U64 a3))), (4, .inr (.inl (4, 0))), (5, .inr (.inl (5, 0))), (10, .inr (.inl (10, 0)))], [(4, pb 23 [is (U8 a0_0), is (U8 a0_1)]), (5, pb 23 [is (U8 a1_0), is (U8 a1_1)]), (10, pb 112 [is (Bl x2), is (I8 x3), is (I16 x4), is (U64 x5)])]⟩
        have hr : some r = F115_2 N a0_0 a0_1 a1_0 a1_1 a2 a3 x2 x3 x4 x5 := hr
        refine AW_seq1 ?_
        refine AW_seq1 ?_
        refine AW_region ?_
        refine AL_cons (LR_fieldAddr (off := 0) (o := 1) (at_tmp 10 _) (fun b w => fa112_1 b 0 w) rfl) (sS (sT1 rfl) sB0 sF0) ?_
        refine AL_cons (LR_load (at_tmp 22 _) na110 rfl rfl) (sS (sT1 rfl) (sB1 rfl) sF0) ?_
        refine AL_nil ?_
        refine thenN ?_
        refine AW_block ?_
        refine AW_cut (σ := Bool) (fun v => ⟨[(2, .inl (is (U8 a2))), (3, .inl (is (U64 a3))), (4, .inr (.inl (4, 0))), (5, .inr (.inl (5, 0))), (10, .inr (.inl (10, 0))), (23, .inl (is (I8 x3))), (24, .inl (is (Bl v)))], [(4, pb 23 [is (U8 a0_0), is (U8 a0_1)]), (5, pb 23 [is (U8 a1_0), is (U8 a1_1)]), (10, pb 112 [is (Bl x2), is (I8 x3), is (I16 x4), is (U64 x5)])]⟩) (fun v => some r = F115_3 N a0_0 a0_1 a1_0 a1_1 a2 a3 x2 x3 x4 x5 v) ?_ ?_
        · skip
          refine AW_region ?_
          refine AL_cons (LR_bin (at_tmp 23 _) (at_c (v' := I8 4) rfl) (eql_I8 x3 4) rfl) (sS (sA (sT1 rfl) sT0) sB0 sF0) ?_
          refine AL_cons (LR_assign (at_tmp 25 _) rfl) (sS (sT1 rfl) sB0 sF0) ?_
          refine AL_nil ?_
          exact thenN (cutLeaf (v := x3 == 4) hr (weak0 ((sT rfl (sT rfl (sT rfl (sT rfl (sT rfl (sT rfl (sT rfl sT0)))))))) (sub_keep (sub_keep (sub_keep sub_nil)))))
        · rintro x6 hr
          show AW Hfaa.prog _ _ _ ⟨[(2, .inl (is (U8 a2))), (3, .inl (is (U64 a3))), (4, .inr (.inl (4, 0))), (5, .inr (.inl (5, 0))), (10, .inr (.inl (10, 0))), (23, .inl (is (I8 x3))), (24, .inl (is (Bl x6)))], [(4, pb 23 [is (U8 a0_0), is (U8 a0_1)]), (5, pb 23 [is (U8 a1_0), is (U8 a1_1)]), (10, pb 112 [is (Bl x2), is (I8 x3), is (I16 x4), is (U64 x5)])]⟩
          have hr : some r = F115_3 N a0_0 a0_1 a1_0 a1_1 a2 a3 x2 x3 x4 x5 x6 := hr
          refine AW_condT (b := x6) rfl (fun h => ?_) (fun h => ?_)
          · have hr := hr.trans (cond_t h)
            clear h
            refine AW_seq1 ?_
            obtain ⟨y13, hy13, hr⟩ := lt_some hr
            obtain ⟨y14, hy14, hr⟩ := lt_some hr
            refine AW_draw mixed
              (lrC (LR_loads (at_tmp 5 _) ag23 sz23 rfl rfl rfl)
              (lrC (LR_call Hfaa.func66 rfl rfl (C66 a1_0 a1_1 y13 hy13) (all_cons (at_tmp 26 _) all_nil) rfl)
              (lrC (LR_loads (at_tmp 4 _) ag23 sz23 rfl rfl rfl)
              (lrC (LR_move (at_tmp 3 _) rfl)
              (lrC (LR_move (at_tmp 3 _) rfl)
              (lrC (LR_call Hfaa.func214 rfl rfl (C214 a0_0 a0_1 a3 a3 y14 hy14) (all_cons (at_tmp 28 _) (all_cons (at_tmp 29 _) (all_cons (at_tmp 30 _) all_nil))) rfl)
              (lrC (LR_assign (at_tmp 27 _) rfl)
              (lrC (LR_assign (at_tmp 31 _) rfl)
              lrN))))))))
              (by kernel_rfl)
              (saC (sS (sT1 rfl) (sB1 rfl) sF0) (saC (sS (sA (sT1 rfl) sT0) sB0 sF0) (saC (sS (sT1 rfl) (sB1 rfl) sF0) (saC (sS (sT1 rfl) sB0 sF0) (saC (sS (sT1 rfl) sB0 sF0) (saC (sS (sA (sT1 rfl) (sA (sT1 rfl) (sA (sT1 rfl) sT0))) sB0 sF0) (saC (sS (sT1 rfl) sB0 sF0) (saC (sS (sT1 rfl) sB0 sF0) saN)))))))) ?_
            refine thenN ?_
            refine AW_ret ?_
            refine blR ?_
            refine thenR ?_
            obtain rfl := Option.some.inj hr
            exact res2 rfl (rvT rfl) (rvT rfl)
          · have hr := hr.trans (cond_f h)
            clear h
            refine AW_cut (σ := Bool) (fun v => ⟨[(2, .inl (is (U8 a2))), (5, .inr (.inl (5, 0))), (10, .inr (.inl (10, 0))), (32, .inl (is (Bl v)))], [(5, pb 23 [is (U8 a1_0), is (U8 a1_1)]), (10, pb 112 [is (Bl x2), is (I8 x3), is (I16 x4), is (U64 x5)])]⟩) (fun v => some r = F115_4 N a1_0 a1_1 a2 x2 x3 x4 x5 v) ?_ ?_
            · skip
              refine AW_region ?_
              refine AL_cons (LR_bin (at_tmp 23 _) (at_c (v' := I8 3) rfl) (eql_I8 x3 3) rfl) (sS (sA (sT1 rfl) sT0) sB0 sF0) ?_
              refine AL_cons (LR_assign (at_tmp 33 _) rfl) (sS (sT1 rfl) sB0 sF0) ?_
              refine AL_nil ?_
              exact thenN (cutLeaf (v := x3 == 3) hr (weak0 ((sT rfl (sT rfl (sT rfl (sT rfl sT0))))) (sub_drop (sub_keep (sub_keep sub_nil)))))
            · rintro x7 hr
              show AW Hfaa.prog _ _ _ ⟨[(2, .inl (is (U8 a2))), (5, .inr (.inl (5, 0))), (10, .inr (.inl (10, 0))), (32, .inl (is (Bl x7)))], [(5, pb 23 [is (U8 a1_0), is (U8 a1_1)]), (10, pb 112 [is (Bl x2), is (I8 x3), is (I16 x4), is (U64 x5)])]⟩
              have hr : some r = F115_4 N a1_0 a1_1 a2 x2 x3 x4 x5 x7 := hr
              refine AW_condT (b := x7) rfl (fun h => ?_) (fun h => ?_)
              · have hr := hr.trans (cond_t h)
                clear h
                refine AW_seq1 ?_
                refine AW_region ?_
                refine AL_cons (LR_loads (at_tmp 5 _) ag23 sz23 rfl rfl rfl) (sS (sT1 rfl) (sB1 rfl) sF0) ?_
                refine AL_cons (LR_fieldAddr (off := 0) (o := 0) (at_tmp 10 _) (fun b w => fa112_0 b 0 w) rfl) (sS (sT1 rfl) sB0 sF0) ?_
                refine AL_cons (LR_load (at_tmp 35 _) na4 rfl rfl) (sS (sT1 rfl) (sB1 rfl) sF0) ?_
                obtain ⟨y16, hy16, hr⟩ := lt_some hr
                refine AL_cons (LR_call Hfaa.func67 rfl rfl (C67 a1_0 a1_1 x2 y16 hy16) (all_cons (at_tmp 34 _) (all_cons (at_tmp 36 _) all_nil)) rfl) (sS (sA (sT1 rfl) (sA (sT1 rfl) sT0)) sB0 sF0) ?_
                refine AL_cons (LR_assign (at_tmp 37 _) rfl) (sS (sT1 rfl) sB0 sF0) ?_
                refine AL_cons (LR_assign (at_c (v' := U8 (0#8)) rfl) rfl) (sS sT0 sB0 sF0) ?_
                refine AL_nil ?_
                refine thenN ?_
                refine AW_ret ?_
                refine blR ?_
                refine thenR ?_
                obtain rfl := Option.some.inj hr
                exact res2 rfl (rvT rfl) (rvT rfl)
              · have hr := hr.trans (cond_f h)
                clear h
                refine AW_skip ?_
                refine blN ?_
                refine thenN ?_
                refine AW_seq1 ?_
                refine AW_region ?_
                refine AL_cons (LR_loads (at_tmp 5 _) ag23 sz23 rfl rfl rfl) (sS (sT1 rfl) (sB1 rfl) sF0) ?_
                refine AL_cons (LR_move (at_tmp 2 _) rfl) (sS (sT1 rfl) sB0 sF0) ?_
                refine AL_cons (LR_fieldAddr (off := 0) (o := 0) (at_tmp 10 _) (fun b w => fa112_0 b 0 w) rfl) (sS (sT1 rfl) sB0 sF0) ?_
                refine AL_cons (LR_load (at_tmp 40 _) na4 rfl rfl) (sS (sT1 rfl) (sB1 rfl) sF0) ?_
                refine AL_cons (LR_fieldAddr (off := 0) (o := 2) (at_tmp 10 _) (fun b w => fa112_2 b 0 w) rfl) (sS (sT1 rfl) sB0 sF0) ?_
                refine AL_cons (LR_load (at_tmp 42 _) na44 rfl rfl) (sS (sT1 rfl) (sB1 rfl) sF0) ?_
                refine AL_cons (LR_fieldAddr (off := 0) (o := 3) (at_tmp 10 _) (fun b w => fa112_3 b 0 w) rfl) (sS (sT1 rfl) sB0 sF0) ?_
                refine AL_cons (LR_load (at_tmp 44 _) na30 rfl rfl) (sS (sT1 rfl) (sB1 rfl) sF0) ?_
                obtain ⟨y18, hy18, hr⟩ := bind_some hr
                refine AL_cons (LR_call Hfaa.func215 rfl rfl (C215 N a1_0 a1_1 a2 x2 x4 x5 y18 hy18) (all_cons (at_tmp 38 _) (all_cons (at_tmp 39 _) (all_cons (at_tmp 41 _) (all_cons (at_tmp 43 _) (all_cons (at_tmp 45 _) all_nil))))) rfl) (sS (sA (sT1 rfl) (sA (sT1 rfl) (sA (sT1 rfl) (sA (sT1 rfl) (sA (sT1 rfl) sT0))))) sB0 sF0) ?_
                refine AL_cons (LR_extract (at_tmp 46 _) rfl rfl) (sS (sT1 rfl) sB0 sF0) ?_
                refine AL_cons (LR_extract (at_tmp 46 _) rfl rfl) (sS (sT1 rfl) sB0 sF0) ?_
                refine AL_cons (LR_assign (at_tmp 47 _) rfl) (sS (sT1 rfl) sB0 sF0) ?_
                refine AL_cons (LR_assign (at_tmp 48 _) rfl) (sS (sT1 rfl) sB0 sF0) ?_
                refine AL_nil ?_
                refine thenN ?_
                refine AW_ret ?_
                obtain rfl := Option.some.inj hr
                exact res2 rfl (rvT rfl) (rvT rfl)
/-- soft.Convert -/
def F49_1 (N : Nat) (x1 : BitVec 64) : Option (BitVec 64) := some x1
def F49 (N : Nat) (a0_0 : BitVec 8) (a0_1 : BitVec 8) (a1_0 : BitVec 8) (a1_1 : BitVec 8) (a2 : BitVec 8) (a3 : BitVec 64) : Option (BitVec 64) := (F115 N a0_0 a0_1 a1_0 a1_1 a2 a3).bind fun y2 => F49_1 N y2.1
theorem C49 (N : Nat) (a0_0 : BitVec 8) (a0_1 : BitVec 8) (a1_0 : BitVec 8) (a1_1 : BitVec 8) (a2 : BitVec 8) (a3 : BitVec 64) (r : BitVec 64) (hr : some r = F49 N a0_0 a0_1 a1_0 a1_1 a2 a3) : Aw.Fn Hfaa.prog 49 [agg [is (U8 a0_0), is (U8 a0_1)], agg [is (U8 a1_0), is (U8 a1_1)], is (U8 a2), is (U64 a3)] (is (U64 r)) := by
  refine fn_intro Hfaa.func49 rfl rfl rfl ?_
  intro bn0 w0 H0
  refine AW_seq1 ?_
  refine AW_region ?_
  refine AL_cons (LR_box (at_tmp 0 _) (cells_agg _) rfl) (sS (sT1 rfl) sB0 (sF1 rfl)) ?_
  refine AL_cons (LR_box (at_tmp 1 _) (cells_agg _) rfl) (sS (sT1 rfl) sB0 (sF1 rfl)) ?_
  refine AL_cons (LR_assign (at_c (v' := U64 (0#64)) rfl) rfl) (sS sT0 sB0 sF0) ?_
  refine AL_nil ?_
  refine thenN ?_
  refine AW_cut (σ := BitVec 64) (fun v => ⟨[(9, .inl (is (U64 v)))], []⟩) (fun v => some r = F49_1 N v) ?_ ?_
  · skip
    refine AW_region ?_
    refine AL_cons (LR_loads (at_tmp 4 _) ag23 sz23 rfl rfl rfl) (sS (sT1 rfl) (sB1 rfl) sF0) ?_
    refine AL_cons (LR_loads (at_tmp 5 _) ag23 sz23 rfl rfl rfl) (sS (sT1 rfl) (sB1 rfl) sF0) ?_
    refine AL_cons (LR_move (at_tmp 2 _) rfl) (sS (sT1 rfl) sB0 sF0) ?_
    refine AL_cons (LR_move (at_tmp 3 _) rfl) (sS (sT1 rfl) sB0 sF0) ?_
    obtain ⟨y2, hy2, hr⟩ := bind_some hr
    refine AL_cons (LR_call Hfaa.func115 rfl rfl (C115 N a0_0 a0_1 a1_0 a1_1 a2 a3 y2 hy2) (all_cons (at_tmp 12 _) (all_cons (at_tmp 13 _) (all_cons (at_tmp 14 _) (all_cons (at_tmp 15 _) all_nil)))) rfl) (sS (sA (sT1 rfl) (sA (sT1 rfl) (sA (sT1 rfl) (sA (sT1 rfl) sT0)))) sB0 sF0) ?_
    refine AL_cons (LR_move (at_tmp 16 _) rfl) (sS (sT1 rfl) sB0 sF0) ?_
    refine AL_cons (LR_extract (at_tmp 11 _) rfl rfl) (sS (sT1 rfl) sB0 sF0) ?_
    refine AL_cons (LR_extract (at_tmp 11 _) rfl rfl) (sS (sT1 rfl) sB0 sF0) ?_
    refine AL_cons (LR_assign (at_tmp 17 _) rfl) (sS (sT1 rfl) sB0 sF0) ?_
    refine AL_cons (LR_assign (at_tmp 18 _) rfl) (sS (sT1 rfl) sB0 sF0) ?_
    refine AL_nil ?_
    exact thenN (cutLeaf (v := y2.1) hr (weak0 ((sT rfl sT0)) (sub_drop (sub_drop sub_nil))))
  · rintro x1 hr
    show AW Hfaa.prog _ _ _ ⟨[(9, .inl (is (U64 x1)))], []⟩
    have hr : some r = F49_1 N x1 := hr
    refine AW_seq1 ?_
    refine AW_region ?_
    refine AL_cons (LR_move (at_tmp 9 _) rfl) (sS (sT1 rfl) sB0 sF0) ?_
    refine AL_cons (LR_assign (at_tmp 19 _) rfl) (sS (sT1 rfl) sB0 sF0) ?_
    refine AL_nil ?_
    refine thenN ?_
    refine AW_ret ?_
    obtain rfl := Option.some.inj hr
    exact res1 rfl (rvT rfl)
/-- dec.finish -/
def F383_1 (N : Nat) (a4 : Int) : Option (BitVec 8 × Bool × List UInt8 × Int × Int × Int) := some ((3#8, false, ([] : List UInt8), 0, a4, (-1)))
def F383_5 (N : Nat) (x4 : Bool) (x5 : List UInt8) (x6 : Int) (x7 : Bool) : Option (BitVec 8 × Bool × List UInt8 × Int × Int × Int) := bif x7 then some ((4#8, false, ([] : List UInt8), 0, 0, 0)) else some (0#8, x4, x5, x6, 0, 0)
def F383_4 (N : Nat) (x3 : Bool) (x4 : Bool) (x5 : List UInt8) (x6 : Int) : Option (BitVec 8 × Bool × List UInt8 × Int × Int × Int) := F383_5 N x4 x5 x6 (!x3)
def F383_3 (N : Nat) (a0_0 : Bool) (a0_1 : Bool) (a0_2 : NS (BitVec 8)) (a0_3 : Int) (x2 : Int) : Option (BitVec 8 × Bool × List UInt8 × Int × Int × Int) := (F39 N a0_0 (bys a0_2.2.1 a0_2.2.2) (w64 (x2 - a0_3))).bind fun y4 => F383_4 N y4.2.2.2 y4.1 y4.2.1 y4.2.2.1
def F383_8 (N : Nat) (a0_0 : Bool) (a0_1 : Bool) (a0_2 : NS (BitVec 8)) (a0_3 : Int) (a0_4 : Int) (a4 : Int) (x10 : Bool) : Option (BitVec 8 × Bool × List UInt8 × Int × Int × Int) := bif x10 then some ((1#8, a0_0, ([] : List UInt8), 0, 0, 0)) else F383_1 N a4
def F383_7 (N : Nat) (a0_0 : Bool) (a0_1 : Bool) (a0_2 : NS (BitVec 8)) (a0_3 : Int) (a0_4 : Int) (a2 : List UInt8) (a3 : Int) (a4 : Int) (x9 : Bool) : Option (BitVec 8 × Bool × List UInt8 × Int × Int × Int) := bif x9 then some ((2#8, false, ([] : List UInt8), 0, 0, 0)) else F383_8 N a0_0 a0_1 a0_2 a0_3 a0_4 a4 ((a2 == ([105, 110, 102, 105, 110, 105, 116, 121] : List UInt8)) && ((a3 == 3) || (a3 == 8)))
def F383_6 (N : Nat) (a0_0 : Bool) (a0_1 : Bool) (a0_2 : NS (BitVec 8)) (a0_3 : Int) (a0_4 : Int) (a2 : List UInt8) (a3 : Int) (a4 : Int) (x8 : Bool) : Option (BitVec 8 × Bool × List UInt8 × Int × Int × Int) := bif x8 then F383_7 N a0_0 a0_1 a0_2 a0_3 a0_4 a2 a3 a4 ((a2 == ([110, 97, 110] : List UInt8)) && (a3 == 3)) else F383_1 N a4
def F383_2 (N : Nat) (a0_0 : Bool) (a0_1 : Bool) (a0_2 : NS (BitVec 8)) (a0_3 : Int) (a0_4 : Int) (a1 : Int) (a2 : List UInt8) (a3 : Int) (a4 : Int) (x1 : Bool) : Option (BitVec 8 × Bool × List UInt8 × Int × Int × Int) := bif x1 then bif a0_1 then F383_3 N a0_0 a0_1 a0_2 a0_3 (w64 (0 - a0_4)) else F383_3 N a0_0 a0_1 a0_2 a0_3 a0_4 else F383_6 N a0_0 a0_1 a0_2 a0_3 a0_4 a2 a3 a4 (a1 == 9)
def F383_11 (N : Nat) (a0_0 : Bool) (a0_1 : Bool) (a0_2 : NS (BitVec 8)) (a0_3 : Int) (a0_4 : Int) (a1 : Int) (a2 : List UInt8) (a3 : Int) (a4 : Int) (x13 : Bool) : Option (BitVec 8 × Bool × List UInt8 × Int × Int × Int) := bif x13 then F383_2 N a0_0 a0_1 a0_2 a0_3 a0_4 a1 a2 a3 a4 x13 else F383_2 N a0_0 a0_1 a0_2 a0_3 a0_4 a1 a2 a3 a4 (a1 == 8)
def F383_10 (N : Nat) (a0_0 : Bool) (a0_1 : Bool) (a0_2 : NS (BitVec 8)) (a0_3 : Int) (a0_4 : Int) (a1 : Int) (a2 : List UInt8) (a3 : Int) (a4 : Int) (x12 : Bool) : Option (BitVec 8 × Bool × List UInt8 × Int × Int × Int) := bif x12 then F383_2 N a0_0 a0_1 a0_2 a0_3 a0_4 a1 a2 a3 a4 x12 else F383_11 N a0_0 a0_1 a0_2 a0_3 a0_4 a1 a2 a3 a4 (a1 == 5)
def F383_9 (N : Nat) (a0_0 : Bool) (a0_1 : Bool) (a0_2 : NS (BitVec 8)) (a0_3 : Int) (a0_4 : Int) (a1 : Int) (a2 : List UInt8) (a3 : Int) (a4 : Int) (x11 : Bool) : Option (BitVec 8 × Bool × List UInt8 × Int × Int × Int) := bif x11 then F383_2 N a0_0 a0_1 a0_2 a0_3 a0_4 a1 a2 a3 a4 x11 else F383_10 N a0_0 a0_1 a0_2 a0_3 a0_4 a1 a2 a3 a4 (a1 == 3)
def F383 (N : Nat) (a0_0 : Bool) (a0_1 : Bool) (a0_2 : NS (BitVec 8)) (a0_3 : Int) (a0_4 : Int) (a1 : Int) (a2 : List UInt8) (a3 : Int) (a4 : Int) : Option (BitVec 8 × Bool × List UInt8 × Int × Int × Int) := F383_9 N a0_0 a0_1 a0_2 a0_3 a0_4 a1 a2 a3 a4 (a1 == 2)
theorem C383 (N : Nat) (a0_0 : Bool) (a0_1 : Bool) (a0_2 : NS (BitVec 8)) (a0_3 : Int) (a0_4 : Int) (a1 : Int) (a2 : List UInt8) (a3 : Int) (a4 : Int) (r : BitVec 8 × Bool × List UInt8 × Int × Int × Int) (hr : some r = F383 N a0_0 a0_1 a0_2 a0_3 a0_4 a1 a2 a3 a4) : Aw.Fn Hfaa.prog 383 [agg [is (Bl a0_0), is (Bl a0_1), ns U8 a0_2, is (I64 a0_3), is (I64 a0_4)], is (I64 a1), is (Sv a2), is (I64 a3), is (I64 a4)] (agg [is (U8 r.1), is (Bl r.2.1), is (Sv r.2.2.1), is (I16 r.2.2.2.1), is (I64 r.2.2.2.2.1), is (I32 r.2.2.2.2.2)]) := by
  refine fn_intro Hfaa.func383 rfl rfl rfl ?_
  intro bn0 w0 H0
  refine AW_seq1 ?_
  refine AW_region ?_
  refine AL_cons (LR_box (at_tmp 0 _) (cells_agg _) rfl) (sS (sT1 rfl) sB0 (sF1 rfl)) ?_
  refine AL_cons (zl297 rfl) (sS sT0 sB0 (sF1 rfl)) ?_
  refine AL_nil ?_
  refine thenN ?_
  refine AW_cut (σ := Unit) (fun _ => ⟨[(4, .inl (is (I64 a4))), (10, .inr (.inl (10, 0)))], [(10, pb 297 [is (U8 (0#8)), is (Bl false), is (Sv ([] : List UInt8)), is (I16 0), is (I64 0), is (I32 0)])]⟩) (fun _ => some r = F383_1 N a4) ?_ ?_
  · skip
    refine AW_seq1 ?_
    refine AW_region ?_
    refine AL_cons (LR_move (at_tmp 1 _) rfl) (sS (sT1 rfl) sB0 sF0) ?_
    refine AL_nil ?_
    refine thenN ?_
    refine AW_block ?_
    refine AW_cut (σ := Bool) (fun v => ⟨[(2, .inl (is (Sv a2))), (3, .inl (is (I64 a3))), (4, .inl (is (I64 a4))), (5, .inr (.inl (5, 0))), (10, .inr (.inl (10, 0))), (13, .inl (is (I64 a1))), (14, .inl (is (Bl v)))], [(5, pb 355 [is (Bl a0_0), is (Bl a0_1), ns U8 a0_2, is (I64 a0_3), is (I64 a0_4)]), (10, pb 297 [is (U8 (0#8)), is (Bl false), is (Sv ([] : List UInt8)), is (I16 0), is (I64 0), is (I32 0)])]⟩) (fun v => some r = F383_2 N a0_0 a0_1 a0_2 a0_3 a0_4 a1 a2 a3 a4 v) ?_ ?_
    · skip
      refine AW_cut (σ := Bool) (fun v => ⟨[(2, .inl (is (Sv a2))), (3, .inl (is (I64 a3))), (4, .inl (is (I64 a4))), (5, .inr (.inl (5, 0))), (10, .inr (.inl (10, 0))), (13, .inl (is (I64 a1))), (14, .inl (is (Bl v)))], [(5, pb 355 [is (Bl a0_0), is (Bl a0_1), ns U8 a0_2, is (I64 a0_3), is (I64 a0_4)]), (10, pb 297 [is (U8 (0#8)), is (Bl false), is (Sv ([] : List UInt8)), is (I16 0), is (I64 0), is (I32 0)])]⟩) (fun v => some r = F383_9 N a0_0 a0_1 a0_2 a0_3 a0_4 a1 a2 a3 a4 v) ?_ ?_
      · skip
        refine AW_region ?_
        refine AL_cons (LR_bin (at_tmp 13 _) (at_c (v' := I64 2) rfl) (eql_I64 a1 2) rfl) (sS (sA (sT1 rfl) sT0) sB0 sF0) ?_
        refine AL_cons (LR_assign (at_tmp 15 _) rfl) (sS (sT1 rfl) sB0 sF0) ?_
        refine AL_nil ?_
        exact thenN (cutLeaf (v := a1 == 2) hr (weak0 ((sT rfl (sT rfl (sT rfl (sT rfl (sT rfl (sT rfl (sT rfl sT0)))))))) (sub_keep (sub_keep sub_nil))))
      · rintro x11 hr
        show AW Hfaa.prog _ _ _ ⟨[(2, .inl (is (Sv a2))), (3, .inl (is (I64 a3))), (4, .inl (is (I64 a4))), (5, .inr (.inl (5, 0))), (10, .inr (.inl (10, 0))), (13, .inl (is (I64 a1))), (14, .inl (is (Bl x11)))], [(5, pb 355 [is (Bl a0_0), is (Bl a0_1), ns U8 a0_2, is (I64 a0_3), is (I64 a0_4)]), (10, pb 297 [is (U8 (0#8)), is (Bl false), is (Sv ([] : List UInt8)), is (I16 0), is (I64 0), is (I32 0)])]⟩
        have hr : some r = F383_9 N a0_0 a0_1 a0_2 a0_3 a0_4 a1 a2 a3 a4 x11 := hr
        refine AW_condT (b := x11) rfl (fun h => ?_) (fun h => ?_)
        · have hr := hr.trans (cond_t h)
          clear h
          refine AW_skip ?_
          exact thenN (cutLeaf (v := x11) hr (weak0 ((sT rfl (sT rfl (sT rfl (sT rfl (sT rfl (sT rfl (sT rfl sT0)))))))) (sub_keep (sub_keep sub_nil))))
        · have hr := hr.trans (cond_f h)
          clear h
          refine AW_cut (σ := Bool) (fun v => ⟨[(2, .inl (is (Sv a2))), (3, .inl (is (I64 a3))), (4, .inl (is (I64 a4))), (5, .inr (.inl (5, 0))), (10, .inr (.inl (10, 0))), (13, .inl (is (I64 a1))), (14, .inl (is (Bl v)))], [(5, pb 355 [is (Bl a0_0), is (Bl a0_1), ns U8 a0_2, is (I64 a0_3), is (I64 a0_4)]), (10, pb 297 [is (U8 (0#8)), is (Bl false), is (Sv ([] : List UInt8)), is (I16 0), is (I64 0), is (I32 0)])]⟩) (fun v => some r = F383_10 N a0_0 a0_1 a0_2 a0_3 a0_4 a1 a2 a3 a4 v) ?_ ?_
          · skip
            refine AW_region ?_
            refine AL_cons (LR_bin (at_tmp 13 _) (at_c (v' := I64 3) rfl) (eql_I64 a1 3) rfl) (sS (sA (sT1 rfl) sT0) sB0 sF0) ?_
            refine AL_cons (LR_assign (at_tmp 16 _) rfl) (sS (sT1 rfl) sB0 sF0) ?_
            refine AL_nil ?_
            exact thenN (cutLeaf (v := a1 == 3) hr (weak0 ((sT rfl (sT rfl (sT rfl (sT rfl (sT rfl (sT rfl (sT rfl sT0)))))))) (sub_keep (sub_keep sub_nil))))
          · rintro x12 hr
            show AW Hfaa.prog _ _ _ ⟨[(2, .inl (is (Sv a2))), (3, .inl (is (I64 a3))), (4, .inl (is (I64 a4))), (5, .inr (.inl (5, 0))), (10, .inr (.inl (10, 0))), (13, .inl (is (I64 a1))), (14, .inl (is (Bl x12)))], [(5, pb 355 [is (Bl a0_0), is (Bl a0_1), ns U8 a0_2, is (I64 a0_3), is (I64 a0_4)]), (10, pb 297 [is (U8 (0#8)), is (Bl false), is (Sv ([] : List UInt8)), is (I16 0), is (I64 0), is (I32 0)])]⟩
            have hr : some r = F383_10 N a0_0 a0_1 a0_2 a0_3 a0_4 a1 a2 a3 a4 x12 := hr
            refine AW_condT (b := x12) rfl (fun h => ?_) (fun h => ?_)
            · have hr := hr.trans (cond_t h)
              clear h
              refine AW_skip ?_
              exact thenN (cutLeaf (v := x12) hr (weak0 ((sT rfl (sT rfl (sT rfl (sT rfl (sT rfl (sT rfl (sT rfl sT0)))))))) (sub_keep (sub_keep sub_nil))))
            · have hr := hr.trans (cond_f h)
              clear h
              refine AW_cut (σ := Bool) (fun v => ⟨[(2, .inl (is (Sv a2))), (3, .inl (is (I64 a3))), (4, .inl (is (I64 a4))), (5, .inr (.inl (5, 0))), (10, .inr (.inl (10, 0))), (13, .inl (is (I64 a1))), (14, .inl (is (Bl v)))], [(5, pb 355 [is (Bl a0_0), is (Bl a0_1), ns U8 a0_2, is (I64 a0_3), is (I64 a0_4)]), (10, pb 297 [is (U8 (0#8)), is (Bl false), is (Sv ([] : List UInt8)), is (I16 0), is (I64 0), is (I32 0)])]⟩) (fun v => some r = F383_11 N a0_0 a0_1 a0_2 a0_3 a0_4 a1 a2 a3 a4 v) ?_ ?_
              · skip
                refine AW_region ?_
                refine AL_cons (LR_bin (at_tmp 13 _) (at_c (v' := I64 5) rfl) (eql_I64 a1 5) rfl) (sS (sA (sT1 rfl) sT0) sB0 sF0) ?_
                refine AL_cons (LR_assign (at_tmp 17 _) rfl) (sS (sT1 rfl) sB0 sF0) ?_
                refine AL_nil ?_
                exact thenN (cutLeaf (v := a1 == 5) hr (weak0 ((sT rfl (sT rfl (sT rfl (sT rfl (sT rfl (sT rfl (sT rfl sT0)))))))) (sub_keep (sub_keep sub_nil))))
              · rintro x13 hr
                show AW Hfaa.prog _ _ _ ⟨[(2, .inl (is (Sv a2))), (3, .inl (is (I64 a3))), (4, .inl (is (I64 a4))), (5, .inr (.inl (5, 0))), (10, .inr (.inl (10, 0))), (13, .inl (is (I64 a1))), (14, .inl (is (Bl x13)))], [(5, pb 355 [is (Bl a0_0), is (Bl a0_1), ns U8 a0_2, is (I64 a0_3), is (I64 a0_4)]), (10, pb 297 [is (U8 (0#8)), is (Bl false), is (Sv ([] : List UInt8)), is (I16 0), is (I64 0), is (I32 0)])]⟩
                have hr : some r = F383_11 N a0_0 a0_1 a0_2 a0_3 a0_4 a1 a2 a3 a4 x13 := hr
                refine AW_condT (b := x13) rfl (fun h => ?_) (fun h => ?_)
                · have hr := hr.trans (cond_t h)
                  clear h
                  refine AW_skip ?_
                  exact thenN (cutLeaf (v := x13) hr (weak0 ((sT rfl (sT rfl (sT rfl (sT rfl (sT rfl (sT rfl (sT rfl sT0)))))))) (sub_keep (sub_keep sub_nil))))
                · have hr := hr.trans (cond_f h)
                  clear h
                  refine AW_region ?_
                  refine AL_cons (LR_bin (at_tmp 13 _) (at_c (v' := I64 8) rfl) (eql_I64 a1 8) rfl) (sS (sA (sT1 rfl) sT0) sB0 sF0) ?_
                  refine AL_cons (LR_assign (at_tmp 18 _) rfl) (sS (sT1 rfl) sB0 sF0) ?_
                  refine AL_nil ?_
                  exact thenN (cutLeaf (v := a1 == 8) hr (weak0 ((sT rfl (sT rfl (sT rfl (sT rfl (sT rfl (sT rfl (sT rfl sT0)))))))) (sub_keep (sub_keep sub_nil))))
    · rintro x1 hr
      show AW Hfaa.prog _ _ _ ⟨[(2, .inl (is (Sv a2))), (3, .inl (is (I64 a3))), (4, .inl (is (I64 a4))), (5, .inr (.inl (5, 0))), (10, .inr (.inl (10, 0))), (13, .inl (is (I64 a1))), (14, .inl (is (Bl x1)))], [(5, pb 355 [is (Bl a0_0), is (Bl a0_1), ns U8 a0_2, is (I64 a0_3), is (I64 a0_4)]), (10, pb 297 [is (U8 (0#8)), is (Bl false), is (Sv ([] : List UInt8)), is (I16 0), is (I64 0), is (I32 0)])]⟩
      have hr : some r = F383_2 N a0_0 a0_1 a0_2 a0_3 a0_4 a1 a2 a3 a4 x1 := hr
      refine AW_condT (b := x1) rfl (fun h => ?_) (fun h => ?_)
      · have hr := hr.trans (cond_t h)
        clear h
        refine AW_cut (σ := Int) (fun v => ⟨[(5, .inr (.inl (5, 0))), (10, .inr (.inl (10, 0)))], [(5, pb 355 [is (Bl a0_0), is (Bl a0_1), ns U8 a0_2, is (I64 a0_3), is (I64 v)]), (10, pb 297 [is (U8 (0#8)), is (Bl false), is (Sv ([] : List UInt8)), is (I16 0), is (I64 0), is (I32 0)])]⟩) (fun v => some r = F383_3 N a0_0 a0_1 a0_2 a0_3 v) ?_ ?_
        · skip
          refine AW_seq1 ?_
          refine AW_region ?_
          refine AL_cons (LR_fieldAddr (off := 0) (o := 1) (at_tmp 5 _) (fun b w => fa355_1 b 0 w) rfl) (sS (sT1 rfl) sB0 sF0) ?_
          refine AL_cons (LR_load (at_tmp 19 _) na4 rfl rfl) (sS (sT1 rfl) (sB1 rfl) sF0) ?_
          refine AL_nil ?_
          refine thenN ?_
          refine AW_condT (b := a0_1) rfl (fun h => ?_) (fun h => ?_)
          · have hr := hr.trans (cond_t h)
            clear h
            refine AW_region ?_
            refine AL_cons (LR_fieldAddr (off := 0) (o := 4) (at_tmp 5 _) (fun b w => fa355_4 b 0 w) rfl) (sS (sT1 rfl) sB0 sF0) ?_
            refine AL_cons (LR_load (at_tmp 21 _) na3 rfl rfl) (sS (sT1 rfl) (sB1 rfl) sF0) ?_
            refine AL_cons (LR_un (at_tmp 22 _) (neg_I64 a0_4) rfl) (sS (sT1 rfl) sB0 sF0) ?_
            refine AL_cons (LR_fieldAddr (off := 0) (o := 4) (at_tmp 5 _) (fun b w => fa355_4 b 0 w) rfl) (sS (sT1 rfl) sB0 sF0) ?_
            refine AL_cons (LR_store (at_tmp 24 _) (at_tmp 23 _) (cells_one (one_is rfl)) (onC (one_is rfl) onN) sz3 rfl rfl) (sS (sA (sT1 rfl) (sT1 rfl)) (sB1 rfl) sF0) ?_
            refine AL_nil ?_
            exact thenN (cutLeaf (v := w64 (0 - a0_4)) hr (weak0 ((sT rfl (sT rfl sT0))) (sub_keep (sub_keep sub_nil))))
          · have hr := hr.trans (cond_f h)
            clear h
            refine AW_skip ?_
            exact thenN (cutLeaf (v := a0_4) hr (weak0 ((sT rfl (sT rfl sT0))) (sub_keep (sub_keep sub_nil))))
        · rintro x2 hr
          show AW Hfaa.prog _ _ _ ⟨[(5, .inr (.inl (5, 0))), (10, .inr (.inl (10, 0)))], [(5, pb 355 [is (Bl a0_0), is (Bl a0_1), ns U8 a0_2, is (I64 a0_3), is (I64 x2)]), (10, pb 297 [is (U8 (0#8)), is (Bl false), is (Sv ([] : List UInt8)), is (I16 0), is (I64 0), is (I32 0)])]⟩
          have hr : some r = F383_3 N a0_0 a0_1 a0_2 a0_3 x2 := hr
          refine AW_cut (σ := Bool × Bool × List UInt8 × Int) (fun v => ⟨[(10, .inr (.inl (10, 0))), (11, .inr (.inl (11, 0))), (12, .inl (is (Bl v.1)))], [(10, pb 297 [is (U8 (0#8)), is (Bl false), is (Sv ([] : List UInt8)), is (I16 0), is (I64 0), is (I32 0)]), (11, pb 76 [is (Bl v.2.1), is (Sv v.2.2.1), is (I16 v.2.2.2)])]⟩) (fun v => some r = F383_4 N v.1 v.2.1 v.2.2.1 v.2.2.2) ?_ ?_
          · skip
            refine AW_region ?_
            refine AL_cons (LR_fieldAddr (off := 0) (o := 0) (at_tmp 5 _) (fun b w => fa355_0 b 0 w) rfl) (sS (sT1 rfl) sB0 sF0) ?_
            refine AL_cons (LR_load (at_tmp 26 _) na4 rfl rfl) (sS (sT1 rfl) (sB1 rfl) sF0) ?_
            refine AL_cons (LR_fieldAddr (off := 0) (o := 2) (at_tmp 5 _) (fun b w => fa355_2 b 0 w) rfl) (sS (sT1 rfl) sB0 sF0) ?_
            refine AL_cons (LR_load (at_tmp 28 _) na227 rfl rfl) (sS (sT1 rfl) (sB1 rfl) sF0) ?_
            refine AL_cons (LR_convQ Hfaa.underlying227 Hfaa.underlying5 Hfaa.underlying9 (at_tmp 29 _) rfl) (sS (sT1 rfl) sB0 sF0) ?_
            refine AL_cons (LR_fieldAddr (off := 0) (o := 4) (at_tmp 5 _) (fun b w => fa355_4 b 0 w) rfl) (sS (sT1 rfl) sB0 sF0) ?_
            refine AL_cons (LR_load (at_tmp 31 _) na3 rfl rfl) (sS (sT1 rfl) (sB1 rfl) sF0) ?_
            refine AL_cons (LR_fieldAddr (off := 0) (o := 3) (at_tmp 5 _) (fun b w => fa355_3 b 0 w) rfl) (sS (sT1 rfl) sB0 sF0) ?_
            refine AL_cons (LR_load (at_tmp 33 _) na3 rfl rfl) (sS (sT1 rfl) (sB1 rfl) sF0) ?_
            refine AL_cons (LR_bin (at_tmp 32 _) (at_tmp 34 _) (sub_I64 x2 a0_3) rfl) (sS (sA (sT1 rfl) (sT1 rfl)) sB0 sF0) ?_
            obtain ⟨y4, hy4, hr⟩ := bind_some hr
            refine AL_cons (LR_call Hfaa.func39 rfl rfl (C39 N a0_0 (bys a0_2.2.1 a0_2.2.2) (w64 (x2 - a0_3)) y4 hy4) (all_cons (at_tmp 27 _) (all_cons (at_tmp 30 _) (all_cons (at_tmp 35 _) all_nil))) rfl) (sS (sA (sT1 rfl) (sA (sT1 rfl) (sA (sT1 rfl) sT0))) sB0 sF0) ?_
            refine AL_cons (LR_move (at_tmp 36 _) rfl) (sS (sT1 rfl) sB0 sF0) ?_
            refine AL_cons (LR_extract (at_tmp 25 _) rfl rfl) (sS (sT1 rfl) sB0 sF0) ?_
            refine AL_cons (LR_extract (at_tmp 25 _) rfl rfl) (sS (sT1 rfl) sB0 sF0) ?_
            refine AL_cons (zl76 rfl) (sS sT0 sB0 (sF1 rfl)) ?_
            refine AL_cons (LR_store (at_tmp 11 _) (at_tmp 37 _) (cells_agg _) (onC (one_is rfl) (onC (one_is rfl) (onC (one_is rfl) onN))) sz76 rfl rfl) (sS (sA (sT1 rfl) (sT1 rfl)) (sB1 rfl) sF0) ?_
            refine AL_cons (LR_assign (at_tmp 38 _) rfl) (sS (sT1 rfl) sB0 sF0) ?_
            refine AL_nil ?_
            exact thenN (cutLeaf (v := (y4.2.2.2, y4.1, y4.2.1, y4.2.2.1)) hr (weak0 ((sT rfl (sT rfl (sT rfl sT0)))) (sub_drop (sub_keep (sub_keep sub_nil)))))
          · rintro ⟨x3, x4, x5, x6⟩ hr
            show AW Hfaa.prog _ _ _ ⟨[(10, .inr (.inl (10, 0))), (11, .inr (.inl (11, 0))), (12, .inl (is (Bl x3)))], [(10, pb 297 [is (U8 (0#8)), is (Bl false), is (Sv ([] : List UInt8)), is (I16 0), is (I64 0), is (I32 0)]), (11, pb 76 [is (Bl x4), is (Sv x5), is (I16 x6)])]⟩
            have hr : some r = F383_4 N x3 x4 x5 x6 := hr
            refine AW_seq1 ?_
            refine AW_cut (σ := Bool) (fun v => ⟨[(10, .inr (.inl (10, 0))), (11, .inr (.inl (11, 0))), (40, .inl (is (Bl v)))], [(10, pb 297 [is (U8 (0#8)), is (Bl false), is (Sv ([] : List UInt8)), is (I16 0), is (I64 0), is (I32 0)]), (11, pb 76 [is (Bl x4), is (Sv x5), is (I16 x6)])]⟩) (fun v => some r = F383_5 N x4 x5 x6 v) ?_ ?_
            · skip
              refine AW_region ?_
              refine AL_cons (LR_move (at_tmp 12 _) rfl) (sS (sT1 rfl) sB0 sF0) ?_
              refine AL_cons (LR_un (at_tmp 39 _) (not_Bl x3) rfl) (sS (sT1 rfl) sB0 sF0) ?_
              refine AL_nil ?_
              exact thenN (cutLeaf (v := !x3) hr (weak0 ((sT rfl (sT rfl (sT rfl sT0)))) (sub_keep (sub_keep sub_nil))))
            · rintro x7 hr
              show AW Hfaa.prog _ _ _ ⟨[(10, .inr (.inl (10, 0))), (11, .inr (.inl (11, 0))), (40, .inl (is (Bl x7)))], [(10, pb 297 [is (U8 (0#8)), is (Bl false), is (Sv ([] : List UInt8)), is (I16 0), is (I64 0), is (I32 0)]), (11, pb 76 [is (Bl x4), is (Sv x5), is (I16 x6)])]⟩
              have hr : some r = F383_5 N x4 x5 x6 x7 := hr
              refine AW_condT (b := x7) rfl (fun h => ?_) (fun h => ?_)
              · have hr := hr.trans (cond_t h)
                clear h
                refine AW_seq1 ?_
                refine AW_region ?_
                refine AL_cons (bl297 (parts_cons (i := 0) (off := 0) (at_c (v' := U8 (4#8)) rfl) (cells_one (one_is rfl)) rfl rfl parts_nil) rfl rfl) (sS (sA sT0 sT0) sB0 sF0) ?_
                refine AL_cons (LR_store (at_tmp 10 _) (at_tmp 41 _) (cells_agg _) (onC (one_is rfl) (onC (one_is rfl) (onC (one_is rfl) (onC (one_is rfl) (onC (one_is rfl) (onC (one_is rfl) onN)))))) sz297 rfl rfl) (sS (sA (sT1 rfl) (sT1 rfl)) (sB1 rfl) sF0) ?_
                refine AL_nil ?_
                refine thenN ?_
                refine AW_ret ?_
                refine thenR ?_
                refine blR ?_
                refine thenR ?_
                obtain rfl := Option.some.inj hr
                exact res1 rfl (rvC rfl rfl ag297 sz297 rfl)
              · have hr := hr.trans (cond_f h)
                clear h
                refine AW_skip ?_
                refine thenN ?_
                refine AW_seq1 ?_
                refine AW_region ?_
                refine AL_cons (LR_loads (at_tmp 11 _) ag76 sz76 rfl rfl rfl) (sS (sT1 rfl) (sB1 rfl) sF0) ?_
                refine AL_cons (bl297 (parts_cons (i := 0) (off := 0) (at_c (v' := U8 (0#8)) rfl) (cells_one (one_is rfl)) rfl rfl (parts_cons (i := 1) (off := 1) (at_tmp 42 _) (cells_agg _) rfl rfl parts_nil)) rfl rfl) (sS (sA sT0 (sA (sT1 rfl) sT0)) sB0 sF0) ?_
                refine AL_cons (LR_store (at_tmp 10 _) (at_tmp 43 _) (cells_agg _) (onC (one_is rfl) (onC (one_is rfl) (onC (one_is rfl) (onC (one_is rfl) (onC (one_is rfl) (onC (one_is rfl) onN)))))) sz297 rfl rfl) (sS (sA (sT1 rfl) (sT1 rfl)) (sB1 rfl) sF0) ?_
                refine AL_nil ?_
                refine thenN ?_
                refine AW_ret ?_
                refine blR ?_
                refine thenR ?_
                obtain rfl := Option.some.inj hr
                exact res1 rfl (rvC rfl rfl ag297 sz297 rfl)
      · have hr := hr.trans (cond_f h)
        clear h
        refine AW_cut (σ := Bool) (fun v => ⟨[(2, .inl (is (Sv a2))), (3, .inl (is (I64 a3))), (4, .inl (is (I64 a4))), (5, .inr (.inl (5, 0))), (10, .inr (.inl (10, 0))), (44, .inl (is (Bl v)))], [(5, pb 355 [is (Bl a0_0), is (Bl a0_1), ns U8 a0_2, is (I64 a0_3), is (I64 a0_4)]), (10, pb 297 [is (U8 (0#8)), is (Bl false), is (Sv ([] : List UInt8)), is (I16 0), is (I64 0), is (I32 0)])]⟩) (fun v => some r = F383_6 N a0_0 a0_1 a0_2 a0_3 a0_4 a2 a3 a4 v) ?_ ?_
        · skip
          refine AW_region ?_
          refine AL_cons (LR_bin (at_tmp 13 _) (at_c (v' := I64 9) rfl) (eql_I64 a1 9) rfl) (sS (sA (sT1 rfl) sT0) sB0 sF0) ?_
          refine AL_cons (LR_assign (at_tmp 45 _) rfl) (sS (sT1 rfl) sB0 sF0) ?_
          refine AL_nil ?_
          exact thenN (cutLeaf (v := a1 == 9) hr (weak0 ((sT rfl (sT rfl (sT rfl (sT rfl (sT rfl (sT rfl sT0))))))) (sub_keep (sub_keep sub_nil))))
        · rintro x8 hr
          show AW Hfaa.prog _ _ _ ⟨[(2, .inl (is (Sv a2))), (3, .inl (is (I64 a3))), (4, .inl (is (I64 a4))), (5, .inr (.inl (5, 0))), (10, .inr (.inl (10, 0))), (44, .inl (is (Bl x8)))], [(5, pb 355 [is (Bl a0_0), is (Bl a0_1), ns U8 a0_2, is (I64 a0_3), is (I64 a0_4)]), (10, pb 297 [is (U8 (0#8)), is (Bl false), is (Sv ([] : List UInt8)), is (I16 0), is (I64 0), is (I32 0)])]⟩
          have hr : some r = F383_6 N a0_0 a0_1 a0_2 a0_3 a0_4 a2 a3 a4 x8 := hr
          refine AW_condT (b := x8) rfl (fun h => ?_) (fun h => ?_)
          · have hr := hr.trans (cond_t h)
            clear h
            refine AW_seq1 ?_
            refine AW_cut (σ := Bool) (fun v => ⟨[(2, .inl (is (Sv a2))), (3, .inl (is (I64 a3))), (4, .inl (is (I64 a4))), (5, .inr (.inl (5, 0))), (10, .inr (.inl (10, 0))), (51, .inl (is (Bl v)))], [(5, pb 355 [is (Bl a0_0), is (Bl a0_1), ns U8 a0_2, is (I64 a0_3), is (I64 a0_4)]), (10, pb 297 [is (U8 (0#8)), is (Bl false), is (Sv ([] : List UInt8)), is (I16 0), is (I64 0), is (I32 0)])]⟩) (fun v => some r = F383_7 N a0_0 a0_1 a0_2 a0_3 a0_4 a2 a3 a4 v) ?_ ?_
            · skip
              refine AW_region ?_
              refine AL_cons (LR_move (at_tmp 2 _) rfl) (sS (sT1 rfl) sB0 sF0) ?_
              refine AL_cons (LR_bin (at_tmp 46 _) (at_c (v' := Sv ([110, 97, 110] : List UInt8)) rfl) (eql_S a2 ([110, 97, 110] : List UInt8)) rfl) (sS (sA (sT1 rfl) sT0) sB0 sF0) ?_
              refine AL_cons (LR_move (at_tmp 47 _) rfl) (sS (sT1 rfl) sB0 sF0) ?_
              refine AL_cutAt 3 ⟨[(2, .inl (is (Sv a2))), (3, .inl (is (I64 a3))), (4, .inl (is (I64 a4))), (5, .inr (.inl (5, 0))), (10, .inr (.inl (10, 0))), (44, .inl (is (Bl x8))), (46, .inl (is (Sv a2))), (47, .inl (is (Bl (a2 == ([110, 97, 110] : List UInt8))))), (48, .inl (is (Bl (a2 == ([110, 97, 110] : List UInt8))))), (51, .inl (is (Bl ((a2 == ([110, 97, 110] : List UInt8)) && (a3 == 3)))))], [(5, pb 355 [is (Bl a0_0), is (Bl a0_1), ns U8 a0_2, is (I64 a0_3), is (I64 a0_4)]), (10, pb 297 [is (U8 (0#8)), is (Bl false), is (Sv ([] : List UInt8)), is (I16 0), is (I64 0), is (I32 0)])]⟩ ?_ ?_
              · cases hb : a2 == ([110, 97, 110] : List UInt8)
                · skip
                  refine AL_cons (LR_off (b := false) rfl rfl rfl rfl) (sS (sT1 rfl) sB0 sF0) ?_
                  refine AL_cons (LR_off (b := false) rfl rfl rfl rfl) (sS (sT1 rfl) sB0 sF0) ?_
                  refine AL_cons (LR_pick (b := false) (at_tmp 48 _) (at_tmp 50 _) (at_c (v' := Bl false) rfl) rfl) (sS (sA (sT1 rfl) (sA (sT1 rfl) sT0)) sB0 sF0) ?_
                  exact AL_nil ⟨rfl, weak0 ((sT rfl (sT rfl (sT rfl (sT rfl (sT rfl (sT rfl (sT rfl (sT rfl (sT rfl (sT rfl sT0))))))))))) (sub_keep (sub_keep sub_nil))⟩
                · skip
                  refine AL_cons (LR_on rfl rfl rfl (LR_move (at_tmp 3 _) rfl)) (sS (sT rfl (sT1 rfl)) sB0 sF0) ?_
                  refine AL_cons (LR_on rfl rfl rfl (LR_bin (at_tmp 49 _) (at_c (v' := I64 3) rfl) (eql_I64 a3 3) rfl)) (sS (sT rfl (sA (sT1 rfl) sT0)) sB0 sF0) ?_
                  refine AL_cons (LR_pick (b := true) (at_tmp 48 _) (at_tmp 50 _) (at_c (v' := Bl false) rfl) rfl) (sS (sA (sT1 rfl) (sA (sT1 rfl) sT0)) sB0 sF0) ?_
                  exact AL_nil ⟨rfl, weak0 ((sT rfl (sT rfl (sT rfl (sT rfl (sT rfl (sT rfl (sT rfl (sT rfl (sT rfl (sT rfl sT0))))))))))) (sub_keep (sub_keep sub_nil))⟩
              refine AL_nil ?_
              exact thenN (cutLeaf (v := (a2 == ([110, 97, 110] : List UInt8)) && (a3 == 3)) hr (weak0 ((sT rfl (sT rfl (sT rfl (sT rfl (sT rfl (sT rfl sT0))))))) (sub_keep (sub_keep sub_nil))))
            · rintro x9 hr
              show AW Hfaa.prog _ _ _ ⟨[(2, .inl (is (Sv a2))), (3, .inl (is (I64 a3))), (4, .inl (is (I64 a4))), (5, .inr (.inl (5, 0))), (10, .inr (.inl (10, 0))), (51, .inl (is (Bl x9)))], [(5, pb 355 [is (Bl a0_0), is (Bl a0_1), ns U8 a0_2, is (I64 a0_3), is (I64 a0_4)]), (10, pb 297 [is (U8 (0#8)), is (Bl false), is (Sv ([] : List UInt8)), is (I16 0), is (I64 0), is (I32 0)])]⟩
              have hr : some r = F383_7 N a0_0 a0_1 a0_2 a0_3 a0_4 a2 a3 a4 x9 := hr
              refine AW_condT (b := x9) rfl (fun h => ?_) (fun h => ?_)
              · have hr := hr.trans (cond_t h)
                clear h
                refine AW_seq1 ?_
                refine AW_region ?_
                refine AL_cons (bl297 (parts_cons (i := 0) (off := 0) (at_c (v' := U8 (2#8)) rfl) (cells_one (one_is rfl)) rfl rfl parts_nil) rfl rfl) (sS (sA sT0 sT0) sB0 sF0) ?_
                refine AL_cons (LR_store (at_tmp 10 _) (at_tmp 52 _) (cells_agg _) (onC (one_is rfl) (onC (one_is rfl) (onC (one_is rfl) (onC (one_is rfl) (onC (one_is rfl) (onC (one_is rfl) onN)))))) sz297 rfl rfl) (sS (sA (sT1 rfl) (sT1 rfl)) (sB1 rfl) sF0) ?_
                refine AL_nil ?_
                refine thenN ?_
                refine AW_ret ?_
                refine thenR ?_
                refine blR ?_
                refine thenR ?_
                obtain rfl := Option.some.inj hr
                exact res1 rfl (rvC rfl rfl ag297 sz297 rfl)
              · have hr := hr.trans (cond_f h)
                clear h
                refine AW_skip ?_
                refine thenN ?_
                refine AW_cut (σ := Bool) (fun v => ⟨[(4, .inl (is (I64 a4))), (5, .inr (.inl (5, 0))), (10, .inr (.inl (10, 0))), (62, .inl (is (Bl v)))], [(5, pb 355 [is (Bl a0_0), is (Bl a0_1), ns U8 a0_2, is (I64 a0_3), is (I64 a0_4)]), (10, pb 297 [is (U8 (0#8)), is (Bl false), is (Sv ([] : List UInt8)), is (I16 0), is (I64 0), is (I32 0)])]⟩) (fun v => some r = F383_8 N a0_0 a0_1 a0_2 a0_3 a0_4 a4 v) ?_ ?_
                · skip
                  refine AW_region ?_
                  refine AL_cons (LR_move (at_tmp 2 _) rfl) (sS (sT1 rfl) sB0 sF0) ?_
                  refine AL_cons (LR_bin (at_tmp 53 _) (at_c (v' := Sv ([105, 110, 102, 105, 110, 105, 116, 121] : List UInt8)) rfl) (eql_S a2 ([105, 110, 102, 105, 110, 105, 116, 121] : List UInt8)) rfl) (sS (sA (sT1 rfl) sT0) sB0 sF0) ?_
                  refine AL_cons (LR_move (at_tmp 54 _) rfl) (sS (sT1 rfl) sB0 sF0) ?_
                  refine AL_cutAt 7 ⟨[(2, .inl (is (Sv a2))), (3, .inl (is (I64 a3))), (4, .inl (is (I64 a4))), (5, .inr (.inl (5, 0))), (10, .inr (.inl (10, 0))), (51, .inl (is (Bl x9))), (53, .inl (is (Sv a2))), (54, .inl (is (Bl (a2 == ([105, 110, 102, 105, 110, 105, 116, 121] : List UInt8))))), (55, .inl (is (Bl (a2 == ([105, 110, 102, 105, 110, 105, 116, 121] : List UInt8))))), (62, .inl (is (Bl ((a2 == ([105, 110, 102, 105, 110, 105, 116, 121] : List UInt8)) && ((a3 == 3) || (a3 == 8))))))], [(5, pb 355 [is (Bl a0_0), is (Bl a0_1), ns U8 a0_2, is (I64 a0_3), is (I64 a0_4)]), (10, pb 297 [is (U8 (0#8)), is (Bl false), is (Sv ([] : List UInt8)), is (I16 0), is (I64 0), is (I32 0)])]⟩ ?_ ?_
                  · cases hb : a2 == ([105, 110, 102, 105, 110, 105, 116, 121] : List UInt8)
                    · skip
                      refine AL_cons (LR_off (b := false) rfl rfl rfl rfl) (sS (sT1 rfl) sB0 sF0) ?_
                      refine AL_cons (LR_off (b := false) rfl rfl rfl rfl) (sS (sT1 rfl) sB0 sF0) ?_
                      refine AL_cons (LR_off (b := false) rfl rfl rfl rfl) (sS (sT1 rfl) sB0 sF0) ?_
                      refine AL_cons (LR_offU rfl rfl rfl rfl) (sS (sT1 rfl) sB0 sF0) ?_
                      refine AL_cons (LR_offU rfl rfl rfl rfl) (sS (sT1 rfl) sB0 sF0) ?_
                      refine AL_cons (LR_off (b := false) rfl rfl rfl rfl) (sS (sT1 rfl) sB0 sF0) ?_
                      refine AL_cons (LR_pick (b := false) (at_tmp 55 _) (at_tmp 61 _) (at_c (v' := Bl false) rfl) rfl) (sS (sA (sT1 rfl) (sA (sT1 rfl) sT0)) sB0 sF0) ?_
                      exact AL_nil ⟨rfl, weak0 ((sT rfl (sT rfl (sT rfl (sT rfl (sT rfl (sT rfl (sT rfl (sT rfl (sT rfl (sT rfl sT0))))))))))) (sub_keep (sub_keep sub_nil))⟩
                    · skip
                      refine AL_cons (LR_on rfl rfl rfl (LR_move (at_tmp 3 _) rfl)) (sS (sT rfl (sT1 rfl)) sB0 sF0) ?_
                      refine AL_cons (LR_on rfl rfl rfl (LR_bin (at_tmp 56 _) (at_c (v' := I64 3) rfl) (eql_I64 a3 3) rfl)) (sS (sT rfl (sA (sT1 rfl) sT0)) sB0 sF0) ?_
                      refine AL_cons (LR_on rfl rfl rfl (LR_move (at_tmp 57 _) rfl)) (sS (sT rfl (sT1 rfl)) sB0 sF0) ?_
                      refine AL_cutAt 3 ⟨[(2, .inl (is (Sv a2))), (3, .inl (is (I64 a3))), (4, .inl (is (I64 a4))), (5, .inr (.inl (5, 0))), (10, .inr (.inl (10, 0))), (51, .inl (is (Bl x9))), (53, .inl (is (Sv a2))), (54, .inl (is (Bl true))), (55, .inl (is (Bl true))), (56, .inl (is (I64 a3))), (57, .inl (is (Bl (a3 == 3)))), (58, .inl (is (Bl (a3 == 3)))), (61, .inl (is (Bl ((a3 == 3) || (a3 == 8)))))], [(5, pb 355 [is (Bl a0_0), is (Bl a0_1), ns U8 a0_2, is (I64 a0_3), is (I64 a0_4)]), (10, pb 297 [is (U8 (0#8)), is (Bl false), is (Sv ([] : List UInt8)), is (I16 0), is (I64 0), is (I32 0)])]⟩ ?_ ?_
                      · cases hb : a3 == 3
                        · skip
                          refine AL_cons (LR_on rfl rfl rfl (LR_move (at_tmp 3 _) rfl)) (sS (sT rfl (sT1 rfl)) sB0 sF0) ?_
                          refine AL_cons (LR_on rfl rfl rfl (LR_bin (at_tmp 59 _) (at_c (v' := I64 8) rfl) (eql_I64 a3 8) rfl)) (sS (sT rfl (sA (sT1 rfl) sT0)) sB0 sF0) ?_
                          refine AL_cons (LR_on rfl rfl rfl (LR_pick (b := false) (at_tmp 58 _) (at_c (v' := Bl true) rfl) (at_tmp 60 _) rfl)) (sS (sT rfl (sA (sT1 rfl) (sA sT0 (sT1 rfl)))) sB0 sF0) ?_
                          exact AL_nil ⟨rfl, weak0 ((sT rfl (sT rfl (sT rfl (sT rfl (sT rfl (sT rfl (sT rfl (sT rfl (sT rfl (sT rfl (sT rfl (sT rfl (sT rfl sT0)))))))))))))) (sub_keep (sub_keep sub_nil))⟩
                        · skip
                          refine AL_cons (LR_off (b := true) rfl rfl rfl rfl) (sS (sT1 rfl) sB0 sF0) ?_
                          refine AL_cons (LR_off (b := true) rfl rfl rfl rfl) (sS (sT1 rfl) sB0 sF0) ?_
                          refine AL_cons (LR_on rfl rfl rfl (LR_pick (b := true) (at_tmp 58 _) (at_c (v' := Bl true) rfl) (at_tmp 60 _) rfl)) (sS (sT rfl (sA (sT1 rfl) (sA sT0 (sT1 rfl)))) sB0 sF0) ?_
                          exact AL_nil ⟨rfl, weak0 ((sT rfl (sT rfl (sT rfl (sT rfl (sT rfl (sT rfl (sT rfl (sT rfl (sT rfl (sT rfl (sT rfl (sT rfl (sT rfl sT0)))))))))))))) (sub_keep (sub_keep sub_nil))⟩
                      refine AL_cons (LR_pick (b := true) (at_tmp 55 _) (at_tmp 61 _) (at_c (v' := Bl false) rfl) rfl) (sS (sA (sT1 rfl) (sA (sT1 rfl) sT0)) sB0 sF0) ?_
                      exact AL_nil ⟨rfl, weak0 ((sT rfl (sT rfl (sT rfl (sT rfl (sT rfl (sT rfl (sT rfl (sT rfl (sT rfl (sT rfl sT0))))))))))) (sub_keep (sub_keep sub_nil))⟩
                  refine AL_nil ?_
                  exact thenN (cutLeaf (v := (a2 == ([105, 110, 102, 105, 110, 105, 116, 121] : List UInt8)) && ((a3 == 3) || (a3 == 8))) hr (weak0 ((sT rfl (sT rfl (sT rfl (sT rfl sT0))))) (sub_keep (sub_keep sub_nil))))
                · rintro x10 hr
                  show AW Hfaa.prog _ _ _ ⟨[(4, .inl (is (I64 a4))), (5, .inr (.inl (5, 0))), (10, .inr (.inl (10, 0))), (62, .inl (is (Bl x10)))], [(5, pb 355 [is (Bl a0_0), is (Bl a0_1), ns U8 a0_2, is (I64 a0_3), is (I64 a0_4)]), (10, pb 297 [is (U8 (0#8)), is (Bl false), is (Sv ([] : List UInt8)), is (I16 0), is (I64 0), is (I32 0)])]⟩
                  have hr : some r = F383_8 N a0_0 a0_1 a0_2 a0_3 a0_4 a4 x10 := hr
                  refine AW_condT (b := x10) rfl (fun h => ?_) (fun h => ?_)
                  · have hr := hr.trans (cond_t h)
                    clear h
                    refine AW_seq1 ?_
                    refine AW_region ?_
                    refine AL_cons (LR_fieldAddr (off := 0) (o := 0) (at_tmp 5 _) (fun b w => fa355_0 b 0 w) rfl) (sS (sT1 rfl) sB0 sF0) ?_
                    refine AL_cons (LR_load (at_tmp 63 _) na4 rfl rfl) (sS (sT1 rfl) (sB1 rfl) sF0) ?_
                    refine AL_cons (bl76 (parts_cons (i := 0) (off := 0) (at_tmp 64 _) (cells_one (one_is rfl)) rfl rfl parts_nil) rfl rfl) (sS (sA (sT1 rfl) sT0) sB0 sF0) ?_
                    refine AL_cons (bl297 (parts_cons (i := 0) (off := 0) (at_c (v' := U8 (1#8)) rfl) (cells_one (one_is rfl)) rfl rfl (parts_cons (i := 1) (off := 1) (at_tmp 65 _) (cells_agg _) rfl rfl parts_nil)) rfl rfl) (sS (sA sT0 (sA (sT1 rfl) sT0)) sB0 sF0) ?_
                    refine AL_cons (LR_store (at_tmp 10 _) (at_tmp 66 _) (cells_agg _) (onC (one_is rfl) (onC (one_is rfl) (onC (one_is rfl) (onC (one_is rfl) (onC (one_is rfl) (onC (one_is rfl) onN)))))) sz297 rfl rfl) (sS (sA (sT1 rfl) (sT1 rfl)) (sB1 rfl) sF0) ?_
                    refine AL_nil ?_
                    refine thenN ?_
                    refine AW_ret ?_
                    refine blR ?_
                    refine thenR ?_
                    obtain rfl := Option.some.inj hr
                    exact res1 rfl (rvC rfl rfl ag297 sz297 rfl)
                  · have hr := hr.trans (cond_f h)
                    clear h
                    refine AW_skip ?_
                    refine blN ?_
                    exact thenN (cutLeaf (v := ()) hr (weak0 ((sT rfl (sT rfl sT0))) (sub_drop (sub_keep sub_nil))))
          · have hr := hr.trans (cond_f h)
            clear h
            refine AW_skip ?_
            refine blN ?_
            exact thenN (cutLeaf (v := ()) hr (weak0 ((sT rfl (sT rfl sT0))) (sub_drop (sub_keep sub_nil))))
  · rintro _ hr
    show AW Hfaa.prog _ _ _ ⟨[(4, .inl (is (I64 a4))), (10, .inr (.inl (10, 0)))], [(10, pb 297 [is (U8 (0#8)), is (Bl false), is (Sv ([] : List UInt8)), is (I16 0), is (I64 0), is (I32 0)])]⟩
    have hr : some r = F383_1 N a4 := hr
    refine AW_seq1 ?_
    refine AW_region ?_
    refine AL_cons (LR_move (at_tmp 4 _) rfl) (sS (sT1 rfl) sB0 sF0) ?_
    refine AL_cons (bl297 (parts_cons (i := 0) (off := 0) (at_c (v' := U8 (3#8)) rfl) (cells_one (one_is rfl)) rfl rfl (parts_cons (i := 2) (off := 4) (at_tmp 67 _) (cells_one (one_is rfl)) rfl rfl (parts_cons (i := 3) (off := 5) (at_c (v' := I32 (-1)) rfl) (cells_one (one_is rfl)) rfl rfl parts_nil))) rfl rfl) (sS (sA sT0 (sA (sT1 rfl) (sA sT0 sT0))) sB0 sF0) ?_
    refine AL_cons (LR_store (at_tmp 10 _) (at_tmp 68 _) (cells_agg _) (onC (one_is rfl) (onC (one_is rfl) (onC (one_is rfl) (onC (one_is rfl) (onC (one_is rfl) (onC (one_is rfl) onN)))))) sz297 rfl rfl) (sS (sA (sT1 rfl) (sT1 rfl)) (sB1 rfl) sF0) ?_
    refine AL_nil ?_
    refine thenN ?_
    refine AW_ret ?_
    obtain rfl := Option.some.inj hr
    exact res1 rfl (rvC rfl rfl ag297 sz297 rfl)
end Go.Proofs.YfwaawGreat
