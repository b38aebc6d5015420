import Derived.Test.YfwaawGreatG1
import Derived.Test.YfwaawGreatG24
import Derived.Test.YfwaawGreatG34
import Derived.Test.YfwaawGreatG57
import Derived.Test.YfwaawGreatG66
import Derived.Test.YfwaawGreatG67
namespace Go.Proofs.YfwaawGreat
open Go.Aw
set_option linter.unusedVariables false
set_option maxRecDepth 100000
set_option maxHeartbeats 1000000
/-- calc.Step -/
def F57_4 (N : Nat) (a0 : Tab) (a2_0 : BitVec 8) (a2_1 : BitVec 8) (a3 : BitVec 8) (b4_0 : Nat → BitVec 64) (b4_1 : NS (List UInt8)) (a5_0 : BitVec 8) (a5_1 : BitVec 8) (a5_2 : BitVec 8) (a5_3 : BitVec 8) (a5_4 : BitVec 64) (a5_5 : List UInt8) (x4 : Bool) : Option ((Nat → BitVec 64) × NS (List UInt8)) := bif x4 then (F123 N a0 a2_0 a2_1 a3 b4_0 b4_1 a5_0 a5_1 a5_2 a5_3 a5_4 a5_5).bind fun y6 => some (y6.1, y6.2) else some (b4_0, b4_1)
def F57_3 (N : Nat) (a0 : Tab) (a1 : BitVec 8) (a2_0 : BitVec 8) (a2_1 : BitVec 8) (a3 : BitVec 8) (b4_0 : Nat → BitVec 64) (b4_1 : NS (List UInt8)) (a5_0 : BitVec 8) (a5_1 : BitVec 8) (a5_2 : BitVec 8) (a5_3 : BitVec 8) (a5_4 : BitVec 64) (a5_5 : List UInt8) (x3 : Bool) : Option ((Nat → BitVec 64) × NS (List UInt8)) := bif x3 then (F122 N a0 a2_0 a2_1 a3 b4_0 b4_1 a5_0 a5_1 a5_2 a5_3 a5_4 a5_5).bind fun y5 => some (y5.1, y5.2) else F57_4 N a0 a2_0 a2_1 a3 b4_0 b4_1 a5_0 a5_1 a5_2 a5_3 a5_4 a5_5 (a1 == (2#8))
def F57_2 (N : Nat) (a0 : Tab) (a1 : BitVec 8) (a2_0 : BitVec 8) (a2_1 : BitVec 8) (a3 : BitVec 8) (b4_0 : Nat → BitVec 64) (b4_1 : NS (List UInt8)) (a5_0 : BitVec 8) (a5_1 : BitVec 8) (a5_2 : BitVec 8) (a5_3 : BitVec 8) (a5_4 : BitVec 64) (a5_5 : List UInt8) (x2 : Bool) : Option ((Nat → BitVec 64) × NS (List UInt8)) := bif x2 then (F121 N a0 a2_0 a2_1 a3 b4_0 b4_1 a5_0 a5_1 a5_2 a5_3 a5_4 a5_5).bind fun y4 => some (y4.1, y4.2) else F57_3 N a0 a1 a2_0 a2_1 a3 b4_0 b4_1 a5_0 a5_1 a5_2 a5_3 a5_4 a5_5 (a1 == (1#8))
def F57_1 (N : Nat) (a0 : Tab) (a1 : BitVec 8) (a2_0 : BitVec 8) (a2_1 : BitVec 8) (a3 : BitVec 8) (b4_0 : Nat → BitVec 64) (b4_1 : NS (List UInt8)) (a5_0 : BitVec 8) (a5_1 : BitVec 8) (a5_2 : BitVec 8) (a5_3 : BitVec 8) (a5_4 : BitVec 64) (a5_5 : List UInt8) (x1 : Bool) : Option ((Nat → BitVec 64) × NS (List UInt8)) := bif x1 then some (b4_0, b4_1) else F57_2 N a0 a1 a2_0 a2_1 a3 b4_0 b4_1 a5_0 a5_1 a5_2 a5_3 a5_4 a5_5 (a1 == (0#8))
def F57 (N : Nat) (a0 : Tab) (a1 : BitVec 8) (a2_0 : BitVec 8) (a2_1 : BitVec 8) (a3 : BitVec 8) (b4_0 : Nat → BitVec 64) (b4_1 : NS (List UInt8)) (a5_0 : BitVec 8) (a5_1 : BitVec 8) (a5_2 : BitVec 8) (a5_3 : BitVec 8) (a5_4 : BitVec 64) (a5_5 : List UInt8) : Option ((Nat → BitVec 64) × NS (List UInt8)) := lt (F56 a0 a1 a2_0 a2_1 a3) fun y7 => F57_1 N a0 a1 a2_0 a2_1 a3 b4_0 b4_1 a5_0 a5_1 a5_2 a5_3 a5_4 a5_5 (!y7)
theorem C57 (N : Nat) (a0 : Tab) (a1 : BitVec 8) (a2_0 : BitVec 8) (a2_1 : BitVec 8) (a3 : BitVec 8) (b4_0 : Nat → BitVec 64) (b4_1 : NS (List UInt8)) (a5_0 : BitVec 8) (a5_1 : BitVec 8) (a5_2 : BitVec 8) (a5_3 : BitVec 8) (a5_4 : BitVec 64) (a5_5 : List UInt8) (r : (Nat → BitVec 64) × NS (List UInt8)) (hr : some r = F57 N a0 a1 a2_0 a2_1 a3 b4_0 b4_1 a5_0 a5_1 a5_2 a5_3 a5_4 a5_5) : FnB Hfaa.prog 57 [.inl (tabp a0), .inl (is (U8 a1)), .inl (agg [is (U8 a2_0), is (U8 a2_1)]), .inl (is (U8 a3)), .inr (.inl (4, 0)), .inl (agg [is (U8 a5_0), is (U8 a5_1), is (U8 a5_2), is (U8 a5_3), is (U64 a5_4), is (Sv a5_5)])] [(4, gc 90 (ar U64 8 b4_0 ++ []) ([]) (k1 Sv) 1 b4_1)] (tup []) [(4, gc 90 (ar U64 8 r.1 ++ []) ([]) (k1 Sv) 1 r.2)] := by
  refine fnB_intro Hfaa.func57 rfl rfl rfl rfl rfl ⟨hf_gc _ _ _ _ _ _, trivial⟩ ?_
  intro bn0 w0 H0
  refine AW_seq1 ?_
  refine AW_region ?_
  refine AL_cons (LR_box (at_tmp 2 _) (cells_agg _) rfl) (sS (sT1 rfl) sB0 (sF1 rfl)) ?_
  refine AL_cons (LR_box (at_tmp 5 _) (cells_agg _) rfl) (sS (sT1 rfl) sB0 (sF1 rfl)) ?_
  refine AL_nil ?_
  refine thenN ?_
  refine AW_seq1 ?_
  refine AW_cut (σ := Bool) (fun v => ⟨[(0, .inl (tabp a0)), (1, .inl (is (U8 a1))), (3, .inl (is (U8 a3))), (4, .inr (.inl (4, 0))), (8, .inr (.inl (8, 0))), (11, .inr (.inl (11, 0))), (21, .inl (is (Bl v)))], [(4, gc 90 (ar U64 8 b4_0 ++ []) ([]) (k1 Sv) 1 b4_1), (8, pb 23 [is (U8 a2_0), is (U8 a2_1)]), (11, pb 96 [is (U8 a5_0), is (U8 a5_1), is (U8 a5_2), is (U8 a5_3), is (U64 a5_4), is (Sv a5_5)])]⟩) (fun v => some r = F57_1 N a0 a1 a2_0 a2_1 a3 b4_0 b4_1 a5_0 a5_1 a5_2 a5_3 a5_4 a5_5 v) ?_ ?_
  · skip
    refine AW_region ?_
    refine AL_cons (LR_move (at_tmp 4 _) rfl) (sS (sT1 rfl) sB0 sF0) ?_
    refine AL_cons (LR_eqlPtr (at_tmp 12 _) Hfaa.underlying98 rfl) (sS (sT1 rfl) sB0 sF0) ?_
    refine AL_cons (LR_move (at_tmp 13 _) rfl) (sS (sT1 rfl) sB0 sF0) ?_
    refine AL_cons (LR_on rfl rfl rfl (LR_move (at_tmp 0 _) rfl)) (sS (sT rfl (sT1 rfl)) sB0 sF0) ?_
    refine AL_cons (LR_on rfl rfl rfl (LR_move (at_tmp 1 _) rfl)) (sS (sT rfl (sT1 rfl)) sB0 sF0) ?_
    refine AL_cons (LR_on rfl rfl rfl (LR_loads (at_tmp 8 _) ag23 sz23 rfl rfl rfl)) (sS (sT rfl (sT1 rfl)) (sB1 rfl) sF0) ?_
    refine AL_cons (LR_on rfl rfl rfl (LR_move (at_tmp 3 _) rfl)) (sS (sT rfl (sT1 rfl)) sB0 sF0) ?_
    obtain ⟨y7, hy7, hr⟩ := lt_some hr
    refine AL_cons (LR_on rfl rfl rfl (LR_call Hfaa.func56 rfl rfl (C56 a0 a1 a2_0 a2_1 a3 y7 hy7) (all_cons (at_tmp 15 _) (all_cons (at_tmp 16 _) (all_cons (at_tmp 17 _) (all_cons (at_tmp 18 _) all_nil)))) rfl)) (sS (sT rfl (sA (sT1 rfl) (sA (sT1 rfl) (sA (sT1 rfl) (sA (sT1 rfl) sT0))))) sB0 sF0) ?_
    refine AL_cons (LR_on rfl rfl rfl (LR_un (at_tmp 19 _) (not_Bl y7) rfl)) (sS (sT rfl (sT1 rfl)) sB0 sF0) ?_
    refine AL_cons (LR_pick (b := false) (at_tmp 14 _) (at_c (v' := Bl true) rfl) (at_tmp 20 _) rfl) (sS (sA (sT1 rfl) (sA sT0 (sT1 rfl))) sB0 sF0) ?_
    refine AL_nil ?_
    exact thenN (cutLeaf (v := !y7) hr (weakB ((sT rfl (sT rfl (sT rfl (sT rfl (sT rfl (sT rfl (sT rfl sT0)))))))) (sub_keep (sub_keep (sub_keep sub_nil))) rfl))
  · rintro x1 hr
    show AW Hfaa.prog _ _ _ ⟨[(0, .inl (tabp a0)), (1, .inl (is (U8 a1))), (3, .inl (is (U8 a3))), (4, .inr (.inl (4, 0))), (8, .inr (.inl (8, 0))), (11, .inr (.inl (11, 0))), (21, .inl (is (Bl x1)))], [(4, gc 90 (ar U64 8 b4_0 ++ []) ([]) (k1 Sv) 1 b4_1), (8, pb 23 [is (U8 a2_0), is (U8 a2_1)]), (11, pb 96 [is (U8 a5_0), is (U8 a5_1), is (U8 a5_2), is (U8 a5_3), is (U64 a5_4), is (Sv a5_5)])]⟩
    have hr : some r = F57_1 N a0 a1 a2_0 a2_1 a3 b4_0 b4_1 a5_0 a5_1 a5_2 a5_3 a5_4 a5_5 x1 := hr
    refine AW_condT (b := x1) rfl (fun h => ?_) (fun h => ?_)
    · have hr := hr.trans (cond_t h)
      clear h
      refine AW_ret ?_
      refine thenR ?_
      obtain rfl := Option.some.inj hr
      exact ⟨res0 rfl , (sub_keep (sub_drop (sub_drop sub_nil)))⟩
    · have hr := hr.trans (cond_f h)
      clear h
      refine AW_skip ?_
      refine thenN ?_
      refine AW_seq1 ?_
      refine AW_region ?_
      refine AL_cons (LR_move (at_tmp 1 _) rfl) (sS (sT1 rfl) sB0 sF0) ?_
      refine AL_nil ?_
      refine thenN ?_
      refine AW_block ?_
      refine AW_cut (σ := Bool) (fun v => ⟨[(0, .inl (tabp a0)), (3, .inl (is (U8 a3))), (4, .inr (.inl (4, 0))), (8, .inr (.inl (8, 0))), (11, .inr (.inl (11, 0))), (22, .inl (is (U8 a1))), (23, .inl (is (Bl v)))], [(4, gc 90 (ar U64 8 b4_0 ++ []) ([]) (k1 Sv) 1 b4_1), (8, pb 23 [is (U8 a2_0), is (U8 a2_1)]), (11, pb 96 [is (U8 a5_0), is (U8 a5_1), is (U8 a5_2), is (U8 a5_3), is (U64 a5_4), is (Sv a5_5)])]⟩) (fun v => some r = F57_2 N a0 a1 a2_0 a2_1 a3 b4_0 b4_1 a5_0 a5_1 a5_2 a5_3 a5_4 a5_5 v) ?_ ?_
      · skip
        refine AW_region ?_
        refine AL_cons (LR_bin (at_tmp 22 _) (at_c (v' := U8 (0#8)) rfl) (eql_U8 a1 (0#8)) rfl) (sS (sA (sT1 rfl) sT0) sB0 sF0) ?_
        refine AL_cons (LR_assign (at_tmp 24 _) rfl) (sS (sT1 rfl) sB0 sF0) ?_
        refine AL_nil ?_
        exact thenN (cutLeaf (v := a1 == (0#8)) hr (weakB ((sT rfl (sT rfl (sT rfl (sT rfl (sT rfl (sT rfl (sT rfl sT0)))))))) (sub_keep (sub_keep (sub_keep sub_nil))) rfl))
      · rintro x2 hr
        show AW Hfaa.prog _ _ _ ⟨[(0, .inl (tabp a0)), (3, .inl (is (U8 a3))), (4, .inr (.inl (4, 0))), (8, .inr (.inl (8, 0))), (11, .inr (.inl (11, 0))), (22, .inl (is (U8 a1))), (23, .inl (is (Bl x2)))], [(4, gc 90 (ar U64 8 b4_0 ++ []) ([]) (k1 Sv) 1 b4_1), (8, pb 23 [is (U8 a2_0), is (U8 a2_1)]), (11, pb 96 [is (U8 a5_0), is (U8 a5_1), is (U8 a5_2), is (U8 a5_3), is (U64 a5_4), is (Sv a5_5)])]⟩
        have hr : some r = F57_2 N a0 a1 a2_0 a2_1 a3 b4_0 b4_1 a5_0 a5_1 a5_2 a5_3 a5_4 a5_5 x2 := hr
        refine AW_condT (b := x2) rfl (fun h => ?_) (fun h => ?_)
        · have hr := hr.trans (cond_t h)
          clear h
          refine AW_region ?_
          refine AL_cons (LR_move (at_tmp 0 _) rfl) (sS (sT1 rfl) sB0 sF0) ?_
          refine AL_cons (LR_loads (at_tmp 8 _) ag23 sz23 rfl rfl rfl) (sS (sT1 rfl) (sB1 rfl) sF0) ?_
          refine AL_cons (LR_move (at_tmp 3 _) rfl) (sS (sT1 rfl) sB0 sF0) ?_
          refine AL_cons (LR_move (at_tmp 4 _) rfl) (sS (sT1 rfl) sB0 sF0) ?_
          refine AL_cons (LR_loads (at_tmp 11 _) ag96 sz96 rfl rfl rfl) (sS (sT1 rfl) (sB1 rfl) sF0) ?_
          obtain ⟨y4, hy4, hr⟩ := bind_some hr
          refine AL_cons (LR_callB [(3, 4)] [(4, 3)] Hfaa.func121 rfl rfl (C121 N a0 a2_0 a2_1 a3 b4_0 b4_1 a5_0 a5_1 a5_2 a5_3 a5_4 a5_5 y4 hy4) (aTC (at_tmp 25 _) (aTC (at_tmp 26 _) (aTC (at_tmp 27 _) (aTC (at_tmp 28 _) (aTC (at_tmp 29 _) aT0))))) rfl rfl rfl rfl rfl) (sS (sA (sT1 rfl) (sA (sT1 rfl) (sA (sT1 rfl) (sA (sT1 rfl) (sA (sT1 rfl) sT0))))) (sB1 rfl) sF0) ?_
          refine AL_nil ?_
          refine blN ?_
          obtain rfl := Option.some.inj hr
          exact ⟨res0 rfl , (sub_keep (sub_drop (sub_drop sub_nil)))⟩
        · have hr := hr.trans (cond_f h)
          clear h
          refine AW_cut (σ := Bool) (fun v => ⟨[(0, .inl (tabp a0)), (3, .inl (is (U8 a3))), (4, .inr (.inl (4, 0))), (8, .inr (.inl (8, 0))), (11, .inr (.inl (11, 0))), (22, .inl (is (U8 a1))), (31, .inl (is (Bl v)))], [(4, gc 90 (ar U64 8 b4_0 ++ []) ([]) (k1 Sv) 1 b4_1), (8, pb 23 [is (U8 a2_0), is (U8 a2_1)]), (11, pb 96 [is (U8 a5_0), is (U8 a5_1), is (U8 a5_2), is (U8 a5_3), is (U64 a5_4), is (Sv a5_5)])]⟩) (fun v => some r = F57_3 N a0 a1 a2_0 a2_1 a3 b4_0 b4_1 a5_0 a5_1 a5_2 a5_3 a5_4 a5_5 v) ?_ ?_
          · skip
            refine AW_region ?_
            refine AL_cons (LR_bin (at_tmp 22 _) (at_c (v' := U8 (1#8)) rfl) (eql_U8 a1 (1#8)) rfl) (sS (sA (sT1 rfl) sT0) sB0 sF0) ?_
            refine AL_cons (LR_assign (at_tmp 32 _) rfl) (sS (sT1 rfl) sB0 sF0) ?_
            refine AL_nil ?_
            exact thenN (cutLeaf (v := a1 == (1#8)) hr (weakB ((sT rfl (sT rfl (sT rfl (sT rfl (sT rfl (sT rfl (sT rfl sT0)))))))) (sub_keep (sub_keep (sub_keep sub_nil))) rfl))
          · rintro x3 hr
            show AW Hfaa.prog _ _ _ ⟨[(0, .inl (tabp a0)), (3, .inl (is (U8 a3))), (4, .inr (.inl (4, 0))), (8, .inr (.inl (8, 0))), (11, .inr (.inl (11, 0))), (22, .inl (is (U8 a1))), (31, .inl (is (Bl x3)))], [(4, gc 90 (ar U64 8 b4_0 ++ []) ([]) (k1 Sv) 1 b4_1), (8, pb 23 [is (U8 a2_0), is (U8 a2_1)]), (11, pb 96 [is (U8 a5_0), is (U8 a5_1), is (U8 a5_2), is (U8 a5_3), is (U64 a5_4), is (Sv a5_5)])]⟩
            have hr : some r = F57_3 N a0 a1 a2_0 a2_1 a3 b4_0 b4_1 a5_0 a5_1 a5_2 a5_3 a5_4 a5_5 x3 := hr
            refine AW_condT (b := x3) rfl (fun h => ?_) (fun h => ?_)
            · have hr := hr.trans (cond_t h)
              clear h
              refine AW_region ?_
              refine AL_cons (LR_move (at_tmp 0 _) rfl) (sS (sT1 rfl) sB0 sF0) ?_
              refine AL_cons (LR_loads (at_tmp 8 _) ag23 sz23 rfl rfl rfl) (sS (sT1 rfl) (sB1 rfl) sF0) ?_
              refine AL_cons (LR_move (at_tmp 3 _) rfl) (sS (sT1 rfl) sB0 sF0) ?_
              refine AL_cons (LR_move (at_tmp 4 _) rfl) (sS (sT1 rfl) sB0 sF0) ?_
              refine AL_cons (LR_loads (at_tmp 11 _) ag96 sz96 rfl rfl rfl) (sS (sT1 rfl) (sB1 rfl) sF0) ?_
              obtain ⟨y5, hy5, hr⟩ := bind_some hr
              refine AL_cons (LR_callB [(3, 4)] [(4, 3)] Hfaa.func122 rfl rfl (C122 N a0 a2_0 a2_1 a3 b4_0 b4_1 a5_0 a5_1 a5_2 a5_3 a5_4 a5_5 y5 hy5) (aTC (at_tmp 33 _) (aTC (at_tmp 34 _) (aTC (at_tmp 35 _) (aTC (at_tmp 36 _) (aTC (at_tmp 37 _) aT0))))) rfl rfl rfl rfl rfl) (sS (sA (sT1 rfl) (sA (sT1 rfl) (sA (sT1 rfl) (sA (sT1 rfl) (sA (sT1 rfl) sT0))))) (sB1 rfl) sF0) ?_
              refine AL_nil ?_
              refine blN ?_
              obtain rfl := Option.some.inj hr
              exact ⟨res0 rfl , (sub_keep (sub_drop (sub_drop sub_nil)))⟩
            · have hr := hr.trans (cond_f h)
              clear h
              refine AW_cut (σ := Bool) (fun v => ⟨[(0, .inl (tabp a0)), (3, .inl (is (U8 a3))), (4, .inr (.inl (4, 0))), (8, .inr (.inl (8, 0))), (11, .inr (.inl (11, 0))), (39, .inl (is (Bl v)))], [(4, gc 90 (ar U64 8 b4_0 ++ []) ([]) (k1 Sv) 1 b4_1), (8, pb 23 [is (U8 a2_0), is (U8 a2_1)]), (11, pb 96 [is (U8 a5_0), is (U8 a5_1), is (U8 a5_2), is (U8 a5_3), is (U64 a5_4), is (Sv a5_5)])]⟩) (fun v => some r = F57_4 N a0 a2_0 a2_1 a3 b4_0 b4_1 a5_0 a5_1 a5_2 a5_3 a5_4 a5_5 v) ?_ ?_
              · skip
                refine AW_region ?_
                refine AL_cons (LR_bin (at_tmp 22 _) (at_c (v' := U8 (2#8)) rfl) (eql_U8 a1 (2#8)) rfl) (sS (sA (sT1 rfl) sT0) sB0 sF0) ?_
                refine AL_cons (LR_assign (at_tmp 40 _) rfl) (sS (sT1 rfl) sB0 sF0) ?_
                refine AL_nil ?_
                exact thenN (cutLeaf (v := a1 == (2#8)) hr (weakB ((sT rfl (sT rfl (sT rfl (sT rfl (sT rfl (sT rfl sT0))))))) (sub_keep (sub_keep (sub_keep sub_nil))) rfl))
              · rintro x4 hr
                show AW Hfaa.prog _ _ _ ⟨[(0, .inl (tabp a0)), (3, .inl (is (U8 a3))), (4, .inr (.inl (4, 0))), (8, .inr (.inl (8, 0))), (11, .inr (.inl (11, 0))), (39, .inl (is (Bl x4)))], [(4, gc 90 (ar U64 8 b4_0 ++ []) ([]) (k1 Sv) 1 b4_1), (8, pb 23 [is (U8 a2_0), is (U8 a2_1)]), (11, pb 96 [is (U8 a5_0), is (U8 a5_1), is (U8 a5_2), is (U8 a5_3), is (U64 a5_4), is (Sv a5_5)])]⟩
                have hr : some r = F57_4 N a0 a2_0 a2_1 a3 b4_0 b4_1 a5_0 a5_1 a5_2 a5_3 a5_4 a5_5 x4 := hr
                refine AW_condT (b := x4) rfl (fun h => ?_) (fun h => ?_)
                · have hr := hr.trans (cond_t h)
                  clear h
                  refine AW_region ?_
                  refine AL_cons (LR_move (at_tmp 0 _) rfl) (sS (sT1 rfl) sB0 sF0) ?_
                  refine AL_cons (LR_loads (at_tmp 8 _) ag23 sz23 rfl rfl rfl) (sS (sT1 rfl) (sB1 rfl) sF0) ?_
                  refine AL_cons (LR_move (at_tmp 3 _) rfl) (sS (sT1 rfl) sB0 sF0) ?_
                  refine AL_cons (LR_move (at_tmp 4 _) rfl) (sS (sT1 rfl) sB0 sF0) ?_
                  refine AL_cons (LR_loads (at_tmp 11 _) ag96 sz96 rfl rfl rfl) (sS (sT1 rfl) (sB1 rfl) sF0) ?_
                  obtain ⟨y6, hy6, hr⟩ := bind_some hr
                  refine AL_cons (LR_callB [(3, 4)] [(4, 3)] Hfaa.func123 rfl rfl (C123 N a0 a2_0 a2_1 a3 b4_0 b4_1 a5_0 a5_1 a5_2 a5_3 a5_4 a5_5 y6 hy6) (aTC (at_tmp 41 _) (aTC (at_tmp 42 _) (aTC (at_tmp 43 _) (aTC (at_tmp 44 _) (aTC (at_tmp 45 _) aT0))))) rfl rfl rfl rfl rfl) (sS (sA (sT1 rfl) (sA (sT1 rfl) (sA (sT1 rfl) (sA (sT1 rfl) (sA (sT1 rfl) sT0))))) (sB1 rfl) sF0) ?_
                  refine AL_nil ?_
                  refine blN ?_
                  obtain rfl := Option.some.inj hr
                  exact ⟨res0 rfl , (sub_keep (sub_drop (sub_drop sub_nil)))⟩
                · have hr := hr.trans (cond_f h)
                  clear h
                  refine AW_skip ?_
                  refine blN ?_
                  obtain rfl := Option.some.inj hr
                  exact ⟨res0 rfl , (sub_keep (sub_drop (sub_drop sub_nil)))⟩
/-- calc.Run -/
def F29_4 (N : Nat) (x1 : Nat → BitVec 64) (x2 : NS (List UInt8)) (x6 : Nat → BitVec 64) (x7 : NS (List UInt8)) : Option (Bool × (Nat → BitVec 64) × NS (List UInt8)) := some (false, x6, x7)
def F29_8 (N : Nat) (a0 : Tab) (a1 : BitVec 8) (a2_0 : BitVec 8) (a2_1 : BitVec 8) (a3 : BitVec 8) (a4 : NS (Opv)) (x1 : Nat → BitVec 64) (x2 : NS (List UInt8)) (x8 : Int) (x9 : Int) (x13 : Nat → BitVec 64) (x14 : NS (List UInt8)) : Option ((Int × (Nat → BitVec 64) × NS (List UInt8)) ⊕ (Bool × (Nat → BitVec 64) × NS (List UInt8))) := some (.inl ((w64 (x9 + 1), x13, x14)))
def F29_9 (N : Nat) (a0 : Tab) (a1 : BitVec 8) (a2_0 : BitVec 8) (a2_1 : BitVec 8) (a3 : BitVec 8) (a4 : NS (Opv)) (x1 : Nat → BitVec 64) (x2 : NS (List UInt8)) (x8 : Int) (x9 : Int) (x10 : Nat → BitVec 64) (x11 : NS (List UInt8)) (x15 : BitVec 8) (x16 : BitVec 8) (x17 : BitVec 8) (x18 : BitVec 8) (x19 : BitVec 64) (x20 : List UInt8) : Option ((Int × (Nat → BitVec 64) × NS (List UInt8)) ⊕ (Bool × (Nat → BitVec 64) × NS (List UInt8))) := (F57 N a0 a1 a2_0 a2_1 a3 x10 x11 x15 x16 x17 x18 x19 x20).bind fun y15 => F29_8 N a0 a1 a2_0 a2_1 a3 a4 x1 x2 x8 x9 y15.1 y15.2
def F29_7 (N : Nat) (a0 : Tab) (a1 : BitVec 8) (a2_0 : BitVec 8) (a2_1 : BitVec 8) (a3 : BitVec 8) (a4 : NS (Opv)) (x1 : Nat → BitVec 64) (x2 : NS (List UInt8)) (x8 : Int) (x9 : Int) (x10 : Nat → BitVec 64) (x11 : NS (List UInt8)) (x12 : Bool) : Option ((Int × (Nat → BitVec 64) × NS (List UInt8)) ⊕ (Bool × (Nat → BitVec 64) × NS (List UInt8))) := bif x12 then bif (decide (0 ≤ x9) && decide (x9 < (a4.2.1 : Int))) then F29_9 N a0 a1 a2_0 a2_1 a3 a4 x1 x2 x8 x9 x10 x11 ((a4.2.2 x9.toNat).1) ((a4.2.2 x9.toNat).2.1) ((a4.2.2 x9.toNat).2.2.1) ((a4.2.2 x9.toNat).2.2.2.1) ((a4.2.2 x9.toNat).2.2.2.2.1) ((a4.2.2 x9.toNat).2.2.2.2.2) else none else (F29_4 N x1 x2 x10 x11).map Sum.inr
def F29_L6b (N : Nat) (a0 : Tab) (a1 : BitVec 8) (a2_0 : BitVec 8) (a2_1 : BitVec 8) (a3 : BitVec 8) (a4 : NS (Opv)) (x1 : Nat → BitVec 64) (x2 : NS (List UInt8)) (x8 : Int) (x9 : Int) (x10 : Nat → BitVec 64) (x11 : NS (List UInt8)) : Option ((Int × (Nat → BitVec 64) × NS (List UInt8)) ⊕ (Bool × (Nat → BitVec 64) × NS (List UInt8))) := F29_7 N a0 a1 a2_0 a2_1 a3 a4 x1 x2 x8 x9 x10 x11 (decide (x9 < x8))
def F29_L6 (N : Nat) (a0 : Tab) (a1 : BitVec 8) (a2_0 : BitVec 8) (a2_1 : BitVec 8) (a3 : BitVec 8) (a4 : NS (Opv)) (x1 : Nat → BitVec 64) (x2 : NS (List UInt8)) (x8 : Int) : (Int × (Nat → BitVec 64) × NS (List UInt8)) → Option ((Int × (Nat → BitVec 64) × NS (List UInt8)) ⊕ (Bool × (Nat → BitVec 64) × NS (List UInt8))) := fun v => F29_L6b N a0 a1 a2_0 a2_1 a3 a4 x1 x2 x8 v.1 v.2.1 v.2.2
def F29_5 (N : Nat) (a0 : Tab) (a1 : BitVec 8) (a2_0 : BitVec 8) (a2_1 : BitVec 8) (a3 : BitVec 8) (a4 : NS (Opv)) (x1 : Nat → BitVec 64) (x2 : NS (List UInt8)) (x4 : Nat → BitVec 64) (x5 : NS (List UInt8)) (x8 : Int) : Option (Bool × (Nat → BitVec 64) × NS (List UInt8)) := iterL (F29_L6 N a0 a1 a2_0 a2_1 a3 a4 x1 x2 x8) N (0, x4, x5)
def F29_3 (N : Nat) (a0 : Tab) (a1 : BitVec 8) (a2_0 : BitVec 8) (a2_1 : BitVec 8) (a3 : BitVec 8) (a4 : NS (Opv)) (x1 : Nat → BitVec 64) (x2 : NS (List UInt8)) (x4 : Nat → BitVec 64) (x5 : NS (List UInt8)) : Option (Bool × (Nat → BitVec 64) × NS (List UInt8)) := F29_5 N a0 a1 a2_0 a2_1 a3 a4 x1 x2 x4 x5 (a4.2.1 : Int)
def F29_2 (N : Nat) (a0 : Tab) (a1 : BitVec 8) (a2_0 : BitVec 8) (a2_1 : BitVec 8) (a3 : BitVec 8) (a4 : NS (Opv)) (x1 : Nat → BitVec 64) (x2 : NS (List UInt8)) (x3 : Bool) : Option (Bool × (Nat → BitVec 64) × NS (List UInt8)) := bif x3 then some ((true, fun _ => 0#64, (true, 0, fun _ => ([] : List UInt8)))) else F29_3 N a0 a1 a2_0 a2_1 a3 a4 x1 x2 (fun _ => 0#64) ((true, 0, fun _ => ([] : List UInt8)))
def F29_1 (N : Nat) (a0 : Tab) (a1 : BitVec 8) (a2_0 : BitVec 8) (a2_1 : BitVec 8) (a3 : BitVec 8) (a4 : NS (Opv)) (x1 : Nat → BitVec 64) (x2 : NS (List UInt8)) : Option (Bool × (Nat → BitVec 64) × NS (List UInt8)) := lt (F56 a0 a1 a2_0 a2_1 a3) fun y16 => F29_2 N a0 a1 a2_0 a2_1 a3 a4 x1 x2 ((!y16) || (decide ((a4.2.1 : Int) > 256)))
def F29 (N : Nat) (a0 : Tab) (a1 : BitVec 8) (a2_0 : BitVec 8) (a2_1 : BitVec 8) (a3 : BitVec 8) (a4 : NS (Opv)) : Option (Bool × (Nat → BitVec 64) × NS (List UInt8)) := F29_1 N a0 a1 a2_0 a2_1 a3 a4 (fun _ => 0#64) ((true, 0, fun _ => ([] : List UInt8)))
theorem C29 (N : Nat) (a0 : Tab) (a1 : BitVec 8) (a2_0 : BitVec 8) (a2_1 : BitVec 8) (a3 : BitVec 8) (a4 : NS (Opv)) (r : Bool × (Nat → BitVec 64) × NS (List UInt8)) (hr : some r = F29 N a0 a1 a2_0 a2_1 a3 a4) : Aw.Fn Hfaa.prog 29 [tabp a0, is (U8 a1), agg [is (U8 a2_0), is (U8 a2_1)], is (U8 a3), nsl opK 6 a4] (agg (is (Bl r.1) :: (ar U64 8 r.2.1 ++ (ns Sv r.2.2 :: [])))) := by
  refine fn_intro Hfaa.func29 rfl rfl rfl ?_
  intro bn0 w0 H0
  refine AW_cut (σ := (Nat → BitVec 64) × NS (List UInt8)) (fun v => ⟨[(0, .inl (tabp a0)), (1, .inl (is (U8 a1))), (3, .inl (is (U8 a3))), (4, .inl (nsl opK 6 a4)), (7, .inr (.inl (7, 0))), (10, .inr (.inl (10, 0)))], [(7, pb 23 [is (U8 a2_0), is (U8 a2_1)]), (10, pb 59 (is (Bl false) :: (ar U64 8 v.1 ++ (ns Sv v.2 :: []))))]⟩) (fun v => some r = F29_1 N a0 a1 a2_0 a2_1 a3 a4 v.1 v.2) ?_ ?_
  · skip
    refine AW_region ?_
    refine AL_cons (LR_box (at_tmp 2 _) (cells_agg _) rfl) (sS (sT1 rfl) sB0 (sF1 rfl)) ?_
    refine AL_cons (zl59 rfl) (sS sT0 sB0 (sF1 rfl)) ?_
    refine AL_nil ?_
    exact thenN (cutLeaf (v := (fun _ => 0#64, (true, 0, fun _ => ([] : List UInt8)))) hr (weak0 ((sT rfl (sT rfl (sT rfl (sT rfl (sT rfl (sT rfl sT0))))))) (sub_keep (sub_keep sub_nil))))
  · rintro ⟨x1, x2⟩ hr
    show AW Hfaa.prog _ _ _ ⟨[(0, .inl (tabp a0)), (1, .inl (is (U8 a1))), (3, .inl (is (U8 a3))), (4, .inl (nsl opK 6 a4)), (7, .inr (.inl (7, 0))), (10, .inr (.inl (10, 0)))], [(7, pb 23 [is (U8 a2_0), is (U8 a2_1)]), (10, pb 59 (is (Bl false) :: (ar U64 8 x1 ++ (ns Sv x2 :: []))))]⟩
    have hr : some r = F29_1 N a0 a1 a2_0 a2_1 a3 a4 x1 x2 := hr
    refine AW_seq1 ?_
    refine AW_cut (σ := Bool) (fun v => ⟨[(0, .inl (tabp a0)), (1, .inl (is (U8 a1))), (3, .inl (is (U8 a3))), (4, .inl (nsl opK 6 a4)), (7, .inr (.inl (7, 0))), (10, .inr (.inl (10, 0))), (24, .inl (is (Bl v)))], [(7, pb 23 [is (U8 a2_0), is (U8 a2_1)]), (10, pb 59 (is (Bl false) :: (ar U64 8 x1 ++ (ns Sv x2 :: []))))]⟩) (fun v => some r = F29_2 N a0 a1 a2_0 a2_1 a3 a4 x1 x2 v) ?_ ?_
    · skip
      refine AW_region ?_
      refine AL_cons (LR_move (at_tmp 0 _) rfl) (sS (sT1 rfl) sB0 sF0) ?_
      refine AL_cons (LR_move (at_tmp 1 _) rfl) (sS (sT1 rfl) sB0 sF0) ?_
      refine AL_cons (LR_loads (at_tmp 7 _) ag23 sz23 rfl rfl rfl) (sS (sT1 rfl) (sB1 rfl) sF0) ?_
      refine AL_cons (LR_move (at_tmp 3 _) rfl) (sS (sT1 rfl) sB0 sF0) ?_
      obtain ⟨y16, hy16, hr⟩ := lt_some hr
      refine AL_cons (LR_call Hfaa.func56 rfl rfl (C56 a0 a1 a2_0 a2_1 a3 y16 hy16) (all_cons (at_tmp 14 _) (all_cons (at_tmp 15 _) (all_cons (at_tmp 16 _) (all_cons (at_tmp 17 _) all_nil)))) rfl) (sS (sA (sT1 rfl) (sA (sT1 rfl) (sA (sT1 rfl) (sA (sT1 rfl) sT0)))) sB0 sF0) ?_
      refine AL_cons (LR_un (at_tmp 18 _) (not_Bl y16) rfl) (sS (sT1 rfl) sB0 sF0) ?_
      refine AL_cons (LR_move (at_tmp 19 _) rfl) (sS (sT1 rfl) sB0 sF0) ?_
      refine AL_cutAt 4 ⟨[(0, .inl (tabp a0)), (1, .inl (is (U8 a1))), (3, .inl (is (U8 a3))), (4, .inl (nsl opK 6 a4)), (7, .inr (.inl (7, 0))), (10, .inr (.inl (10, 0))), (14, .inl (tabp a0)), (15, .inl (is (U8 a1))), (16, .inl (agg [is (U8 a2_0), is (U8 a2_1)])), (17, .inl (is (U8 a3))), (18, .inl (is (Bl y16))), (19, .inl (is (Bl (!y16)))), (20, .inl (is (Bl (!y16)))), (24, .inl (is (Bl ((!y16) || (decide ((a4.2.1 : Int) > 256))))))], [(7, pb 23 [is (U8 a2_0), is (U8 a2_1)]), (10, pb 59 (is (Bl false) :: (ar U64 8 x1 ++ (ns Sv x2 :: []))))]⟩ ?_ ?_
      · cases hb : !y16
        · skip
          refine AL_cons (LR_on rfl rfl rfl (LR_move (at_tmp 4 _) rfl)) (sS (sT rfl (sT1 rfl)) sB0 sF0) ?_
          refine AL_cons (LR_on rfl rfl rfl (LR_bi1 (at_tmp 21 _) (len_nsl Hfaa.underlying25 a4) rfl)) (sS (sT rfl (sT1 rfl)) sB0 sF0) ?_
          refine AL_cons (LR_on rfl rfl rfl (LR_bin (at_tmp 22 _) (at_c (v' := I64 256) rfl) (gtr_I64 (a4.2.1 : Int) 256) rfl)) (sS (sT rfl (sA (sT1 rfl) sT0)) sB0 sF0) ?_
          refine AL_cons (LR_pick (b := false) (at_tmp 20 _) (at_c (v' := Bl true) rfl) (at_tmp 23 _) rfl) (sS (sA (sT1 rfl) (sA sT0 (sT1 rfl))) sB0 sF0) ?_
          exact AL_nil ⟨rfl, weak0 ((sT rfl (sT rfl (sT rfl (sT rfl (sT rfl (sT rfl (sT rfl (sT rfl (sT rfl (sT rfl (sT rfl (sT rfl (sT rfl (sT rfl sT0))))))))))))))) (sub_keep (sub_keep sub_nil))⟩
        · skip
          refine AL_cons (LR_off (b := true) rfl rfl rfl rfl) (sS (sT1 rfl) sB0 sF0) ?_
          refine AL_cons (LR_off (b := true) rfl rfl rfl rfl) (sS (sT1 rfl) sB0 sF0) ?_
          refine AL_cons (LR_off (b := true) rfl rfl rfl rfl) (sS (sT1 rfl) sB0 sF0) ?_
          refine AL_cons (LR_pick (b := true) (at_tmp 20 _) (at_c (v' := Bl true) rfl) (at_tmp 23 _) rfl) (sS (sA (sT1 rfl) (sA sT0 (sT1 rfl))) sB0 sF0) ?_
          exact AL_nil ⟨rfl, weak0 ((sT rfl (sT rfl (sT rfl (sT rfl (sT rfl (sT rfl (sT rfl (sT rfl (sT rfl (sT rfl (sT rfl (sT rfl (sT rfl (sT rfl sT0))))))))))))))) (sub_keep (sub_keep sub_nil))⟩
      refine AL_nil ?_
      exact thenN (cutLeaf (v := (!y16) || (decide ((a4.2.1 : Int) > 256))) hr (weak0 ((sT rfl (sT rfl (sT rfl (sT rfl (sT rfl (sT rfl (sT rfl sT0)))))))) (sub_keep (sub_keep sub_nil))))
    · rintro x3 hr
      show AW Hfaa.prog _ _ _ ⟨[(0, .inl (tabp a0)), (1, .inl (is (U8 a1))), (3, .inl (is (U8 a3))), (4, .inl (nsl opK 6 a4)), (7, .inr (.inl (7, 0))), (10, .inr (.inl (10, 0))), (24, .inl (is (Bl x3)))], [(7, pb 23 [is (U8 a2_0), is (U8 a2_1)]), (10, pb 59 (is (Bl false) :: (ar U64 8 x1 ++ (ns Sv x2 :: []))))]⟩
      have hr : some r = F29_2 N a0 a1 a2_0 a2_1 a3 a4 x1 x2 x3 := hr
      refine AW_condT (b := x3) rfl (fun h => ?_) (fun h => ?_)
      · have hr := hr.trans (cond_t h)
        clear h
        refine AW_seq1 ?_
        refine AW_region ?_
        refine AL_cons (LR_aggE (blA59 (parts_cons' (i := 0) (off := 0) (m := 1) (at_c (v' := Bl true) rfl) (cells_one (one_is rfl)) rfl rfl rfl parts_nil) rfl rfl) (flC st0 fl0)) (sS (sA sT0 sT0) sB0 sF0) ?_
        refine AL_cons (LR_storeA (at_tmp 10 _) (at_tmp 25 _) (cells_agg _) (onC (one_is rfl) (ones_ar (fun _ => rfl) (onC (one_ns _) onN))) sz59 (lnC (lnA (lnC ln0))) (bleLen (lnC (lnA (lnC ln0))) rfl) (setSeg_full _ _ (lenEq (lnC (lnA (lnC ln0))) (lnC (lnA (lnC ln0)))))) (sS (sA (sT1 rfl) (sT1 rfl)) (sB1 rfl) sF0) ?_
        refine AL_nil ?_
        refine thenN ?_
        refine AW_ret ?_
        refine thenR ?_
        obtain rfl := Option.some.inj hr
        exact res1 rfl (rvC rfl rfl ag59 sz59 (lnC (lnA (lnC ln0))))
      · have hr := hr.trans (cond_f h)
        clear h
        refine AW_skip ?_
        refine thenN ?_
        refine AW_cut (σ := (Nat → BitVec 64) × NS (List UInt8)) (fun v => ⟨[(0, .inl (tabp a0)), (1, .inl (is (U8 a1))), (3, .inl (is (U8 a3))), (4, .inl (nsl opK 6 a4)), (7, .inr (.inl (7, 0))), (10, .inr (.inl (10, 0))), (11, .inr (.inl (11, 0)))], [(7, pb 23 [is (U8 a2_0), is (U8 a2_1)]), (10, pb 59 (is (Bl false) :: (ar U64 8 x1 ++ (ns Sv x2 :: [])))), (11, gc 90 (ar U64 8 v.1 ++ []) ([]) (k1 Sv) 1 v.2)]⟩) (fun v => some r = F29_3 N a0 a1 a2_0 a2_1 a3 a4 x1 x2 v.1 v.2) ?_ ?_
        · skip
          refine AW_region ?_
          refine AL_cons (zl90 rfl) (sS sT0 sB0 (sF1 rfl)) ?_
          refine AL_imp (imp_mkgc (k := 11) (K := (k1 Sv)) (sz := 1) ((ar U64 8 (fun _ => 0#64) ++ [])) ([]) rfl (by first | rfl | simp) (fun _ => ([] : List UInt8))) ?_
          refine AL_nil ?_
          exact thenN (cutLeaf (v := (fun _ => 0#64, (true, 0, fun _ => ([] : List UInt8)))) hr (weak0 ((sT rfl (sT rfl (sT rfl (sT rfl (sT rfl (sT rfl (sT rfl sT0)))))))) (sub_keep (sub_keep (sub_keep sub_nil)))))
        · rintro ⟨x4, x5⟩ hr
          show AW Hfaa.prog _ _ _ ⟨[(0, .inl (tabp a0)), (1, .inl (is (U8 a1))), (3, .inl (is (U8 a3))), (4, .inl (nsl opK 6 a4)), (7, .inr (.inl (7, 0))), (10, .inr (.inl (10, 0))), (11, .inr (.inl (11, 0)))], [(7, pb 23 [is (U8 a2_0), is (U8 a2_1)]), (10, pb 59 (is (Bl false) :: (ar U64 8 x1 ++ (ns Sv x2 :: [])))), (11, gc 90 (ar U64 8 x4 ++ []) ([]) (k1 Sv) 1 x5)]⟩
          have hr : some r = F29_3 N a0 a1 a2_0 a2_1 a3 a4 x1 x2 x4 x5 := hr
          refine AW_cut (σ := (Nat → BitVec 64) × NS (List UInt8)) (fun v => ⟨[(10, .inr (.inl (10, 0))), (11, .inr (.inl (11, 0)))], [(10, pb 59 (is (Bl false) :: (ar U64 8 x1 ++ (ns Sv x2 :: [])))), (11, gc 90 (ar U64 8 v.1 ++ []) ([]) (k1 Sv) 1 v.2)]⟩) (fun v => some r = F29_4 N x1 x2 v.1 v.2) ?_ ?_
          · skip
            refine AW_cut (σ := Int) (fun v => ⟨[(0, .inl (tabp a0)), (1, .inl (is (U8 a1))), (3, .inl (is (U8 a3))), (7, .inr (.inl (7, 0))), (10, .inr (.inl (10, 0))), (11, .inr (.inl (11, 0))), (26, .inl (nsl opK 6 a4)), (27, .inl (is (I64 v))), (28, .inl (is (I64 0)))], [(7, pb 23 [is (U8 a2_0), is (U8 a2_1)]), (10, pb 59 (is (Bl false) :: (ar U64 8 x1 ++ (ns Sv x2 :: [])))), (11, gc 90 (ar U64 8 x4 ++ []) ([]) (k1 Sv) 1 x5)]⟩) (fun v => some r = F29_5 N a0 a1 a2_0 a2_1 a3 a4 x1 x2 x4 x5 v) ?_ ?_
            · skip
              refine AW_region ?_
              refine AL_cons (LR_move (at_tmp 4 _) rfl) (sS (sT1 rfl) sB0 sF0) ?_
              refine AL_cons (LR_bi1 (at_tmp 26 _) (len_nsl Hfaa.underlying25 a4) rfl) (sS (sT1 rfl) sB0 sF0) ?_
              refine AL_cons (LR_move (at_c (v' := I64 0) rfl) rfl) (sS sT0 sB0 sF0) ?_
              refine AL_nil ?_
              exact thenN (cutLeaf (v := (a4.2.1 : Int)) hr (weak0 ((sT rfl (sT rfl (sT rfl (sT rfl (sT rfl (sT rfl (sT rfl (sT rfl (sT rfl sT0)))))))))) (sub_keep (sub_keep (sub_keep sub_nil)))))
            · rintro x8 hr
              show AW Hfaa.prog _ _ _ ⟨[(0, .inl (tabp a0)), (1, .inl (is (U8 a1))), (3, .inl (is (U8 a3))), (7, .inr (.inl (7, 0))), (10, .inr (.inl (10, 0))), (11, .inr (.inl (11, 0))), (26, .inl (nsl opK 6 a4)), (27, .inl (is (I64 x8))), (28, .inl (is (I64 0)))], [(7, pb 23 [is (U8 a2_0), is (U8 a2_1)]), (10, pb 59 (is (Bl false) :: (ar U64 8 x1 ++ (ns Sv x2 :: [])))), (11, gc 90 (ar U64 8 x4 ++ []) ([]) (k1 Sv) 1 x5)]⟩
              have hr : some r = F29_5 N a0 a1 a2_0 a2_1 a3 a4 x1 x2 x4 x5 x8 := hr
              refine AW_block ?_
              refine AW_iterR (σ := Int × (Nat → BitVec 64) × NS (List UInt8)) (r := r) (x0 := (0, x4, x5)) (emb := fun v => ⟨[(0, .inl (tabp a0)), (1, .inl (is (U8 a1))), (3, .inl (is (U8 a3))), (7, .inr (.inl (7, 0))), (10, .inr (.inl (10, 0))), (11, .inr (.inl (11, 0))), (26, .inl (nsl opK 6 a4)), (27, .inl (is (I64 x8))), (28, .inl (is (I64 v.1)))], [(7, pb 23 [is (U8 a2_0), is (U8 a2_1)]), (10, pb 59 (is (Bl false) :: (ar U64 8 x1 ++ (ns Sv x2 :: [])))), (11, gc 90 (ar U64 8 v.2.1 ++ []) ([]) (k1 Sv) 1 v.2.2)]⟩) ?_ hr ?_
              · exact weak0 ((sT rfl (sT rfl (sT rfl (sT rfl (sT rfl (sT rfl (sT rfl (sT rfl (sT rfl sT0)))))))))) (sub_keep (sub_keep (sub_keep sub_nil)))
              rintro ⟨x9, x10, x11⟩ out2 hr
              show AW Hfaa.prog _ _ _ ⟨[(0, .inl (tabp a0)), (1, .inl (is (U8 a1))), (3, .inl (is (U8 a3))), (7, .inr (.inl (7, 0))), (10, .inr (.inl (10, 0))), (11, .inr (.inl (11, 0))), (26, .inl (nsl opK 6 a4)), (27, .inl (is (I64 x8))), (28, .inl (is (I64 x9)))], [(7, pb 23 [is (U8 a2_0), is (U8 a2_1)]), (10, pb 59 (is (Bl false) :: (ar U64 8 x1 ++ (ns Sv x2 :: [])))), (11, gc 90 (ar U64 8 x10 ++ []) ([]) (k1 Sv) 1 x11)]⟩
              have hr : some out2 = F29_L6b N a0 a1 a2_0 a2_1 a3 a4 x1 x2 x8 x9 x10 x11 := hr
              refine AW_cut (σ := Bool) (fun v => ⟨[(0, .inl (tabp a0)), (1, .inl (is (U8 a1))), (3, .inl (is (U8 a3))), (7, .inr (.inl (7, 0))), (10, .inr (.inl (10, 0))), (11, .inr (.inl (11, 0))), (26, .inl (nsl opK 6 a4)), (27, .inl (is (I64 x8))), (28, .inl (is (I64 x9))), (29, .inl (is (Bl v)))], [(7, pb 23 [is (U8 a2_0), is (U8 a2_1)]), (10, pb 59 (is (Bl false) :: (ar U64 8 x1 ++ (ns Sv x2 :: [])))), (11, gc 90 (ar U64 8 x10 ++ []) ([]) (k1 Sv) 1 x11)]⟩) (fun v => some out2 = F29_7 N a0 a1 a2_0 a2_1 a3 a4 x1 x2 x8 x9 x10 x11 v) ?_ ?_
              · skip
                refine AW_region ?_
                refine AL_cons (LR_bin (at_tmp 28 _) (at_tmp 27 _) (lss_I64 x9 x8) rfl) (sS (sA (sT1 rfl) (sT1 rfl)) sB0 sF0) ?_
                refine AL_nil ?_
                exact thenN (cutLeaf (v := decide (x9 < x8)) hr (weak0 ((sT rfl (sT rfl (sT rfl (sT rfl (sT rfl (sT rfl (sT rfl (sT rfl (sT rfl (sT rfl sT0))))))))))) (sub_keep (sub_keep (sub_keep sub_nil)))))
              · rintro x12 hr
                show AW Hfaa.prog _ _ _ ⟨[(0, .inl (tabp a0)), (1, .inl (is (U8 a1))), (3, .inl (is (U8 a3))), (7, .inr (.inl (7, 0))), (10, .inr (.inl (10, 0))), (11, .inr (.inl (11, 0))), (26, .inl (nsl opK 6 a4)), (27, .inl (is (I64 x8))), (28, .inl (is (I64 x9))), (29, .inl (is (Bl x12)))], [(7, pb 23 [is (U8 a2_0), is (U8 a2_1)]), (10, pb 59 (is (Bl false) :: (ar U64 8 x1 ++ (ns Sv x2 :: [])))), (11, gc 90 (ar U64 8 x10 ++ []) ([]) (k1 Sv) 1 x11)]⟩
                have hr : some out2 = F29_7 N a0 a1 a2_0 a2_1 a3 a4 x1 x2 x8 x9 x10 x11 x12 := hr
                refine AW_seq1 ?_
                refine AW_condT (b := x12) rfl (fun h => ?_) (fun h => ?_)
                · have hr := hr.trans (cond_t h)
                  clear h
                  refine AW_skip ?_
                  refine thenN ?_
                  refine AW_cut (σ := (Nat → BitVec 64) × NS (List UInt8)) (fun v => ⟨[(0, .inl (tabp a0)), (1, .inl (is (U8 a1))), (3, .inl (is (U8 a3))), (7, .inr (.inl (7, 0))), (10, .inr (.inl (10, 0))), (11, .inr (.inl (11, 0))), (26, .inl (nsl opK 6 a4)), (27, .inl (is (I64 x8))), (28, .inl (is (I64 x9)))], [(7, pb 23 [is (U8 a2_0), is (U8 a2_1)]), (10, pb 59 (is (Bl false) :: (ar U64 8 x1 ++ (ns Sv x2 :: [])))), (11, gc 90 (ar U64 8 v.1 ++ []) ([]) (k1 Sv) 1 v.2)]⟩) (fun v => some out2 = F29_8 N a0 a1 a2_0 a2_1 a3 a4 x1 x2 x8 x9 v.1 v.2) ?_ ?_
                  · skip
                    refine AW_block ?_
                    refine AW_cut (σ := BitVec 8 × BitVec 8 × BitVec 8 × BitVec 8 × BitVec 64 × List UInt8) (fun v => ⟨[(0, .inl (tabp a0)), (1, .inl (is (U8 a1))), (3, .inl (is (U8 a3))), (7, .inr (.inl (7, 0))), (10, .inr (.inl (10, 0))), (11, .inr (.inl (11, 0))), (26, .inl (nsl opK 6 a4)), (27, .inl (is (I64 x8))), (28, .inl (is (I64 x9))), (13, .inr (.inl (13, 0)))], [(7, pb 23 [is (U8 a2_0), is (U8 a2_1)]), (10, pb 59 (is (Bl false) :: (ar U64 8 x1 ++ (ns Sv x2 :: [])))), (11, gc 90 (ar U64 8 x10 ++ []) ([]) (k1 Sv) 1 x11), (13, pb 96 [is (U8 v.1), is (U8 v.2.1), is (U8 v.2.2.1), is (U8 v.2.2.2.1), is (U64 v.2.2.2.2.1), is (Sv v.2.2.2.2.2)])]⟩) (fun v => some out2 = F29_9 N a0 a1 a2_0 a2_1 a3 a4 x1 x2 x8 x9 x10 x11 v.1 v.2.1 v.2.2.1 v.2.2.2.1 v.2.2.2.2.1 v.2.2.2.2.2) ?_ ?_
                    · skip
                      refine AW_region ?_
                      obtain ⟨hg24, hr⟩ := guard_some hr
                      refine AL_cons (LR_indexAddrL Hfaa.underlying25 sz96 (at_tmp 26 _) (at_tmp 28 _) (dand hg24) rfl) (sS (sA (sT1 rfl) (sT1 rfl)) sB0 sF0) ?_
                      refine AL_cons (LR_loadsL (at_tmp 30 _) ag96 sz96 rfl rfl) (sS (sT1 rfl) sB0 sF0) ?_
                      refine AL_cons (zl96 rfl) (sS sT0 sB0 (sF1 rfl)) ?_
                      refine AL_cons (LR_store (at_tmp 13 _) (at_tmp 31 _) (cells_agg _) (onC (one_is rfl) (onC (one_is rfl) (onC (one_is rfl) (onC (one_is rfl) (onC (one_is rfl) (onC (one_is rfl) onN)))))) sz96 rfl rfl) (sS (sA (sT1 rfl) (sT1 rfl)) (sB1 rfl) sF0) ?_
                      refine AL_nil ?_
                      exact thenN (cutLeaf (v := ((a4.2.2 x9.toNat).1, (a4.2.2 x9.toNat).2.1, (a4.2.2 x9.toNat).2.2.1, (a4.2.2 x9.toNat).2.2.2.1, (a4.2.2 x9.toNat).2.2.2.2.1, (a4.2.2 x9.toNat).2.2.2.2.2)) hr (weak0 ((sT rfl (sT rfl (sT rfl (sT rfl (sT rfl (sT rfl (sT rfl (sT rfl (sT rfl (sT rfl sT0))))))))))) (sub_keep (sub_keep (sub_keep (sub_keep sub_nil))))))
                    · rintro ⟨x15, x16, x17, x18, x19, x20⟩ hr
                      show AW Hfaa.prog _ _ _ ⟨[(0, .inl (tabp a0)), (1, .inl (is (U8 a1))), (3, .inl (is (U8 a3))), (7, .inr (.inl (7, 0))), (10, .inr (.inl (10, 0))), (11, .inr (.inl (11, 0))), (26, .inl (nsl opK 6 a4)), (27, .inl (is (I64 x8))), (28, .inl (is (I64 x9))), (13, .inr (.inl (13, 0)))], [(7, pb 23 [is (U8 a2_0), is (U8 a2_1)]), (10, pb 59 (is (Bl false) :: (ar U64 8 x1 ++ (ns Sv x2 :: [])))), (11, gc 90 (ar U64 8 x10 ++ []) ([]) (k1 Sv) 1 x11), (13, pb 96 [is (U8 x15), is (U8 x16), is (U8 x17), is (U8 x18), is (U64 x19), is (Sv x20)])]⟩
                      have hr : some out2 = F29_9 N a0 a1 a2_0 a2_1 a3 a4 x1 x2 x8 x9 x10 x11 x15 x16 x17 x18 x19 x20 := hr
                      refine AW_region ?_
                      refine AL_cons (LR_move (at_tmp 0 _) rfl) (sS (sT1 rfl) sB0 sF0) ?_
                      refine AL_cons (LR_move (at_tmp 1 _) rfl) (sS (sT1 rfl) sB0 sF0) ?_
                      refine AL_cons (LR_loads (at_tmp 7 _) ag23 sz23 rfl rfl rfl) (sS (sT1 rfl) (sB1 rfl) sF0) ?_
                      refine AL_cons (LR_move (at_tmp 3 _) rfl) (sS (sT1 rfl) sB0 sF0) ?_
                      refine AL_cons (LR_loads (at_tmp 13 _) ag96 sz96 rfl rfl rfl) (sS (sT1 rfl) (sB1 rfl) sF0) ?_
                      obtain ⟨y15, hy15, hr⟩ := bind_some hr
                      refine AL_cons (LR_callB [(4, 11)] [(11, 4)] Hfaa.func57 rfl rfl (C57 N a0 a1 a2_0 a2_1 a3 x10 x11 x15 x16 x17 x18 x19 x20 y15 hy15) (aTC (at_tmp 32 _) (aTC (at_tmp 33 _) (aTC (at_tmp 34 _) (aTC (at_tmp 35 _) (aTC (at_tmp 11 _) (aTC (at_tmp 36 _) aT0)))))) rfl rfl rfl rfl rfl) (sS (sA (sT1 rfl) (sA (sT1 rfl) (sA (sT1 rfl) (sA (sT1 rfl) (sA (sT1 rfl) (sA (sT1 rfl) sT0)))))) (sB1 rfl) sF0) ?_
                      refine AL_nil ?_
                      refine blN ?_
                      exact thenN (cutLeaf (v := (y15.1, y15.2)) hr (weak0 ((sT rfl (sT rfl (sT rfl (sT rfl (sT rfl (sT rfl (sT rfl (sT rfl (sT rfl sT0)))))))))) (sub_keep (sub_keep (sub_keep (sub_drop sub_nil))))))
                  · rintro ⟨x13, x14⟩ hr
                    show AW Hfaa.prog _ _ _ ⟨[(0, .inl (tabp a0)), (1, .inl (is (U8 a1))), (3, .inl (is (U8 a3))), (7, .inr (.inl (7, 0))), (10, .inr (.inl (10, 0))), (11, .inr (.inl (11, 0))), (26, .inl (nsl opK 6 a4)), (27, .inl (is (I64 x8))), (28, .inl (is (I64 x9)))], [(7, pb 23 [is (U8 a2_0), is (U8 a2_1)]), (10, pb 59 (is (Bl false) :: (ar U64 8 x1 ++ (ns Sv x2 :: [])))), (11, gc 90 (ar U64 8 x13 ++ []) ([]) (k1 Sv) 1 x14)]⟩
                    have hr : some out2 = F29_8 N a0 a1 a2_0 a2_1 a3 a4 x1 x2 x8 x9 x13 x14 := hr
                    refine AW_region ?_
                    refine AL_cons (LR_bin (at_tmp 28 _) (at_c (v' := I64 1) rfl) (add_I64 x9 1) rfl) (sS (sA (sT1 rfl) sT0) sB0 sF0) ?_
                    refine AL_cons (LR_move (at_tmp 38 _) rfl) (sS (sT1 rfl) sB0 sF0) ?_
                    refine AL_nil ?_
                    exact thenN (loopNext (x' := (w64 (x9 + 1), x13, x14)) hr (weak0 ((sT rfl (sT rfl (sT rfl (sT rfl (sT rfl (sT rfl (sT rfl (sT rfl (sT rfl sT0)))))))))) (sub_keep (sub_keep (sub_keep sub_nil)))))
                · have hr := hr.trans (cond_f h)
                  clear h
                  refine AW_exit ?_
                  refine thenX ?_
                  obtain ⟨r', hro, hr⟩ := map_inr hr
                  refine thenX (loopOut hro (fun he => ?_))
                  rw [he] at hr
                  refine blH ?_
                  exact thenN (cutLeaf (v := (x10, x11)) hr (weak0 ((sT rfl (sT rfl sT0))) (sub_drop (sub_keep (sub_keep sub_nil)))))
          · rintro ⟨x6, x7⟩ hr
            show AW Hfaa.prog _ _ _ ⟨[(10, .inr (.inl (10, 0))), (11, .inr (.inl (11, 0)))], [(10, pb 59 (is (Bl false) :: (ar U64 8 x1 ++ (ns Sv x2 :: [])))), (11, gc 90 (ar U64 8 x6 ++ []) ([]) (k1 Sv) 1 x7)]⟩
            have hr : some r = F29_4 N x1 x2 x6 x7 := hr
            refine AW_seq1 ?_
            refine AW_region ?_
            refine AL_cons (LR_fieldAddr (off := 0) (o := 0) (at_tmp 11 _) (fun b w => fa90_0 b 0 w) rfl) (sS (sT1 rfl) sB0 sF0) ?_
            refine AL_opn 11 1001 (fun sv => (ar U64 8 x6 ++ (is ( sv) :: []))) rfl rfl (fun _ => by first | rfl | simp) ?_
            intro sv1 hsv1
            refine AL_cons (LR_loads (at_tmp 39 _) ag35 sz35 (take_nil tkA) (bleLen (lnA (lnC ln0)) rfl) rfl) (sS (sT1 rfl) (sB1 rfl) sF0) ?_
            refine AL_cons (LR_fieldAddr (off := 0) (o := 8) (at_tmp 11 _) (fun b w => fa90_1 b 0 w) rfl) (sS (sT1 rfl) sB0 sF0) ?_
            refine AL_cons (LR_load (at_tmp 41 _) na57 (gP g0) rfl) (sS (sT1 rfl) (sB1 rfl) sF0) ?_
            refine AL_frzRow (fun H => (nsq (k1 Sv) 1 x7).p H sv1) 1001 ⟨[(10, .inr (.inl (10, 0))), (11, .inr (.inl (11, 0))), (39, .inr (.inl (11, 0))), (40, .inl (agg (ar U64 8 x6 ++ []))), (41, .inr (.inl (11, 8))), (42, .inl (ns Sv x7))], [(10, pb 59 (is (Bl false) :: (ar U64 8 x1 ++ (ns Sv x2 :: [])))), (11, pb 90 (ar U64 8 x6 ++ (ns Sv x7 :: [])))]⟩ k1_len rfl (fun _ h => h) (cbK rfl (cbC rfl (cvl_app (cvl_cons (cv_sv (fun _ h => nsq_k1 h)) cvl_nil)) (cbD cb0))) (ctP rfl rfl (ctP rfl rfl (ctP rfl rfl (ctC rfl cv_refl (ctP rfl rfl (ctC rfl (cv_sv (fun _ h => nsq_k1 h)) ct0)))))) ?_
            refine AL_cons (LR_aggE (blA59 (parts_cons' (i := 1) (off := 1) (m := 8) (at_tmp 40 _) (cells_agg _) (lnA ln0) rfl rfl (parts_cons' (i := 2) (off := 9) (m := 1) (at_tmp 42 _) (cells_one (one_ns _)) rfl rfl rfl parts_nil)) rfl rfl) (flC (stSs stArr) (flC (stS (stP st0)) fl0))) (sS (sA (sT1 rfl) (sA (sT1 rfl) sT0)) sB0 sF0) ?_
            refine AL_cons (LR_storeA (at_tmp 10 _) (at_tmp 43 _) (cells_agg _) (onC (one_is rfl) (ones_ar (fun _ => rfl) (onC (one_ns _) onN))) sz59 (lnC (lnA (lnC ln0))) (bleLen (lnC (lnA (lnC ln0))) rfl) (setSeg_full _ _ (lenEq (lnC (lnA (lnC ln0))) (lnC (lnA (lnC ln0)))))) (sS (sA (sT1 rfl) (sT1 rfl)) (sB1 rfl) sF0) ?_
            refine AL_nil ?_
            refine thenN ?_
            refine AW_ret ?_
            obtain rfl := Option.some.inj hr
            exact res1 rfl (rvC rfl rfl ag59 sz59 (lnC (lnA (lnC ln0))))
/-- law.folds -/
def F58 (a0 : BitVec 8) : Bool := (a0 == (0#8)) || (decide ((4#8).toNat < a0.toNat))
theorem C58 (a0 : BitVec 8) (r : Bool) (hr : r = F58 a0) : Aw.Fn Hfaa.prog 58 [is (U8 a0)] (is (Bl r)) := by
  refine fn_intro Hfaa.func58 rfl rfl rfl ?_
  intro bn0 w0 H0
  refine AW_seq1 ?_
  refine AW_region ?_
  refine AL_cons (LR_assign (at_c (v' := Bl false) rfl) rfl) (sS sT0 sB0 sF0) ?_
  refine AL_nil ?_
  refine thenN ?_
  refine AW_seq1 ?_
  refine AW_region ?_
  refine AL_cons (LR_move (at_tmp 0 _) rfl) (sS (sT1 rfl) sB0 sF0) ?_
  refine AL_cons (LR_bin (at_tmp 3 _) (at_c (v' := U8 (0#8)) rfl) (eql_U8 a0 (0#8)) rfl) (sS (sA (sT1 rfl) sT0) sB0 sF0) ?_
  refine AL_cons (LR_move (at_tmp 4 _) rfl) (sS (sT1 rfl) sB0 sF0) ?_
  refine AL_cutAt 3 ⟨[(0, .inl (is (U8 a0))), (2, .inl (is (Bl false))), (3, .inl (is (U8 a0))), (4, .inl (is (Bl (a0 == (0#8))))), (5, .inl (is (Bl (a0 == (0#8))))), (8, .inl (is (Bl ((a0 == (0#8)) || (decide ((4#8).toNat < a0.toNat))))))], []⟩ ?_ ?_
  · cases hb : a0 == (0#8)
    · skip
      refine AL_cons (LR_on rfl rfl rfl (LR_move (at_tmp 0 _) rfl)) (sS (sT rfl (sT1 rfl)) sB0 sF0) ?_
      refine AL_cons (LR_on rfl rfl rfl (LR_bin (at_tmp 6 _) (at_c (v' := U8 (4#8)) rfl) (gtr_U8 a0 (4#8)) rfl)) (sS (sT rfl (sA (sT1 rfl) sT0)) sB0 sF0) ?_
      refine AL_cons (LR_pick (b := false) (at_tmp 5 _) (at_c (v' := Bl true) rfl) (at_tmp 7 _) rfl) (sS (sA (sT1 rfl) (sA sT0 (sT1 rfl))) sB0 sF0) ?_
      exact AL_nil ⟨rfl, weak0 ((sT rfl (sT rfl (sT rfl (sT rfl (sT rfl (sT rfl sT0))))))) sub_nil⟩
    · skip
      refine AL_cons (LR_off (b := true) rfl rfl rfl rfl) (sS (sT1 rfl) sB0 sF0) ?_
      refine AL_cons (LR_off (b := true) rfl rfl rfl rfl) (sS (sT1 rfl) sB0 sF0) ?_
      refine AL_cons (LR_pick (b := true) (at_tmp 5 _) (at_c (v' := Bl true) rfl) (at_tmp 7 _) rfl) (sS (sA (sT1 rfl) (sA sT0 (sT1 rfl))) sB0 sF0) ?_
      exact AL_nil ⟨rfl, weak0 ((sT rfl (sT rfl (sT rfl (sT rfl (sT rfl (sT rfl sT0))))))) sub_nil⟩
  refine AL_cons (LR_assign (at_tmp 8 _) rfl) (sS (sT1 rfl) sB0 sF0) ?_
  refine AL_nil ?_
  refine thenN ?_
  refine AW_ret ?_
  subst hr
  exact res1 rfl (rvT rfl)
/-- law.allowed -/
def F31_3 (x3 : Bool) : Bool := x3
def F31_2 (a1_0 : BitVec 8) (a1_1 : BitVec 8) (a2 : BitVec 8) (x2 : Bool) : Bool := bif x2 then bif (F58 a2) then bif (a1_0 == F14.1) && (a1_1 == F14.2) then F31_3 true else F31_3 ((a1_0 == F13.1) && (a1_1 == F13.2)) else F31_3 false else false
def F31_1 (a0 : BitVec 8) (a1_0 : BitVec 8) (a1_1 : BitVec 8) (a2 : BitVec 8) (x1 : Bool) : Bool := bif x1 then lt (F40 a1_0 a1_1) fun y6 => y6 else F31_2 a1_0 a1_1 a2 (a0 == (2#8))
def F31_4 (a0 : BitVec 8) (a1_0 : BitVec 8) (a1_1 : BitVec 8) (a2 : BitVec 8) (x4 : Bool) : Bool := bif x4 then F31_1 a0 a1_0 a1_1 a2 x4 else F31_1 a0 a1_0 a1_1 a2 (a0 == (1#8))
def F31 (a0 : BitVec 8) (a1_0 : BitVec 8) (a1_1 : BitVec 8) (a2 : BitVec 8) : Bool := F31_4 a0 a1_0 a1_1 a2 (a0 == (0#8))
theorem C31 (a0 : BitVec 8) (a1_0 : BitVec 8) (a1_1 : BitVec 8) (a2 : BitVec 8) (r : Bool) (hr : r = F31 a0 a1_0 a1_1 a2) : Aw.Fn Hfaa.prog 31 [is (U8 a0), agg [is (U8 a1_0), is (U8 a1_1)], is (U8 a2)] (is (Bl r)) := by
  refine fn_intro Hfaa.func31 rfl rfl rfl ?_
  intro bn0 w0 H0
  refine AW_seq1 ?_
  refine AW_region ?_
  refine AL_cons (LR_box (at_tmp 1 _) (cells_agg _) rfl) (sS (sT1 rfl) sB0 (sF1 rfl)) ?_
  refine AL_cons (LR_assign (at_c (v' := Bl false) rfl) rfl) (sS sT0 sB0 sF0) ?_
  refine AL_nil ?_
  refine thenN ?_
  refine AW_seq1 ?_
  refine AW_seq1 ?_
  refine AW_region ?_
  refine AL_cons (LR_move (at_tmp 0 _) rfl) (sS (sT1 rfl) sB0 sF0) ?_
  refine AL_nil ?_
  refine thenN ?_
  refine AW_block ?_
  refine AW_cut (σ := Bool) (fun v => ⟨[(2, .inl (is (U8 a2))), (4, .inr (.inl (4, 0))), (7, .inl (is (U8 a0))), (8, .inl (is (Bl v)))], [(4, pb 23 [is (U8 a1_0), is (U8 a1_1)])]⟩) (fun v => r = F31_1 a0 a1_0 a1_1 a2 v) ?_ ?_
  · skip
    refine AW_cut (σ := Bool) (fun v => ⟨[(2, .inl (is (U8 a2))), (4, .inr (.inl (4, 0))), (7, .inl (is (U8 a0))), (8, .inl (is (Bl v)))], [(4, pb 23 [is (U8 a1_0), is (U8 a1_1)])]⟩) (fun v => r = F31_4 a0 a1_0 a1_1 a2 v) ?_ ?_
    · skip
      refine AW_region ?_
      refine AL_cons (LR_bin (at_tmp 7 _) (at_c (v' := U8 (0#8)) rfl) (eql_U8 a0 (0#8)) rfl) (sS (sA (sT1 rfl) sT0) sB0 sF0) ?_
      refine AL_cons (LR_assign (at_tmp 9 _) rfl) (sS (sT1 rfl) sB0 sF0) ?_
      refine AL_nil ?_
      exact thenN (cutLeaf (v := a0 == (0#8)) hr (weak0 ((sT rfl (sT rfl (sT rfl (sT rfl sT0))))) (sub_keep sub_nil)))
    · rintro x4 hr
      show AW Hfaa.prog _ _ _ ⟨[(2, .inl (is (U8 a2))), (4, .inr (.inl (4, 0))), (7, .inl (is (U8 a0))), (8, .inl (is (Bl x4)))], [(4, pb 23 [is (U8 a1_0), is (U8 a1_1)])]⟩
      have hr : r = F31_4 a0 a1_0 a1_1 a2 x4 := hr
      refine AW_condT (b := x4) rfl (fun h => ?_) (fun h => ?_)
      · have hr := hr.trans (cond_t h)
        clear h
        refine AW_skip ?_
        exact thenN (cutLeaf (v := x4) hr (weak0 ((sT rfl (sT rfl (sT rfl (sT rfl sT0))))) (sub_keep sub_nil)))
      · have hr := hr.trans (cond_f h)
        clear h
        refine AW_region ?_
        refine AL_cons (LR_bin (at_tmp 7 _) (at_c (v' := U8 (1#8)) rfl) (eql_U8 a0 (1#8)) rfl) (sS (sA (sT1 rfl) sT0) sB0 sF0) ?_
        refine AL_cons (LR_assign (at_tmp 10 _) rfl) (sS (sT1 rfl) sB0 sF0) ?_
        refine AL_nil ?_
        exact thenN (cutLeaf (v := a0 == (1#8)) hr (weak0 ((sT rfl (sT rfl (sT rfl (sT rfl sT0))))) (sub_keep sub_nil)))
  · rintro x1 hr
    show AW Hfaa.prog _ _ _ ⟨[(2, .inl (is (U8 a2))), (4, .inr (.inl (4, 0))), (7, .inl (is (U8 a0))), (8, .inl (is (Bl x1)))], [(4, pb 23 [is (U8 a1_0), is (U8 a1_1)])]⟩
    have hr : r = F31_1 a0 a1_0 a1_1 a2 x1 := hr
    refine AW_condT (b := x1) rfl (fun h => ?_) (fun h => ?_)
    · have hr := hr.trans (cond_t h)
      clear h
      refine AW_seq1 ?_
      refine AW_region ?_
      refine AL_cons (LR_loads (at_tmp 4 _) ag23 sz23 rfl rfl rfl) (sS (sT1 rfl) (sB1 rfl) sF0) ?_
      obtain ⟨y6, hy6, hr⟩ := lt_some hr
      refine AL_cons (LR_call Hfaa.func40 rfl rfl (C40 a1_0 a1_1 y6 hy6) (all_cons (at_tmp 11 _) all_nil) rfl) (sS (sA (sT1 rfl) sT0) sB0 sF0) ?_
      refine AL_cons (LR_assign (at_tmp 12 _) rfl) (sS (sT1 rfl) sB0 sF0) ?_
      refine AL_nil ?_
      refine thenN ?_
      refine AW_ret ?_
      refine blR ?_
      refine thenR ?_
      subst hr
      exact res1 rfl (rvT rfl)
    · have hr := hr.trans (cond_f h)
      clear h
      refine AW_cut (σ := Bool) (fun v => ⟨[(2, .inl (is (U8 a2))), (4, .inr (.inl (4, 0))), (13, .inl (is (Bl v)))], [(4, pb 23 [is (U8 a1_0), is (U8 a1_1)])]⟩) (fun v => r = F31_2 a1_0 a1_1 a2 v) ?_ ?_
      · skip
        refine AW_region ?_
        refine AL_cons (LR_bin (at_tmp 7 _) (at_c (v' := U8 (2#8)) rfl) (eql_U8 a0 (2#8)) rfl) (sS (sA (sT1 rfl) sT0) sB0 sF0) ?_
        refine AL_cons (LR_assign (at_tmp 14 _) rfl) (sS (sT1 rfl) sB0 sF0) ?_
        refine AL_nil ?_
        exact thenN (cutLeaf (v := a0 == (2#8)) hr (weak0 ((sT rfl (sT rfl (sT rfl sT0)))) (sub_keep sub_nil)))
      · rintro x2 hr
        show AW Hfaa.prog _ _ _ ⟨[(2, .inl (is (U8 a2))), (4, .inr (.inl (4, 0))), (13, .inl (is (Bl x2)))], [(4, pb 23 [is (U8 a1_0), is (U8 a1_1)])]⟩
        have hr : r = F31_2 a1_0 a1_1 a2 x2 := hr
        refine AW_condT (b := x2) rfl (fun h => ?_) (fun h => ?_)
        · have hr := hr.trans (cond_t h)
          clear h
          refine AW_cut (σ := Bool) (fun v => ⟨[(6, .inl (is (Bl v)))], []⟩) (fun v => r = F31_3 v) ?_ ?_
          · skip
            rcases bool_em (F58 a2) with hb7 | hb7
            · have hr := hr.trans (cond_f hb7)
              refine AW_draw mixed
                (lrC (LR_move (at_tmp 2 _) rfl)
                (lrC (LR_asB (LR_call Hfaa.func58 rfl rfl (C58 a2 _ rfl) (all_cons (at_tmp 15 _) all_nil) rfl) hb7)
                (lrC (LR_move (at_tmp 16 _) rfl)
                (lrC (LR_off (b := false) rfl rfl rfl rfl)
                (lrC (LR_off (b := false) rfl rfl rfl rfl)
                (lrC (LR_off (b := false) rfl rfl rfl rfl)
                (lrC (LR_off (b := false) rfl rfl rfl rfl)
                (lrC (LR_offU rfl rfl rfl rfl)
                (lrC (LR_offU rfl rfl rfl rfl)
                (lrC (LR_offU rfl rfl rfl rfl)
                (lrC (LR_off (b := false) rfl rfl rfl rfl)
                (lrC (LR_pick (b := false) (at_tmp 17 _) (at_tmp 25 _) (at_c (v' := Bl false) rfl) rfl)
                (lrC (LR_assign (at_tmp 26 _) rfl)
                lrN)))))))))))))
                (by kernel_rfl)
                (saC (sS (sT1 rfl) sB0 sF0) (saC (sS (sA (sT1 rfl) sT0) sB0 sF0) (saC (sS (sT1 rfl) sB0 sF0) (saC (sS (sT1 rfl) sB0 sF0) (saC (sS (sT1 rfl) sB0 sF0) (saC (sS (sT1 rfl) sB0 sF0) (saC (sS (sT1 rfl) sB0 sF0) (saC (sS (sT1 rfl) sB0 sF0) (saC (sS (sT1 rfl) sB0 sF0) (saC (sS (sT1 rfl) sB0 sF0) (saC (sS (sT1 rfl) sB0 sF0) (saC (sS (sA (sT1 rfl) (sA (sT1 rfl) sT0)) sB0 sF0) (saC (sS (sT1 rfl) sB0 sF0) saN))))))))))))) ?_
              exact thenN (cutLeaf (v := false) hr (weak0 ((sT rfl sT0)) (sub_drop sub_nil)))
            · have hr := hr.trans (cond_t hb7)
              rcases bool_em ((a1_0 == F14.1) && (a1_1 == F14.2)) with hb8 | hb8
              · have hr := hr.trans (cond_f hb8)
                refine AW_draw mixed
                  (lrC (LR_move (at_tmp 2 _) rfl)
                  (lrC (LR_asB (LR_call Hfaa.func58 rfl rfl (C58 a2 _ rfl) (all_cons (at_tmp 15 _) all_nil) rfl) hb7)
                  (lrC (LR_move (at_tmp 16 _) rfl)
                  (lrC (LR_on rfl rfl rfl (LR_loads (at_tmp 4 _) ag23 sz23 rfl rfl rfl))
                  (lrC (LR_on rfl rfl rfl (LR_call Hfaa.func14 rfl rfl (C14 _ rfl) all_nil rfl))
                  (lrC (LR_on rfl rfl rfl (LR_asB (LR_binA (at_tmp 18 _) (at_tmp 19 _) (eqlA23 a1_0 a1_1 F14.1 F14.2) rfl) hb8))
                  (lrC (LR_on rfl rfl rfl (LR_move (at_tmp 20 _) rfl))
                  (lrC (LR_on rfl rfl rfl (LR_loads (at_tmp 4 _) ag23 sz23 rfl rfl rfl))
                  (lrC (LR_on rfl rfl rfl (LR_call Hfaa.func13 rfl rfl (C13 _ rfl) all_nil rfl))
                  (lrC (LR_on rfl rfl rfl (LR_binA (at_tmp 22 _) (at_tmp 23 _) (eqlA23 a1_0 a1_1 F13.1 F13.2) rfl))
                  (lrC (LR_on rfl rfl rfl (LR_pick (b := false) (at_tmp 21 _) (at_c (v' := Bl true) rfl) (at_tmp 24 _) rfl))
                  (lrC (LR_pick (b := true) (at_tmp 17 _) (at_tmp 25 _) (at_c (v' := Bl false) rfl) rfl)
                  (lrC (LR_assign (at_tmp 26 _) rfl)
                  lrN)))))))))))))
                  (by kernel_rfl)
                  (saC (sS (sT1 rfl) sB0 sF0) (saC (sS (sA (sT1 rfl) sT0) sB0 sF0) (saC (sS (sT1 rfl) sB0 sF0) (saC (sS (sT rfl (sT1 rfl)) (sB1 rfl) sF0) (saC (sS (sT rfl sT0) sB0 sF0) (saC (sS (sT rfl (sA (sT1 rfl) (sT1 rfl))) sB0 sF0) (saC (sS (sT rfl (sT1 rfl)) sB0 sF0) (saC (sS (sT rfl (sT1 rfl)) (sB1 rfl) sF0) (saC (sS (sT rfl sT0) sB0 sF0) (saC (sS (sT rfl (sA (sT1 rfl) (sT1 rfl))) sB0 sF0) (saC (sS (sT rfl (sA (sT1 rfl) (sA sT0 (sT1 rfl)))) sB0 sF0) (saC (sS (sA (sT1 rfl) (sA (sT1 rfl) sT0)) sB0 sF0) (saC (sS (sT1 rfl) sB0 sF0) saN))))))))))))) ?_
                exact thenN (cutLeaf (v := (a1_0 == F13.1) && (a1_1 == F13.2)) hr (weak0 ((sT rfl sT0)) (sub_drop sub_nil)))
              · have hr := hr.trans (cond_t hb8)
                refine AW_draw mixed
                  (lrC (LR_move (at_tmp 2 _) rfl)
                  (lrC (LR_asB (LR_call Hfaa.func58 rfl rfl (C58 a2 _ rfl) (all_cons (at_tmp 15 _) all_nil) rfl) hb7)
                  (lrC (LR_move (at_tmp 16 _) rfl)
                  (lrC (LR_on rfl rfl rfl (LR_loads (at_tmp 4 _) ag23 sz23 rfl rfl rfl))
                  (lrC (LR_on rfl rfl rfl (LR_call Hfaa.func14 rfl rfl (C14 _ rfl) all_nil rfl))
                  (lrC (LR_on rfl rfl rfl (LR_asB (LR_binA (at_tmp 18 _) (at_tmp 19 _) (eqlA23 a1_0 a1_1 F14.1 F14.2) rfl) hb8))
                  (lrC (LR_on rfl rfl rfl (LR_move (at_tmp 20 _) rfl))
                  (lrC (LR_off (b := true) rfl rfl rfl rfl)
                  (lrC (LR_off (b := true) rfl rfl rfl rfl)
                  (lrC (LR_off (b := true) rfl rfl rfl rfl)
                  (lrC (LR_on rfl rfl rfl (LR_pick (b := true) (at_tmp 21 _) (at_c (v' := Bl true) rfl) (at_tmp 24 _) rfl))
                  (lrC (LR_pick (b := true) (at_tmp 17 _) (at_tmp 25 _) (at_c (v' := Bl false) rfl) rfl)
                  (lrC (LR_assign (at_tmp 26 _) rfl)
                  lrN)))))))))))))
                  (by kernel_rfl)
                  (saC (sS (sT1 rfl) sB0 sF0) (saC (sS (sA (sT1 rfl) sT0) sB0 sF0) (saC (sS (sT1 rfl) sB0 sF0) (saC (sS (sT rfl (sT1 rfl)) (sB1 rfl) sF0) (saC (sS (sT rfl sT0) sB0 sF0) (saC (sS (sT rfl (sA (sT1 rfl) (sT1 rfl))) sB0 sF0) (saC (sS (sT rfl (sT1 rfl)) sB0 sF0) (saC (sS (sT1 rfl) sB0 sF0) (saC (sS (sT1 rfl) sB0 sF0) (saC (sS (sT1 rfl) sB0 sF0) (saC (sS (sT rfl (sA (sT1 rfl) (sA sT0 (sT1 rfl)))) sB0 sF0) (saC (sS (sA (sT1 rfl) (sA (sT1 rfl) sT0)) sB0 sF0) (saC (sS (sT1 rfl) sB0 sF0) saN))))))))))))) ?_
                exact thenN (cutLeaf (v := true) hr (weak0 ((sT rfl sT0)) (sub_drop sub_nil)))
          · rintro x3 hr
            show AW Hfaa.prog _ _ _ ⟨[(6, .inl (is (Bl x3)))], []⟩
            have hr : r = F31_3 x3 := hr
            refine AW_ret ?_
            refine blR ?_
            refine thenR ?_
            subst hr
            exact res1 rfl (rvT rfl)
        · have hr := hr.trans (cond_f h)
          clear h
          refine AW_skip ?_
          refine blN ?_
          refine thenN ?_
          refine AW_seq1 ?_
          refine AW_region ?_
          refine AL_cons (LR_assign (at_c (v' := Bl false) rfl) rfl) (sS sT0 sB0 sF0) ?_
          refine AL_nil ?_
          refine thenN ?_
          refine AW_ret ?_
          subst hr
          exact res1 rfl (rvT rfl)
/-- law.unflagged -/
def F32_2 (N : Nat) (x2 : NS (Opv)) : Option (NS (Opv)) := some x2
def F32_6 (N : Nat) (a0 : NS (Opv)) (x3 : Int) (x5 : NS (Opv)) : Option ((Int × NS (Opv)) ⊕ (NS (Opv))) := some (.inl ((w64 (x3 + 1), x5)))
def F32_8 (N : Nat) (a0 : NS (Opv)) (x3 : Int) (x4 : NS (Opv)) (x7 : Bool) : Option ((Int × NS (Opv)) ⊕ (NS (Opv))) := bif x7 then bif (decide (0 ≤ x3) && decide (x3 < (a0.2.1 : Int))) then bif decide (x4.2.1 < 4294967296) then F32_6 N a0 x3 (app x4 (((a0.2.2 x3.toNat).1, (a0.2.2 x3.toNat).2.1, (a0.2.2 x3.toNat).2.2.1, (a0.2.2 x3.toNat).2.2.2.1, (a0.2.2 x3.toNat).2.2.2.2.1, (a0.2.2 x3.toNat).2.2.2.2.2))) else none else none else F32_6 N a0 x3 x4
def F32_7 (N : Nat) (a0 : NS (Opv)) (x3 : Int) (x4 : NS (Opv)) (x6 : BitVec 8) : Option ((Int × NS (Opv)) ⊕ (NS (Opv))) := F32_8 N a0 x3 x4 (((((x6 != (22#8)) && (x6 != (28#8))) && (x6 != (29#8))) && (x6 != (30#8))) && (x6 != (33#8)))
def F32_5 (N : Nat) (a0 : NS (Opv)) (x3 : Int) (x4 : NS (Opv)) : Option ((Int × NS (Opv)) ⊕ (NS (Opv))) := bif (decide (0 ≤ x3) && decide (x3 < (a0.2.1 : Int))) then F32_7 N a0 x3 x4 ((a0.2.2 x3.toNat).1) else none
def F32_9 (N : Nat) (a0 : NS (Opv)) (x3 : Int) (x4 : NS (Opv)) (x8 : Bool) : Option ((Int × NS (Opv)) ⊕ (NS (Opv))) := bif x8 then F32_5 N a0 x3 x4 else (F32_2 N x4).map Sum.inr
def F32_L4b (N : Nat) (a0 : NS (Opv)) (x3 : Int) (x4 : NS (Opv)) : Option ((Int × NS (Opv)) ⊕ (NS (Opv))) := F32_9 N a0 x3 x4 ((decide (x3 < (a0.2.1 : Int))) && (decide (x3 < 256)))
def F32_L4 (N : Nat) (a0 : NS (Opv)) : (Int × NS (Opv)) → Option ((Int × NS (Opv)) ⊕ (NS (Opv))) := fun v => F32_L4b N a0 v.1 v.2
def F32_3 (N : Nat) (a0 : NS (Opv)) (x1 : NS (Opv)) : Option (NS (Opv)) := iterL (F32_L4 N a0) N (0, x1)
def F32_1 (N : Nat) (a0 : NS (Opv)) (x1 : NS (Opv)) : Option (NS (Opv)) := F32_3 N a0 x1
def F32 (N : Nat) (a0 : NS (Opv)) : Option (NS (Opv)) := F32_1 N a0 ((true, 0, fun _ => (0#8, 0#8, 0#8, 0#8, 0#64, ([] : List UInt8))))
theorem C32 (N : Nat) (a0 : NS (Opv)) (r : NS (Opv)) (hr : some r = F32 N a0) : Aw.Fn Hfaa.prog 32 [nsl opK 6 a0] (nsl opK 6 r) := by
  refine fn_intro Hfaa.func32 rfl rfl rfl ?_
  intro bn0 w0 H0
  refine AW_seq1 ?_
  refine AW_region ?_
  refine AL_cons (LR_assign (at_nsl0 (K := opK) (sz := 6) (fun _ => (0#8, 0#8, 0#8, 0#8, 0#64, ([] : List UInt8)))) rfl) (sS sT0 sB0 sF0) ?_
  refine AL_nil ?_
  refine thenN ?_
  refine AW_cut (σ := Value × NS (Opv)) (fun v => ⟨[(0, .inl (nsl opK 6 a0)), (3, .inl (is ( v.1)))], [(1001, rowc v.1 opK 6 v.2)]⟩) (fun v => isCell v.1 = true ∧ some r = F32_1 N a0 v.2) ?_ ?_
  · skip
    refine AW_region ?_
    refine AL_cons (LR_assign (at_c (v' := (Value.slice none 0 0)) rfl) rfl) (sS sT0 sB0 sF0) ?_
    refine AL_imp (imp_nilRow (r := 1001) (K := opK) (sz := 6) rfl (fun _ => (0#8, 0#8, 0#8, 0#8, 0#64, ([] : List UInt8)))) ?_
    refine AL_nil ?_
    exact thenN (cutLeaf (v := ((Value.slice none 0 0), (true, 0, fun _ => (0#8, 0#8, 0#8, 0#8, 0#64, ([] : List UInt8))))) ⟨rfl, hr⟩ (weak0 ((sT rfl (sT rfl sT0))) (sub_keep sub_nil)))
  · rintro ⟨sv1, x1⟩ ⟨hsv1, hr⟩
    show AW Hfaa.prog _ _ _ ⟨[(0, .inl (nsl opK 6 a0)), (3, .inl (is ( sv1)))], [(1001, rowc sv1 opK 6 x1)]⟩
    have hr : some r = F32_1 N a0 x1 := hr
    refine AW_cut (σ := Value × NS (Opv)) (fun v => ⟨[(3, .inl (is ( v.1)))], [(1001, rowc v.1 opK 6 v.2)]⟩) (fun v => isCell v.1 = true ∧ some r = F32_2 N v.2) ?_ ?_
    · skip
      refine AW_cut (σ := Value) (fun v => ⟨[(0, .inl (nsl opK 6 a0)), (3, .inl (is ( v))), (4, .inl (is (I64 0)))], [(1001, rowc v opK 6 x1)]⟩) (fun v => isCell v = true ∧ some r = F32_3 N a0 x1) ?_ ?_
      · skip
        refine AW_region ?_
        refine AL_cons (LR_assign (at_c (v' := I64 0) rfl) rfl) (sS sT0 sB0 sF0) ?_
        refine AL_nil ?_
        exact thenN (cutLeaf (v := sv1) ⟨hsv1, hr⟩ (weak0 ((sT rfl (sT rfl (sT rfl sT0)))) (sub_keep sub_nil)))
      · rintro sv3 ⟨hsv3, hr⟩
        show AW Hfaa.prog _ _ _ ⟨[(0, .inl (nsl opK 6 a0)), (3, .inl (is ( sv3))), (4, .inl (is (I64 0)))], [(1001, rowc sv3 opK 6 x1)]⟩
        have hr : some r = F32_3 N a0 x1 := hr
        refine AW_block ?_
        refine AW_iterV (σ := Int × NS (Opv)) (r := r) (v0 := sv3) (x0 := (0, x1)) (emb := fun sv v => ⟨[(0, .inl (nsl opK 6 a0)), (3, .inl (is ( sv))), (4, .inl (is (I64 v.1)))], [(1001, rowc sv opK 6 v.2)]⟩) hsv3 ?_ hr ?_
        · exact weak0 ((sT rfl (sT rfl (sT rfl sT0)))) (sub_keep sub_nil)
        rintro sv4 hsv4 ⟨x3, x4⟩ out2 hr
        show AW Hfaa.prog _ _ _ ⟨[(0, .inl (nsl opK 6 a0)), (3, .inl (is ( sv4))), (4, .inl (is (I64 x3)))], [(1001, rowc sv4 opK 6 x4)]⟩
        have hr : some out2 = F32_L4b N a0 x3 x4 := hr
        refine AW_cut (σ := Value) (fun v => ⟨[(0, .inl (nsl opK 6 a0)), (3, .inl (is ( v))), (4, .inl (is (I64 x3)))], [(1001, rowc v opK 6 x4)]⟩) (fun v => isCell v = true ∧ some out2 = F32_5 N a0 x3 x4) ?_ ?_
        · skip
          refine AW_cut (σ := Value × Bool) (fun v => ⟨[(0, .inl (nsl opK 6 a0)), (3, .inl (is ( v.1))), (4, .inl (is (I64 x3))), (13, .inl (is (Bl v.2)))], [(1001, rowc v.1 opK 6 x4)]⟩) (fun v => isCell v.1 = true ∧ some out2 = F32_9 N a0 x3 x4 v.2) ?_ ?_
          · skip
            refine AW_region ?_
            refine AL_cons (LR_move (at_tmp 4 _) rfl) (sS (sT1 rfl) sB0 sF0) ?_
            refine AL_cons (LR_move (at_tmp 0 _) rfl) (sS (sT1 rfl) sB0 sF0) ?_
            refine AL_cons (LR_bi1 (at_tmp 7 _) (len_nsl Hfaa.underlying25 a0) rfl) (sS (sT1 rfl) sB0 sF0) ?_
            refine AL_cons (LR_bin (at_tmp 6 _) (at_tmp 8 _) (lss_I64 x3 (a0.2.1 : Int)) rfl) (sS (sA (sT1 rfl) (sT1 rfl)) sB0 sF0) ?_
            refine AL_cons (LR_move (at_tmp 9 _) rfl) (sS (sT1 rfl) sB0 sF0) ?_
            refine AL_cutAt 3 ⟨[(0, .inl (nsl opK 6 a0)), (3, .inl (is ( sv4))), (4, .inl (is (I64 x3))), (6, .inl (is (I64 x3))), (7, .inl (nsl opK 6 a0)), (8, .inl (is (I64 (a0.2.1 : Int)))), (9, .inl (is (Bl (decide (x3 < (a0.2.1 : Int)))))), (10, .inl (is (Bl (decide (x3 < (a0.2.1 : Int)))))), (13, .inl (is (Bl ((decide (x3 < (a0.2.1 : Int))) && (decide (x3 < 256))))))], [(1001, rowc sv4 opK 6 x4)]⟩ ?_ ?_
            · cases hb : decide (x3 < (a0.2.1 : Int))
              · skip
                refine AL_cons (LR_off (b := false) rfl rfl rfl rfl) (sS (sT1 rfl) sB0 sF0) ?_
                refine AL_cons (LR_off (b := false) rfl rfl rfl rfl) (sS (sT1 rfl) sB0 sF0) ?_
                refine AL_cons (LR_pick (b := false) (at_tmp 10 _) (at_tmp 12 _) (at_c (v' := Bl false) rfl) rfl) (sS (sA (sT1 rfl) (sA (sT1 rfl) sT0)) sB0 sF0) ?_
                exact AL_nil ⟨rfl, weak0 ((sT rfl (sT rfl (sT rfl (sT rfl (sT rfl (sT rfl (sT rfl (sT rfl (sT rfl sT0)))))))))) (sub_keep sub_nil)⟩
              · skip
                refine AL_cons (LR_on rfl rfl rfl (LR_move (at_tmp 4 _) rfl)) (sS (sT rfl (sT1 rfl)) sB0 sF0) ?_
                refine AL_cons (LR_on rfl rfl rfl (LR_bin (at_tmp 11 _) (at_c (v' := I64 256) rfl) (lss_I64 x3 256) rfl)) (sS (sT rfl (sA (sT1 rfl) sT0)) sB0 sF0) ?_
                refine AL_cons (LR_pick (b := true) (at_tmp 10 _) (at_tmp 12 _) (at_c (v' := Bl false) rfl) rfl) (sS (sA (sT1 rfl) (sA (sT1 rfl) sT0)) sB0 sF0) ?_
                exact AL_nil ⟨rfl, weak0 ((sT rfl (sT rfl (sT rfl (sT rfl (sT rfl (sT rfl (sT rfl (sT rfl (sT rfl sT0)))))))))) (sub_keep sub_nil)⟩
            refine AL_nil ?_
            exact thenN (cutLeaf (v := (sv4, (decide (x3 < (a0.2.1 : Int))) && (decide (x3 < 256)))) ⟨hsv4, hr⟩ (weak0 ((sT rfl (sT rfl (sT rfl (sT rfl sT0))))) (sub_keep sub_nil)))
          · rintro ⟨sv10, x8⟩ ⟨hsv10, hr⟩
            show AW Hfaa.prog _ _ _ ⟨[(0, .inl (nsl opK 6 a0)), (3, .inl (is ( sv10))), (4, .inl (is (I64 x3))), (13, .inl (is (Bl x8)))], [(1001, rowc sv10 opK 6 x4)]⟩
            have hr : some out2 = F32_9 N a0 x3 x4 x8 := hr
            refine AW_condT (b := x8) rfl (fun h => ?_) (fun h => ?_)
            · have hr := hr.trans (cond_t h)
              clear h
              refine AW_skip ?_
              exact thenN (cutLeaf (v := sv10) ⟨hsv10, hr⟩ (weak0 ((sT rfl (sT rfl (sT rfl sT0)))) (sub_keep sub_nil)))
            · have hr := hr.trans (cond_f h)
              clear h
              refine AW_exit ?_
              refine thenX ?_
              obtain ⟨r', hro, hr⟩ := map_inr hr
              refine thenX (loopOut hro (fun he => ?_))
              rw [he] at hr
              refine blH ?_
              exact thenN (cutLeaf (v := (sv10, x4)) ⟨hsv10, hr⟩ (weak0 ((sT rfl sT0)) (sub_keep sub_nil)))
        · rintro sv5 ⟨hsv5, hr⟩
          show AW Hfaa.prog _ _ _ ⟨[(0, .inl (nsl opK 6 a0)), (3, .inl (is ( sv5))), (4, .inl (is (I64 x3)))], [(1001, rowc sv5 opK 6 x4)]⟩
          have hr : some out2 = F32_5 N a0 x3 x4 := hr
          refine AW_cut (σ := Value × NS (Opv)) (fun v => ⟨[(0, .inl (nsl opK 6 a0)), (3, .inl (is ( v.1))), (4, .inl (is (I64 x3)))], [(1001, rowc v.1 opK 6 v.2)]⟩) (fun v => isCell v.1 = true ∧ some out2 = F32_6 N a0 x3 v.2) ?_ ?_
          · skip
            refine AW_block ?_
            refine AW_cut (σ := Value × BitVec 8) (fun v => ⟨[(0, .inl (nsl opK 6 a0)), (3, .inl (is ( v.1))), (4, .inl (is (I64 x3))), (5, .inl (is (U8 v.2)))], [(1001, rowc v.1 opK 6 x4)]⟩) (fun v => isCell v.1 = true ∧ some out2 = F32_7 N a0 x3 x4 v.2) ?_ ?_
            · skip
              refine AW_region ?_
              refine AL_cons (LR_move (at_tmp 0 _) rfl) (sS (sT1 rfl) sB0 sF0) ?_
              refine AL_cons (LR_move (at_tmp 4 _) rfl) (sS (sT1 rfl) sB0 sF0) ?_
              obtain ⟨hg48, hr⟩ := guard_some hr
              refine AL_cons (LR_indexAddrL Hfaa.underlying25 sz96 (at_tmp 16 _) (at_tmp 17 _) (dand hg48) rfl) (sS (sA (sT1 rfl) (sT1 rfl)) sB0 sF0) ?_
              refine AL_cons (LR_fieldAddrL (off := 0) (at_tmp 18 _) fa96_0 rfl) (sS (sT1 rfl) sB0 sF0) ?_
              refine AL_cons (LR_loadL1 (at_tmp 19 _) rfl na5 rfl) (sS (sT1 rfl) sB0 sF0) ?_
              refine AL_cons (LR_assign (at_tmp 20 _) rfl) (sS (sT1 rfl) sB0 sF0) ?_
              refine AL_nil ?_
              exact thenN (cutLeaf (v := (sv5, (a0.2.2 x3.toNat).1)) ⟨hsv5, hr⟩ (weak0 ((sT rfl (sT rfl (sT rfl (sT rfl sT0))))) (sub_keep sub_nil)))
            · rintro ⟨sv7, x6⟩ ⟨hsv7, hr⟩
              show AW Hfaa.prog _ _ _ ⟨[(0, .inl (nsl opK 6 a0)), (3, .inl (is ( sv7))), (4, .inl (is (I64 x3))), (5, .inl (is (U8 x6)))], [(1001, rowc sv7 opK 6 x4)]⟩
              have hr : some out2 = F32_7 N a0 x3 x4 x6 := hr
              refine AW_cut (σ := Value × Bool) (fun v => ⟨[(0, .inl (nsl opK 6 a0)), (3, .inl (is ( v.1))), (4, .inl (is (I64 x3))), (38, .inl (is (Bl v.2)))], [(1001, rowc v.1 opK 6 x4)]⟩) (fun v => isCell v.1 = true ∧ some out2 = F32_8 N a0 x3 x4 v.2) ?_ ?_
              · skip
                refine AW_region ?_
                refine AL_cons (LR_move (at_tmp 5 _) rfl) (sS (sT1 rfl) sB0 sF0) ?_
                refine AL_cons (LR_bin (at_tmp 21 _) (at_c (v' := U8 (22#8)) rfl) (neq_U8 x6 (22#8)) rfl) (sS (sA (sT1 rfl) sT0) sB0 sF0) ?_
                refine AL_cons (LR_move (at_tmp 22 _) rfl) (sS (sT1 rfl) sB0 sF0) ?_
                refine AL_cutAt 3 ⟨[(0, .inl (nsl opK 6 a0)), (3, .inl (is ( sv7))), (4, .inl (is (I64 x3))), (5, .inl (is (U8 x6))), (21, .inl (is (U8 x6))), (22, .inl (is (Bl (x6 != (22#8))))), (23, .inl (is (Bl (x6 != (22#8))))), (26, .inl (is (Bl ((x6 != (22#8)) && (x6 != (28#8))))))], [(1001, rowc sv7 opK 6 x4)]⟩ ?_ ?_
                · cases hb : x6 != (22#8)
                  · skip
                    refine AL_cons (LR_off (b := false) rfl rfl rfl rfl) (sS (sT1 rfl) sB0 sF0) ?_
                    refine AL_cons (LR_off (b := false) rfl rfl rfl rfl) (sS (sT1 rfl) sB0 sF0) ?_
                    refine AL_cons (LR_pick (b := false) (at_tmp 23 _) (at_tmp 25 _) (at_c (v' := Bl false) rfl) rfl) (sS (sA (sT1 rfl) (sA (sT1 rfl) sT0)) sB0 sF0) ?_
                    exact AL_nil ⟨rfl, weak0 ((sT rfl (sT rfl (sT rfl (sT rfl (sT rfl (sT rfl (sT rfl (sT rfl sT0))))))))) (sub_keep sub_nil)⟩
                  · skip
                    refine AL_cons (LR_on rfl rfl rfl (LR_move (at_tmp 5 _) rfl)) (sS (sT rfl (sT1 rfl)) sB0 sF0) ?_
                    refine AL_cons (LR_on rfl rfl rfl (LR_bin (at_tmp 24 _) (at_c (v' := U8 (28#8)) rfl) (neq_U8 x6 (28#8)) rfl)) (sS (sT rfl (sA (sT1 rfl) sT0)) sB0 sF0) ?_
                    refine AL_cons (LR_pick (b := true) (at_tmp 23 _) (at_tmp 25 _) (at_c (v' := Bl false) rfl) rfl) (sS (sA (sT1 rfl) (sA (sT1 rfl) sT0)) sB0 sF0) ?_
                    exact AL_nil ⟨rfl, weak0 ((sT rfl (sT rfl (sT rfl (sT rfl (sT rfl (sT rfl (sT rfl (sT rfl sT0))))))))) (sub_keep sub_nil)⟩
                refine AL_cons (LR_move (at_tmp 26 _) rfl) (sS (sT1 rfl) sB0 sF0) ?_
                refine AL_cutAt 3 ⟨[(0, .inl (nsl opK 6 a0)), (3, .inl (is ( sv7))), (4, .inl (is (I64 x3))), (5, .inl (is (U8 x6))), (21, .inl (is (U8 x6))), (22, .inl (is (Bl (x6 != (22#8))))), (23, .inl (is (Bl (x6 != (22#8))))), (26, .inl (is (Bl ((x6 != (22#8)) && (x6 != (28#8)))))), (27, .inl (is (Bl ((x6 != (22#8)) && (x6 != (28#8)))))), (30, .inl (is (Bl (((x6 != (22#8)) && (x6 != (28#8))) && (x6 != (29#8))))))], [(1001, rowc sv7 opK 6 x4)]⟩ ?_ ?_
                · cases hb : (x6 != (22#8)) && (x6 != (28#8))
                  · skip
                    refine AL_cons (LR_off (b := false) rfl rfl rfl rfl) (sS (sT1 rfl) sB0 sF0) ?_
                    refine AL_cons (LR_off (b := false) rfl rfl rfl rfl) (sS (sT1 rfl) sB0 sF0) ?_
                    refine AL_cons (LR_pick (b := false) (at_tmp 27 _) (at_tmp 29 _) (at_c (v' := Bl false) rfl) rfl) (sS (sA (sT1 rfl) (sA (sT1 rfl) sT0)) sB0 sF0) ?_
                    exact AL_nil ⟨rfl, weak0 ((sT rfl (sT rfl (sT rfl (sT rfl (sT rfl (sT rfl (sT rfl (sT rfl (sT rfl (sT rfl sT0))))))))))) (sub_keep sub_nil)⟩
                  · skip
                    refine AL_cons (LR_on rfl rfl rfl (LR_move (at_tmp 5 _) rfl)) (sS (sT rfl (sT1 rfl)) sB0 sF0) ?_
                    refine AL_cons (LR_on rfl rfl rfl (LR_bin (at_tmp 28 _) (at_c (v' := U8 (29#8)) rfl) (neq_U8 x6 (29#8)) rfl)) (sS (sT rfl (sA (sT1 rfl) sT0)) sB0 sF0) ?_
                    refine AL_cons (LR_pick (b := true) (at_tmp 27 _) (at_tmp 29 _) (at_c (v' := Bl false) rfl) rfl) (sS (sA (sT1 rfl) (sA (sT1 rfl) sT0)) sB0 sF0) ?_
                    exact AL_nil ⟨rfl, weak0 ((sT rfl (sT rfl (sT rfl (sT rfl (sT rfl (sT rfl (sT rfl (sT rfl (sT rfl (sT rfl sT0))))))))))) (sub_keep sub_nil)⟩
                refine AL_cons (LR_move (at_tmp 30 _) rfl) (sS (sT1 rfl) sB0 sF0) ?_
                refine AL_cutAt 3 ⟨[(0, .inl (nsl opK 6 a0)), (3, .inl (is ( sv7))), (4, .inl (is (I64 x3))), (5, .inl (is (U8 x6))), (21, .inl (is (U8 x6))), (22, .inl (is (Bl (x6 != (22#8))))), (23, .inl (is (Bl (x6 != (22#8))))), (26, .inl (is (Bl ((x6 != (22#8)) && (x6 != (28#8)))))), (27, .inl (is (Bl ((x6 != (22#8)) && (x6 != (28#8)))))), (30, .inl (is (Bl (((x6 != (22#8)) && (x6 != (28#8))) && (x6 != (29#8)))))), (31, .inl (is (Bl (((x6 != (22#8)) && (x6 != (28#8))) && (x6 != (29#8)))))), (34, .inl (is (Bl ((((x6 != (22#8)) && (x6 != (28#8))) && (x6 != (29#8))) && (x6 != (30#8))))))], [(1001, rowc sv7 opK 6 x4)]⟩ ?_ ?_
                · cases hb : ((x6 != (22#8)) && (x6 != (28#8))) && (x6 != (29#8))
                  · skip
                    refine AL_cons (LR_off (b := false) rfl rfl rfl rfl) (sS (sT1 rfl) sB0 sF0) ?_
                    refine AL_cons (LR_off (b := false) rfl rfl rfl rfl) (sS (sT1 rfl) sB0 sF0) ?_
                    refine AL_cons (LR_pick (b := false) (at_tmp 31 _) (at_tmp 33 _) (at_c (v' := Bl false) rfl) rfl) (sS (sA (sT1 rfl) (sA (sT1 rfl) sT0)) sB0 sF0) ?_
                    exact AL_nil ⟨rfl, weak0 ((sT rfl (sT rfl (sT rfl (sT rfl (sT rfl (sT rfl (sT rfl (sT rfl (sT rfl (sT rfl (sT rfl (sT rfl sT0))))))))))))) (sub_keep sub_nil)⟩
                  · skip
                    refine AL_cons (LR_on rfl rfl rfl (LR_move (at_tmp 5 _) rfl)) (sS (sT rfl (sT1 rfl)) sB0 sF0) ?_
                    refine AL_cons (LR_on rfl rfl rfl (LR_bin (at_tmp 32 _) (at_c (v' := U8 (30#8)) rfl) (neq_U8 x6 (30#8)) rfl)) (sS (sT rfl (sA (sT1 rfl) sT0)) sB0 sF0) ?_
                    refine AL_cons (LR_pick (b := true) (at_tmp 31 _) (at_tmp 33 _) (at_c (v' := Bl false) rfl) rfl) (sS (sA (sT1 rfl) (sA (sT1 rfl) sT0)) sB0 sF0) ?_
                    exact AL_nil ⟨rfl, weak0 ((sT rfl (sT rfl (sT rfl (sT rfl (sT rfl (sT rfl (sT rfl (sT rfl (sT rfl (sT rfl (sT rfl (sT rfl sT0))))))))))))) (sub_keep sub_nil)⟩
                refine AL_cons (LR_move (at_tmp 34 _) rfl) (sS (sT1 rfl) sB0 sF0) ?_
                refine AL_cutAt 3 ⟨[(0, .inl (nsl opK 6 a0)), (3, .inl (is ( sv7))), (4, .inl (is (I64 x3))), (5, .inl (is (U8 x6))), (21, .inl (is (U8 x6))), (22, .inl (is (Bl (x6 != (22#8))))), (23, .inl (is (Bl (x6 != (22#8))))), (26, .inl (is (Bl ((x6 != (22#8)) && (x6 != (28#8)))))), (27, .inl (is (Bl ((x6 != (22#8)) && (x6 != (28#8)))))), (30, .inl (is (Bl (((x6 != (22#8)) && (x6 != (28#8))) && (x6 != (29#8)))))), (31, .inl (is (Bl (((x6 != (22#8)) && (x6 != (28#8))) && (x6 != (29#8)))))), (34, .inl (is (Bl ((((x6 != (22#8)) && (x6 != (28#8))) && (x6 != (29#8))) && (x6 != (30#8)))))), (35, .inl (is (Bl ((((x6 != (22#8)) && (x6 != (28#8))) && (x6 != (29#8))) && (x6 != (30#8)))))), (38, .inl (is (Bl (((((x6 != (22#8)) && (x6 != (28#8))) && (x6 != (29#8))) && (x6 != (30#8))) && (x6 != (33#8))))))], [(1001, rowc sv7 opK 6 x4)]⟩ ?_ ?_
                · cases hb : (((x6 != (22#8)) && (x6 != (28#8))) && (x6 != (29#8))) && (x6 != (30#8))
                  · skip
                    refine AL_cons (LR_off (b := false) rfl rfl rfl rfl) (sS (sT1 rfl) sB0 sF0) ?_
                    refine AL_cons (LR_off (b := false) rfl rfl rfl rfl) (sS (sT1 rfl) sB0 sF0) ?_
                    refine AL_cons (LR_pick (b := false) (at_tmp 35 _) (at_tmp 37 _) (at_c (v' := Bl false) rfl) rfl) (sS (sA (sT1 rfl) (sA (sT1 rfl) sT0)) sB0 sF0) ?_
                    exact AL_nil ⟨rfl, weak0 ((sT rfl (sT rfl (sT rfl (sT rfl (sT rfl (sT rfl (sT rfl (sT rfl (sT rfl (sT rfl (sT rfl (sT rfl (sT rfl (sT rfl sT0))))))))))))))) (sub_keep sub_nil)⟩
                  · skip
                    refine AL_cons (LR_on rfl rfl rfl (LR_move (at_tmp 5 _) rfl)) (sS (sT rfl (sT1 rfl)) sB0 sF0) ?_
                    refine AL_cons (LR_on rfl rfl rfl (LR_bin (at_tmp 36 _) (at_c (v' := U8 (33#8)) rfl) (neq_U8 x6 (33#8)) rfl)) (sS (sT rfl (sA (sT1 rfl) sT0)) sB0 sF0) ?_
                    refine AL_cons (LR_pick (b := true) (at_tmp 35 _) (at_tmp 37 _) (at_c (v' := Bl false) rfl) rfl) (sS (sA (sT1 rfl) (sA (sT1 rfl) sT0)) sB0 sF0) ?_
                    exact AL_nil ⟨rfl, weak0 ((sT rfl (sT rfl (sT rfl (sT rfl (sT rfl (sT rfl (sT rfl (sT rfl (sT rfl (sT rfl (sT rfl (sT rfl (sT rfl (sT rfl sT0))))))))))))))) (sub_keep sub_nil)⟩
                refine AL_nil ?_
                exact thenN (cutLeaf (v := (sv7, ((((x6 != (22#8)) && (x6 != (28#8))) && (x6 != (29#8))) && (x6 != (30#8))) && (x6 != (33#8)))) ⟨hsv7, hr⟩ (weak0 ((sT rfl (sT rfl (sT rfl (sT rfl sT0))))) (sub_keep sub_nil)))
              · rintro ⟨sv8, x7⟩ ⟨hsv8, hr⟩
                show AW Hfaa.prog _ _ _ ⟨[(0, .inl (nsl opK 6 a0)), (3, .inl (is ( sv8))), (4, .inl (is (I64 x3))), (38, .inl (is (Bl x7)))], [(1001, rowc sv8 opK 6 x4)]⟩
                have hr : some out2 = F32_8 N a0 x3 x4 x7 := hr
                refine AW_condT (b := x7) rfl (fun h => ?_) (fun h => ?_)
                · have hr := hr.trans (cond_t h)
                  clear h
                  refine AW_region ?_
                  refine AL_cons (LR_move (at_tmp 3 _) rfl) (sS (sT1 rfl) sB0 sF0) ?_
                  refine AL_cons (LR_move (at_tmp 0 _) rfl) (sS (sT1 rfl) sB0 sF0) ?_
                  refine AL_cons (LR_move (at_tmp 4 _) rfl) (sS (sT1 rfl) sB0 sF0) ?_
                  obtain ⟨hg46, hr⟩ := guard_some hr
                  refine AL_cons (LR_indexAddrL Hfaa.underlying25 sz96 (at_tmp 40 _) (at_tmp 41 _) (dand hg46) rfl) (sS (sA (sT1 rfl) (sT1 rfl)) sB0 sF0) ?_
                  refine AL_cons (LR_loadsL (at_tmp 42 _) ag96 sz96 rfl rfl) (sS (sT1 rfl) sB0 sF0) ?_
                  refine AL_cons (LR_bsL (K := opK) (u := ((a0.2.2 x3.toNat).1, (a0.2.2 x3.toNat).2.1, (a0.2.2 x3.toNat).2.2.1, (a0.2.2 x3.toNat).2.2.2.1, (a0.2.2 x3.toNat).2.2.2.2.1, (a0.2.2 x3.toNat).2.2.2.2.2)) Hfaa.underlying25 eN96 opK_len rfl (at_tmp 43 _) rfl) (sS (sT1 rfl) sB0 sF0) ?_
                  obtain ⟨hg47, hr⟩ := guard_some hr
                  refine AL_consV (app_opk (K := opK) (r := 1001) (z := x4) (u := ((a0.2.2 x3.toNat).1, (a0.2.2 x3.toNat).2.1, (a0.2.2 x3.toNat).2.2.1, (a0.2.2 x3.toNat).2.2.2.1, (a0.2.2 x3.toNat).2.2.2.2.1, (a0.2.2 x3.toNat).2.2.2.2.2)) Hfaa.underlying25 eN96 opK_len opK_cell (at_tmp 39 _) (at_tmp 44 _) (oneAt_op rfl) (of_decide_eq_true hg47) rfl rfl) (sS (sA (sT1 rfl) (sT1 rfl)) (sB1 rfl) sF0) rfl ?_
                  intro sv9 hsv9
                  refine AL_cons (LR_assign (at_tmp 45 _) rfl) (sS (sT1 rfl) sB0 sF0) ?_
                  refine AL_nil ?_
                  refine blN ?_
                  exact thenN (cutLeaf (v := (sv9, app x4 (((a0.2.2 x3.toNat).1, (a0.2.2 x3.toNat).2.1, (a0.2.2 x3.toNat).2.2.1, (a0.2.2 x3.toNat).2.2.2.1, (a0.2.2 x3.toNat).2.2.2.2.1, (a0.2.2 x3.toNat).2.2.2.2.2)))) ⟨hsv9, hr⟩ (weak0 ((sT rfl (sT rfl (sT rfl sT0)))) (sub_keep sub_nil)))
                · have hr := hr.trans (cond_f h)
                  clear h
                  refine AW_skip ?_
                  refine blN ?_
                  exact thenN (cutLeaf (v := (sv8, x4)) ⟨hsv8, hr⟩ (weak0 ((sT rfl (sT rfl (sT rfl sT0)))) (sub_keep sub_nil)))
          · rintro ⟨sv6, x5⟩ ⟨hsv6, hr⟩
            show AW Hfaa.prog _ _ _ ⟨[(0, .inl (nsl opK 6 a0)), (3, .inl (is ( sv6))), (4, .inl (is (I64 x3)))], [(1001, rowc sv6 opK 6 x5)]⟩
            have hr : some out2 = F32_6 N a0 x3 x5 := hr
            refine AW_region ?_
            refine AL_cons (LR_move (at_tmp 4 _) rfl) (sS (sT1 rfl) sB0 sF0) ?_
            refine AL_cons (LR_bin (at_tmp 14 _) (at_c (v' := I64 1) rfl) (add_I64 x3 1) rfl) (sS (sA (sT1 rfl) sT0) sB0 sF0) ?_
            refine AL_cons (LR_assign (at_tmp 15 _) rfl) (sS (sT1 rfl) sB0 sF0) ?_
            refine AL_nil ?_
            exact thenN (loopNextV (v' := sv6) (x' := (w64 (x3 + 1), x5)) hsv6 hr (weak0 ((sT rfl (sT rfl (sT rfl sT0)))) (sub_keep sub_nil)))
    · rintro ⟨sv2, x2⟩ ⟨hsv2, hr⟩
      show AW Hfaa.prog _ _ _ ⟨[(3, .inl (is ( sv2)))], [(1001, rowc sv2 opK 6 x2)]⟩
      have hr : some r = F32_2 N x2 := hr
      refine AW_seq1 ?_
      refine AW_region ?_
      refine AL_cons (LR_move (at_tmp 3 _) rfl) (sS (sT1 rfl) sB0 sF0) ?_
      refine AL_cons (LR_assign (at_tmp 46 _) rfl) (sS (sT1 rfl) sB0 sF0) ?_
      refine AL_nil ?_
      refine thenN ?_
      refine AW_frzRow (fun H => (nsq opK 6 x2).p H sv2) 1001 ⟨[(3, .inl (nsl opK 6 x2)), (46, .inl (nsl opK 6 x2)), (2, .inl (nsl opK 6 x2))], []⟩ opK_len rfl (fun _ h => h) (cbD cb0) (ctC rfl (cv_sv (fun _ h => nsq_nsl h)) (ctC rfl (cv_sv (fun _ h => nsq_nsl h)) (ctC rfl (cv_sv (fun _ h => nsq_nsl h)) ct0))) ?_
      refine AW_ret ?_
      obtain rfl := Option.some.inj hr
      exact res1 rfl (rvT rfl)
end Go.Proofs.YfwaawGreat
