import Derived.Test.YfwaawGreatG1
import Derived.Test.YfwaawGreatG24
import Derived.Test.YfwaawGreatG34
import Derived.Test.YfwaawGreatG57
import Derived.Test.YfwaawGreatG66
namespace Go.Proofs.YfwaawGreat
open Go.Aw
set_option linter.unusedVariables false
set_option maxRecDepth 100000
set_option maxHeartbeats 1000000
/-- law.engineStep -/
def F118_3 (N : Nat) (a0 : Tab) (a2_0 : BitVec 8) (a2_1 : BitVec 8) (a3 : BitVec 8) (b4_0 : Nat → BitVec 64) (b4_1 : NS (List UInt8)) (a5_0 : BitVec 8) (a5_1 : BitVec 8) (a5_2 : BitVec 8) (a5_3 : BitVec 8) (a5_4 : BitVec 64) (a5_5 : List UInt8) (x3 : Bool) : Option ((Nat → BitVec 64) × NS (List UInt8)) := bif x3 then (F123 N a0 a2_0 a2_1 a3 b4_0 b4_1 a5_0 a5_1 a5_2 a5_3 a5_4 a5_5).bind fun y3 => some (y3.1, y3.2) else some (b4_0, b4_1)
def F118_2 (N : Nat) (a0 : Tab) (a1 : BitVec 8) (a2_0 : BitVec 8) (a2_1 : BitVec 8) (a3 : BitVec 8) (b4_0 : Nat → BitVec 64) (b4_1 : NS (List UInt8)) (a5_0 : BitVec 8) (a5_1 : BitVec 8) (a5_2 : BitVec 8) (a5_3 : BitVec 8) (a5_4 : BitVec 64) (a5_5 : List UInt8) (x2 : Bool) : Option ((Nat → BitVec 64) × NS (List UInt8)) := bif x2 then (F122 N a0 a2_0 a2_1 a3 b4_0 b4_1 a5_0 a5_1 a5_2 a5_3 a5_4 a5_5).bind fun y2 => some (y2.1, y2.2) else F118_3 N a0 a2_0 a2_1 a3 b4_0 b4_1 a5_0 a5_1 a5_2 a5_3 a5_4 a5_5 (a1 == (2#8))
def F118_1 (N : Nat) (a0 : Tab) (a1 : BitVec 8) (a2_0 : BitVec 8) (a2_1 : BitVec 8) (a3 : BitVec 8) (b4_0 : Nat → BitVec 64) (b4_1 : NS (List UInt8)) (a5_0 : BitVec 8) (a5_1 : BitVec 8) (a5_2 : BitVec 8) (a5_3 : BitVec 8) (a5_4 : BitVec 64) (a5_5 : List UInt8) (x1 : Bool) : Option ((Nat → BitVec 64) × NS (List UInt8)) := bif x1 then (F121 N a0 a2_0 a2_1 a3 b4_0 b4_1 a5_0 a5_1 a5_2 a5_3 a5_4 a5_5).bind fun y1 => some (y1.1, y1.2) else F118_2 N a0 a1 a2_0 a2_1 a3 b4_0 b4_1 a5_0 a5_1 a5_2 a5_3 a5_4 a5_5 (a1 == (1#8))
def F118 (N : Nat) (a0 : Tab) (a1 : BitVec 8) (a2_0 : BitVec 8) (a2_1 : BitVec 8) (a3 : BitVec 8) (b4_0 : Nat → BitVec 64) (b4_1 : NS (List UInt8)) (a5_0 : BitVec 8) (a5_1 : BitVec 8) (a5_2 : BitVec 8) (a5_3 : BitVec 8) (a5_4 : BitVec 64) (a5_5 : List UInt8) : Option ((Nat → BitVec 64) × NS (List UInt8)) := F118_1 N a0 a1 a2_0 a2_1 a3 b4_0 b4_1 a5_0 a5_1 a5_2 a5_3 a5_4 a5_5 (a1 == (0#8))
theorem C118 (N : Nat) (a0 : Tab) (a1 : BitVec 8) (a2_0 : BitVec 8) (a2_1 : BitVec 8) (a3 : BitVec 8) (b4_0 : Nat → BitVec 64) (b4_1 : NS (List UInt8)) (a5_0 : BitVec 8) (a5_1 : BitVec 8) (a5_2 : BitVec 8) (a5_3 : BitVec 8) (a5_4 : BitVec 64) (a5_5 : List UInt8) (r : (Nat → BitVec 64) × NS (List UInt8)) (hr : some r = F118 N a0 a1 a2_0 a2_1 a3 b4_0 b4_1 a5_0 a5_1 a5_2 a5_3 a5_4 a5_5) : FnB Hfaa.prog 118 [.inl (tabp a0), .inl (is (U8 a1)), .inl (agg [is (U8 a2_0), is (U8 a2_1)]), .inl (is (U8 a3)), .inr (.inl (4, 0)), .inl (agg [is (U8 a5_0), is (U8 a5_1), is (U8 a5_2), is (U8 a5_3), is (U64 a5_4), is (Sv a5_5)])] [(4, gc 90 (ar U64 8 b4_0 ++ []) ([]) (k1 Sv) 1 b4_1)] (tup []) [(4, gc 90 (ar U64 8 r.1 ++ []) ([]) (k1 Sv) 1 r.2)] := by
  refine fnB_intro Hfaa.func118 rfl rfl rfl rfl rfl ⟨hf_gc _ _ _ _ _ _, trivial⟩ ?_
  intro bn0 w0 H0
  refine AW_seq1 ?_
  refine AW_region ?_
  refine AL_cons (LR_box (at_tmp 2 _) (cells_agg _) rfl) (sS (sT1 rfl) sB0 (sF1 rfl)) ?_
  refine AL_cons (LR_box (at_tmp 5 _) (cells_agg _) rfl) (sS (sT1 rfl) sB0 (sF1 rfl)) ?_
  refine AL_nil ?_
  refine thenN ?_
  refine AW_seq1 ?_
  refine AW_region ?_
  refine AL_cons (LR_move (at_tmp 1 _) rfl) (sS (sT1 rfl) sB0 sF0) ?_
  refine AL_nil ?_
  refine thenN ?_
  refine AW_block ?_
  refine AW_cut (σ := Bool) (fun v => ⟨[(0, .inl (tabp a0)), (3, .inl (is (U8 a3))), (4, .inr (.inl (4, 0))), (8, .inr (.inl (8, 0))), (11, .inr (.inl (11, 0))), (12, .inl (is (U8 a1))), (13, .inl (is (Bl v)))], [(4, gc 90 (ar U64 8 b4_0 ++ []) ([]) (k1 Sv) 1 b4_1), (8, pb 23 [is (U8 a2_0), is (U8 a2_1)]), (11, pb 96 [is (U8 a5_0), is (U8 a5_1), is (U8 a5_2), is (U8 a5_3), is (U64 a5_4), is (Sv a5_5)])]⟩) (fun v => some r = F118_1 N a0 a1 a2_0 a2_1 a3 b4_0 b4_1 a5_0 a5_1 a5_2 a5_3 a5_4 a5_5 v) ?_ ?_
  · skip
    refine AW_region ?_
    refine AL_cons (LR_bin (at_tmp 12 _) (at_c (v' := U8 (0#8)) rfl) (eql_U8 a1 (0#8)) rfl) (sS (sA (sT1 rfl) sT0) sB0 sF0) ?_
    refine AL_cons (LR_assign (at_tmp 14 _) rfl) (sS (sT1 rfl) sB0 sF0) ?_
    refine AL_nil ?_
    exact thenN (cutLeaf (v := a1 == (0#8)) hr (weakB ((sT rfl (sT rfl (sT rfl (sT rfl (sT rfl (sT rfl (sT rfl sT0)))))))) (sub_keep (sub_keep (sub_keep sub_nil))) rfl))
  · rintro x1 hr
    show AW Hfaa.prog _ _ _ ⟨[(0, .inl (tabp a0)), (3, .inl (is (U8 a3))), (4, .inr (.inl (4, 0))), (8, .inr (.inl (8, 0))), (11, .inr (.inl (11, 0))), (12, .inl (is (U8 a1))), (13, .inl (is (Bl x1)))], [(4, gc 90 (ar U64 8 b4_0 ++ []) ([]) (k1 Sv) 1 b4_1), (8, pb 23 [is (U8 a2_0), is (U8 a2_1)]), (11, pb 96 [is (U8 a5_0), is (U8 a5_1), is (U8 a5_2), is (U8 a5_3), is (U64 a5_4), is (Sv a5_5)])]⟩
    have hr : some r = F118_1 N a0 a1 a2_0 a2_1 a3 b4_0 b4_1 a5_0 a5_1 a5_2 a5_3 a5_4 a5_5 x1 := hr
    refine AW_condT (b := x1) rfl (fun h => ?_) (fun h => ?_)
    · have hr := hr.trans (cond_t h)
      clear h
      refine AW_region ?_
      refine AL_cons (LR_move (at_tmp 0 _) rfl) (sS (sT1 rfl) sB0 sF0) ?_
      refine AL_cons (LR_loads (at_tmp 8 _) ag23 sz23 rfl rfl rfl) (sS (sT1 rfl) (sB1 rfl) sF0) ?_
      refine AL_cons (LR_move (at_tmp 3 _) rfl) (sS (sT1 rfl) sB0 sF0) ?_
      refine AL_cons (LR_move (at_tmp 4 _) rfl) (sS (sT1 rfl) sB0 sF0) ?_
      refine AL_cons (LR_loads (at_tmp 11 _) ag96 sz96 rfl rfl rfl) (sS (sT1 rfl) (sB1 rfl) sF0) ?_
      obtain ⟨y1, hy1, hr⟩ := bind_some hr
      refine AL_cons (LR_callB [(3, 4)] [(4, 3)] Hfaa.func121 rfl rfl (C121 N a0 a2_0 a2_1 a3 b4_0 b4_1 a5_0 a5_1 a5_2 a5_3 a5_4 a5_5 y1 hy1) (aTC (at_tmp 15 _) (aTC (at_tmp 16 _) (aTC (at_tmp 17 _) (aTC (at_tmp 18 _) (aTC (at_tmp 19 _) aT0))))) rfl rfl rfl rfl rfl) (sS (sA (sT1 rfl) (sA (sT1 rfl) (sA (sT1 rfl) (sA (sT1 rfl) (sA (sT1 rfl) sT0))))) (sB1 rfl) sF0) ?_
      refine AL_nil ?_
      refine blN ?_
      obtain rfl := Option.some.inj hr
      exact ⟨res0 rfl , (sub_keep (sub_drop (sub_drop sub_nil)))⟩
    · have hr := hr.trans (cond_f h)
      clear h
      refine AW_cut (σ := Bool) (fun v => ⟨[(0, .inl (tabp a0)), (3, .inl (is (U8 a3))), (4, .inr (.inl (4, 0))), (8, .inr (.inl (8, 0))), (11, .inr (.inl (11, 0))), (12, .inl (is (U8 a1))), (21, .inl (is (Bl v)))], [(4, gc 90 (ar U64 8 b4_0 ++ []) ([]) (k1 Sv) 1 b4_1), (8, pb 23 [is (U8 a2_0), is (U8 a2_1)]), (11, pb 96 [is (U8 a5_0), is (U8 a5_1), is (U8 a5_2), is (U8 a5_3), is (U64 a5_4), is (Sv a5_5)])]⟩) (fun v => some r = F118_2 N a0 a1 a2_0 a2_1 a3 b4_0 b4_1 a5_0 a5_1 a5_2 a5_3 a5_4 a5_5 v) ?_ ?_
      · skip
        refine AW_region ?_
        refine AL_cons (LR_bin (at_tmp 12 _) (at_c (v' := U8 (1#8)) rfl) (eql_U8 a1 (1#8)) rfl) (sS (sA (sT1 rfl) sT0) sB0 sF0) ?_
        refine AL_cons (LR_assign (at_tmp 22 _) rfl) (sS (sT1 rfl) sB0 sF0) ?_
        refine AL_nil ?_
        exact thenN (cutLeaf (v := a1 == (1#8)) hr (weakB ((sT rfl (sT rfl (sT rfl (sT rfl (sT rfl (sT rfl (sT rfl sT0)))))))) (sub_keep (sub_keep (sub_keep sub_nil))) rfl))
      · rintro x2 hr
        show AW Hfaa.prog _ _ _ ⟨[(0, .inl (tabp a0)), (3, .inl (is (U8 a3))), (4, .inr (.inl (4, 0))), (8, .inr (.inl (8, 0))), (11, .inr (.inl (11, 0))), (12, .inl (is (U8 a1))), (21, .inl (is (Bl x2)))], [(4, gc 90 (ar U64 8 b4_0 ++ []) ([]) (k1 Sv) 1 b4_1), (8, pb 23 [is (U8 a2_0), is (U8 a2_1)]), (11, pb 96 [is (U8 a5_0), is (U8 a5_1), is (U8 a5_2), is (U8 a5_3), is (U64 a5_4), is (Sv a5_5)])]⟩
        have hr : some r = F118_2 N a0 a1 a2_0 a2_1 a3 b4_0 b4_1 a5_0 a5_1 a5_2 a5_3 a5_4 a5_5 x2 := hr
        refine AW_condT (b := x2) rfl (fun h => ?_) (fun h => ?_)
        · have hr := hr.trans (cond_t h)
          clear h
          refine AW_region ?_
          refine AL_cons (LR_move (at_tmp 0 _) rfl) (sS (sT1 rfl) sB0 sF0) ?_
          refine AL_cons (LR_loads (at_tmp 8 _) ag23 sz23 rfl rfl rfl) (sS (sT1 rfl) (sB1 rfl) sF0) ?_
          refine AL_cons (LR_move (at_tmp 3 _) rfl) (sS (sT1 rfl) sB0 sF0) ?_
          refine AL_cons (LR_move (at_tmp 4 _) rfl) (sS (sT1 rfl) sB0 sF0) ?_
          refine AL_cons (LR_loads (at_tmp 11 _) ag96 sz96 rfl rfl rfl) (sS (sT1 rfl) (sB1 rfl) sF0) ?_
          obtain ⟨y2, hy2, hr⟩ := bind_some hr
          refine AL_cons (LR_callB [(3, 4)] [(4, 3)] Hfaa.func122 rfl rfl (C122 N a0 a2_0 a2_1 a3 b4_0 b4_1 a5_0 a5_1 a5_2 a5_3 a5_4 a5_5 y2 hy2) (aTC (at_tmp 23 _) (aTC (at_tmp 24 _) (aTC (at_tmp 25 _) (aTC (at_tmp 26 _) (aTC (at_tmp 27 _) aT0))))) rfl rfl rfl rfl rfl) (sS (sA (sT1 rfl) (sA (sT1 rfl) (sA (sT1 rfl) (sA (sT1 rfl) (sA (sT1 rfl) sT0))))) (sB1 rfl) sF0) ?_
          refine AL_nil ?_
          refine blN ?_
          obtain rfl := Option.some.inj hr
          exact ⟨res0 rfl , (sub_keep (sub_drop (sub_drop sub_nil)))⟩
        · have hr := hr.trans (cond_f h)
          clear h
          refine AW_cut (σ := Bool) (fun v => ⟨[(0, .inl (tabp a0)), (3, .inl (is (U8 a3))), (4, .inr (.inl (4, 0))), (8, .inr (.inl (8, 0))), (11, .inr (.inl (11, 0))), (29, .inl (is (Bl v)))], [(4, gc 90 (ar U64 8 b4_0 ++ []) ([]) (k1 Sv) 1 b4_1), (8, pb 23 [is (U8 a2_0), is (U8 a2_1)]), (11, pb 96 [is (U8 a5_0), is (U8 a5_1), is (U8 a5_2), is (U8 a5_3), is (U64 a5_4), is (Sv a5_5)])]⟩) (fun v => some r = F118_3 N a0 a2_0 a2_1 a3 b4_0 b4_1 a5_0 a5_1 a5_2 a5_3 a5_4 a5_5 v) ?_ ?_
          · skip
            refine AW_region ?_
            refine AL_cons (LR_bin (at_tmp 12 _) (at_c (v' := U8 (2#8)) rfl) (eql_U8 a1 (2#8)) rfl) (sS (sA (sT1 rfl) sT0) sB0 sF0) ?_
            refine AL_cons (LR_assign (at_tmp 30 _) rfl) (sS (sT1 rfl) sB0 sF0) ?_
            refine AL_nil ?_
            exact thenN (cutLeaf (v := a1 == (2#8)) hr (weakB ((sT rfl (sT rfl (sT rfl (sT rfl (sT rfl (sT rfl sT0))))))) (sub_keep (sub_keep (sub_keep sub_nil))) rfl))
          · rintro x3 hr
            show AW Hfaa.prog _ _ _ ⟨[(0, .inl (tabp a0)), (3, .inl (is (U8 a3))), (4, .inr (.inl (4, 0))), (8, .inr (.inl (8, 0))), (11, .inr (.inl (11, 0))), (29, .inl (is (Bl x3)))], [(4, gc 90 (ar U64 8 b4_0 ++ []) ([]) (k1 Sv) 1 b4_1), (8, pb 23 [is (U8 a2_0), is (U8 a2_1)]), (11, pb 96 [is (U8 a5_0), is (U8 a5_1), is (U8 a5_2), is (U8 a5_3), is (U64 a5_4), is (Sv a5_5)])]⟩
            have hr : some r = F118_3 N a0 a2_0 a2_1 a3 b4_0 b4_1 a5_0 a5_1 a5_2 a5_3 a5_4 a5_5 x3 := hr
            refine AW_condT (b := x3) rfl (fun h => ?_) (fun h => ?_)
            · have hr := hr.trans (cond_t h)
              clear h
              refine AW_region ?_
              refine AL_cons (LR_move (at_tmp 0 _) rfl) (sS (sT1 rfl) sB0 sF0) ?_
              refine AL_cons (LR_loads (at_tmp 8 _) ag23 sz23 rfl rfl rfl) (sS (sT1 rfl) (sB1 rfl) sF0) ?_
              refine AL_cons (LR_move (at_tmp 3 _) rfl) (sS (sT1 rfl) sB0 sF0) ?_
              refine AL_cons (LR_move (at_tmp 4 _) rfl) (sS (sT1 rfl) sB0 sF0) ?_
              refine AL_cons (LR_loads (at_tmp 11 _) ag96 sz96 rfl rfl rfl) (sS (sT1 rfl) (sB1 rfl) sF0) ?_
              obtain ⟨y3, hy3, hr⟩ := bind_some hr
              refine AL_cons (LR_callB [(3, 4)] [(4, 3)] Hfaa.func123 rfl rfl (C123 N a0 a2_0 a2_1 a3 b4_0 b4_1 a5_0 a5_1 a5_2 a5_3 a5_4 a5_5 y3 hy3) (aTC (at_tmp 31 _) (aTC (at_tmp 32 _) (aTC (at_tmp 33 _) (aTC (at_tmp 34 _) (aTC (at_tmp 35 _) aT0))))) rfl rfl rfl rfl rfl) (sS (sA (sT1 rfl) (sA (sT1 rfl) (sA (sT1 rfl) (sA (sT1 rfl) (sA (sT1 rfl) sT0))))) (sB1 rfl) sF0) ?_
              refine AL_nil ?_
              refine blN ?_
              obtain rfl := Option.some.inj hr
              exact ⟨res0 rfl , (sub_keep (sub_drop (sub_drop sub_nil)))⟩
            · have hr := hr.trans (cond_f h)
              clear h
              refine AW_skip ?_
              refine blN ?_
              obtain rfl := Option.some.inj hr
              exact ⟨res0 rfl , (sub_keep (sub_drop (sub_drop sub_nil)))⟩
/-- law.foldFrom -/
def F53_3 (N : Nat) (x1 : Nat → BitVec 64) (x2 : NS (List UInt8)) (x4 : Nat → BitVec 64) (x5 : NS (List UInt8)) : Option ((Nat → BitVec 64) × NS (List UInt8)) := some (x4, x5)
def F53_6 (N : Nat) (a0 : Tab) (a1 : BitVec 8) (a2_0 : BitVec 8) (a2_1 : BitVec 8) (a3 : BitVec 8) (a5 : NS (Opv)) (x1 : Nat → BitVec 64) (x2 : NS (List UInt8)) (x6 : Int) (x10 : Nat → BitVec 64) (x11 : NS (List UInt8)) : Option ((Int × (Nat → BitVec 64) × NS (List UInt8)) ⊕ ((Nat → BitVec 64) × NS (List UInt8))) := some (.inl ((w64 (x6 + 1), x10, x11)))
def F53_5 (N : Nat) (a0 : Tab) (a1 : BitVec 8) (a2_0 : BitVec 8) (a2_1 : BitVec 8) (a3 : BitVec 8) (a5 : NS (Opv)) (x1 : Nat → BitVec 64) (x2 : NS (List UInt8)) (x6 : Int) (x7 : Nat → BitVec 64) (x8 : NS (List UInt8)) (x9 : Bool) : Option ((Int × (Nat → BitVec 64) × NS (List UInt8)) ⊕ ((Nat → BitVec 64) × NS (List UInt8))) := bif x9 then bif (decide (0 ≤ x6) && decide (x6 < (a5.2.1 : Int))) then (F118 N a0 a1 a2_0 a2_1 a3 x7 x8 ((a5.2.2 x6.toNat).1) ((a5.2.2 x6.toNat).2.1) ((a5.2.2 x6.toNat).2.2.1) ((a5.2.2 x6.toNat).2.2.2.1) ((a5.2.2 x6.toNat).2.2.2.2.1) ((a5.2.2 x6.toNat).2.2.2.2.2)).bind fun y12 => F53_6 N a0 a1 a2_0 a2_1 a3 a5 x1 x2 x6 y12.1 y12.2 else none else (F53_3 N x1 x2 x7 x8).map Sum.inr
def F53_L4b (N : Nat) (a0 : Tab) (a1 : BitVec 8) (a2_0 : BitVec 8) (a2_1 : BitVec 8) (a3 : BitVec 8) (a5 : NS (Opv)) (x1 : Nat → BitVec 64) (x2 : NS (List UInt8)) (x6 : Int) (x7 : Nat → BitVec 64) (x8 : NS (List UInt8)) : Option ((Int × (Nat → BitVec 64) × NS (List UInt8)) ⊕ ((Nat → BitVec 64) × NS (List UInt8))) := F53_5 N a0 a1 a2_0 a2_1 a3 a5 x1 x2 x6 x7 x8 ((decide (x6 < (a5.2.1 : Int))) && (decide (x6 < 256)))
def F53_L4 (N : Nat) (a0 : Tab) (a1 : BitVec 8) (a2_0 : BitVec 8) (a2_1 : BitVec 8) (a3 : BitVec 8) (a5 : NS (Opv)) (x1 : Nat → BitVec 64) (x2 : NS (List UInt8)) : (Int × (Nat → BitVec 64) × NS (List UInt8)) → Option ((Int × (Nat → BitVec 64) × NS (List UInt8)) ⊕ ((Nat → BitVec 64) × NS (List UInt8))) := fun v => F53_L4b N a0 a1 a2_0 a2_1 a3 a5 x1 x2 v.1 v.2.1 v.2.2
def F53_2 (N : Nat) (a0 : Tab) (a1 : BitVec 8) (a2_0 : BitVec 8) (a2_1 : BitVec 8) (a3 : BitVec 8) (a4_0 : Nat → BitVec 64) (a5 : NS (Opv)) (x1 : Nat → BitVec 64) (x2 : NS (List UInt8)) (x3 : NS (List UInt8)) : Option ((Nat → BitVec 64) × NS (List UInt8)) := iterL (F53_L4 N a0 a1 a2_0 a2_1 a3 a5 x1 x2) N (0, a4_0, x3)
def F53_1 (N : Nat) (a0 : Tab) (a1 : BitVec 8) (a2_0 : BitVec 8) (a2_1 : BitVec 8) (a3 : BitVec 8) (a4_0 : Nat → BitVec 64) (a5 : NS (Opv)) (x1 : Nat → BitVec 64) (x2 : NS (List UInt8)) : Option ((Nat → BitVec 64) × NS (List UInt8)) := F53_2 N a0 a1 a2_0 a2_1 a3 a4_0 a5 x1 x2 ((true, 0, fun _ => ([] : List UInt8)))
def F53 (N : Nat) (a0 : Tab) (a1 : BitVec 8) (a2_0 : BitVec 8) (a2_1 : BitVec 8) (a3 : BitVec 8) (a4_0 : Nat → BitVec 64) (a5 : NS (Opv)) : Option ((Nat → BitVec 64) × NS (List UInt8)) := F53_1 N a0 a1 a2_0 a2_1 a3 a4_0 a5 (fun _ => 0#64) ((true, 0, fun _ => ([] : List UInt8)))
theorem C53 (N : Nat) (a0 : Tab) (a1 : BitVec 8) (a2_0 : BitVec 8) (a2_1 : BitVec 8) (a3 : BitVec 8) (a4_0 : Nat → BitVec 64) (a5 : NS (Opv)) (r : (Nat → BitVec 64) × NS (List UInt8)) (hr : some r = F53 N a0 a1 a2_0 a2_1 a3 a4_0 a5) : Aw.Fn Hfaa.prog 53 [tabp a0, is (U8 a1), agg [is (U8 a2_0), is (U8 a2_1)], is (U8 a3), agg (ar U64 8 a4_0 ++ []), nsl opK 6 a5] (agg (ar U64 8 r.1 ++ (ns Sv r.2 :: []))) := by
  refine fn_intro Hfaa.func53 rfl rfl rfl ?_
  intro bn0 w0 H0
  refine AW_cut (σ := (Nat → BitVec 64) × NS (List UInt8)) (fun v => ⟨[(0, .inl (tabp a0)), (1, .inl (is (U8 a1))), (3, .inl (is (U8 a3))), (5, .inl (nsl opK 6 a5)), (8, .inr (.inl (8, 0))), (10, .inr (.inl (10, 0))), (12, .inr (.inl (12, 0)))], [(8, pb 23 [is (U8 a2_0), is (U8 a2_1)]), (10, pb 35 (ar U64 8 a4_0 ++ [])), (12, pb 90 (ar U64 8 v.1 ++ (ns Sv v.2 :: [])))]⟩) (fun v => some r = F53_1 N a0 a1 a2_0 a2_1 a3 a4_0 a5 v.1 v.2) ?_ ?_
  · skip
    refine AW_region ?_
    refine AL_cons (LR_box (at_tmp 2 _) (cells_agg _) rfl) (sS (sT1 rfl) sB0 (sF1 rfl)) ?_
    refine AL_cons (LR_box (at_tmp 4 _) (cells_agg _) rfl) (sS (sT1 rfl) sB0 (sF1 rfl)) ?_
    refine AL_cons (zl90 rfl) (sS sT0 sB0 (sF1 rfl)) ?_
    refine AL_nil ?_
    exact thenN (cutLeaf (v := (fun _ => 0#64, (true, 0, fun _ => ([] : List UInt8)))) hr (weak0 ((sT rfl (sT rfl (sT rfl (sT rfl (sT rfl (sT rfl (sT rfl sT0)))))))) (sub_keep (sub_keep (sub_keep sub_nil)))))
  · rintro ⟨x1, x2⟩ hr
    show AW Hfaa.prog _ _ _ ⟨[(0, .inl (tabp a0)), (1, .inl (is (U8 a1))), (3, .inl (is (U8 a3))), (5, .inl (nsl opK 6 a5)), (8, .inr (.inl (8, 0))), (10, .inr (.inl (10, 0))), (12, .inr (.inl (12, 0)))], [(8, pb 23 [is (U8 a2_0), is (U8 a2_1)]), (10, pb 35 (ar U64 8 a4_0 ++ [])), (12, pb 90 (ar U64 8 x1 ++ (ns Sv x2 :: [])))]⟩
    have hr : some r = F53_1 N a0 a1 a2_0 a2_1 a3 a4_0 a5 x1 x2 := hr
    refine AW_cut (σ := NS (List UInt8)) (fun v => ⟨[(0, .inl (tabp a0)), (1, .inl (is (U8 a1))), (3, .inl (is (U8 a3))), (5, .inl (nsl opK 6 a5)), (8, .inr (.inl (8, 0))), (12, .inr (.inl (12, 0))), (13, .inr (.inl (13, 0)))], [(8, pb 23 [is (U8 a2_0), is (U8 a2_1)]), (12, pb 90 (ar U64 8 x1 ++ (ns Sv x2 :: []))), (13, gc 90 (ar U64 8 a4_0 ++ []) ([]) (k1 Sv) 1 v)]⟩) (fun v => some r = F53_2 N a0 a1 a2_0 a2_1 a3 a4_0 a5 x1 x2 v) ?_ ?_
    · skip
      refine AW_region ?_
      refine AL_cons (LR_loads (at_tmp 10 _) ag35 sz35 (tkF (lnA ln0)) (bleLen (lnA ln0) rfl) rfl) (sS (sT1 rfl) (sB1 rfl) sF0) ?_
      refine AL_cons (LR_aggE (blA90 (parts_cons' (i := 0) (off := 0) (m := 8) (at_tmp 15 _) (cells_agg _) (lnA ln0) rfl rfl parts_nil) rfl rfl) (flC stArr fl0)) (sS (sA (sT1 rfl) sT0) sB0 sF0) ?_
      refine AL_cons (zl90 rfl) (sS sT0 sB0 (sF1 rfl)) ?_
      refine AL_cons (LR_storeA (at_tmp 13 _) (at_tmp 16 _) (cells_agg _) (ones_ar (fun _ => rfl) (onC (one_ns _) onN)) sz90 (lnA (lnC ln0)) (bleLen (lnA (lnC ln0)) rfl) (setSeg_full _ _ (lenEq (lnA (lnC ln0)) (lnA (lnC ln0))))) (sS (sA (sT1 rfl) (sT1 rfl)) (sB1 rfl) sF0) ?_
      refine AL_imp (imp_mkgc (k := 13) (K := (k1 Sv)) (sz := 1) (ar U64 8 a4_0 ++ []) ([]) rfl (by first | rfl | simp) (fun _ => ([] : List UInt8))) ?_
      refine AL_nil ?_
      exact thenN (cutLeaf (v := (true, 0, fun _ => ([] : List UInt8))) hr (weak0 ((sT rfl (sT rfl (sT rfl (sT rfl (sT rfl (sT rfl (sT rfl sT0)))))))) (sub_keep (sub_drop (sub_keep (sub_keep sub_nil))))))
    · rintro x3 hr
      show AW Hfaa.prog _ _ _ ⟨[(0, .inl (tabp a0)), (1, .inl (is (U8 a1))), (3, .inl (is (U8 a3))), (5, .inl (nsl opK 6 a5)), (8, .inr (.inl (8, 0))), (12, .inr (.inl (12, 0))), (13, .inr (.inl (13, 0)))], [(8, pb 23 [is (U8 a2_0), is (U8 a2_1)]), (12, pb 90 (ar U64 8 x1 ++ (ns Sv x2 :: []))), (13, gc 90 (ar U64 8 a4_0 ++ []) ([]) (k1 Sv) 1 x3)]⟩
      have hr : some r = F53_2 N a0 a1 a2_0 a2_1 a3 a4_0 a5 x1 x2 x3 := hr
      refine AW_cut (σ := (Nat → BitVec 64) × NS (List UInt8)) (fun v => ⟨[(12, .inr (.inl (12, 0))), (13, .inr (.inl (13, 0)))], [(12, pb 90 (ar U64 8 x1 ++ (ns Sv x2 :: []))), (13, gc 90 (ar U64 8 v.1 ++ []) ([]) (k1 Sv) 1 v.2)]⟩) (fun v => some r = F53_3 N x1 x2 v.1 v.2) ?_ ?_
      · skip
        refine AW_seq1 ?_
        refine AW_region ?_
        refine AL_cons (LR_assign (at_c (v' := I64 0) rfl) rfl) (sS sT0 sB0 sF0) ?_
        refine AL_nil ?_
        refine thenN ?_
        refine AW_block ?_
        refine AW_iterR (σ := Int × (Nat → BitVec 64) × NS (List UInt8)) (r := r) (x0 := (0, a4_0, x3)) (emb := fun v => ⟨[(0, .inl (tabp a0)), (1, .inl (is (U8 a1))), (3, .inl (is (U8 a3))), (5, .inl (nsl opK 6 a5)), (8, .inr (.inl (8, 0))), (12, .inr (.inl (12, 0))), (13, .inr (.inl (13, 0))), (14, .inl (is (I64 v.1)))], [(8, pb 23 [is (U8 a2_0), is (U8 a2_1)]), (12, pb 90 (ar U64 8 x1 ++ (ns Sv x2 :: []))), (13, gc 90 (ar U64 8 v.2.1 ++ []) ([]) (k1 Sv) 1 v.2.2)]⟩) ?_ hr ?_
        · exact weak0 ((sT rfl (sT rfl (sT rfl (sT rfl (sT rfl (sT rfl (sT rfl (sT rfl sT0))))))))) (sub_keep (sub_keep (sub_keep sub_nil)))
        rintro ⟨x6, x7, x8⟩ out2 hr
        show AW Hfaa.prog _ _ _ ⟨[(0, .inl (tabp a0)), (1, .inl (is (U8 a1))), (3, .inl (is (U8 a3))), (5, .inl (nsl opK 6 a5)), (8, .inr (.inl (8, 0))), (12, .inr (.inl (12, 0))), (13, .inr (.inl (13, 0))), (14, .inl (is (I64 x6)))], [(8, pb 23 [is (U8 a2_0), is (U8 a2_1)]), (12, pb 90 (ar U64 8 x1 ++ (ns Sv x2 :: []))), (13, gc 90 (ar U64 8 x7 ++ []) ([]) (k1 Sv) 1 x8)]⟩
        have hr : some out2 = F53_L4b N a0 a1 a2_0 a2_1 a3 a5 x1 x2 x6 x7 x8 := hr
        refine AW_seq1 ?_
        refine AW_cut (σ := Bool) (fun v => ⟨[(0, .inl (tabp a0)), (1, .inl (is (U8 a1))), (3, .inl (is (U8 a3))), (5, .inl (nsl opK 6 a5)), (8, .inr (.inl (8, 0))), (12, .inr (.inl (12, 0))), (13, .inr (.inl (13, 0))), (14, .inl (is (I64 x6))), (24, .inl (is (Bl v)))], [(8, pb 23 [is (U8 a2_0), is (U8 a2_1)]), (12, pb 90 (ar U64 8 x1 ++ (ns Sv x2 :: []))), (13, gc 90 (ar U64 8 x7 ++ []) ([]) (k1 Sv) 1 x8)]⟩) (fun v => some out2 = F53_5 N a0 a1 a2_0 a2_1 a3 a5 x1 x2 x6 x7 x8 v) ?_ ?_
        · skip
          refine AW_region ?_
          refine AL_cons (LR_move (at_tmp 14 _) rfl) (sS (sT1 rfl) sB0 sF0) ?_
          refine AL_cons (LR_move (at_tmp 5 _) rfl) (sS (sT1 rfl) sB0 sF0) ?_
          refine AL_cons (LR_bi1 (at_tmp 18 _) (len_nsl Hfaa.underlying25 a5) rfl) (sS (sT1 rfl) sB0 sF0) ?_
          refine AL_cons (LR_bin (at_tmp 17 _) (at_tmp 19 _) (lss_I64 x6 (a5.2.1 : Int)) rfl) (sS (sA (sT1 rfl) (sT1 rfl)) sB0 sF0) ?_
          refine AL_cons (LR_move (at_tmp 20 _) rfl) (sS (sT1 rfl) sB0 sF0) ?_
          refine AL_cutAt 3 ⟨[(0, .inl (tabp a0)), (1, .inl (is (U8 a1))), (3, .inl (is (U8 a3))), (5, .inl (nsl opK 6 a5)), (8, .inr (.inl (8, 0))), (12, .inr (.inl (12, 0))), (13, .inr (.inl (13, 0))), (14, .inl (is (I64 x6))), (17, .inl (is (I64 x6))), (18, .inl (nsl opK 6 a5)), (19, .inl (is (I64 (a5.2.1 : Int)))), (20, .inl (is (Bl (decide (x6 < (a5.2.1 : Int)))))), (21, .inl (is (Bl (decide (x6 < (a5.2.1 : Int)))))), (24, .inl (is (Bl ((decide (x6 < (a5.2.1 : Int))) && (decide (x6 < 256))))))], [(8, pb 23 [is (U8 a2_0), is (U8 a2_1)]), (12, pb 90 (ar U64 8 x1 ++ (ns Sv x2 :: []))), (13, gc 90 (ar U64 8 x7 ++ []) ([]) (k1 Sv) 1 x8)]⟩ ?_ ?_
          · cases hb : decide (x6 < (a5.2.1 : Int))
            · skip
              refine AL_cons (LR_off (b := false) rfl rfl rfl rfl) (sS (sT1 rfl) sB0 sF0) ?_
              refine AL_cons (LR_off (b := false) rfl rfl rfl rfl) (sS (sT1 rfl) sB0 sF0) ?_
              refine AL_cons (LR_pick (b := false) (at_tmp 21 _) (at_tmp 23 _) (at_c (v' := Bl false) rfl) rfl) (sS (sA (sT1 rfl) (sA (sT1 rfl) sT0)) sB0 sF0) ?_
              exact AL_nil ⟨rfl, weak0 ((sT rfl (sT rfl (sT rfl (sT rfl (sT rfl (sT rfl (sT rfl (sT rfl (sT rfl (sT rfl (sT rfl (sT rfl (sT rfl (sT rfl sT0))))))))))))))) (sub_keep (sub_keep (sub_keep sub_nil)))⟩
            · skip
              refine AL_cons (LR_on rfl rfl rfl (LR_move (at_tmp 14 _) rfl)) (sS (sT rfl (sT1 rfl)) sB0 sF0) ?_
              refine AL_cons (LR_on rfl rfl rfl (LR_bin (at_tmp 22 _) (at_c (v' := I64 256) rfl) (lss_I64 x6 256) rfl)) (sS (sT rfl (sA (sT1 rfl) sT0)) sB0 sF0) ?_
              refine AL_cons (LR_pick (b := true) (at_tmp 21 _) (at_tmp 23 _) (at_c (v' := Bl false) rfl) rfl) (sS (sA (sT1 rfl) (sA (sT1 rfl) sT0)) sB0 sF0) ?_
              exact AL_nil ⟨rfl, weak0 ((sT rfl (sT rfl (sT rfl (sT rfl (sT rfl (sT rfl (sT rfl (sT rfl (sT rfl (sT rfl (sT rfl (sT rfl (sT rfl (sT rfl sT0))))))))))))))) (sub_keep (sub_keep (sub_keep sub_nil)))⟩
          refine AL_nil ?_
          exact thenN (cutLeaf (v := (decide (x6 < (a5.2.1 : Int))) && (decide (x6 < 256))) hr (weak0 ((sT rfl (sT rfl (sT rfl (sT rfl (sT rfl (sT rfl (sT rfl (sT rfl (sT rfl sT0)))))))))) (sub_keep (sub_keep (sub_keep sub_nil)))))
        · rintro x9 hr
          show AW Hfaa.prog _ _ _ ⟨[(0, .inl (tabp a0)), (1, .inl (is (U8 a1))), (3, .inl (is (U8 a3))), (5, .inl (nsl opK 6 a5)), (8, .inr (.inl (8, 0))), (12, .inr (.inl (12, 0))), (13, .inr (.inl (13, 0))), (14, .inl (is (I64 x6))), (24, .inl (is (Bl x9)))], [(8, pb 23 [is (U8 a2_0), is (U8 a2_1)]), (12, pb 90 (ar U64 8 x1 ++ (ns Sv x2 :: []))), (13, gc 90 (ar U64 8 x7 ++ []) ([]) (k1 Sv) 1 x8)]⟩
          have hr : some out2 = F53_5 N a0 a1 a2_0 a2_1 a3 a5 x1 x2 x6 x7 x8 x9 := hr
          refine AW_condT (b := x9) rfl (fun h => ?_) (fun h => ?_)
          · have hr := hr.trans (cond_t h)
            clear h
            refine AW_skip ?_
            refine thenN ?_
            refine AW_cut (σ := (Nat → BitVec 64) × NS (List UInt8)) (fun v => ⟨[(0, .inl (tabp a0)), (1, .inl (is (U8 a1))), (3, .inl (is (U8 a3))), (5, .inl (nsl opK 6 a5)), (8, .inr (.inl (8, 0))), (12, .inr (.inl (12, 0))), (13, .inr (.inl (13, 0))), (14, .inl (is (I64 x6)))], [(8, pb 23 [is (U8 a2_0), is (U8 a2_1)]), (12, pb 90 (ar U64 8 x1 ++ (ns Sv x2 :: []))), (13, gc 90 (ar U64 8 v.1 ++ []) ([]) (k1 Sv) 1 v.2)]⟩) (fun v => some out2 = F53_6 N a0 a1 a2_0 a2_1 a3 a5 x1 x2 x6 v.1 v.2) ?_ ?_
            · skip
              refine AW_block ?_
              obtain ⟨hg12, hr⟩ := guard_some hr
              obtain ⟨y12, hy12, hr⟩ := bind_some hr
              refine AW_draw mixed
                (lrC (LR_move (at_tmp 0 _) rfl)
                (lrC (LR_move (at_tmp 1 _) rfl)
                (lrC (LR_loads (at_tmp 8 _) ag23 sz23 rfl rfl rfl)
                (lrC (LR_move (at_tmp 3 _) rfl)
                (lrC (LR_move (at_tmp 5 _) rfl)
                (lrC (LR_move (at_tmp 14 _) rfl)
                (lrC (LR_indexAddrL Hfaa.underlying25 sz96 (at_tmp 31 _) (at_tmp 32 _) (dand hg12) rfl)
                (lrC (LR_loadsL (at_tmp 33 _) ag96 sz96 rfl rfl)
                (lrC (LR_callB [(4, 13)] [(13, 4)] Hfaa.func118 rfl rfl (C118 N a0 a1 a2_0 a2_1 a3 x7 x8 ((a5.2.2 x6.toNat).1) ((a5.2.2 x6.toNat).2.1) ((a5.2.2 x6.toNat).2.2.1) ((a5.2.2 x6.toNat).2.2.2.1) ((a5.2.2 x6.toNat).2.2.2.2.1) ((a5.2.2 x6.toNat).2.2.2.2.2) y12 hy12) (aTC (at_tmp 27 _) (aTC (at_tmp 28 _) (aTC (at_tmp 29 _) (aTC (at_tmp 30 _) (aTC (at_tmp 13 _) (aTC (at_tmp 34 _) aT0)))))) rfl rfl rfl rfl rfl)
                lrN)))))))))
                (by kernel_rfl)
                (saC (sS (sT1 rfl) sB0 sF0) (saC (sS (sT1 rfl) sB0 sF0) (saC (sS (sT1 rfl) (sB1 rfl) sF0) (saC (sS (sT1 rfl) sB0 sF0) (saC (sS (sT1 rfl) sB0 sF0) (saC (sS (sT1 rfl) sB0 sF0) (saC (sS (sA (sT1 rfl) (sT1 rfl)) sB0 sF0) (saC (sS (sT1 rfl) sB0 sF0) (saC (sS (sA (sT1 rfl) (sA (sT1 rfl) (sA (sT1 rfl) (sA (sT1 rfl) (sA (sT1 rfl) (sA (sT1 rfl) sT0)))))) (sB1 rfl) sF0) saN))))))))) ?_
              refine blN ?_
              exact thenN (cutLeaf (v := (y12.1, y12.2)) hr (weak0 ((sT rfl (sT rfl (sT rfl (sT rfl (sT rfl (sT rfl (sT rfl (sT rfl sT0))))))))) (sub_keep (sub_keep (sub_keep sub_nil)))))
            · rintro ⟨x10, x11⟩ hr
              show AW Hfaa.prog _ _ _ ⟨[(0, .inl (tabp a0)), (1, .inl (is (U8 a1))), (3, .inl (is (U8 a3))), (5, .inl (nsl opK 6 a5)), (8, .inr (.inl (8, 0))), (12, .inr (.inl (12, 0))), (13, .inr (.inl (13, 0))), (14, .inl (is (I64 x6)))], [(8, pb 23 [is (U8 a2_0), is (U8 a2_1)]), (12, pb 90 (ar U64 8 x1 ++ (ns Sv x2 :: []))), (13, gc 90 (ar U64 8 x10 ++ []) ([]) (k1 Sv) 1 x11)]⟩
              have hr : some out2 = F53_6 N a0 a1 a2_0 a2_1 a3 a5 x1 x2 x6 x10 x11 := hr
              refine AW_region ?_
              refine AL_cons (LR_move (at_tmp 14 _) rfl) (sS (sT1 rfl) sB0 sF0) ?_
              refine AL_cons (LR_bin (at_tmp 25 _) (at_c (v' := I64 1) rfl) (add_I64 x6 1) rfl) (sS (sA (sT1 rfl) sT0) sB0 sF0) ?_
              refine AL_cons (LR_assign (at_tmp 26 _) rfl) (sS (sT1 rfl) sB0 sF0) ?_
              refine AL_nil ?_
              exact thenN (loopNext (x' := (w64 (x6 + 1), x10, x11)) hr (weak0 ((sT rfl (sT rfl (sT rfl (sT rfl (sT rfl (sT rfl (sT rfl (sT rfl sT0))))))))) (sub_keep (sub_keep (sub_keep sub_nil)))))
          · have hr := hr.trans (cond_f h)
            clear h
            refine AW_exit ?_
            refine thenX ?_
            obtain ⟨r', hro, hr⟩ := map_inr hr
            refine thenX (loopOut hro (fun he => ?_))
            rw [he] at hr
            refine blH ?_
            exact thenN (cutLeaf (v := (x7, x8)) hr (weak0 ((sT rfl (sT rfl sT0))) (sub_drop (sub_keep (sub_keep sub_nil)))))
      · rintro ⟨x4, x5⟩ hr
        show AW Hfaa.prog _ _ _ ⟨[(12, .inr (.inl (12, 0))), (13, .inr (.inl (13, 0)))], [(12, pb 90 (ar U64 8 x1 ++ (ns Sv x2 :: []))), (13, gc 90 (ar U64 8 x4 ++ []) ([]) (k1 Sv) 1 x5)]⟩
        have hr : some r = F53_3 N x1 x2 x4 x5 := hr
        refine AW_seq1 ?_
        refine AW_region ?_
        refine AL_opn 13 1001 (fun sv => (ar U64 8 x4 ++ (is ( sv) :: []))) rfl rfl (fun _ => by first | rfl | simp) ?_
        intro sv1 hsv1
        refine AL_frzRow (fun H => (nsq (k1 Sv) 1 x5).p H sv1) 1001 ⟨[(12, .inr (.inl (12, 0))), (13, .inr (.inl (13, 0)))], [(12, pb 90 (ar U64 8 x1 ++ (ns Sv x2 :: []))), (13, pb 90 (ar U64 8 x4 ++ (ns Sv x5 :: [])))]⟩ k1_len rfl (fun _ h => h) (cbK rfl (cbC rfl (cvl_app (cvl_cons (cv_sv (fun _ h => nsq_k1 h)) cvl_nil)) (cbD cb0))) (ctP rfl rfl (ctP rfl rfl ct0)) ?_
        refine AL_cons (LR_loads (at_tmp 13 _) ag90 sz90 (tkF (lnA (lnC ln0))) (bleLen (lnA (lnC ln0)) rfl) rfl) (sS (sT1 rfl) (sB1 rfl) sF0) ?_
        refine AL_cons (LR_storeA (at_tmp 12 _) (at_tmp 36 _) (cells_agg _) (ones_ar (fun _ => rfl) (onC (one_ns _) onN)) sz90 (lnA (lnC ln0)) (bleLen (lnA (lnC ln0)) rfl) (setSeg_full _ _ (lenEq (lnA (lnC ln0)) (lnA (lnC ln0))))) (sS (sA (sT1 rfl) (sT1 rfl)) (sB1 rfl) sF0) ?_
        refine AL_nil ?_
        refine thenN ?_
        refine AW_ret ?_
        obtain rfl := Option.some.inj hr
        exact res1 rfl (rvC rfl rfl ag90 sz90 (lnA (lnC ln0)))
/-- law.fold -/
def F54_1 (N : Nat) (a0 : Tab) (a1 : BitVec 8) (a2_0 : BitVec 8) (a2_1 : BitVec 8) (a3 : BitVec 8) (a4 : NS (Opv)) (x1 : Nat → BitVec 64) (x2 : NS (List UInt8)) : Option ((Nat → BitVec 64) × NS (List UInt8)) := (F53 N a0 a1 a2_0 a2_1 a3 (fun _ => 0#64) a4).bind fun y2 => some (y2.1, y2.2)
def F54 (N : Nat) (a0 : Tab) (a1 : BitVec 8) (a2_0 : BitVec 8) (a2_1 : BitVec 8) (a3 : BitVec 8) (a4 : NS (Opv)) : Option ((Nat → BitVec 64) × NS (List UInt8)) := F54_1 N a0 a1 a2_0 a2_1 a3 a4 (fun _ => 0#64) ((true, 0, fun _ => ([] : List UInt8)))
theorem C54 (N : Nat) (a0 : Tab) (a1 : BitVec 8) (a2_0 : BitVec 8) (a2_1 : BitVec 8) (a3 : BitVec 8) (a4 : NS (Opv)) (r : (Nat → BitVec 64) × NS (List UInt8)) (hr : some r = F54 N a0 a1 a2_0 a2_1 a3 a4) : Aw.Fn Hfaa.prog 54 [tabp a0, is (U8 a1), agg [is (U8 a2_0), is (U8 a2_1)], is (U8 a3), nsl opK 6 a4] (agg (ar U64 8 r.1 ++ (ns Sv r.2 :: []))) := by
  refine fn_intro Hfaa.func54 rfl rfl rfl ?_
  intro bn0 w0 H0
  refine AW_cut (σ := (Nat → BitVec 64) × NS (List UInt8)) (fun v => ⟨[(0, .inl (tabp a0)), (1, .inl (is (U8 a1))), (3, .inl (is (U8 a3))), (4, .inl (nsl opK 6 a4)), (7, .inr (.inl (7, 0))), (10, .inr (.inl (10, 0)))], [(7, pb 23 [is (U8 a2_0), is (U8 a2_1)]), (10, pb 90 (ar U64 8 v.1 ++ (ns Sv v.2 :: [])))]⟩) (fun v => some r = F54_1 N a0 a1 a2_0 a2_1 a3 a4 v.1 v.2) ?_ ?_
  · skip
    refine AW_region ?_
    refine AL_cons (LR_box (at_tmp 2 _) (cells_agg _) rfl) (sS (sT1 rfl) sB0 (sF1 rfl)) ?_
    refine AL_cons (zl90 rfl) (sS sT0 sB0 (sF1 rfl)) ?_
    refine AL_nil ?_
    exact thenN (cutLeaf (v := (fun _ => 0#64, (true, 0, fun _ => ([] : List UInt8)))) hr (weak0 ((sT rfl (sT rfl (sT rfl (sT rfl (sT rfl (sT rfl sT0))))))) (sub_keep (sub_keep sub_nil))))
  · rintro ⟨x1, x2⟩ hr
    show AW Hfaa.prog _ _ _ ⟨[(0, .inl (tabp a0)), (1, .inl (is (U8 a1))), (3, .inl (is (U8 a3))), (4, .inl (nsl opK 6 a4)), (7, .inr (.inl (7, 0))), (10, .inr (.inl (10, 0)))], [(7, pb 23 [is (U8 a2_0), is (U8 a2_1)]), (10, pb 90 (ar U64 8 x1 ++ (ns Sv x2 :: [])))]⟩
    have hr : some r = F54_1 N a0 a1 a2_0 a2_1 a3 a4 x1 x2 := hr
    refine AW_seq1 ?_
    refine AW_region ?_
    refine AL_cons (LR_move (at_tmp 0 _) rfl) (sS (sT1 rfl) sB0 sF0) ?_
    refine AL_cons (LR_move (at_tmp 1 _) rfl) (sS (sT1 rfl) sB0 sF0) ?_
    refine AL_cons (LR_loads (at_tmp 7 _) ag23 sz23 rfl rfl rfl) (sS (sT1 rfl) (sB1 rfl) sF0) ?_
    refine AL_cons (LR_move (at_tmp 3 _) rfl) (sS (sT1 rfl) sB0 sF0) ?_
    refine AL_cons (bz35 rfl) (sS sT0 sB0 sF0) ?_
    refine AL_cons (LR_move (at_tmp 4 _) rfl) (sS (sT1 rfl) sB0 sF0) ?_
    obtain ⟨y2, hy2, hr⟩ := bind_some hr
    refine AL_cons (LR_call Hfaa.func53 rfl rfl (C53 N a0 a1 a2_0 a2_1 a3 (fun _ => 0#64) a4 y2 hy2) (all_cons (at_tmp 11 _) (all_cons (at_tmp 12 _) (all_cons (at_tmp 13 _) (all_cons (at_tmp 14 _) (all_cons (at_tmp 15 _) (all_cons (at_tmp 16 _) all_nil)))))) rfl) (sS (sA (sT1 rfl) (sA (sT1 rfl) (sA (sT1 rfl) (sA (sT1 rfl) (sA (sT1 rfl) (sA (sT1 rfl) sT0)))))) sB0 sF0) ?_
    refine AL_cons (LR_storeA (at_tmp 10 _) (at_tmp 17 _) (cells_agg _) (ones_ar (fun _ => rfl) (onC (one_ns _) onN)) sz90 (lnA (lnC ln0)) (bleLen (lnA (lnC ln0)) rfl) (setSeg_full _ _ (lenEq (lnA (lnC ln0)) (lnA (lnC ln0))))) (sS (sA (sT1 rfl) (sT1 rfl)) (sB1 rfl) sF0) ?_
    refine AL_nil ?_
    refine thenN ?_
    refine AW_ret ?_
    obtain rfl := Option.some.inj hr
    exact res1 rfl (rvC rfl rfl ag90 sz90 (lnA (lnC ln0)))
/-- (calc/kit.Outcome).Equal -/
def F30_5 (N : Nat) (a0_0 : Bool) (a0_1 : Nat → BitVec 64) (a0_2 : NS (List UInt8)) (a1_0 : Bool) (a1_1 : Nat → BitVec 64) (a1_2 : NS (List UInt8)) (x2 : Int) (x3 : Int) (x5 : Bool) : Option ((Int) ⊕ (Bool)) := bif x5 then (some false).map Sum.inr else some (.inl (w64 (x3 + 1)))
def F30_4 (N : Nat) (a0_0 : Bool) (a0_1 : Nat → BitVec 64) (a0_2 : NS (List UInt8)) (a1_0 : Bool) (a1_1 : Nat → BitVec 64) (a1_2 : NS (List UInt8)) (x2 : Int) (x3 : Int) (x4 : Bool) : Option ((Int) ⊕ (Bool)) := bif x4 then bif (decide (0 ≤ x3) && decide (x3 < (a0_2.2.1 : Int))) then bif (decide (0 ≤ x3) && decide (x3 < (a1_2.2.1 : Int))) then F30_5 N a0_0 a0_1 a0_2 a1_0 a1_1 a1_2 x2 x3 ((a0_2.2.2 x3.toNat) != (a1_2.2.2 x3.toNat)) else none else none else (some true).map Sum.inr
def F30_L3b (N : Nat) (a0_0 : Bool) (a0_1 : Nat → BitVec 64) (a0_2 : NS (List UInt8)) (a1_0 : Bool) (a1_1 : Nat → BitVec 64) (a1_2 : NS (List UInt8)) (x2 : Int) (x3 : Int) : Option ((Int) ⊕ (Bool)) := F30_4 N a0_0 a0_1 a0_2 a1_0 a1_1 a1_2 x2 x3 (decide (x3 < x2))
def F30_L3 (N : Nat) (a0_0 : Bool) (a0_1 : Nat → BitVec 64) (a0_2 : NS (List UInt8)) (a1_0 : Bool) (a1_1 : Nat → BitVec 64) (a1_2 : NS (List UInt8)) (x2 : Int) : (Int) → Option ((Int) ⊕ (Bool)) := fun v => F30_L3b N a0_0 a0_1 a0_2 a1_0 a1_1 a1_2 x2 v
def F30_2 (N : Nat) (a0_0 : Bool) (a0_1 : Nat → BitVec 64) (a0_2 : NS (List UInt8)) (a1_0 : Bool) (a1_1 : Nat → BitVec 64) (a1_2 : NS (List UInt8)) (x2 : Int) : Option (Bool) := iterL (F30_L3 N a0_0 a0_1 a0_2 a1_0 a1_1 a1_2 x2) N 0
def F30_1 (N : Nat) (a0_0 : Bool) (a0_1 : Nat → BitVec 64) (a0_2 : NS (List UInt8)) (a1_0 : Bool) (a1_1 : Nat → BitVec 64) (a1_2 : NS (List UInt8)) (x1 : Bool) : Option (Bool) := bif x1 then some false else F30_2 N a0_0 a0_1 a0_2 a1_0 a1_1 a1_2 (a0_2.2.1 : Int)
def F30 (N : Nat) (a0_0 : Bool) (a0_1 : Nat → BitVec 64) (a0_2 : NS (List UInt8)) (a1_0 : Bool) (a1_1 : Nat → BitVec 64) (a1_2 : NS (List UInt8)) : Option (Bool) := F30_1 N a0_0 a0_1 a0_2 a1_0 a1_1 a1_2 (((a0_0 != a1_0) || (!(eq8 a0_1 a1_1))) || ((a0_2.2.1 : Int) != (a1_2.2.1 : Int)))
theorem C30 (N : Nat) (a0_0 : Bool) (a0_1 : Nat → BitVec 64) (a0_2 : NS (List UInt8)) (a1_0 : Bool) (a1_1 : Nat → BitVec 64) (a1_2 : NS (List UInt8)) (r : Bool) (hr : some r = F30 N a0_0 a0_1 a0_2 a1_0 a1_1 a1_2) : Aw.Fn Hfaa.prog 30 [agg (is (Bl a0_0) :: (ar U64 8 a0_1 ++ (ns Sv a0_2 :: []))), agg (is (Bl a1_0) :: (ar U64 8 a1_1 ++ (ns Sv a1_2 :: [])))] (is (Bl r)) := by
  refine fn_intro Hfaa.func30 rfl rfl rfl ?_
  intro bn0 w0 H0
  refine AW_seq1 ?_
  refine AW_region ?_
  refine AL_cons (LR_box (at_tmp 0 _) (cells_agg _) rfl) (sS (sT1 rfl) sB0 (sF1 rfl)) ?_
  refine AL_cons (LR_box (at_tmp 1 _) (cells_agg _) rfl) (sS (sT1 rfl) sB0 (sF1 rfl)) ?_
  refine AL_cons (LR_assign (at_c (v' := Bl false) rfl) rfl) (sS sT0 sB0 sF0) ?_
  refine AL_nil ?_
  refine thenN ?_
  refine AW_seq1 ?_
  refine AW_cut (σ := Bool) (fun v => ⟨[(2, .inr (.inl (2, 0))), (3, .inr (.inl (3, 0))), (26, .inl (is (Bl v)))], [(2, pb 59 (is (Bl a0_0) :: (ar U64 8 a0_1 ++ (ns Sv a0_2 :: [])))), (3, pb 59 (is (Bl a1_0) :: (ar U64 8 a1_1 ++ (ns Sv a1_2 :: []))))]⟩) (fun v => some r = F30_1 N a0_0 a0_1 a0_2 a1_0 a1_1 a1_2 v) ?_ ?_
  · skip
    refine AW_region ?_
    refine AL_cons (LR_fieldAddr (off := 0) (o := 0) (at_tmp 2 _) (fun b w => fa59_0 b 0 w) rfl) (sS (sT1 rfl) sB0 sF0) ?_
    refine AL_cons (LR_load (at_tmp 6 _) na4 g0 rfl) (sS (sT1 rfl) (sB1 rfl) sF0) ?_
    refine AL_cons (LR_fieldAddr (off := 0) (o := 0) (at_tmp 3 _) (fun b w => fa59_0 b 0 w) rfl) (sS (sT1 rfl) sB0 sF0) ?_
    refine AL_cons (LR_load (at_tmp 8 _) na4 g0 rfl) (sS (sT1 rfl) (sB1 rfl) sF0) ?_
    refine AL_cons (LR_bin (at_tmp 7 _) (at_tmp 9 _) (neq_Bl Hfaa.underlying4 a0_0 a1_0) rfl) (sS (sA (sT1 rfl) (sT1 rfl)) sB0 sF0) ?_
    refine AL_cons (LR_move (at_tmp 10 _) rfl) (sS (sT1 rfl) sB0 sF0) ?_
    refine AL_cutAt 6 ⟨[(0, .inl (agg (is (Bl a0_0) :: (ar U64 8 a0_1 ++ (ns Sv a0_2 :: []))))), (1, .inl (agg (is (Bl a1_0) :: (ar U64 8 a1_1 ++ (ns Sv a1_2 :: []))))), (2, .inr (.inl (2, 0))), (3, .inr (.inl (3, 0))), (4, .inl (is (Bl false))), (6, .inr (.inl (2, 0))), (7, .inl (is (Bl a0_0))), (8, .inr (.inl (3, 0))), (9, .inl (is (Bl a1_0))), (10, .inl (is (Bl (a0_0 != a1_0)))), (11, .inl (is (Bl (a0_0 != a1_0)))), (17, .inl (is (Bl ((a0_0 != a1_0) || (!(eq8 a0_1 a1_1))))))], [(2, pb 59 (is (Bl a0_0) :: (ar U64 8 a0_1 ++ (ns Sv a0_2 :: [])))), (3, pb 59 (is (Bl a1_0) :: (ar U64 8 a1_1 ++ (ns Sv a1_2 :: []))))]⟩ ?_ ?_
    · cases hb : a0_0 != a1_0
      · skip
        refine AL_cons (LR_on rfl rfl rfl (LR_fieldAddr (off := 0) (o := 1) (at_tmp 2 _) (fun b w => fa59_1 b 0 w) rfl)) (sS (sT rfl (sT1 rfl)) sB0 sF0) ?_
        refine AL_cons (LR_on rfl rfl rfl (LR_loads (at_tmp 12 _) ag35 sz35 (take_nil (tkS tkA)) (bleLen (lnC (lnA (lnC ln0))) rfl) rfl)) (sS (sT rfl (sT1 rfl)) (sB1 rfl) sF0) ?_
        refine AL_cons (LR_on rfl rfl rfl (LR_fieldAddr (off := 0) (o := 1) (at_tmp 3 _) (fun b w => fa59_1 b 0 w) rfl)) (sS (sT rfl (sT1 rfl)) sB0 sF0) ?_
        refine AL_cons (LR_on rfl rfl rfl (LR_loads (at_tmp 14 _) ag35 sz35 (take_nil (tkS tkA)) (bleLen (lnC (lnA (lnC ln0))) rfl) rfl)) (sS (sT rfl (sT1 rfl)) (sB1 rfl) sF0) ?_
        refine AL_cons (LR_on rfl rfl rfl (LR_binA (at_tmp 13 _) (at_tmp 15 _) (neqA35 a0_1 a1_1) rfl)) (sS (sT rfl (sA (sT1 rfl) (sT1 rfl))) sB0 sF0) ?_
        refine AL_cons (LR_pick (b := false) (at_tmp 11 _) (at_c (v' := Bl true) rfl) (at_tmp 16 _) rfl) (sS (sA (sT1 rfl) (sA sT0 (sT1 rfl))) sB0 sF0) ?_
        exact AL_nil ⟨rfl, weak0 ((sT rfl (sT rfl (sT rfl (sT rfl (sT rfl (sT rfl (sT rfl (sT rfl (sT rfl (sT rfl (sT rfl (sT rfl sT0))))))))))))) (sub_keep (sub_keep sub_nil))⟩
      · skip
        refine AL_cons (LR_off (b := true) rfl rfl rfl rfl) (sS (sT1 rfl) sB0 sF0) ?_
        refine AL_cons (LR_off (b := true) rfl rfl rfl rfl) (sS (sT1 rfl) sB0 sF0) ?_
        refine AL_cons (LR_off (b := true) rfl rfl rfl rfl) (sS (sT1 rfl) sB0 sF0) ?_
        refine AL_cons (LR_off (b := true) rfl rfl rfl rfl) (sS (sT1 rfl) sB0 sF0) ?_
        refine AL_cons (LR_off (b := true) rfl rfl rfl rfl) (sS (sT1 rfl) sB0 sF0) ?_
        refine AL_cons (LR_pick (b := true) (at_tmp 11 _) (at_c (v' := Bl true) rfl) (at_tmp 16 _) rfl) (sS (sA (sT1 rfl) (sA sT0 (sT1 rfl))) sB0 sF0) ?_
        exact AL_nil ⟨rfl, weak0 ((sT rfl (sT rfl (sT rfl (sT rfl (sT rfl (sT rfl (sT rfl (sT rfl (sT rfl (sT rfl (sT rfl (sT rfl sT0))))))))))))) (sub_keep (sub_keep sub_nil))⟩
    refine AL_cons (LR_move (at_tmp 17 _) rfl) (sS (sT1 rfl) sB0 sF0) ?_
    refine AL_cutAt 8 ⟨[(0, .inl (agg (is (Bl a0_0) :: (ar U64 8 a0_1 ++ (ns Sv a0_2 :: []))))), (1, .inl (agg (is (Bl a1_0) :: (ar U64 8 a1_1 ++ (ns Sv a1_2 :: []))))), (2, .inr (.inl (2, 0))), (3, .inr (.inl (3, 0))), (4, .inl (is (Bl false))), (6, .inr (.inl (2, 0))), (7, .inl (is (Bl a0_0))), (8, .inr (.inl (3, 0))), (9, .inl (is (Bl a1_0))), (10, .inl (is (Bl (a0_0 != a1_0)))), (11, .inl (is (Bl (a0_0 != a1_0)))), (17, .inl (is (Bl ((a0_0 != a1_0) || (!(eq8 a0_1 a1_1)))))), (18, .inl (is (Bl ((a0_0 != a1_0) || (!(eq8 a0_1 a1_1)))))), (26, .inl (is (Bl (((a0_0 != a1_0) || (!(eq8 a0_1 a1_1))) || ((a0_2.2.1 : Int) != (a1_2.2.1 : Int))))))], [(2, pb 59 (is (Bl a0_0) :: (ar U64 8 a0_1 ++ (ns Sv a0_2 :: [])))), (3, pb 59 (is (Bl a1_0) :: (ar U64 8 a1_1 ++ (ns Sv a1_2 :: []))))]⟩ ?_ ?_
    · cases hb : (a0_0 != a1_0) || (!(eq8 a0_1 a1_1))
      · skip
        refine AL_cons (LR_on rfl rfl rfl (LR_fieldAddr (off := 0) (o := 9) (at_tmp 2 _) (fun b w => fa59_2 b 0 w) rfl)) (sS (sT rfl (sT1 rfl)) sB0 sF0) ?_
        refine AL_cons (LR_on rfl rfl rfl (LR_load (at_tmp 19 _) na57 (gS (gP g0)) rfl)) (sS (sT rfl (sT1 rfl)) (sB1 rfl) sF0) ?_
        refine AL_cons (LR_on rfl rfl rfl (LR_bi1 (at_tmp 20 _) (len_ns Hfaa.underlying57 a0_2) rfl)) (sS (sT rfl (sT1 rfl)) sB0 sF0) ?_
        refine AL_cons (LR_on rfl rfl rfl (LR_fieldAddr (off := 0) (o := 9) (at_tmp 3 _) (fun b w => fa59_2 b 0 w) rfl)) (sS (sT rfl (sT1 rfl)) sB0 sF0) ?_
        refine AL_cons (LR_on rfl rfl rfl (LR_load (at_tmp 22 _) na57 (gS (gP g0)) rfl)) (sS (sT rfl (sT1 rfl)) (sB1 rfl) sF0) ?_
        refine AL_cons (LR_on rfl rfl rfl (LR_bi1 (at_tmp 23 _) (len_ns Hfaa.underlying57 a1_2) rfl)) (sS (sT rfl (sT1 rfl)) sB0 sF0) ?_
        refine AL_cons (LR_on rfl rfl rfl (LR_bin (at_tmp 21 _) (at_tmp 24 _) (neq_I64 (a0_2.2.1 : Int) (a1_2.2.1 : Int)) rfl)) (sS (sT rfl (sA (sT1 rfl) (sT1 rfl))) sB0 sF0) ?_
        refine AL_cons (LR_pick (b := false) (at_tmp 18 _) (at_c (v' := Bl true) rfl) (at_tmp 25 _) rfl) (sS (sA (sT1 rfl) (sA sT0 (sT1 rfl))) sB0 sF0) ?_
        exact AL_nil ⟨rfl, weak0 ((sT rfl (sT rfl (sT rfl (sT rfl (sT rfl (sT rfl (sT rfl (sT rfl (sT rfl (sT rfl (sT rfl (sT rfl (sT rfl (sT rfl sT0))))))))))))))) (sub_keep (sub_keep sub_nil))⟩
      · skip
        refine AL_cons (LR_off (b := true) rfl rfl rfl rfl) (sS (sT1 rfl) sB0 sF0) ?_
        refine AL_cons (LR_off (b := true) rfl rfl rfl rfl) (sS (sT1 rfl) sB0 sF0) ?_
        refine AL_cons (LR_off (b := true) rfl rfl rfl rfl) (sS (sT1 rfl) sB0 sF0) ?_
        refine AL_cons (LR_off (b := true) rfl rfl rfl rfl) (sS (sT1 rfl) sB0 sF0) ?_
        refine AL_cons (LR_off (b := true) rfl rfl rfl rfl) (sS (sT1 rfl) sB0 sF0) ?_
        refine AL_cons (LR_off (b := true) rfl rfl rfl rfl) (sS (sT1 rfl) sB0 sF0) ?_
        refine AL_cons (LR_off (b := true) rfl rfl rfl rfl) (sS (sT1 rfl) sB0 sF0) ?_
        refine AL_cons (LR_pick (b := true) (at_tmp 18 _) (at_c (v' := Bl true) rfl) (at_tmp 25 _) rfl) (sS (sA (sT1 rfl) (sA sT0 (sT1 rfl))) sB0 sF0) ?_
        exact AL_nil ⟨rfl, weak0 ((sT rfl (sT rfl (sT rfl (sT rfl (sT rfl (sT rfl (sT rfl (sT rfl (sT rfl (sT rfl (sT rfl (sT rfl (sT rfl (sT rfl sT0))))))))))))))) (sub_keep (sub_keep sub_nil))⟩
    refine AL_nil ?_
    exact thenN (cutLeaf (v := ((a0_0 != a1_0) || (!(eq8 a0_1 a1_1))) || ((a0_2.2.1 : Int) != (a1_2.2.1 : Int))) hr (weak0 ((sT rfl (sT rfl (sT rfl sT0)))) (sub_keep (sub_keep sub_nil))))
  · rintro x1 hr
    show AW Hfaa.prog _ _ _ ⟨[(2, .inr (.inl (2, 0))), (3, .inr (.inl (3, 0))), (26, .inl (is (Bl x1)))], [(2, pb 59 (is (Bl a0_0) :: (ar U64 8 a0_1 ++ (ns Sv a0_2 :: [])))), (3, pb 59 (is (Bl a1_0) :: (ar U64 8 a1_1 ++ (ns Sv a1_2 :: []))))]⟩
    have hr : some r = F30_1 N a0_0 a0_1 a0_2 a1_0 a1_1 a1_2 x1 := hr
    refine AW_condT (b := x1) rfl (fun h => ?_) (fun h => ?_)
    · have hr := hr.trans (cond_t h)
      clear h
      refine AW_seq1 ?_
      refine AW_region ?_
      refine AL_cons (LR_assign (at_c (v' := Bl false) rfl) rfl) (sS sT0 sB0 sF0) ?_
      refine AL_nil ?_
      refine thenN ?_
      refine AW_ret ?_
      refine thenR ?_
      obtain rfl := Option.some.inj hr
      exact res1 rfl (rvT rfl)
    · have hr := hr.trans (cond_f h)
      clear h
      refine AW_skip ?_
      refine thenN ?_
      refine AW_seq1 ?_
      refine AW_cut (σ := Int) (fun v => ⟨[(2, .inr (.inl (2, 0))), (3, .inr (.inl (3, 0))), (29, .inl (is (I64 v))), (30, .inl (is (I64 0)))], [(2, pb 59 (is (Bl a0_0) :: (ar U64 8 a0_1 ++ (ns Sv a0_2 :: [])))), (3, pb 59 (is (Bl a1_0) :: (ar U64 8 a1_1 ++ (ns Sv a1_2 :: []))))]⟩) (fun v => some r = F30_2 N a0_0 a0_1 a0_2 a1_0 a1_1 a1_2 v) ?_ ?_
      · skip
        refine AW_region ?_
        refine AL_cons (LR_fieldAddr (off := 0) (o := 9) (at_tmp 2 _) (fun b w => fa59_2 b 0 w) rfl) (sS (sT1 rfl) sB0 sF0) ?_
        refine AL_cons (LR_load (at_tmp 27 _) na57 (gS (gP g0)) rfl) (sS (sT1 rfl) (sB1 rfl) sF0) ?_
        refine AL_cons (LR_bi1 (at_tmp 28 _) (len_ns Hfaa.underlying57 a0_2) rfl) (sS (sT1 rfl) sB0 sF0) ?_
        refine AL_cons (LR_move (at_c (v' := I64 0) rfl) rfl) (sS sT0 sB0 sF0) ?_
        refine AL_nil ?_
        exact thenN (cutLeaf (v := (a0_2.2.1 : Int)) hr (weak0 ((sT rfl (sT rfl (sT rfl (sT rfl sT0))))) (sub_keep (sub_keep sub_nil))))
      · rintro x2 hr
        show AW Hfaa.prog _ _ _ ⟨[(2, .inr (.inl (2, 0))), (3, .inr (.inl (3, 0))), (29, .inl (is (I64 x2))), (30, .inl (is (I64 0)))], [(2, pb 59 (is (Bl a0_0) :: (ar U64 8 a0_1 ++ (ns Sv a0_2 :: [])))), (3, pb 59 (is (Bl a1_0) :: (ar U64 8 a1_1 ++ (ns Sv a1_2 :: []))))]⟩
        have hr : some r = F30_2 N a0_0 a0_1 a0_2 a1_0 a1_1 a1_2 x2 := hr
        refine AW_block ?_
        refine AW_iterR (σ := Int) (r := r) (x0 := 0) (emb := fun v => ⟨[(2, .inr (.inl (2, 0))), (3, .inr (.inl (3, 0))), (29, .inl (is (I64 x2))), (30, .inl (is (I64 v)))], [(2, pb 59 (is (Bl a0_0) :: (ar U64 8 a0_1 ++ (ns Sv a0_2 :: [])))), (3, pb 59 (is (Bl a1_0) :: (ar U64 8 a1_1 ++ (ns Sv a1_2 :: []))))]⟩) ?_ hr ?_
        · exact weak0 ((sT rfl (sT rfl (sT rfl (sT rfl sT0))))) (sub_keep (sub_keep sub_nil))
        rintro x3 out2 hr
        show AW Hfaa.prog _ _ _ ⟨[(2, .inr (.inl (2, 0))), (3, .inr (.inl (3, 0))), (29, .inl (is (I64 x2))), (30, .inl (is (I64 x3)))], [(2, pb 59 (is (Bl a0_0) :: (ar U64 8 a0_1 ++ (ns Sv a0_2 :: [])))), (3, pb 59 (is (Bl a1_0) :: (ar U64 8 a1_1 ++ (ns Sv a1_2 :: []))))]⟩
        have hr : some out2 = F30_L3b N a0_0 a0_1 a0_2 a1_0 a1_1 a1_2 x2 x3 := hr
        refine AW_cut (σ := Bool) (fun v => ⟨[(2, .inr (.inl (2, 0))), (3, .inr (.inl (3, 0))), (29, .inl (is (I64 x2))), (30, .inl (is (I64 x3))), (31, .inl (is (Bl v)))], [(2, pb 59 (is (Bl a0_0) :: (ar U64 8 a0_1 ++ (ns Sv a0_2 :: [])))), (3, pb 59 (is (Bl a1_0) :: (ar U64 8 a1_1 ++ (ns Sv a1_2 :: []))))]⟩) (fun v => some out2 = F30_4 N a0_0 a0_1 a0_2 a1_0 a1_1 a1_2 x2 x3 v) ?_ ?_
        · skip
          refine AW_region ?_
          refine AL_cons (LR_bin (at_tmp 30 _) (at_tmp 29 _) (lss_I64 x3 x2) rfl) (sS (sA (sT1 rfl) (sT1 rfl)) sB0 sF0) ?_
          refine AL_nil ?_
          exact thenN (cutLeaf (v := decide (x3 < x2)) hr (weak0 ((sT rfl (sT rfl (sT rfl (sT rfl (sT rfl sT0)))))) (sub_keep (sub_keep sub_nil))))
        · rintro x4 hr
          show AW Hfaa.prog _ _ _ ⟨[(2, .inr (.inl (2, 0))), (3, .inr (.inl (3, 0))), (29, .inl (is (I64 x2))), (30, .inl (is (I64 x3))), (31, .inl (is (Bl x4)))], [(2, pb 59 (is (Bl a0_0) :: (ar U64 8 a0_1 ++ (ns Sv a0_2 :: [])))), (3, pb 59 (is (Bl a1_0) :: (ar U64 8 a1_1 ++ (ns Sv a1_2 :: []))))]⟩
          have hr : some out2 = F30_4 N a0_0 a0_1 a0_2 a1_0 a1_1 a1_2 x2 x3 x4 := hr
          refine AW_seq1 ?_
          refine AW_condT (b := x4) rfl (fun h => ?_) (fun h => ?_)
          · have hr := hr.trans (cond_t h)
            clear h
            refine AW_skip ?_
            refine thenN ?_
            refine AW_seq1 ?_
            refine AW_block ?_
            refine AW_seq1 ?_
            refine AW_region ?_
            refine AL_cons (LR_move (at_tmp 30 _) rfl) (sS (sT1 rfl) sB0 sF0) ?_
            refine AL_cons (LR_assign (at_tmp 32 _) rfl) (sS (sT1 rfl) sB0 sF0) ?_
            refine AL_nil ?_
            refine thenN ?_
            refine AW_cut (σ := Bool) (fun v => ⟨[(2, .inr (.inl (2, 0))), (3, .inr (.inl (3, 0))), (29, .inl (is (I64 x2))), (30, .inl (is (I64 x3))), (43, .inl (is (Bl v)))], [(2, pb 59 (is (Bl a0_0) :: (ar U64 8 a0_1 ++ (ns Sv a0_2 :: [])))), (3, pb 59 (is (Bl a1_0) :: (ar U64 8 a1_1 ++ (ns Sv a1_2 :: []))))]⟩) (fun v => some out2 = F30_5 N a0_0 a0_1 a0_2 a1_0 a1_1 a1_2 x2 x3 v) ?_ ?_
            · skip
              obtain ⟨hg31, hr⟩ := guard_some hr
              obtain ⟨hg32, hr⟩ := guard_some hr
              refine AW_draw mixed
                (lrC (LR_fieldAddr (off := 0) (o := 9) (at_tmp 2 _) (fun b w => fa59_2 b 0 w) rfl)
                (lrC (LR_load (at_tmp 33 _) na57 (gS (gP g0)) rfl)
                (lrC (LR_move (at_tmp 5 _) rfl)
                (lrC (LR_indexAddrQ Hfaa.underlying57 sz9 (at_tmp 34 _) (at_tmp 35 _) (dand hg31) rfl)
                (lrC (LR_loadQ (at_tmp 36 _) na9 rfl)
                (lrC (LR_fieldAddr (off := 0) (o := 9) (at_tmp 3 _) (fun b w => fa59_2 b 0 w) rfl)
                (lrC (LR_load (at_tmp 38 _) na57 (gS (gP g0)) rfl)
                (lrC (LR_move (at_tmp 5 _) rfl)
                (lrC (LR_indexAddrQ Hfaa.underlying57 sz9 (at_tmp 39 _) (at_tmp 40 _) (dand hg32) rfl)
                (lrC (LR_loadQ (at_tmp 41 _) na9 rfl)
                (lrC (LR_bin (at_tmp 37 _) (at_tmp 42 _) (neq_S (a0_2.2.2 x3.toNat) (a1_2.2.2 x3.toNat)) rfl)
                lrN)))))))))))
                (by kernel_rfl)
                (saC (sS (sT1 rfl) sB0 sF0) (saC (sS (sT1 rfl) (sB1 rfl) sF0) (saC (sS (sT1 rfl) sB0 sF0) (saC (sS (sA (sT1 rfl) (sT1 rfl)) sB0 sF0) (saC (sS (sT1 rfl) sB0 sF0) (saC (sS (sT1 rfl) sB0 sF0) (saC (sS (sT1 rfl) (sB1 rfl) sF0) (saC (sS (sT1 rfl) sB0 sF0) (saC (sS (sA (sT1 rfl) (sT1 rfl)) sB0 sF0) (saC (sS (sT1 rfl) sB0 sF0) (saC (sS (sA (sT1 rfl) (sT1 rfl)) sB0 sF0) saN))))))))))) ?_
              exact thenN (cutLeaf (v := (a0_2.2.2 x3.toNat) != (a1_2.2.2 x3.toNat)) hr (weak0 ((sT rfl (sT rfl (sT rfl (sT rfl (sT rfl sT0)))))) (sub_keep (sub_keep sub_nil))))
            · rintro x5 hr
              show AW Hfaa.prog _ _ _ ⟨[(2, .inr (.inl (2, 0))), (3, .inr (.inl (3, 0))), (29, .inl (is (I64 x2))), (30, .inl (is (I64 x3))), (43, .inl (is (Bl x5)))], [(2, pb 59 (is (Bl a0_0) :: (ar U64 8 a0_1 ++ (ns Sv a0_2 :: [])))), (3, pb 59 (is (Bl a1_0) :: (ar U64 8 a1_1 ++ (ns Sv a1_2 :: []))))]⟩
              have hr : some out2 = F30_5 N a0_0 a0_1 a0_2 a1_0 a1_1 a1_2 x2 x3 x5 := hr
              refine AW_condT (b := x5) rfl (fun h => ?_) (fun h => ?_)
              · have hr := hr.trans (cond_t h)
                clear h
                refine AW_seq1 ?_
                refine AW_region ?_
                refine AL_cons (LR_assign (at_c (v' := Bl false) rfl) rfl) (sS sT0 sB0 sF0) ?_
                refine AL_nil ?_
                refine thenN ?_
                refine AW_ret ?_
                refine blR ?_
                refine thenR ?_
                obtain ⟨r', hro, hr⟩ := map_inr hr
                refine thenR (loopOut hro (fun he => ?_))
                rw [he] at hr
                refine blR ?_
                refine thenR ?_
                obtain rfl := Option.some.inj hr
                exact res1 rfl (rvT rfl)
              · have hr := hr.trans (cond_f h)
                clear h
                refine AW_skip ?_
                refine blN ?_
                refine thenN ?_
                refine AW_region ?_
                refine AL_cons (LR_bin (at_tmp 30 _) (at_c (v' := I64 1) rfl) (add_I64 x3 1) rfl) (sS (sA (sT1 rfl) sT0) sB0 sF0) ?_
                refine AL_cons (LR_move (at_tmp 44 _) rfl) (sS (sT1 rfl) sB0 sF0) ?_
                refine AL_nil ?_
                exact thenN (loopNext (x' := w64 (x3 + 1)) hr (weak0 ((sT rfl (sT rfl (sT rfl (sT rfl sT0))))) (sub_keep (sub_keep sub_nil))))
          · have hr := hr.trans (cond_f h)
            clear h
            refine AW_exit ?_
            refine thenX ?_
            obtain ⟨r', hro, hr⟩ := map_inr hr
            refine thenX (loopOut hro (fun he => ?_))
            rw [he] at hr
            refine blH ?_
            refine thenN ?_
            refine AW_seq1 ?_
            refine AW_region ?_
            refine AL_cons (LR_assign (at_c (v' := Bl true) rfl) rfl) (sS sT0 sB0 sF0) ?_
            refine AL_nil ?_
            refine thenN ?_
            refine AW_ret ?_
            obtain rfl := Option.some.inj hr
            exact res1 rfl (rvT rfl)
/-- law.sameMachine -/
def F52 (N : Nat) (a0_0 : Nat → BitVec 64) (a0_1 : NS (List UInt8)) (a1_0 : Nat → BitVec 64) (a1_1 : NS (List UInt8)) : Option (Bool) := (F30 N false a0_0 a0_1 false a1_0 a1_1).bind fun y2 => some y2
theorem C52 (N : Nat) (a0_0 : Nat → BitVec 64) (a0_1 : NS (List UInt8)) (a1_0 : Nat → BitVec 64) (a1_1 : NS (List UInt8)) (r : Bool) (hr : some r = F52 N a0_0 a0_1 a1_0 a1_1) : Aw.Fn Hfaa.prog 52 [agg (ar U64 8 a0_0 ++ (ns Sv a0_1 :: [])), agg (ar U64 8 a1_0 ++ (ns Sv a1_1 :: []))] (is (Bl r)) := by
  refine fn_intro Hfaa.func52 rfl rfl rfl ?_
  intro bn0 w0 H0
  refine AW_seq1 ?_
  refine AW_region ?_
  refine AL_cons (LR_box (at_tmp 0 _) (cells_agg _) rfl) (sS (sT1 rfl) sB0 (sF1 rfl)) ?_
  refine AL_cons (LR_box (at_tmp 1 _) (cells_agg _) rfl) (sS (sT1 rfl) sB0 (sF1 rfl)) ?_
  refine AL_cons (LR_assign (at_c (v' := Bl false) rfl) rfl) (sS sT0 sB0 sF0) ?_
  refine AL_nil ?_
  refine thenN ?_
  refine AW_seq1 ?_
  refine AW_region ?_
  refine AL_cons (LR_fieldAddr (off := 0) (o := 0) (at_tmp 2 _) (fun b w => fa90_0 b 0 w) rfl) (sS (sT1 rfl) sB0 sF0) ?_
  refine AL_cons (LR_loads (at_tmp 5 _) ag35 sz35 (take_nil tkA) (bleLen (lnA (lnC ln0)) rfl) rfl) (sS (sT1 rfl) (sB1 rfl) sF0) ?_
  refine AL_cons (LR_fieldAddr (off := 0) (o := 8) (at_tmp 2 _) (fun b w => fa90_1 b 0 w) rfl) (sS (sT1 rfl) sB0 sF0) ?_
  refine AL_cons (LR_load (at_tmp 7 _) na57 (gP g0) rfl) (sS (sT1 rfl) (sB1 rfl) sF0) ?_
  refine AL_cons (LR_aggE (blA59 (parts_cons' (i := 1) (off := 1) (m := 8) (at_tmp 6 _) (cells_agg _) (lnA ln0) rfl rfl (parts_cons' (i := 2) (off := 9) (m := 1) (at_tmp 8 _) (cells_one (one_ns _)) rfl rfl rfl parts_nil)) rfl rfl) (flC (stSs stArr) (flC (stS (stP st0)) fl0))) (sS (sA (sT1 rfl) (sA (sT1 rfl) sT0)) sB0 sF0) ?_
  refine AL_cons (LR_fieldAddr (off := 0) (o := 0) (at_tmp 3 _) (fun b w => fa90_0 b 0 w) rfl) (sS (sT1 rfl) sB0 sF0) ?_
  refine AL_cons (LR_loads (at_tmp 10 _) ag35 sz35 (take_nil tkA) (bleLen (lnA (lnC ln0)) rfl) rfl) (sS (sT1 rfl) (sB1 rfl) sF0) ?_
  refine AL_cons (LR_fieldAddr (off := 0) (o := 8) (at_tmp 3 _) (fun b w => fa90_1 b 0 w) rfl) (sS (sT1 rfl) sB0 sF0) ?_
  refine AL_cons (LR_load (at_tmp 12 _) na57 (gP g0) rfl) (sS (sT1 rfl) (sB1 rfl) sF0) ?_
  refine AL_cons (LR_aggE (blA59 (parts_cons' (i := 1) (off := 1) (m := 8) (at_tmp 11 _) (cells_agg _) (lnA ln0) rfl rfl (parts_cons' (i := 2) (off := 9) (m := 1) (at_tmp 13 _) (cells_one (one_ns _)) rfl rfl rfl parts_nil)) rfl rfl) (flC (stSs stArr) (flC (stS (stP st0)) fl0))) (sS (sA (sT1 rfl) (sA (sT1 rfl) sT0)) sB0 sF0) ?_
  obtain ⟨y2, hy2, hr⟩ := bind_some hr
  refine AL_cons (LR_call Hfaa.func30 rfl rfl (C30 N false a0_0 a0_1 false a1_0 a1_1 y2 hy2) (all_cons (at_tmp 9 _) (all_cons (at_tmp 14 _) all_nil)) rfl) (sS (sA (sT1 rfl) (sA (sT1 rfl) sT0)) sB0 sF0) ?_
  refine AL_cons (LR_assign (at_tmp 15 _) rfl) (sS (sT1 rfl) sB0 sF0) ?_
  refine AL_nil ?_
  refine thenN ?_
  refine AW_ret ?_
  obtain rfl := Option.some.inj hr
  exact res1 rfl (rvT rfl)
/-- law.towerSoftOn -/
def F25 (N : Nat) (a0 : Tab) (a1_0 : BitVec 8) (a1_1 : BitVec 8) (a2 : BitVec 8) (a3 : NS (Opv)) : Option (Bool) := (F54 N a0 (1#8) a1_0 a1_1 a2 a3).bind fun y4 => (F54 N a0 (0#8) a1_0 a1_1 a2 a3).bind fun y5 => (F52 N y4.1 y4.2 y5.1 y5.2).bind fun y6 => some y6
theorem C25 (N : Nat) (a0 : Tab) (a1_0 : BitVec 8) (a1_1 : BitVec 8) (a2 : BitVec 8) (a3 : NS (Opv)) (r : Bool) (hr : some r = F25 N a0 a1_0 a1_1 a2 a3) : Aw.Fn Hfaa.prog 25 [tabp a0, agg [is (U8 a1_0), is (U8 a1_1)], is (U8 a2), nsl opK 6 a3] (is (Bl r)) := by
  refine fn_intro Hfaa.func25 rfl rfl rfl ?_
  intro bn0 w0 H0
  refine AW_seq1 ?_
  refine AW_region ?_
  refine AL_cons (LR_box (at_tmp 1 _) (cells_agg _) rfl) (sS (sT1 rfl) sB0 (sF1 rfl)) ?_
  refine AL_cons (LR_assign (at_c (v' := Bl false) rfl) rfl) (sS sT0 sB0 sF0) ?_
  refine AL_nil ?_
  refine thenN ?_
  refine AW_seq1 ?_
  obtain ⟨y4, hy4, hr⟩ := bind_some hr
  obtain ⟨y5, hy5, hr⟩ := bind_some hr
  obtain ⟨y6, hy6, hr⟩ := bind_some hr
  refine AW_draw mixed
    (lrC (LR_move (at_tmp 0 _) rfl)
    (lrC (LR_loads (at_tmp 5 _) ag23 sz23 rfl rfl rfl)
    (lrC (LR_move (at_tmp 2 _) rfl)
    (lrC (LR_move (at_tmp 3 _) rfl)
    (lrC (LR_call Hfaa.func54 rfl rfl (C54 N a0 (1#8) a1_0 a1_1 a2 a3 y4 hy4) (all_cons (at_tmp 9 _) (all_cons (at_c (v' := U8 (1#8)) rfl) (all_cons (at_tmp 10 _) (all_cons (at_tmp 11 _) (all_cons (at_tmp 12 _) all_nil))))) rfl)
    (lrC (LR_move (at_tmp 0 _) rfl)
    (lrC (LR_loads (at_tmp 5 _) ag23 sz23 rfl rfl rfl)
    (lrC (LR_move (at_tmp 2 _) rfl)
    (lrC (LR_move (at_tmp 3 _) rfl)
    (lrC (LR_call Hfaa.func54 rfl rfl (C54 N a0 (0#8) a1_0 a1_1 a2 a3 y5 hy5) (all_cons (at_tmp 14 _) (all_cons (at_c (v' := U8 (0#8)) rfl) (all_cons (at_tmp 15 _) (all_cons (at_tmp 16 _) (all_cons (at_tmp 17 _) all_nil))))) rfl)
    (lrC (LR_call Hfaa.func52 rfl rfl (C52 N y4.1 y4.2 y5.1 y5.2 y6 hy6) (all_cons (at_tmp 13 _) (all_cons (at_tmp 18 _) all_nil)) rfl)
    (lrC (LR_assign (at_tmp 19 _) rfl)
    lrN))))))))))))
    (by kernel_rfl)
    (saC (sS (sT1 rfl) sB0 sF0) (saC (sS (sT1 rfl) (sB1 rfl) sF0) (saC (sS (sT1 rfl) sB0 sF0) (saC (sS (sT1 rfl) sB0 sF0) (saC (sS (sA (sT1 rfl) (sA sT0 (sA (sT1 rfl) (sA (sT1 rfl) (sA (sT1 rfl) sT0))))) sB0 sF0) (saC (sS (sT1 rfl) sB0 sF0) (saC (sS (sT1 rfl) (sB1 rfl) sF0) (saC (sS (sT1 rfl) sB0 sF0) (saC (sS (sT1 rfl) sB0 sF0) (saC (sS (sA (sT1 rfl) (sA sT0 (sA (sT1 rfl) (sA (sT1 rfl) (sA (sT1 rfl) sT0))))) sB0 sF0) (saC (sS (sA (sT1 rfl) (sA (sT1 rfl) sT0)) sB0 sF0) (saC (sS (sT1 rfl) sB0 sF0) saN)))))))))))) ?_
  refine thenN ?_
  refine AW_ret ?_
  obtain rfl := Option.some.inj hr
  exact res1 rfl (rvT rfl)
/-- calc.Allowed -/
def F56_2 (x2 : Bool) : Bool := x2
def F56_1 (a1 : BitVec 8) (a2_0 : BitVec 8) (a2_1 : BitVec 8) (a3 : BitVec 8) (x1 : Bool) : Bool := bif x1 then false else bif a1 != (2#8) then F56_2 true else bif (a2_0 == F14.1) && (a2_1 == F14.2) then bif a3 == (0#8) then F56_2 true else F56_2 (decide ((4#8).toNat < a3.toNat)) else bif (a2_0 == F13.1) && (a2_1 == F13.2) then bif a3 == (0#8) then F56_2 true else F56_2 (decide ((4#8).toNat < a3.toNat)) else F56_2 false
def F56 (a0 : Tab) (a1 : BitVec 8) (a2_0 : BitVec 8) (a2_1 : BitVec 8) (a3 : BitVec 8) : Bool := lt (F40 a2_0 a2_1) fun y4 => F56_1 a1 a2_0 a2_1 a3 ((!y4) || (decide ((2#8).toNat < a1.toNat)))
theorem C56 (a0 : Tab) (a1 : BitVec 8) (a2_0 : BitVec 8) (a2_1 : BitVec 8) (a3 : BitVec 8) (r : Bool) (hr : r = F56 a0 a1 a2_0 a2_1 a3) : Aw.Fn Hfaa.prog 56 [tabp a0, is (U8 a1), agg [is (U8 a2_0), is (U8 a2_1)], is (U8 a3)] (is (Bl r)) := by
  refine fn_intro Hfaa.func56 rfl rfl rfl ?_
  intro bn0 w0 H0
  refine AW_seq1 ?_
  refine AW_region ?_
  refine AL_cons (LR_box (at_tmp 2 _) (cells_agg _) rfl) (sS (sT1 rfl) sB0 (sF1 rfl)) ?_
  refine AL_cons (LR_assign (at_c (v' := Bl false) rfl) rfl) (sS sT0 sB0 sF0) ?_
  refine AL_nil ?_
  refine thenN ?_
  refine AW_seq1 ?_
  refine AW_cut (σ := Bool) (fun v => ⟨[(1, .inl (is (U8 a1))), (3, .inl (is (U8 a3))), (6, .inr (.inl (6, 0))), (19, .inl (is (Bl v)))], [(6, pb 23 [is (U8 a2_0), is (U8 a2_1)])]⟩) (fun v => r = F56_1 a1 a2_0 a2_1 a3 v) ?_ ?_
  · skip
    refine AW_region ?_
    refine AL_cons (LR_move (at_tmp 0 _) rfl) (sS (sT1 rfl) sB0 sF0) ?_
    refine AL_cons (LR_binA (at_tmp 9 _) (at_c (v' := .pointer none) rfl) (eqTabNil Hfaa.underlying27 a0) rfl) (sS (sA (sT1 rfl) sT0) sB0 sF0) ?_
    refine AL_cons (LR_move (at_tmp 10 _) rfl) (sS (sT1 rfl) sB0 sF0) ?_
    refine AL_cons (LR_on rfl rfl rfl (LR_loads (at_tmp 6 _) ag23 sz23 rfl rfl rfl)) (sS (sT rfl (sT1 rfl)) (sB1 rfl) sF0) ?_
    obtain ⟨y4, hy4, hr⟩ := lt_some hr
    refine AL_cons (LR_on rfl rfl rfl (LR_call Hfaa.func40 rfl rfl (C40 a2_0 a2_1 y4 hy4) (all_cons (at_tmp 12 _) all_nil) rfl)) (sS (sT rfl (sA (sT1 rfl) sT0)) sB0 sF0) ?_
    refine AL_cons (LR_on rfl rfl rfl (LR_un (at_tmp 13 _) (not_Bl y4) rfl)) (sS (sT rfl (sT1 rfl)) sB0 sF0) ?_
    refine AL_cons (LR_pick (b := false) (at_tmp 11 _) (at_c (v' := Bl true) rfl) (at_tmp 14 _) rfl) (sS (sA (sT1 rfl) (sA sT0 (sT1 rfl))) sB0 sF0) ?_
    refine AL_cons (LR_move (at_tmp 15 _) rfl) (sS (sT1 rfl) sB0 sF0) ?_
    refine AL_cutAt 3 ⟨[(0, .inl (tabp a0)), (1, .inl (is (U8 a1))), (2, .inl (agg [is (U8 a2_0), is (U8 a2_1)])), (3, .inl (is (U8 a3))), (6, .inr (.inl (6, 0))), (8, .inl (is (Bl false))), (9, .inl (tabp a0)), (10, .inl (is (Bl false))), (11, .inl (is (Bl false))), (12, .inl (agg [is (U8 a2_0), is (U8 a2_1)])), (13, .inl (is (Bl y4))), (14, .inl (is (Bl (!y4)))), (15, .inl (is (Bl (!y4)))), (16, .inl (is (Bl (!y4)))), (19, .inl (is (Bl ((!y4) || (decide ((2#8).toNat < a1.toNat))))))], [(6, pb 23 [is (U8 a2_0), is (U8 a2_1)])]⟩ ?_ ?_
    · cases hb : !y4
      · skip
        refine AL_cons (LR_on rfl rfl rfl (LR_move (at_tmp 1 _) rfl)) (sS (sT rfl (sT1 rfl)) sB0 sF0) ?_
        refine AL_cons (LR_on rfl rfl rfl (LR_bin (at_tmp 17 _) (at_c (v' := U8 (2#8)) rfl) (gtr_U8 a1 (2#8)) rfl)) (sS (sT rfl (sA (sT1 rfl) sT0)) sB0 sF0) ?_
        refine AL_cons (LR_pick (b := false) (at_tmp 16 _) (at_c (v' := Bl true) rfl) (at_tmp 18 _) rfl) (sS (sA (sT1 rfl) (sA sT0 (sT1 rfl))) sB0 sF0) ?_
        exact AL_nil ⟨rfl, weak0 ((sT rfl (sT rfl (sT rfl (sT rfl (sT rfl (sT rfl (sT rfl (sT rfl (sT rfl (sT rfl (sT rfl (sT rfl (sT rfl (sT rfl (sT rfl sT0)))))))))))))))) (sub_keep sub_nil)⟩
      · skip
        refine AL_cons (LR_off (b := true) rfl rfl rfl rfl) (sS (sT1 rfl) sB0 sF0) ?_
        refine AL_cons (LR_off (b := true) rfl rfl rfl rfl) (sS (sT1 rfl) sB0 sF0) ?_
        refine AL_cons (LR_pick (b := true) (at_tmp 16 _) (at_c (v' := Bl true) rfl) (at_tmp 18 _) rfl) (sS (sA (sT1 rfl) (sA sT0 (sT1 rfl))) sB0 sF0) ?_
        exact AL_nil ⟨rfl, weak0 ((sT rfl (sT rfl (sT rfl (sT rfl (sT rfl (sT rfl (sT rfl (sT rfl (sT rfl (sT rfl (sT rfl (sT rfl (sT rfl (sT rfl (sT rfl sT0)))))))))))))))) (sub_keep sub_nil)⟩
    refine AL_nil ?_
    exact thenN (cutLeaf (v := (!y4) || (decide ((2#8).toNat < a1.toNat))) hr (weak0 ((sT rfl (sT rfl (sT rfl (sT rfl sT0))))) (sub_keep sub_nil)))
  · rintro x1 hr
    show AW Hfaa.prog _ _ _ ⟨[(1, .inl (is (U8 a1))), (3, .inl (is (U8 a3))), (6, .inr (.inl (6, 0))), (19, .inl (is (Bl x1)))], [(6, pb 23 [is (U8 a2_0), is (U8 a2_1)])]⟩
    have hr : r = F56_1 a1 a2_0 a2_1 a3 x1 := hr
    refine AW_condT (b := x1) rfl (fun h => ?_) (fun h => ?_)
    · have hr := hr.trans (cond_t h)
      clear h
      refine AW_seq1 ?_
      refine AW_region ?_
      refine AL_cons (LR_assign (at_c (v' := Bl false) rfl) rfl) (sS sT0 sB0 sF0) ?_
      refine AL_nil ?_
      refine thenN ?_
      refine AW_ret ?_
      refine thenR ?_
      subst hr
      exact res1 rfl (rvT rfl)
    · have hr := hr.trans (cond_f h)
      clear h
      refine AW_skip ?_
      refine thenN ?_
      refine AW_cut (σ := Bool) (fun v => ⟨[(8, .inl (is (Bl v)))], []⟩) (fun v => r = F56_2 v) ?_ ?_
      · skip
        rcases bool_em (a1 != (2#8)) with hb6 | hb6
        · have hr := hr.trans (cond_f hb6)
          rcases bool_em ((a2_0 == F14.1) && (a2_1 == F14.2)) with hb7 | hb7
          · have hr := hr.trans (cond_f hb7)
            rcases bool_em ((a2_0 == F13.1) && (a2_1 == F13.2)) with hb8 | hb8
            · have hr := hr.trans (cond_f hb8)
              refine AW_draw mixed
                (lrC (LR_move (at_tmp 1 _) rfl)
                (lrC (LR_asB (LR_bin (at_tmp 20 _) (at_c (v' := U8 (2#8)) rfl) (neq_U8 a1 (2#8)) rfl) hb6)
                (lrC (LR_move (at_tmp 21 _) rfl)
                (lrC (LR_on rfl rfl rfl (LR_loads (at_tmp 6 _) ag23 sz23 rfl rfl rfl))
                (lrC (LR_on rfl rfl rfl (LR_call Hfaa.func14 rfl rfl (C14 _ rfl) all_nil rfl))
                (lrC (LR_on rfl rfl rfl (LR_asB (LR_binA (at_tmp 23 _) (at_tmp 24 _) (eqlA23 a2_0 a2_1 F14.1 F14.2) rfl) hb7))
                (lrC (LR_on rfl rfl rfl (LR_move (at_tmp 25 _) rfl))
                (lrC (LR_on rfl rfl rfl (LR_loads (at_tmp 6 _) ag23 sz23 rfl rfl rfl))
                (lrC (LR_on rfl rfl rfl (LR_call Hfaa.func13 rfl rfl (C13 _ rfl) all_nil rfl))
                (lrC (LR_on rfl rfl rfl (LR_asB (LR_binA (at_tmp 27 _) (at_tmp 28 _) (eqlA23 a2_0 a2_1 F13.1 F13.2) rfl) hb8))
                (lrC (LR_on rfl rfl rfl (LR_pick (b := false) (at_tmp 26 _) (at_c (v' := Bl true) rfl) (at_tmp 29 _) rfl))
                (lrC (LR_on rfl rfl rfl (LR_move (at_tmp 30 _) rfl))
                (lrC (LR_off (b := false) rfl rfl rfl rfl)
                (lrC (LR_off (b := false) rfl rfl rfl rfl)
                (lrC (LR_off (b := false) rfl rfl rfl rfl)
                (lrC (LR_offU rfl rfl rfl rfl)
                (lrC (LR_offU rfl rfl rfl rfl)
                (lrC (LR_off (b := false) rfl rfl rfl rfl)
                (lrC (LR_on rfl rfl rfl (LR_pick (b := false) (at_tmp 31 _) (at_tmp 37 _) (at_c (v' := Bl false) rfl) rfl))
                (lrC (LR_pick (b := false) (at_tmp 22 _) (at_c (v' := Bl true) rfl) (at_tmp 38 _) rfl)
                (lrC (LR_assign (at_tmp 39 _) rfl)
                lrN)))))))))))))))))))))
                (by kernel_rfl)
                (saC (sS (sT1 rfl) sB0 sF0) (saC (sS (sA (sT1 rfl) sT0) sB0 sF0) (saC (sS (sT1 rfl) sB0 sF0) (saC (sS (sT rfl (sT1 rfl)) (sB1 rfl) sF0) (saC (sS (sT rfl sT0) sB0 sF0) (saC (sS (sT rfl (sA (sT1 rfl) (sT1 rfl))) sB0 sF0) (saC (sS (sT rfl (sT1 rfl)) sB0 sF0) (saC (sS (sT rfl (sT1 rfl)) (sB1 rfl) sF0) (saC (sS (sT rfl sT0) sB0 sF0) (saC (sS (sT rfl (sA (sT1 rfl) (sT1 rfl))) sB0 sF0) (saC (sS (sT rfl (sA (sT1 rfl) (sA sT0 (sT1 rfl)))) sB0 sF0) (saC (sS (sT rfl (sT1 rfl)) sB0 sF0) (saC (sS (sT1 rfl) sB0 sF0) (saC (sS (sT1 rfl) sB0 sF0) (saC (sS (sT1 rfl) sB0 sF0) (saC (sS (sT1 rfl) sB0 sF0) (saC (sS (sT1 rfl) sB0 sF0) (saC (sS (sT1 rfl) sB0 sF0) (saC (sS (sT rfl (sA (sT1 rfl) (sA (sT1 rfl) sT0))) sB0 sF0) (saC (sS (sA (sT1 rfl) (sA sT0 (sT1 rfl))) sB0 sF0) (saC (sS (sT1 rfl) sB0 sF0) saN))))))))))))))))))))) ?_
              exact thenN (cutLeaf (v := false) hr (weak0 ((sT rfl sT0)) (sub_drop sub_nil)))
            · have hr := hr.trans (cond_t hb8)
              rcases bool_em (a3 == (0#8)) with hb9 | hb9
              · have hr := hr.trans (cond_f hb9)
                refine AW_draw mixed
                  (lrC (LR_move (at_tmp 1 _) rfl)
                  (lrC (LR_asB (LR_bin (at_tmp 20 _) (at_c (v' := U8 (2#8)) rfl) (neq_U8 a1 (2#8)) rfl) hb6)
                  (lrC (LR_move (at_tmp 21 _) rfl)
                  (lrC (LR_on rfl rfl rfl (LR_loads (at_tmp 6 _) ag23 sz23 rfl rfl rfl))
                  (lrC (LR_on rfl rfl rfl (LR_call Hfaa.func14 rfl rfl (C14 _ rfl) all_nil rfl))
                  (lrC (LR_on rfl rfl rfl (LR_asB (LR_binA (at_tmp 23 _) (at_tmp 24 _) (eqlA23 a2_0 a2_1 F14.1 F14.2) rfl) hb7))
                  (lrC (LR_on rfl rfl rfl (LR_move (at_tmp 25 _) rfl))
                  (lrC (LR_on rfl rfl rfl (LR_loads (at_tmp 6 _) ag23 sz23 rfl rfl rfl))
                  (lrC (LR_on rfl rfl rfl (LR_call Hfaa.func13 rfl rfl (C13 _ rfl) all_nil rfl))
                  (lrC (LR_on rfl rfl rfl (LR_asB (LR_binA (at_tmp 27 _) (at_tmp 28 _) (eqlA23 a2_0 a2_1 F13.1 F13.2) rfl) hb8))
                  (lrC (LR_on rfl rfl rfl (LR_pick (b := false) (at_tmp 26 _) (at_c (v' := Bl true) rfl) (at_tmp 29 _) rfl))
                  (lrC (LR_on rfl rfl rfl (LR_move (at_tmp 30 _) rfl))
                  (lrC (LR_on rfl rfl rfl (LR_move (at_tmp 3 _) rfl))
                  (lrC (LR_on rfl rfl rfl (LR_asB (LR_bin (at_tmp 32 _) (at_c (v' := U8 (0#8)) rfl) (eql_U8 a3 (0#8)) rfl) hb9))
                  (lrC (LR_on rfl rfl rfl (LR_move (at_tmp 33 _) rfl))
                  (lrC (LR_on rfl rfl rfl (LR_move (at_tmp 3 _) rfl))
                  (lrC (LR_on rfl rfl rfl (LR_bin (at_tmp 35 _) (at_c (v' := U8 (4#8)) rfl) (gtr_U8 a3 (4#8)) rfl))
                  (lrC (LR_on rfl rfl rfl (LR_pick (b := false) (at_tmp 34 _) (at_c (v' := Bl true) rfl) (at_tmp 36 _) rfl))
                  (lrC (LR_on rfl rfl rfl (LR_pick (b := true) (at_tmp 31 _) (at_tmp 37 _) (at_c (v' := Bl false) rfl) rfl))
                  (lrC (LR_pick (b := false) (at_tmp 22 _) (at_c (v' := Bl true) rfl) (at_tmp 38 _) rfl)
                  (lrC (LR_assign (at_tmp 39 _) rfl)
                  lrN)))))))))))))))))))))
                  (by kernel_rfl)
                  (saC (sS (sT1 rfl) sB0 sF0) (saC (sS (sA (sT1 rfl) sT0) sB0 sF0) (saC (sS (sT1 rfl) sB0 sF0) (saC (sS (sT rfl (sT1 rfl)) (sB1 rfl) sF0) (saC (sS (sT rfl sT0) sB0 sF0) (saC (sS (sT rfl (sA (sT1 rfl) (sT1 rfl))) sB0 sF0) (saC (sS (sT rfl (sT1 rfl)) sB0 sF0) (saC (sS (sT rfl (sT1 rfl)) (sB1 rfl) sF0) (saC (sS (sT rfl sT0) sB0 sF0) (saC (sS (sT rfl (sA (sT1 rfl) (sT1 rfl))) sB0 sF0) (saC (sS (sT rfl (sA (sT1 rfl) (sA sT0 (sT1 rfl)))) sB0 sF0) (saC (sS (sT rfl (sT1 rfl)) sB0 sF0) (saC (sS (sT rfl (sT1 rfl)) sB0 sF0) (saC (sS (sT rfl (sA (sT1 rfl) sT0)) sB0 sF0) (saC (sS (sT rfl (sT1 rfl)) sB0 sF0) (saC (sS (sT rfl (sT1 rfl)) sB0 sF0) (saC (sS (sT rfl (sA (sT1 rfl) sT0)) sB0 sF0) (saC (sS (sT rfl (sA (sT1 rfl) (sA sT0 (sT1 rfl)))) sB0 sF0) (saC (sS (sT rfl (sA (sT1 rfl) (sA (sT1 rfl) sT0))) sB0 sF0) (saC (sS (sA (sT1 rfl) (sA sT0 (sT1 rfl))) sB0 sF0) (saC (sS (sT1 rfl) sB0 sF0) saN))))))))))))))))))))) ?_
                exact thenN (cutLeaf (v := decide ((4#8).toNat < a3.toNat)) hr (weak0 ((sT rfl sT0)) (sub_drop sub_nil)))
              · have hr := hr.trans (cond_t hb9)
                refine AW_draw mixed
                  (lrC (LR_move (at_tmp 1 _) rfl)
                  (lrC (LR_asB (LR_bin (at_tmp 20 _) (at_c (v' := U8 (2#8)) rfl) (neq_U8 a1 (2#8)) rfl) hb6)
                  (lrC (LR_move (at_tmp 21 _) rfl)
                  (lrC (LR_on rfl rfl rfl (LR_loads (at_tmp 6 _) ag23 sz23 rfl rfl rfl))
                  (lrC (LR_on rfl rfl rfl (LR_call Hfaa.func14 rfl rfl (C14 _ rfl) all_nil rfl))
                  (lrC (LR_on rfl rfl rfl (LR_asB (LR_binA (at_tmp 23 _) (at_tmp 24 _) (eqlA23 a2_0 a2_1 F14.1 F14.2) rfl) hb7))
                  (lrC (LR_on rfl rfl rfl (LR_move (at_tmp 25 _) rfl))
                  (lrC (LR_on rfl rfl rfl (LR_loads (at_tmp 6 _) ag23 sz23 rfl rfl rfl))
                  (lrC (LR_on rfl rfl rfl (LR_call Hfaa.func13 rfl rfl (C13 _ rfl) all_nil rfl))
                  (lrC (LR_on rfl rfl rfl (LR_asB (LR_binA (at_tmp 27 _) (at_tmp 28 _) (eqlA23 a2_0 a2_1 F13.1 F13.2) rfl) hb8))
                  (lrC (LR_on rfl rfl rfl (LR_pick (b := false) (at_tmp 26 _) (at_c (v' := Bl true) rfl) (at_tmp 29 _) rfl))
                  (lrC (LR_on rfl rfl rfl (LR_move (at_tmp 30 _) rfl))
                  (lrC (LR_on rfl rfl rfl (LR_move (at_tmp 3 _) rfl))
                  (lrC (LR_on rfl rfl rfl (LR_asB (LR_bin (at_tmp 32 _) (at_c (v' := U8 (0#8)) rfl) (eql_U8 a3 (0#8)) rfl) hb9))
                  (lrC (LR_on rfl rfl rfl (LR_move (at_tmp 33 _) rfl))
                  (lrC (LR_off (b := true) rfl rfl rfl rfl)
                  (lrC (LR_off (b := true) rfl rfl rfl rfl)
                  (lrC (LR_on rfl rfl rfl (LR_pick (b := true) (at_tmp 34 _) (at_c (v' := Bl true) rfl) (at_tmp 36 _) rfl))
                  (lrC (LR_on rfl rfl rfl (LR_pick (b := true) (at_tmp 31 _) (at_tmp 37 _) (at_c (v' := Bl false) rfl) rfl))
                  (lrC (LR_pick (b := false) (at_tmp 22 _) (at_c (v' := Bl true) rfl) (at_tmp 38 _) rfl)
                  (lrC (LR_assign (at_tmp 39 _) rfl)
                  lrN)))))))))))))))))))))
                  (by kernel_rfl)
                  (saC (sS (sT1 rfl) sB0 sF0) (saC (sS (sA (sT1 rfl) sT0) sB0 sF0) (saC (sS (sT1 rfl) sB0 sF0) (saC (sS (sT rfl (sT1 rfl)) (sB1 rfl) sF0) (saC (sS (sT rfl sT0) sB0 sF0) (saC (sS (sT rfl (sA (sT1 rfl) (sT1 rfl))) sB0 sF0) (saC (sS (sT rfl (sT1 rfl)) sB0 sF0) (saC (sS (sT rfl (sT1 rfl)) (sB1 rfl) sF0) (saC (sS (sT rfl sT0) sB0 sF0) (saC (sS (sT rfl (sA (sT1 rfl) (sT1 rfl))) sB0 sF0) (saC (sS (sT rfl (sA (sT1 rfl) (sA sT0 (sT1 rfl)))) sB0 sF0) (saC (sS (sT rfl (sT1 rfl)) sB0 sF0) (saC (sS (sT rfl (sT1 rfl)) sB0 sF0) (saC (sS (sT rfl (sA (sT1 rfl) sT0)) sB0 sF0) (saC (sS (sT rfl (sT1 rfl)) sB0 sF0) (saC (sS (sT1 rfl) sB0 sF0) (saC (sS (sT1 rfl) sB0 sF0) (saC (sS (sT rfl (sA (sT1 rfl) (sA sT0 (sT1 rfl)))) sB0 sF0) (saC (sS (sT rfl (sA (sT1 rfl) (sA (sT1 rfl) sT0))) sB0 sF0) (saC (sS (sA (sT1 rfl) (sA sT0 (sT1 rfl))) sB0 sF0) (saC (sS (sT1 rfl) sB0 sF0) saN))))))))))))))))))))) ?_
                exact thenN (cutLeaf (v := true) hr (weak0 ((sT rfl sT0)) (sub_drop sub_nil)))
          · have hr := hr.trans (cond_t hb7)
            rcases bool_em (a3 == (0#8)) with hb10 | hb10
            · have hr := hr.trans (cond_f hb10)
              refine AW_draw mixed
                (lrC (LR_move (at_tmp 1 _) rfl)
                (lrC (LR_asB (LR_bin (at_tmp 20 _) (at_c (v' := U8 (2#8)) rfl) (neq_U8 a1 (2#8)) rfl) hb6)
                (lrC (LR_move (at_tmp 21 _) rfl)
                (lrC (LR_on rfl rfl rfl (LR_loads (at_tmp 6 _) ag23 sz23 rfl rfl rfl))
                (lrC (LR_on rfl rfl rfl (LR_call Hfaa.func14 rfl rfl (C14 _ rfl) all_nil rfl))
                (lrC (LR_on rfl rfl rfl (LR_asB (LR_binA (at_tmp 23 _) (at_tmp 24 _) (eqlA23 a2_0 a2_1 F14.1 F14.2) rfl) hb7))
                (lrC (LR_on rfl rfl rfl (LR_move (at_tmp 25 _) rfl))
                (lrC (LR_off (b := true) rfl rfl rfl rfl)
                (lrC (LR_off (b := true) rfl rfl rfl rfl)
                (lrC (LR_off (b := true) rfl rfl rfl rfl)
                (lrC (LR_on rfl rfl rfl (LR_pick (b := true) (at_tmp 26 _) (at_c (v' := Bl true) rfl) (at_tmp 29 _) rfl))
                (lrC (LR_on rfl rfl rfl (LR_move (at_tmp 30 _) rfl))
                (lrC (LR_on rfl rfl rfl (LR_move (at_tmp 3 _) rfl))
                (lrC (LR_on rfl rfl rfl (LR_asB (LR_bin (at_tmp 32 _) (at_c (v' := U8 (0#8)) rfl) (eql_U8 a3 (0#8)) rfl) hb10))
                (lrC (LR_on rfl rfl rfl (LR_move (at_tmp 33 _) rfl))
                (lrC (LR_on rfl rfl rfl (LR_move (at_tmp 3 _) rfl))
                (lrC (LR_on rfl rfl rfl (LR_bin (at_tmp 35 _) (at_c (v' := U8 (4#8)) rfl) (gtr_U8 a3 (4#8)) rfl))
                (lrC (LR_on rfl rfl rfl (LR_pick (b := false) (at_tmp 34 _) (at_c (v' := Bl true) rfl) (at_tmp 36 _) rfl))
                (lrC (LR_on rfl rfl rfl (LR_pick (b := true) (at_tmp 31 _) (at_tmp 37 _) (at_c (v' := Bl false) rfl) rfl))
                (lrC (LR_pick (b := false) (at_tmp 22 _) (at_c (v' := Bl true) rfl) (at_tmp 38 _) rfl)
                (lrC (LR_assign (at_tmp 39 _) rfl)
                lrN)))))))))))))))))))))
                (by kernel_rfl)
                (saC (sS (sT1 rfl) sB0 sF0) (saC (sS (sA (sT1 rfl) sT0) sB0 sF0) (saC (sS (sT1 rfl) sB0 sF0) (saC (sS (sT rfl (sT1 rfl)) (sB1 rfl) sF0) (saC (sS (sT rfl sT0) sB0 sF0) (saC (sS (sT rfl (sA (sT1 rfl) (sT1 rfl))) sB0 sF0) (saC (sS (sT rfl (sT1 rfl)) sB0 sF0) (saC (sS (sT1 rfl) sB0 sF0) (saC (sS (sT1 rfl) sB0 sF0) (saC (sS (sT1 rfl) sB0 sF0) (saC (sS (sT rfl (sA (sT1 rfl) (sA sT0 (sT1 rfl)))) sB0 sF0) (saC (sS (sT rfl (sT1 rfl)) sB0 sF0) (saC (sS (sT rfl (sT1 rfl)) sB0 sF0) (saC (sS (sT rfl (sA (sT1 rfl) sT0)) sB0 sF0) (saC (sS (sT rfl (sT1 rfl)) sB0 sF0) (saC (sS (sT rfl (sT1 rfl)) sB0 sF0) (saC (sS (sT rfl (sA (sT1 rfl) sT0)) sB0 sF0) (saC (sS (sT rfl (sA (sT1 rfl) (sA sT0 (sT1 rfl)))) sB0 sF0) (saC (sS (sT rfl (sA (sT1 rfl) (sA (sT1 rfl) sT0))) sB0 sF0) (saC (sS (sA (sT1 rfl) (sA sT0 (sT1 rfl))) sB0 sF0) (saC (sS (sT1 rfl) sB0 sF0) saN))))))))))))))))))))) ?_
              exact thenN (cutLeaf (v := decide ((4#8).toNat < a3.toNat)) hr (weak0 ((sT rfl sT0)) (sub_drop sub_nil)))
            · have hr := hr.trans (cond_t hb10)
              refine AW_draw mixed
                (lrC (LR_move (at_tmp 1 _) rfl)
                (lrC (LR_asB (LR_bin (at_tmp 20 _) (at_c (v' := U8 (2#8)) rfl) (neq_U8 a1 (2#8)) rfl) hb6)
                (lrC (LR_move (at_tmp 21 _) rfl)
                (lrC (LR_on rfl rfl rfl (LR_loads (at_tmp 6 _) ag23 sz23 rfl rfl rfl))
                (lrC (LR_on rfl rfl rfl (LR_call Hfaa.func14 rfl rfl (C14 _ rfl) all_nil rfl))
                (lrC (LR_on rfl rfl rfl (LR_asB (LR_binA (at_tmp 23 _) (at_tmp 24 _) (eqlA23 a2_0 a2_1 F14.1 F14.2) rfl) hb7))
                (lrC (LR_on rfl rfl rfl (LR_move (at_tmp 25 _) rfl))
                (lrC (LR_off (b := true) rfl rfl rfl rfl)
                (lrC (LR_off (b := true) rfl rfl rfl rfl)
                (lrC (LR_off (b := true) rfl rfl rfl rfl)
                (lrC (LR_on rfl rfl rfl (LR_pick (b := true) (at_tmp 26 _) (at_c (v' := Bl true) rfl) (at_tmp 29 _) rfl))
                (lrC (LR_on rfl rfl rfl (LR_move (at_tmp 30 _) rfl))
                (lrC (LR_on rfl rfl rfl (LR_move (at_tmp 3 _) rfl))
                (lrC (LR_on rfl rfl rfl (LR_asB (LR_bin (at_tmp 32 _) (at_c (v' := U8 (0#8)) rfl) (eql_U8 a3 (0#8)) rfl) hb10))
                (lrC (LR_on rfl rfl rfl (LR_move (at_tmp 33 _) rfl))
                (lrC (LR_off (b := true) rfl rfl rfl rfl)
                (lrC (LR_off (b := true) rfl rfl rfl rfl)
                (lrC (LR_on rfl rfl rfl (LR_pick (b := true) (at_tmp 34 _) (at_c (v' := Bl true) rfl) (at_tmp 36 _) rfl))
                (lrC (LR_on rfl rfl rfl (LR_pick (b := true) (at_tmp 31 _) (at_tmp 37 _) (at_c (v' := Bl false) rfl) rfl))
                (lrC (LR_pick (b := false) (at_tmp 22 _) (at_c (v' := Bl true) rfl) (at_tmp 38 _) rfl)
                (lrC (LR_assign (at_tmp 39 _) rfl)
                lrN)))))))))))))))))))))
                (by kernel_rfl)
                (saC (sS (sT1 rfl) sB0 sF0) (saC (sS (sA (sT1 rfl) sT0) sB0 sF0) (saC (sS (sT1 rfl) sB0 sF0) (saC (sS (sT rfl (sT1 rfl)) (sB1 rfl) sF0) (saC (sS (sT rfl sT0) sB0 sF0) (saC (sS (sT rfl (sA (sT1 rfl) (sT1 rfl))) sB0 sF0) (saC (sS (sT rfl (sT1 rfl)) sB0 sF0) (saC (sS (sT1 rfl) sB0 sF0) (saC (sS (sT1 rfl) sB0 sF0) (saC (sS (sT1 rfl) sB0 sF0) (saC (sS (sT rfl (sA (sT1 rfl) (sA sT0 (sT1 rfl)))) sB0 sF0) (saC (sS (sT rfl (sT1 rfl)) sB0 sF0) (saC (sS (sT rfl (sT1 rfl)) sB0 sF0) (saC (sS (sT rfl (sA (sT1 rfl) sT0)) sB0 sF0) (saC (sS (sT rfl (sT1 rfl)) sB0 sF0) (saC (sS (sT1 rfl) sB0 sF0) (saC (sS (sT1 rfl) sB0 sF0) (saC (sS (sT rfl (sA (sT1 rfl) (sA sT0 (sT1 rfl)))) sB0 sF0) (saC (sS (sT rfl (sA (sT1 rfl) (sA (sT1 rfl) sT0))) sB0 sF0) (saC (sS (sA (sT1 rfl) (sA sT0 (sT1 rfl))) sB0 sF0) (saC (sS (sT1 rfl) sB0 sF0) saN))))))))))))))))))))) ?_
              exact thenN (cutLeaf (v := true) hr (weak0 ((sT rfl sT0)) (sub_drop sub_nil)))
        · have hr := hr.trans (cond_t hb6)
          refine AW_draw mixed
            (lrC (LR_move (at_tmp 1 _) rfl)
            (lrC (LR_asB (LR_bin (at_tmp 20 _) (at_c (v' := U8 (2#8)) rfl) (neq_U8 a1 (2#8)) rfl) hb6)
            (lrC (LR_move (at_tmp 21 _) rfl)
            (lrC (LR_off (b := true) rfl rfl rfl rfl)
            (lrC (LR_off (b := true) rfl rfl rfl rfl)
            (lrC (LR_off (b := true) rfl rfl rfl rfl)
            (lrC (LR_off (b := true) rfl rfl rfl rfl)
            (lrC (LR_offU rfl rfl rfl rfl)
            (lrC (LR_offU rfl rfl rfl rfl)
            (lrC (LR_offU rfl rfl rfl rfl)
            (lrC (LR_off (b := true) rfl rfl rfl rfl)
            (lrC (LR_off (b := true) rfl rfl rfl rfl)
            (lrC (LR_offU rfl rfl rfl rfl)
            (lrC (LR_offU rfl rfl rfl rfl)
            (lrC (LR_offU rfl rfl rfl rfl)
            (lrC (LR_offU rfl rfl rfl rfl)
            (lrC (LR_offU rfl rfl rfl rfl)
            (lrC (LR_offU rfl rfl rfl rfl)
            (lrC (LR_off (b := true) rfl rfl rfl rfl)
            (lrC (LR_pick (b := true) (at_tmp 22 _) (at_c (v' := Bl true) rfl) (at_tmp 38 _) rfl)
            (lrC (LR_assign (at_tmp 39 _) rfl)
            lrN)))))))))))))))))))))
            (by kernel_rfl)
            (saC (sS (sT1 rfl) sB0 sF0) (saC (sS (sA (sT1 rfl) sT0) sB0 sF0) (saC (sS (sT1 rfl) sB0 sF0) (saC (sS (sT1 rfl) sB0 sF0) (saC (sS (sT1 rfl) sB0 sF0) (saC (sS (sT1 rfl) sB0 sF0) (saC (sS (sT1 rfl) sB0 sF0) (saC (sS (sT1 rfl) sB0 sF0) (saC (sS (sT1 rfl) sB0 sF0) (saC (sS (sT1 rfl) sB0 sF0) (saC (sS (sT1 rfl) sB0 sF0) (saC (sS (sT1 rfl) sB0 sF0) (saC (sS (sT1 rfl) sB0 sF0) (saC (sS (sT1 rfl) sB0 sF0) (saC (sS (sT1 rfl) sB0 sF0) (saC (sS (sT1 rfl) sB0 sF0) (saC (sS (sT1 rfl) sB0 sF0) (saC (sS (sT1 rfl) sB0 sF0) (saC (sS (sT1 rfl) sB0 sF0) (saC (sS (sA (sT1 rfl) (sA sT0 (sT1 rfl))) sB0 sF0) (saC (sS (sT1 rfl) sB0 sF0) saN))))))))))))))))))))) ?_
          exact thenN (cutLeaf (v := true) hr (weak0 ((sT rfl sT0)) (sub_drop sub_nil)))
      · rintro x2 hr
        show AW Hfaa.prog _ _ _ ⟨[(8, .inl (is (Bl x2)))], []⟩
        have hr : r = F56_2 x2 := hr
        refine AW_ret ?_
        subst hr
        exact res1 rfl (rvT rfl)
end Go.Proofs.YfwaawGreat
