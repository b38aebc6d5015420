import Derived.Test.YfwaawGreatG1
import Derived.Test.YfwaawGreatG13
import Derived.Test.YfwaawGreatG33
import Derived.Test.YfwaawGreatG40
import Derived.Test.YfwaawGreatG43
import Derived.Test.YfwaawGreatG58
import Derived.Test.YfwaawGreatG59
import Derived.Test.YfwaawGreatG60
namespace Go.Proofs.YfwaawGreat
open Go.Aw
set_option linter.unusedVariables false
set_option maxRecDepth 100000
set_option maxHeartbeats 1000000
/-- calc/na.read -/
def F241_2 (N : Nat) (a1_0 : BitVec 8) (a1_1 : BitVec 8) (b3_0 : Nat → BitVec 64) (b3_1 : NS (List UInt8)) (a4_0 : BitVec 8) (a4_1 : BitVec 8) (a4_2 : BitVec 8) (a4_3 : BitVec 8) (a4_4 : BitVec 64) (a4_5 : List UInt8) (x1 : BitVec 8) (x2 : Bool) (x3 : List UInt8) (x4 : Int) (x5 : Int) (x6 : Int) (x7 : BitVec 64) : Option ((Nat → BitVec 64) × NS (List UInt8)) := (F348 N a1_0 a1_1 b3_0 b3_1 a4_0 a4_1 a4_2 a4_3 a4_4 a4_5 x1 x2 x3 x4 x5 x6 x7).bind fun y3 => some (y3.1, y3.2)
def F241_1 (N : Nat) (a0 : Tab) (a1_0 : BitVec 8) (a1_1 : BitVec 8) (a2 : BitVec 8) (b3_0 : Nat → BitVec 64) (b3_1 : NS (List UInt8)) (a4_0 : BitVec 8) (a4_1 : BitVec 8) (a4_2 : BitVec 8) (a4_3 : BitVec 8) (a4_4 : BitVec 64) (a4_5 : List UInt8) (x1 : BitVec 8) (x2 : Bool) (x3 : List UInt8) (x4 : Int) (x5 : Int) (x6 : Int) : Option ((Nat → BitVec 64) × NS (List UInt8)) := (F89 N a0 a1_0 a1_1 a2 x2 x3 x4 true).bind fun y4 => F241_2 N a1_0 a1_1 b3_0 b3_1 a4_0 a4_1 a4_2 a4_3 a4_4 a4_5 x1 x2 x3 x4 x5 x6 y4.1
def F241 (N : Nat) (a0 : Tab) (a1_0 : BitVec 8) (a1_1 : BitVec 8) (a2 : BitVec 8) (b3_0 : Nat → BitVec 64) (b3_1 : NS (List UInt8)) (a4_0 : BitVec 8) (a4_1 : BitVec 8) (a4_2 : BitVec 8) (a4_3 : BitVec 8) (a4_4 : BitVec 64) (a4_5 : List UInt8) : Option ((Nat → BitVec 64) × NS (List UInt8)) := (F311 N a4_5).bind fun y5 => F241_1 N a0 a1_0 a1_1 a2 b3_0 b3_1 a4_0 a4_1 a4_2 a4_3 a4_4 a4_5 y5.1 y5.2.1 y5.2.2.1 y5.2.2.2.1 y5.2.2.2.2.1 y5.2.2.2.2.2
theorem C241 (N : Nat) (a0 : Tab) (a1_0 : BitVec 8) (a1_1 : BitVec 8) (a2 : BitVec 8) (b3_0 : Nat → BitVec 64) (b3_1 : NS (List UInt8)) (a4_0 : BitVec 8) (a4_1 : BitVec 8) (a4_2 : BitVec 8) (a4_3 : BitVec 8) (a4_4 : BitVec 64) (a4_5 : List UInt8) (r : (Nat → BitVec 64) × NS (List UInt8)) (hr : some r = F241 N a0 a1_0 a1_1 a2 b3_0 b3_1 a4_0 a4_1 a4_2 a4_3 a4_4 a4_5) : FnB Hfaa.prog 241 [.inl (tabp a0), .inl (agg [is (U8 a1_0), is (U8 a1_1)]), .inl (is (U8 a2)), .inr (.inl (3, 0)), .inl (agg [is (U8 a4_0), is (U8 a4_1), is (U8 a4_2), is (U8 a4_3), is (U64 a4_4), is (Sv a4_5)])] [(3, gc 90 (ar U64 8 b3_0 ++ []) ([]) (k1 Sv) 1 b3_1)] (tup []) [(3, gc 90 (ar U64 8 r.1 ++ []) ([]) (k1 Sv) 1 r.2)] := by
  refine fnB_intro Hfaa.func241 rfl rfl rfl rfl rfl ⟨hf_gc _ _ _ _ _ _, trivial⟩ ?_
  intro bn0 w0 H0
  refine AW_seq1 ?_
  refine AW_region ?_
  refine AL_cons (LR_box (at_tmp 1 _) (cells_agg _) rfl) (sS (sT1 rfl) sB0 (sF1 rfl)) ?_
  refine AL_cons (LR_box (at_tmp 4 _) (cells_agg _) rfl) (sS (sT1 rfl) sB0 (sF1 rfl)) ?_
  refine AL_nil ?_
  refine thenN ?_
  refine AW_cut (σ := BitVec 8 × Bool × List UInt8 × Int × Int × Int) (fun v => ⟨[(0, .inl (tabp a0)), (2, .inl (is (U8 a2))), (3, .inr (.inl (3, 0))), (6, .inr (.inl (6, 0))), (9, .inr (.inl (9, 0))), (10, .inr (.inl (10, 0)))], [(3, gc 90 (ar U64 8 b3_0 ++ []) ([]) (k1 Sv) 1 b3_1), (6, pb 23 [is (U8 a1_0), is (U8 a1_1)]), (9, pb 96 [is (U8 a4_0), is (U8 a4_1), is (U8 a4_2), is (U8 a4_3), is (U64 a4_4), is (Sv a4_5)]), (10, pb 297 [is (U8 v.1), is (Bl v.2.1), is (Sv v.2.2.1), is (I16 v.2.2.2.1), is (I64 v.2.2.2.2.1), is (I32 v.2.2.2.2.2)])]⟩) (fun v => some r = F241_1 N a0 a1_0 a1_1 a2 b3_0 b3_1 a4_0 a4_1 a4_2 a4_3 a4_4 a4_5 v.1 v.2.1 v.2.2.1 v.2.2.2.1 v.2.2.2.2.1 v.2.2.2.2.2) ?_ ?_
  · skip
    refine AW_region ?_
    refine AL_cons (LR_fieldAddr (off := 0) (o := 5) (at_tmp 9 _) (fun b w => fa96_5 b 0 w) rfl) (sS (sT1 rfl) sB0 sF0) ?_
    refine AL_cons (LR_load (at_tmp 13 _) na9 rfl rfl) (sS (sT1 rfl) (sB1 rfl) sF0) ?_
    obtain ⟨y5, hy5, hr⟩ := bind_some hr
    refine AL_cons (LR_call Hfaa.func311 rfl rfl (C311 N a4_5 y5 hy5) (all_cons (at_tmp 14 _) all_nil) rfl) (sS (sA (sT1 rfl) sT0) sB0 sF0) ?_
    refine AL_cons (zl297 rfl) (sS sT0 sB0 (sF1 rfl)) ?_
    refine AL_cons (LR_store (at_tmp 10 _) (at_tmp 15 _) (cells_agg _) (onC (one_is rfl) (onC (one_is rfl) (onC (one_is rfl) (onC (one_is rfl) (onC (one_is rfl) (onC (one_is rfl) onN)))))) sz297 rfl rfl) (sS (sA (sT1 rfl) (sT1 rfl)) (sB1 rfl) sF0) ?_
    refine AL_nil ?_
    exact thenN (cutLeaf (v := (y5.1, y5.2.1, y5.2.2.1, y5.2.2.2.1, y5.2.2.2.2.1, y5.2.2.2.2.2)) hr (weakB ((sT rfl (sT rfl (sT rfl (sT rfl (sT rfl (sT rfl sT0))))))) (sub_keep (sub_keep (sub_keep (sub_keep sub_nil)))) rfl))
  · rintro ⟨x1, x2, x3, x4, x5, x6⟩ hr
    show AW Hfaa.prog _ _ _ ⟨[(0, .inl (tabp a0)), (2, .inl (is (U8 a2))), (3, .inr (.inl (3, 0))), (6, .inr (.inl (6, 0))), (9, .inr (.inl (9, 0))), (10, .inr (.inl (10, 0)))], [(3, gc 90 (ar U64 8 b3_0 ++ []) ([]) (k1 Sv) 1 b3_1), (6, pb 23 [is (U8 a1_0), is (U8 a1_1)]), (9, pb 96 [is (U8 a4_0), is (U8 a4_1), is (U8 a4_2), is (U8 a4_3), is (U64 a4_4), is (Sv a4_5)]), (10, pb 297 [is (U8 x1), is (Bl x2), is (Sv x3), is (I16 x4), is (I64 x5), is (I32 x6)])]⟩
    have hr : some r = F241_1 N a0 a1_0 a1_1 a2 b3_0 b3_1 a4_0 a4_1 a4_2 a4_3 a4_4 a4_5 x1 x2 x3 x4 x5 x6 := hr
    refine AW_cut (σ := BitVec 64) (fun v => ⟨[(3, .inr (.inl (3, 0))), (6, .inr (.inl (6, 0))), (9, .inr (.inl (9, 0))), (10, .inr (.inl (10, 0))), (11, .inl (is (U64 v)))], [(3, gc 90 (ar U64 8 b3_0 ++ []) ([]) (k1 Sv) 1 b3_1), (6, pb 23 [is (U8 a1_0), is (U8 a1_1)]), (9, pb 96 [is (U8 a4_0), is (U8 a4_1), is (U8 a4_2), is (U8 a4_3), is (U64 a4_4), is (Sv a4_5)]), (10, pb 297 [is (U8 x1), is (Bl x2), is (Sv x3), is (I16 x4), is (I64 x5), is (I32 x6)])]⟩) (fun v => some r = F241_2 N a1_0 a1_1 b3_0 b3_1 a4_0 a4_1 a4_2 a4_3 a4_4 a4_5 x1 x2 x3 x4 x5 x6 v) ?_ ?_
    · skip
      refine AW_region ?_
      refine AL_cons (LR_move (at_tmp 0 _) rfl) (sS (sT1 rfl) sB0 sF0) ?_
      refine AL_cons (LR_loads (at_tmp 6 _) ag23 sz23 rfl rfl rfl) (sS (sT1 rfl) (sB1 rfl) sF0) ?_
      refine AL_cons (LR_move (at_tmp 2 _) rfl) (sS (sT1 rfl) sB0 sF0) ?_
      refine AL_cons (LR_fieldAddr (off := 0) (o := 1) (at_tmp 10 _) (fun b w => fa297_1 b 0 w) rfl) (sS (sT1 rfl) sB0 sF0) ?_
      refine AL_cons (LR_loads (at_tmp 20 _) ag76 sz76 rfl rfl rfl) (sS (sT1 rfl) (sB1 rfl) sF0) ?_
      obtain ⟨y4, hy4, hr⟩ := bind_some hr
      refine AL_cons (LR_call Hfaa.func89 rfl rfl (C89 N a0 a1_0 a1_1 a2 x2 x3 x4 true y4 hy4) (all_cons (at_tmp 17 _) (all_cons (at_tmp 18 _) (all_cons (at_tmp 19 _) (all_cons (at_tmp 21 _) (all_cons (at_c (v' := Bl true) rfl) all_nil))))) rfl) (sS (sA (sT1 rfl) (sA (sT1 rfl) (sA (sT1 rfl) (sA (sT1 rfl) (sA sT0 sT0))))) sB0 sF0) ?_
      refine AL_cons (LR_move (at_tmp 22 _) rfl) (sS (sT1 rfl) sB0 sF0) ?_
      refine AL_cons (LR_extract (at_tmp 16 _) rfl rfl) (sS (sT1 rfl) sB0 sF0) ?_
      refine AL_cons (LR_extract (at_tmp 16 _) rfl rfl) (sS (sT1 rfl) sB0 sF0) ?_
      refine AL_cons (LR_assign (at_tmp 23 _) rfl) (sS (sT1 rfl) sB0 sF0) ?_
      refine AL_cons (LR_assign (at_tmp 24 _) rfl) (sS (sT1 rfl) sB0 sF0) ?_
      refine AL_nil ?_
      exact thenN (cutLeaf (v := y4.1) hr (weakB ((sT rfl (sT rfl (sT rfl (sT rfl (sT rfl sT0)))))) (sub_keep (sub_keep (sub_keep (sub_keep sub_nil)))) rfl))
    · rintro x7 hr
      show AW Hfaa.prog _ _ _ ⟨[(3, .inr (.inl (3, 0))), (6, .inr (.inl (6, 0))), (9, .inr (.inl (9, 0))), (10, .inr (.inl (10, 0))), (11, .inl (is (U64 x7)))], [(3, gc 90 (ar U64 8 b3_0 ++ []) ([]) (k1 Sv) 1 b3_1), (6, pb 23 [is (U8 a1_0), is (U8 a1_1)]), (9, pb 96 [is (U8 a4_0), is (U8 a4_1), is (U8 a4_2), is (U8 a4_3), is (U64 a4_4), is (Sv a4_5)]), (10, pb 297 [is (U8 x1), is (Bl x2), is (Sv x3), is (I16 x4), is (I64 x5), is (I32 x6)])]⟩
      have hr : some r = F241_2 N a1_0 a1_1 b3_0 b3_1 a4_0 a4_1 a4_2 a4_3 a4_4 a4_5 x1 x2 x3 x4 x5 x6 x7 := hr
      refine AW_region ?_
      refine AL_cons (LR_loads (at_tmp 6 _) ag23 sz23 rfl rfl rfl) (sS (sT1 rfl) (sB1 rfl) sF0) ?_
      refine AL_cons (LR_move (at_tmp 3 _) rfl) (sS (sT1 rfl) sB0 sF0) ?_
      refine AL_cons (LR_loads (at_tmp 9 _) ag96 sz96 rfl rfl rfl) (sS (sT1 rfl) (sB1 rfl) sF0) ?_
      refine AL_cons (LR_loads (at_tmp 10 _) ag297 sz297 rfl rfl rfl) (sS (sT1 rfl) (sB1 rfl) sF0) ?_
      refine AL_cons (LR_move (at_tmp 11 _) rfl) (sS (sT1 rfl) sB0 sF0) ?_
      obtain ⟨y3, hy3, hr⟩ := bind_some hr
      refine AL_cons (LR_callB [(1, 3)] [(3, 1)] Hfaa.func348 rfl rfl (C348 N a1_0 a1_1 b3_0 b3_1 a4_0 a4_1 a4_2 a4_3 a4_4 a4_5 x1 x2 x3 x4 x5 x6 x7 y3 hy3) (aTC (at_tmp 25 _) (aTC (at_tmp 26 _) (aTC (at_tmp 27 _) (aTC (at_tmp 28 _) (aTC (at_tmp 29 _) aT0))))) rfl rfl rfl rfl rfl) (sS (sA (sT1 rfl) (sA (sT1 rfl) (sA (sT1 rfl) (sA (sT1 rfl) (sA (sT1 rfl) sT0))))) (sB1 rfl) sF0) ?_
      refine AL_nil ?_
      obtain rfl := Option.some.inj hr
      exact ⟨res0 rfl , (sub_keep (sub_drop (sub_drop (sub_drop sub_nil))))⟩
/-- calc/na.orName -/
def F349_4 (a2 : List UInt8) (x7 : Bool) : List UInt8 := bif x7 then ([43, 73, 110, 102] : List UInt8) else a2
def F349_3 (a2 : List UInt8) (x1 : Bool) (x2 : Int) (x3 : Int) (x4 : BitVec 64) (x6 : Bool) : List UInt8 := bif x6 then ([45, 73, 110, 102] : List UInt8) else F349_4 a2 (x2 == 3)
def F349_2 (a2 : List UInt8) (x1 : Bool) (x2 : Int) (x3 : Int) (x4 : BitVec 64) (x5 : Bool) : List UInt8 := bif x5 then ([78, 97, 78] : List UInt8) else F349_3 a2 x1 x2 x3 x4 ((x2 == 3) && x1)
def F349_1 (a2 : List UInt8) (x1 : Bool) (x2 : Int) (x3 : Int) (x4 : BitVec 64) : List UInt8 := F349_2 a2 x1 x2 x3 x4 (x2 == 4)
def F349 (a0_0 : BitVec 8) (a0_1 : BitVec 8) (a1 : BitVec 64) (a2 : List UInt8) : List UInt8 := lt (F65 a0_0 a0_1 a1) fun y4 => F349_1 a2 y4.1 y4.2.1 y4.2.2.1 y4.2.2.2
theorem C349 (a0_0 : BitVec 8) (a0_1 : BitVec 8) (a1 : BitVec 64) (a2 : List UInt8) (r : List UInt8) (hr : r = F349 a0_0 a0_1 a1 a2) : Aw.Fn Hfaa.prog 349 [agg [is (U8 a0_0), is (U8 a0_1)], is (U64 a1), is (Sv a2)] (is (Sv r)) := by
  refine fn_intro Hfaa.func349 rfl rfl rfl ?_
  intro bn0 w0 H0
  refine AW_seq1 ?_
  refine AW_region ?_
  refine AL_cons (LR_box (at_tmp 0 _) (cells_agg _) rfl) (sS (sT1 rfl) sB0 (sF1 rfl)) ?_
  refine AL_cons (LR_assign (at_c (v' := Sv ([] : List UInt8)) rfl) rfl) (sS sT0 sB0 sF0) ?_
  refine AL_nil ?_
  refine thenN ?_
  refine AW_seq1 ?_
  refine AW_cut (σ := Bool × Int × Int × BitVec 64) (fun v => ⟨[(2, .inl (is (Sv a2))), (7, .inr (.inl (7, 0)))], [(7, pb 112 [is (Bl v.1), is (I8 v.2.1), is (I16 v.2.2.1), is (U64 v.2.2.2)])]⟩) (fun v => r = F349_1 a2 v.1 v.2.1 v.2.2.1 v.2.2.2) ?_ ?_
  · skip
    refine AW_region ?_
    refine AL_cons (LR_loads (at_tmp 3 _) ag23 sz23 rfl rfl rfl) (sS (sT1 rfl) (sB1 rfl) sF0) ?_
    refine AL_cons (LR_move (at_tmp 1 _) rfl) (sS (sT1 rfl) sB0 sF0) ?_
    obtain ⟨y4, hy4, hr⟩ := lt_some hr
    refine AL_cons (LR_call Hfaa.func65 rfl rfl (C65 a0_0 a0_1 a1 y4 hy4) (all_cons (at_tmp 8 _) (all_cons (at_tmp 9 _) all_nil)) rfl) (sS (sA (sT1 rfl) (sA (sT1 rfl) sT0)) sB0 sF0) ?_
    refine AL_cons (zl112 rfl) (sS sT0 sB0 (sF1 rfl)) ?_
    refine AL_cons (LR_store (at_tmp 7 _) (at_tmp 10 _) (cells_agg _) (onC (one_is rfl) (onC (one_is rfl) (onC (one_is rfl) (onC (one_is rfl) onN)))) sz112 rfl rfl) (sS (sA (sT1 rfl) (sT1 rfl)) (sB1 rfl) sF0) ?_
    refine AL_nil ?_
    exact thenN (cutLeaf (v := (y4.1, y4.2.1, y4.2.2.1, y4.2.2.2)) hr (weak0 ((sT rfl (sT rfl sT0))) (sub_drop (sub_keep sub_nil))))
  · rintro ⟨x1, x2, x3, x4⟩ hr
    show AW Hfaa.prog _ _ _ ⟨[(2, .inl (is (Sv a2))), (7, .inr (.inl (7, 0)))], [(7, pb 112 [is (Bl x1), is (I8 x2), is (I16 x3), is (U64 x4)])]⟩
    have hr : r = F349_1 a2 x1 x2 x3 x4 := hr
    refine AW_block ?_
    refine AW_cut (σ := Bool) (fun v => ⟨[(2, .inl (is (Sv a2))), (7, .inr (.inl (7, 0))), (11, .inl (is (Bl v)))], [(7, pb 112 [is (Bl x1), is (I8 x2), is (I16 x3), is (U64 x4)])]⟩) (fun v => r = F349_2 a2 x1 x2 x3 x4 v) ?_ ?_
    · skip
      refine AW_region ?_
      refine AL_cons (LR_fieldAddr (off := 0) (o := 1) (at_tmp 7 _) (fun b w => fa112_1 b 0 w) rfl) (sS (sT1 rfl) sB0 sF0) ?_
      refine AL_cons (LR_load (at_tmp 12 _) na110 rfl rfl) (sS (sT1 rfl) (sB1 rfl) sF0) ?_
      refine AL_cons (LR_bin (at_tmp 13 _) (at_c (v' := I8 4) rfl) (eql_I8 x2 4) rfl) (sS (sA (sT1 rfl) sT0) sB0 sF0) ?_
      refine AL_cons (LR_assign (at_tmp 14 _) rfl) (sS (sT1 rfl) sB0 sF0) ?_
      refine AL_nil ?_
      exact thenN (cutLeaf (v := x2 == 4) hr (weak0 ((sT rfl (sT rfl (sT rfl sT0)))) (sub_keep sub_nil)))
    · rintro x5 hr
      show AW Hfaa.prog _ _ _ ⟨[(2, .inl (is (Sv a2))), (7, .inr (.inl (7, 0))), (11, .inl (is (Bl x5)))], [(7, pb 112 [is (Bl x1), is (I8 x2), is (I16 x3), is (U64 x4)])]⟩
      have hr : r = F349_2 a2 x1 x2 x3 x4 x5 := hr
      refine AW_condT (b := x5) rfl (fun h => ?_) (fun h => ?_)
      · have hr := hr.trans (cond_t h)
        clear h
        refine AW_seq1 ?_
        refine AW_region ?_
        refine AL_cons (LR_assign (at_c (v' := Sv ([78, 97, 78] : List UInt8)) rfl) rfl) (sS sT0 sB0 sF0) ?_
        refine AL_nil ?_
        refine thenN ?_
        refine AW_ret ?_
        refine blR ?_
        refine thenR ?_
        subst hr
        exact res1 rfl (rvT rfl)
      · have hr := hr.trans (cond_f h)
        clear h
        refine AW_cut (σ := Bool) (fun v => ⟨[(2, .inl (is (Sv a2))), (7, .inr (.inl (7, 0))), (15, .inl (is (Bl v)))], [(7, pb 112 [is (Bl x1), is (I8 x2), is (I16 x3), is (U64 x4)])]⟩) (fun v => r = F349_3 a2 x1 x2 x3 x4 v) ?_ ?_
        · skip
          refine AW_region ?_
          refine AL_cons (LR_fieldAddr (off := 0) (o := 1) (at_tmp 7 _) (fun b w => fa112_1 b 0 w) rfl) (sS (sT1 rfl) sB0 sF0) ?_
          refine AL_cons (LR_load (at_tmp 16 _) na110 rfl rfl) (sS (sT1 rfl) (sB1 rfl) sF0) ?_
          refine AL_cons (LR_bin (at_tmp 17 _) (at_c (v' := I8 3) rfl) (eql_I8 x2 3) rfl) (sS (sA (sT1 rfl) sT0) sB0 sF0) ?_
          refine AL_cons (LR_move (at_tmp 18 _) rfl) (sS (sT1 rfl) sB0 sF0) ?_
          refine AL_cutAt 3 ⟨[(2, .inl (is (Sv a2))), (7, .inr (.inl (7, 0))), (11, .inl (is (Bl x5))), (16, .inr (.inl (7, 1))), (17, .inl (is (I8 x2))), (18, .inl (is (Bl (x2 == 3)))), (19, .inl (is (Bl (x2 == 3)))), (22, .inl (is (Bl ((x2 == 3) && x1))))], [(7, pb 112 [is (Bl x1), is (I8 x2), is (I16 x3), is (U64 x4)])]⟩ ?_ ?_
          · cases hb : x2 == 3
            · skip
              refine AL_cons (LR_off (b := false) rfl rfl rfl rfl) (sS (sT1 rfl) sB0 sF0) ?_
              refine AL_cons (LR_off (b := false) rfl rfl rfl rfl) (sS (sT1 rfl) sB0 sF0) ?_
              refine AL_cons (LR_pick (b := false) (at_tmp 19 _) (at_tmp 21 _) (at_c (v' := Bl false) rfl) rfl) (sS (sA (sT1 rfl) (sA (sT1 rfl) sT0)) sB0 sF0) ?_
              exact AL_nil ⟨rfl, weak0 ((sT rfl (sT rfl (sT rfl (sT rfl (sT rfl (sT rfl (sT rfl (sT rfl sT0))))))))) (sub_keep sub_nil)⟩
            · skip
              refine AL_cons (LR_on rfl rfl rfl (LR_fieldAddr (off := 0) (o := 0) (at_tmp 7 _) (fun b w => fa112_0 b 0 w) rfl)) (sS (sT rfl (sT1 rfl)) sB0 sF0) ?_
              refine AL_cons (LR_on rfl rfl rfl (LR_load (at_tmp 20 _) na4 rfl rfl)) (sS (sT rfl (sT1 rfl)) (sB1 rfl) sF0) ?_
              refine AL_cons (LR_pick (b := true) (at_tmp 19 _) (at_tmp 21 _) (at_c (v' := Bl false) rfl) rfl) (sS (sA (sT1 rfl) (sA (sT1 rfl) sT0)) sB0 sF0) ?_
              exact AL_nil ⟨rfl, weak0 ((sT rfl (sT rfl (sT rfl (sT rfl (sT rfl (sT rfl (sT rfl (sT rfl sT0))))))))) (sub_keep sub_nil)⟩
          refine AL_cons (LR_assign (at_tmp 22 _) rfl) (sS (sT1 rfl) sB0 sF0) ?_
          refine AL_nil ?_
          exact thenN (cutLeaf (v := (x2 == 3) && x1) hr (weak0 ((sT rfl (sT rfl (sT rfl sT0)))) (sub_keep sub_nil)))
        · rintro x6 hr
          show AW Hfaa.prog _ _ _ ⟨[(2, .inl (is (Sv a2))), (7, .inr (.inl (7, 0))), (15, .inl (is (Bl x6)))], [(7, pb 112 [is (Bl x1), is (I8 x2), is (I16 x3), is (U64 x4)])]⟩
          have hr : r = F349_3 a2 x1 x2 x3 x4 x6 := hr
          refine AW_condT (b := x6) rfl (fun h => ?_) (fun h => ?_)
          · have hr := hr.trans (cond_t h)
            clear h
            refine AW_seq1 ?_
            refine AW_region ?_
            refine AL_cons (LR_assign (at_c (v' := Sv ([45, 73, 110, 102] : List UInt8)) rfl) rfl) (sS sT0 sB0 sF0) ?_
            refine AL_nil ?_
            refine thenN ?_
            refine AW_ret ?_
            refine blR ?_
            refine thenR ?_
            subst hr
            exact res1 rfl (rvT rfl)
          · have hr := hr.trans (cond_f h)
            clear h
            refine AW_cut (σ := Bool) (fun v => ⟨[(2, .inl (is (Sv a2))), (23, .inl (is (Bl v)))], []⟩) (fun v => r = F349_4 a2 v) ?_ ?_
            · skip
              refine AW_region ?_
              refine AL_cons (LR_fieldAddr (off := 0) (o := 1) (at_tmp 7 _) (fun b w => fa112_1 b 0 w) rfl) (sS (sT1 rfl) sB0 sF0) ?_
              refine AL_cons (LR_load (at_tmp 24 _) na110 rfl rfl) (sS (sT1 rfl) (sB1 rfl) sF0) ?_
              refine AL_cons (LR_bin (at_tmp 25 _) (at_c (v' := I8 3) rfl) (eql_I8 x2 3) rfl) (sS (sA (sT1 rfl) sT0) sB0 sF0) ?_
              refine AL_cons (LR_assign (at_tmp 26 _) rfl) (sS (sT1 rfl) sB0 sF0) ?_
              refine AL_nil ?_
              exact thenN (cutLeaf (v := x2 == 3) hr (weak0 ((sT rfl (sT rfl sT0))) (sub_drop sub_nil)))
            · rintro x7 hr
              show AW Hfaa.prog _ _ _ ⟨[(2, .inl (is (Sv a2))), (23, .inl (is (Bl x7)))], []⟩
              have hr : r = F349_4 a2 x7 := hr
              refine AW_condT (b := x7) rfl (fun h => ?_) (fun h => ?_)
              · have hr := hr.trans (cond_t h)
                clear h
                refine AW_seq1 ?_
                refine AW_region ?_
                refine AL_cons (LR_assign (at_c (v' := Sv ([43, 73, 110, 102] : List UInt8)) rfl) rfl) (sS sT0 sB0 sF0) ?_
                refine AL_nil ?_
                refine thenN ?_
                refine AW_ret ?_
                refine blR ?_
                refine thenR ?_
                subst hr
                exact res1 rfl (rvT rfl)
              · have hr := hr.trans (cond_f h)
                clear h
                refine AW_skip ?_
                refine blN ?_
                refine thenN ?_
                refine AW_seq1 ?_
                refine AW_region ?_
                refine AL_cons (LR_move (at_tmp 2 _) rfl) (sS (sT1 rfl) sB0 sF0) ?_
                refine AL_cons (LR_assign (at_tmp 27 _) rfl) (sS (sT1 rfl) sB0 sF0) ?_
                refine AL_nil ?_
                refine thenN ?_
                refine AW_ret ?_
                subst hr
                exact res1 rfl (rvT rfl)
/-- calc/na.show -/
def F242 (N : Nat) (a0 : Tab) (a1_0 : BitVec 8) (a1_1 : BitVec 8) (a2 : BitVec 64) : Option (List UInt8) := (F94 N a0 a1_0 a1_1 a2).bind fun y4 => (F293 N y4.1 y4.2.1 y4.2.2).bind fun y5 => lt (F349 a1_0 a1_1 a2 y5) fun y6 => some y6
theorem C242 (N : Nat) (a0 : Tab) (a1_0 : BitVec 8) (a1_1 : BitVec 8) (a2 : BitVec 64) (r : List UInt8) (hr : some r = F242 N a0 a1_0 a1_1 a2) : Aw.Fn Hfaa.prog 242 [tabp a0, agg [is (U8 a1_0), is (U8 a1_1)], is (U64 a2)] (is (Sv r)) := by
  refine fn_intro Hfaa.func242 rfl rfl rfl ?_
  intro bn0 w0 H0
  refine AW_seq1 ?_
  refine AW_region ?_
  refine AL_cons (LR_box (at_tmp 1 _) (cells_agg _) rfl) (sS (sT1 rfl) sB0 (sF1 rfl)) ?_
  refine AL_cons (LR_assign (at_c (v' := Sv ([] : List UInt8)) rfl) rfl) (sS sT0 sB0 sF0) ?_
  refine AL_nil ?_
  refine thenN ?_
  refine AW_seq1 ?_
  obtain ⟨y4, hy4, hr⟩ := bind_some hr
  obtain ⟨y5, hy5, hr⟩ := bind_some hr
  obtain ⟨y6, hy6, hr⟩ := lt_some hr
  refine AW_draw mixed
    (lrC (LR_loads (at_tmp 4 _) ag23 sz23 rfl rfl rfl)
    (lrC (LR_move (at_tmp 2 _) rfl)
    (lrC (LR_move (at_tmp 0 _) rfl)
    (lrC (LR_loads (at_tmp 4 _) ag23 sz23 rfl rfl rfl)
    (lrC (LR_move (at_tmp 2 _) rfl)
    (lrC (LR_call Hfaa.func94 rfl rfl (C94 N a0 a1_0 a1_1 a2 y4 hy4) (all_cons (at_tmp 9 _) (all_cons (at_tmp 10 _) (all_cons (at_tmp 11 _) all_nil))) rfl)
    (lrC (LR_call Hfaa.func293 rfl rfl (C293 N y4.1 y4.2.1 y4.2.2 y5 hy5) (all_cons (at_tmp 12 _) all_nil) rfl)
    (lrC (LR_call Hfaa.func349 rfl rfl (C349 a1_0 a1_1 a2 y5 y6 hy6) (all_cons (at_tmp 7 _) (all_cons (at_tmp 8 _) (all_cons (at_tmp 13 _) all_nil))) rfl)
    (lrC (LR_assign (at_tmp 14 _) rfl)
    lrN)))))))))
    (by kernel_rfl)
    (saC (sS (sT1 rfl) (sB1 rfl) sF0) (saC (sS (sT1 rfl) sB0 sF0) (saC (sS (sT1 rfl) sB0 sF0) (saC (sS (sT1 rfl) (sB1 rfl) sF0) (saC (sS (sT1 rfl) sB0 sF0) (saC (sS (sA (sT1 rfl) (sA (sT1 rfl) (sA (sT1 rfl) sT0))) sB0 sF0) (saC (sS (sA (sT1 rfl) sT0) sB0 sF0) (saC (sS (sA (sT1 rfl) (sA (sT1 rfl) (sA (sT1 rfl) sT0))) sB0 sF0) (saC (sS (sT1 rfl) sB0 sF0) saN))))))))) ?_
  refine thenN ?_
  refine AW_ret ?_
  obtain rfl := Option.some.inj hr
  exact res1 rfl (rvT rfl)
/-- native.fma -/
def F409 (a0 : Option Nat) (a1 : Option Nat) (a2 : Option Nat) : Option Nat := ffma a0 a1 a2
theorem C409 (a0 : Option Nat) (a1 : Option Nat) (a2 : Option Nat) (r : Option Nat) (hr : r = F409 a0 a1 a2) : Aw.Fn Hfaa.prog 409 [fl .f64 a0, fl .f64 a1, fl .f64 a2] (fl .f64 r) := by
  refine fn_intro Hfaa.func409 rfl rfl rfl ?_
  intro bn0 w0 H0
  refine AW_seq1 ?_
  refine AW_region ?_
  refine AL_cons (LR_assign (at_f rfl) rfl) (sS sT0 sB0 sF0) ?_
  refine AL_nil ?_
  refine thenN ?_
  refine AW_seq1 ?_
  refine AW_region ?_
  refine AL_cons (LR_move (at_tmp 0 _) rfl) (sS (sT1 rfl) sB0 sF0) ?_
  refine AL_cons (LR_move (at_tmp 1 _) rfl) (sS (sT1 rfl) sB0 sF0) ?_
  refine AL_cons (LR_move (at_tmp 2 _) rfl) (sS (sT1 rfl) sB0 sF0) ?_
  refine AL_cons (LR_ext (ex421 a0 a1 a2) (all_cons (at_tmp 7 _) (all_cons (at_tmp 8 _) (all_cons (at_tmp 9 _) all_nil))) rfl) (sS (sA (sT1 rfl) (sA (sT1 rfl) (sA (sT1 rfl) sT0))) sB0 sF0) ?_
  refine AL_cons (LR_assign (at_tmp 10 _) rfl) (sS (sT1 rfl) sB0 sF0) ?_
  refine AL_nil ?_
  refine thenN ?_
  refine AW_ret ?_
  subst hr
  exact res1 rfl (rvT rfl)
/-- native.FMA64 -/
def F391 (N : Nat) (a0 : BitVec 64) (a1 : BitVec 64) (a2 : BitVec 64) : Option (BitVec 64) := lt (F384 a0) fun y6 => lt (F384 a1) fun y7 => lt (F384 a2) fun y8 => lt (F409 y6 y7 y8) fun y9 => (F385 N y9).bind fun y10 => some y10
theorem C391 (N : Nat) (a0 : BitVec 64) (a1 : BitVec 64) (a2 : BitVec 64) (r : BitVec 64) (hr : some r = F391 N a0 a1 a2) : Aw.Fn Hfaa.prog 391 [is (U64 a0), is (U64 a1), is (U64 a2)] (is (U64 r)) := by
  refine fn_intro Hfaa.func391 rfl rfl rfl ?_
  intro bn0 w0 H0
  refine AW_seq1 ?_
  refine AW_region ?_
  refine AL_cons (LR_assign (at_c (v' := U64 (0#64)) rfl) rfl) (sS sT0 sB0 sF0) ?_
  refine AL_nil ?_
  refine thenN ?_
  refine AW_seq1 ?_
  refine AW_region ?_
  refine AL_cons (LR_move (at_tmp 0 _) rfl) (sS (sT1 rfl) sB0 sF0) ?_
  obtain ⟨y6, hy6, hr⟩ := lt_some hr
  refine AL_cons (LR_call Hfaa.func384 rfl rfl (C384 a0 y6 hy6) (all_cons (at_tmp 7 _) all_nil) rfl) (sS (sA (sT1 rfl) sT0) sB0 sF0) ?_
  refine AL_cons (LR_move (at_tmp 1 _) rfl) (sS (sT1 rfl) sB0 sF0) ?_
  obtain ⟨y7, hy7, hr⟩ := lt_some hr
  refine AL_cons (LR_call Hfaa.func384 rfl rfl (C384 a1 y7 hy7) (all_cons (at_tmp 9 _) all_nil) rfl) (sS (sA (sT1 rfl) sT0) sB0 sF0) ?_
  refine AL_cons (LR_move (at_tmp 2 _) rfl) (sS (sT1 rfl) sB0 sF0) ?_
  obtain ⟨y8, hy8, hr⟩ := lt_some hr
  refine AL_cons (LR_call Hfaa.func384 rfl rfl (C384 a2 y8 hy8) (all_cons (at_tmp 11 _) all_nil) rfl) (sS (sA (sT1 rfl) sT0) sB0 sF0) ?_
  obtain ⟨y9, hy9, hr⟩ := lt_some hr
  refine AL_cons (LR_call Hfaa.func409 rfl rfl (C409 y6 y7 y8 y9 hy9) (all_cons (at_tmp 8 _) (all_cons (at_tmp 10 _) (all_cons (at_tmp 12 _) all_nil))) rfl) (sS (sA (sT1 rfl) (sA (sT1 rfl) (sA (sT1 rfl) sT0))) sB0 sF0) ?_
  obtain ⟨y10, hy10, hr⟩ := bind_some hr
  refine AL_cons (LR_call Hfaa.func385 rfl rfl (C385 N y9 y10 hy10) (all_cons (at_tmp 13 _) all_nil) rfl) (sS (sA (sT1 rfl) sT0) sB0 sF0) ?_
  refine AL_cons (LR_assign (at_tmp 14 _) rfl) (sS (sT1 rfl) sB0 sF0) ?_
  refine AL_nil ?_
  refine thenN ?_
  refine AW_ret ?_
  obtain rfl := Option.some.inj hr
  exact res1 rfl (rvT rfl)
/-- calc/na.fma -/
def F350_6 (N : Nat) (x6 : BitVec 64) : Option (BitVec 64) := (F347 N x6).bind fun y18 => some (BitVec.ofInt 64 (y18.toNat : Int))
def F350_8 (N : Nat) (x3 : BitVec 64) (x8 : Bool) : Option (BitVec 64) := bif x8 then F350_6 N (x3 + (1#64)) else F350_6 N (x3 - (1#64))
def F350_7 (N : Nat) (x3 : BitVec 64) (x5 : BitVec 64) (x7 : Bool) : Option (BitVec 64) := bif x7 then lt (F389 (2#8) x5 (0#64)) fun y20 => F350_8 N x3 (y20 == ((x3 >>> 63) == (1#64))) else F350_6 N x3
def F350_5 (N : Nat) (x3 : BitVec 64) (x5 : BitVec 64) : Option (BitVec 64) := F350_7 N x3 x5 (((x3 &&& (1#64)) == (0#64)) && (((F389 (2#8) x5 (0#64))) || ((F389 (4#8) x5 (0#64)))))
def F350_4 (N : Nat) (x1 : BitVec 64) (x2 : BitVec 64) (x3 : BitVec 64) (x4 : BitVec 64) : Option (BitVec 64) := (F330 N (1#8) x3 x4).bind fun y21 => (F330 N (1#8) x1 y21).bind fun y22 => (F330 N (1#8) x2 x4).bind fun y23 => (F330 N (0#8) y22 y23).bind fun y24 => F350_5 N x3 y24
def F350_3 (N : Nat) (x1 : BitVec 64) (x2 : BitVec 64) (x3 : BitVec 64) : Option (BitVec 64) := (F330 N (1#8) x3 x1).bind fun y25 => F350_4 N x1 x2 x3 y25
def F350_2 (N : Nat) (x1 : BitVec 64) (x2 : BitVec 64) : Option (BitVec 64) := (F330 N (0#8) x1 x2).bind fun y26 => F350_3 N x1 x2 y26
def F350_1 (N : Nat) (a3 : BitVec 64) (x1 : BitVec 64) : Option (BitVec 64) := (F346 N (BitVec.ofInt 32 (a3.toNat : Int))).bind fun y27 => F350_2 N x1 y27
def F350 (N : Nat) (a0 : Bool) (a1 : BitVec 64) (a2 : BitVec 64) (a3 : BitVec 64) : Option (BitVec 64) := bif a0 then (F391 N a1 a2 a3).bind fun y4 => some y4 else (F346 N (BitVec.ofInt 32 (a1.toNat : Int))).bind fun y28 => (F346 N (BitVec.ofInt 32 (a2.toNat : Int))).bind fun y29 => (F330 N (2#8) y28 y29).bind fun y30 => F350_1 N a3 y30
theorem C350 (N : Nat) (a0 : Bool) (a1 : BitVec 64) (a2 : BitVec 64) (a3 : BitVec 64) (r : BitVec 64) (hr : some r = F350 N a0 a1 a2 a3) : Aw.Fn Hfaa.prog 350 [is (Bl a0), is (U64 a1), is (U64 a2), is (U64 a3)] (is (U64 r)) := by
  refine fn_intro Hfaa.func350 rfl rfl rfl ?_
  intro bn0 w0 H0
  refine AW_seq1 ?_
  refine AW_region ?_
  refine AL_cons (LR_assign (at_c (v' := U64 (0#64)) rfl) rfl) (sS sT0 sB0 sF0) ?_
  refine AL_nil ?_
  refine thenN ?_
  refine AW_seq1 ?_
  refine AW_seq1 ?_
  refine AW_region ?_
  refine AL_cons (LR_move (at_tmp 0 _) rfl) (sS (sT1 rfl) sB0 sF0) ?_
  refine AL_nil ?_
  refine thenN ?_
  refine AW_condT (b := a0) rfl (fun h => ?_) (fun h => ?_)
  · have hr := hr.trans (cond_t h)
    clear h
    refine AW_seq1 ?_
    refine AW_region ?_
    refine AL_cons (LR_move (at_tmp 1 _) rfl) (sS (sT1 rfl) sB0 sF0) ?_
    refine AL_cons (LR_move (at_tmp 2 _) rfl) (sS (sT1 rfl) sB0 sF0) ?_
    refine AL_cons (LR_move (at_tmp 3 _) rfl) (sS (sT1 rfl) sB0 sF0) ?_
    obtain ⟨y4, hy4, hr⟩ := bind_some hr
    refine AL_cons (LR_call Hfaa.func391 rfl rfl (C391 N a1 a2 a3 y4 hy4) (all_cons (at_tmp 15 _) (all_cons (at_tmp 16 _) (all_cons (at_tmp 17 _) all_nil))) rfl) (sS (sA (sT1 rfl) (sA (sT1 rfl) (sA (sT1 rfl) sT0))) sB0 sF0) ?_
    refine AL_cons (LR_assign (at_tmp 18 _) rfl) (sS (sT1 rfl) sB0 sF0) ?_
    refine AL_nil ?_
    refine thenN ?_
    refine AW_ret ?_
    refine thenR ?_
    obtain rfl := Option.some.inj hr
    exact res1 rfl (rvT rfl)
  · have hr := hr.trans (cond_f h)
    clear h
    refine AW_skip ?_
    refine thenN ?_
    refine AW_cut (σ := BitVec 64) (fun v => ⟨[(3, .inl (is (U64 a3))), (9, .inl (is (U64 v)))], []⟩) (fun v => some r = F350_1 N a3 v) ?_ ?_
    · skip
      refine AW_region ?_
      refine AL_cons (LR_move (at_tmp 1 _) rfl) (sS (sT1 rfl) sB0 sF0) ?_
      refine AL_cons (LR_conv (vx := U64 a1) (at_tmp 19 _) (conv_U32 Hfaa.underlying30 Hfaa.underlying65 (a1.toNat : Int)) rfl) (sS (sT1 rfl) sB0 sF0) ?_
      obtain ⟨y28, hy28, hr⟩ := bind_some hr
      refine AL_cons (LR_call Hfaa.func346 rfl rfl (C346 N (BitVec.ofInt 32 (a1.toNat : Int)) y28 hy28) (all_cons (at_tmp 20 _) all_nil) rfl) (sS (sA (sT1 rfl) sT0) sB0 sF0) ?_
      refine AL_cons (LR_move (at_tmp 2 _) rfl) (sS (sT1 rfl) sB0 sF0) ?_
      refine AL_cons (LR_conv (vx := U64 a2) (at_tmp 22 _) (conv_U32 Hfaa.underlying30 Hfaa.underlying65 (a2.toNat : Int)) rfl) (sS (sT1 rfl) sB0 sF0) ?_
      obtain ⟨y29, hy29, hr⟩ := bind_some hr
      refine AL_cons (LR_call Hfaa.func346 rfl rfl (C346 N (BitVec.ofInt 32 (a2.toNat : Int)) y29 hy29) (all_cons (at_tmp 23 _) all_nil) rfl) (sS (sA (sT1 rfl) sT0) sB0 sF0) ?_
      obtain ⟨y30, hy30, hr⟩ := bind_some hr
      refine AL_cons (LR_call Hfaa.func330 rfl rfl (C330 N (2#8) y28 y29 y30 hy30) (all_cons (at_c (v' := U8 (2#8)) rfl) (all_cons (at_tmp 21 _) (all_cons (at_tmp 24 _) all_nil))) rfl) (sS (sA sT0 (sA (sT1 rfl) (sA (sT1 rfl) sT0))) sB0 sF0) ?_
      refine AL_cons (LR_assign (at_tmp 25 _) rfl) (sS (sT1 rfl) sB0 sF0) ?_
      refine AL_nil ?_
      exact thenN (cutLeaf (v := y30) hr (weak0 ((sT rfl (sT rfl sT0))) sub_nil))
    · rintro x1 hr
      show AW Hfaa.prog _ _ _ ⟨[(3, .inl (is (U64 a3))), (9, .inl (is (U64 x1)))], []⟩
      have hr : some r = F350_1 N a3 x1 := hr
      refine AW_cut (σ := BitVec 64) (fun v => ⟨[(9, .inl (is (U64 x1))), (10, .inl (is (U64 v)))], []⟩) (fun v => some r = F350_2 N x1 v) ?_ ?_
      · skip
        refine AW_region ?_
        refine AL_cons (LR_move (at_tmp 3 _) rfl) (sS (sT1 rfl) sB0 sF0) ?_
        refine AL_cons (LR_conv (vx := U64 a3) (at_tmp 26 _) (conv_U32 Hfaa.underlying30 Hfaa.underlying65 (a3.toNat : Int)) rfl) (sS (sT1 rfl) sB0 sF0) ?_
        obtain ⟨y27, hy27, hr⟩ := bind_some hr
        refine AL_cons (LR_call Hfaa.func346 rfl rfl (C346 N (BitVec.ofInt 32 (a3.toNat : Int)) y27 hy27) (all_cons (at_tmp 27 _) all_nil) rfl) (sS (sA (sT1 rfl) sT0) sB0 sF0) ?_
        refine AL_cons (LR_assign (at_tmp 28 _) rfl) (sS (sT1 rfl) sB0 sF0) ?_
        refine AL_nil ?_
        exact thenN (cutLeaf (v := y27) hr (weak0 ((sT rfl (sT rfl sT0))) sub_nil))
      · rintro x2 hr
        show AW Hfaa.prog _ _ _ ⟨[(9, .inl (is (U64 x1))), (10, .inl (is (U64 x2)))], []⟩
        have hr : some r = F350_2 N x1 x2 := hr
        refine AW_cut (σ := BitVec 64) (fun v => ⟨[(9, .inl (is (U64 x1))), (10, .inl (is (U64 x2))), (11, .inl (is (U64 v)))], []⟩) (fun v => some r = F350_3 N x1 x2 v) ?_ ?_
        · skip
          refine AW_region ?_
          refine AL_cons (LR_move (at_tmp 9 _) rfl) (sS (sT1 rfl) sB0 sF0) ?_
          refine AL_cons (LR_move (at_tmp 10 _) rfl) (sS (sT1 rfl) sB0 sF0) ?_
          obtain ⟨y26, hy26, hr⟩ := bind_some hr
          refine AL_cons (LR_call Hfaa.func330 rfl rfl (C330 N (0#8) x1 x2 y26 hy26) (all_cons (at_c (v' := U8 (0#8)) rfl) (all_cons (at_tmp 29 _) (all_cons (at_tmp 30 _) all_nil))) rfl) (sS (sA sT0 (sA (sT1 rfl) (sA (sT1 rfl) sT0))) sB0 sF0) ?_
          refine AL_cons (LR_assign (at_tmp 31 _) rfl) (sS (sT1 rfl) sB0 sF0) ?_
          refine AL_nil ?_
          exact thenN (cutLeaf (v := y26) hr (weak0 ((sT rfl (sT rfl (sT rfl sT0)))) sub_nil))
        · rintro x3 hr
          show AW Hfaa.prog _ _ _ ⟨[(9, .inl (is (U64 x1))), (10, .inl (is (U64 x2))), (11, .inl (is (U64 x3)))], []⟩
          have hr : some r = F350_3 N x1 x2 x3 := hr
          refine AW_cut (σ := BitVec 64) (fun v => ⟨[(9, .inl (is (U64 x1))), (10, .inl (is (U64 x2))), (11, .inl (is (U64 x3))), (12, .inl (is (U64 v)))], []⟩) (fun v => some r = F350_4 N x1 x2 x3 v) ?_ ?_
          · skip
            refine AW_region ?_
            refine AL_cons (LR_move (at_tmp 11 _) rfl) (sS (sT1 rfl) sB0 sF0) ?_
            refine AL_cons (LR_move (at_tmp 9 _) rfl) (sS (sT1 rfl) sB0 sF0) ?_
            obtain ⟨y25, hy25, hr⟩ := bind_some hr
            refine AL_cons (LR_call Hfaa.func330 rfl rfl (C330 N (1#8) x3 x1 y25 hy25) (all_cons (at_c (v' := U8 (1#8)) rfl) (all_cons (at_tmp 32 _) (all_cons (at_tmp 33 _) all_nil))) rfl) (sS (sA sT0 (sA (sT1 rfl) (sA (sT1 rfl) sT0))) sB0 sF0) ?_
            refine AL_cons (LR_assign (at_tmp 34 _) rfl) (sS (sT1 rfl) sB0 sF0) ?_
            refine AL_nil ?_
            exact thenN (cutLeaf (v := y25) hr (weak0 ((sT rfl (sT rfl (sT rfl (sT rfl sT0))))) sub_nil))
          · rintro x4 hr
            show AW Hfaa.prog _ _ _ ⟨[(9, .inl (is (U64 x1))), (10, .inl (is (U64 x2))), (11, .inl (is (U64 x3))), (12, .inl (is (U64 x4)))], []⟩
            have hr : some r = F350_4 N x1 x2 x3 x4 := hr
            refine AW_cut (σ := BitVec 64) (fun v => ⟨[(11, .inl (is (U64 x3))), (13, .inl (is (U64 v)))], []⟩) (fun v => some r = F350_5 N x3 v) ?_ ?_
            · skip
              refine AW_region ?_
              refine AL_cons (LR_move (at_tmp 9 _) rfl) (sS (sT1 rfl) sB0 sF0) ?_
              refine AL_cons (LR_move (at_tmp 11 _) rfl) (sS (sT1 rfl) sB0 sF0) ?_
              refine AL_cons (LR_move (at_tmp 12 _) rfl) (sS (sT1 rfl) sB0 sF0) ?_
              obtain ⟨y21, hy21, hr⟩ := bind_some hr
              refine AL_cons (LR_call Hfaa.func330 rfl rfl (C330 N (1#8) x3 x4 y21 hy21) (all_cons (at_c (v' := U8 (1#8)) rfl) (all_cons (at_tmp 36 _) (all_cons (at_tmp 37 _) all_nil))) rfl) (sS (sA sT0 (sA (sT1 rfl) (sA (sT1 rfl) sT0))) sB0 sF0) ?_
              obtain ⟨y22, hy22, hr⟩ := bind_some hr
              refine AL_cons (LR_call Hfaa.func330 rfl rfl (C330 N (1#8) x1 y21 y22 hy22) (all_cons (at_c (v' := U8 (1#8)) rfl) (all_cons (at_tmp 35 _) (all_cons (at_tmp 38 _) all_nil))) rfl) (sS (sA sT0 (sA (sT1 rfl) (sA (sT1 rfl) sT0))) sB0 sF0) ?_
              refine AL_cons (LR_move (at_tmp 10 _) rfl) (sS (sT1 rfl) sB0 sF0) ?_
              refine AL_cons (LR_move (at_tmp 12 _) rfl) (sS (sT1 rfl) sB0 sF0) ?_
              obtain ⟨y23, hy23, hr⟩ := bind_some hr
              refine AL_cons (LR_call Hfaa.func330 rfl rfl (C330 N (1#8) x2 x4 y23 hy23) (all_cons (at_c (v' := U8 (1#8)) rfl) (all_cons (at_tmp 40 _) (all_cons (at_tmp 41 _) all_nil))) rfl) (sS (sA sT0 (sA (sT1 rfl) (sA (sT1 rfl) sT0))) sB0 sF0) ?_
              obtain ⟨y24, hy24, hr⟩ := bind_some hr
              refine AL_cons (LR_call Hfaa.func330 rfl rfl (C330 N (0#8) y22 y23 y24 hy24) (all_cons (at_c (v' := U8 (0#8)) rfl) (all_cons (at_tmp 39 _) (all_cons (at_tmp 42 _) all_nil))) rfl) (sS (sA sT0 (sA (sT1 rfl) (sA (sT1 rfl) sT0))) sB0 sF0) ?_
              refine AL_cons (LR_assign (at_tmp 43 _) rfl) (sS (sT1 rfl) sB0 sF0) ?_
              refine AL_nil ?_
              exact thenN (cutLeaf (v := y24) hr (weak0 ((sT rfl (sT rfl sT0))) sub_nil))
            · rintro x5 hr
              show AW Hfaa.prog _ _ _ ⟨[(11, .inl (is (U64 x3))), (13, .inl (is (U64 x5)))], []⟩
              have hr : some r = F350_5 N x3 x5 := hr
              refine AW_cut (σ := BitVec 64) (fun v => ⟨[(11, .inl (is (U64 v)))], []⟩) (fun v => some r = F350_6 N v) ?_ ?_
              · skip
                refine AW_cut (σ := Bool) (fun v => ⟨[(11, .inl (is (U64 x3))), (13, .inl (is (U64 x5))), (54, .inl (is (Bl v)))], []⟩) (fun v => some r = F350_7 N x3 x5 v) ?_ ?_
                · skip
                  refine AW_region ?_
                  refine AL_cons (LR_move (at_tmp 11 _) rfl) (sS (sT1 rfl) sB0 sF0) ?_
                  refine AL_cons (LR_bin (at_tmp 44 _) (at_c (v' := U64 (1#64)) rfl) (and_U64 x3 (1#64)) rfl) (sS (sA (sT1 rfl) sT0) sB0 sF0) ?_
                  refine AL_cons (LR_bin (at_tmp 45 _) (at_c (v' := U64 (0#64)) rfl) (eql_U64 (x3 &&& (1#64)) (0#64)) rfl) (sS (sA (sT1 rfl) sT0) sB0 sF0) ?_
                  refine AL_cons (LR_move (at_tmp 46 _) rfl) (sS (sT1 rfl) sB0 sF0) ?_
                  refine AL_cutAt 7 ⟨[(11, .inl (is (U64 x3))), (13, .inl (is (U64 x5))), (44, .inl (is (U64 x3))), (45, .inl (is (U64 (x3 &&& (1#64))))), (46, .inl (is (Bl ((x3 &&& (1#64)) == (0#64))))), (47, .inl (is (Bl ((x3 &&& (1#64)) == (0#64))))), (54, .inl (is (Bl (((x3 &&& (1#64)) == (0#64)) && (((F389 (2#8) x5 (0#64))) || ((F389 (4#8) x5 (0#64))))))))], []⟩ ?_ ?_
                  · cases hb : (x3 &&& (1#64)) == (0#64)
                    · skip
                      refine AL_cons (LR_off (b := false) rfl rfl rfl rfl) (sS (sT1 rfl) sB0 sF0) ?_
                      refine AL_cons (LR_off (b := false) rfl rfl rfl rfl) (sS (sT1 rfl) sB0 sF0) ?_
                      refine AL_cons (LR_off (b := false) rfl rfl rfl rfl) (sS (sT1 rfl) sB0 sF0) ?_
                      refine AL_cons (LR_offU rfl rfl rfl rfl) (sS (sT1 rfl) sB0 sF0) ?_
                      refine AL_cons (LR_offU rfl rfl rfl rfl) (sS (sT1 rfl) sB0 sF0) ?_
                      refine AL_cons (LR_off (b := false) rfl rfl rfl rfl) (sS (sT1 rfl) sB0 sF0) ?_
                      refine AL_cons (LR_pick (b := false) (at_tmp 47 _) (at_tmp 53 _) (at_c (v' := Bl false) rfl) rfl) (sS (sA (sT1 rfl) (sA (sT1 rfl) sT0)) sB0 sF0) ?_
                      exact AL_nil ⟨rfl, weak0 ((sT rfl (sT rfl (sT rfl (sT rfl (sT rfl (sT rfl (sT rfl sT0)))))))) sub_nil⟩
                    · skip
                      refine AL_cons (LR_on rfl rfl rfl (LR_move (at_tmp 13 _) rfl)) (sS (sT rfl (sT1 rfl)) sB0 sF0) ?_
                      refine AL_cons (LR_on rfl rfl rfl (LR_call Hfaa.func389 rfl rfl (C389 (2#8) x5 (0#64) _ rfl) (all_cons (at_c (v' := U8 (2#8)) rfl) (all_cons (at_tmp 48 _) (all_cons (at_c (v' := U64 (0#64)) rfl) all_nil))) rfl)) (sS (sT rfl (sA sT0 (sA (sT1 rfl) (sA sT0 sT0)))) sB0 sF0) ?_
                      refine AL_cons (LR_on rfl rfl rfl (LR_move (at_tmp 49 _) rfl)) (sS (sT rfl (sT1 rfl)) sB0 sF0) ?_
                      refine AL_cutAt 3 ⟨[(11, .inl (is (U64 x3))), (13, .inl (is (U64 x5))), (44, .inl (is (U64 x3))), (45, .inl (is (U64 (x3 &&& (1#64))))), (46, .inl (is (Bl true))), (47, .inl (is (Bl true))), (48, .inl (is (U64 x5))), (49, .inl (is (Bl ((F389 (2#8) x5 (0#64)))))), (50, .inl (is (Bl ((F389 (2#8) x5 (0#64)))))), (53, .inl (is (Bl (((F389 (2#8) x5 (0#64))) || ((F389 (4#8) x5 (0#64)))))))], []⟩ ?_ ?_
                      · cases hb : (F389 (2#8) x5 (0#64))
                        · skip
                          refine AL_cons (LR_on rfl rfl rfl (LR_move (at_tmp 13 _) rfl)) (sS (sT rfl (sT1 rfl)) sB0 sF0) ?_
                          refine AL_cons (LR_on rfl rfl rfl (LR_call Hfaa.func389 rfl rfl (C389 (4#8) x5 (0#64) _ rfl) (all_cons (at_c (v' := U8 (4#8)) rfl) (all_cons (at_tmp 51 _) (all_cons (at_c (v' := U64 (0#64)) rfl) all_nil))) rfl)) (sS (sT rfl (sA sT0 (sA (sT1 rfl) (sA sT0 sT0)))) sB0 sF0) ?_
                          refine AL_cons (LR_on rfl rfl rfl (LR_pick (b := false) (at_tmp 50 _) (at_c (v' := Bl true) rfl) (at_tmp 52 _) rfl)) (sS (sT rfl (sA (sT1 rfl) (sA sT0 (sT1 rfl)))) sB0 sF0) ?_
                          exact AL_nil ⟨rfl, weak0 ((sT rfl (sT rfl (sT rfl (sT rfl (sT rfl (sT rfl (sT rfl (sT rfl (sT rfl (sT rfl sT0))))))))))) sub_nil⟩
                        · skip
                          refine AL_cons (LR_off (b := true) rfl rfl rfl rfl) (sS (sT1 rfl) sB0 sF0) ?_
                          refine AL_cons (LR_off (b := true) rfl rfl rfl rfl) (sS (sT1 rfl) sB0 sF0) ?_
                          refine AL_cons (LR_on rfl rfl rfl (LR_pick (b := true) (at_tmp 50 _) (at_c (v' := Bl true) rfl) (at_tmp 52 _) rfl)) (sS (sT rfl (sA (sT1 rfl) (sA sT0 (sT1 rfl)))) sB0 sF0) ?_
                          exact AL_nil ⟨rfl, weak0 ((sT rfl (sT rfl (sT rfl (sT rfl (sT rfl (sT rfl (sT rfl (sT rfl (sT rfl (sT rfl sT0))))))))))) sub_nil⟩
                      refine AL_cons (LR_pick (b := true) (at_tmp 47 _) (at_tmp 53 _) (at_c (v' := Bl false) rfl) rfl) (sS (sA (sT1 rfl) (sA (sT1 rfl) sT0)) sB0 sF0) ?_
                      exact AL_nil ⟨rfl, weak0 ((sT rfl (sT rfl (sT rfl (sT rfl (sT rfl (sT rfl (sT rfl sT0)))))))) sub_nil⟩
                  refine AL_nil ?_
                  exact thenN (cutLeaf (v := ((x3 &&& (1#64)) == (0#64)) && (((F389 (2#8) x5 (0#64))) || ((F389 (4#8) x5 (0#64))))) hr (weak0 ((sT rfl (sT rfl (sT rfl sT0)))) sub_nil))
                · rintro x7 hr
                  show AW Hfaa.prog _ _ _ ⟨[(11, .inl (is (U64 x3))), (13, .inl (is (U64 x5))), (54, .inl (is (Bl x7)))], []⟩
                  have hr : some r = F350_7 N x3 x5 x7 := hr
                  refine AW_condT (b := x7) rfl (fun h => ?_) (fun h => ?_)
                  · have hr := hr.trans (cond_t h)
                    clear h
                    refine AW_cut (σ := Bool) (fun v => ⟨[(11, .inl (is (U64 x3))), (60, .inl (is (Bl v)))], []⟩) (fun v => some r = F350_8 N x3 v) ?_ ?_
                    · skip
                      refine AW_region ?_
                      refine AL_cons (LR_move (at_tmp 13 _) rfl) (sS (sT1 rfl) sB0 sF0) ?_
                      obtain ⟨y20, hy20, hr⟩ := lt_some hr
                      refine AL_cons (LR_call Hfaa.func389 rfl rfl (C389 (2#8) x5 (0#64) y20 hy20) (all_cons (at_c (v' := U8 (2#8)) rfl) (all_cons (at_tmp 55 _) (all_cons (at_c (v' := U64 (0#64)) rfl) all_nil))) rfl) (sS (sA sT0 (sA (sT1 rfl) (sA sT0 sT0))) sB0 sF0) ?_
                      refine AL_cons (LR_move (at_tmp 11 _) rfl) (sS (sT1 rfl) sB0 sF0) ?_
                      refine AL_cons (LR_bin (at_tmp 57 _) (at_c (v' := U64 (63#64)) rfl) (shr_U64 x3 ((63#64).toNat : Int) (Int.natCast_nonneg _)) rfl) (sS (sA (sT1 rfl) sT0) sB0 sF0) ?_
                      refine AL_cons (LR_bin (at_tmp 58 _) (at_c (v' := U64 (1#64)) rfl) (eql_U64 (x3 >>> 63) (1#64)) rfl) (sS (sA (sT1 rfl) sT0) sB0 sF0) ?_
                      refine AL_cons (LR_bin (at_tmp 56 _) (at_tmp 59 _) (eql_Bl Hfaa.underlying4 y20 ((x3 >>> 63) == (1#64))) rfl) (sS (sA (sT1 rfl) (sT1 rfl)) sB0 sF0) ?_
                      refine AL_nil ?_
                      exact thenN (cutLeaf (v := y20 == ((x3 >>> 63) == (1#64))) hr (weak0 ((sT rfl (sT rfl sT0))) sub_nil))
                    · rintro x8 hr
                      show AW Hfaa.prog _ _ _ ⟨[(11, .inl (is (U64 x3))), (60, .inl (is (Bl x8)))], []⟩
                      have hr : some r = F350_8 N x3 x8 := hr
                      refine AW_condT (b := x8) rfl (fun h => ?_) (fun h => ?_)
                      · have hr := hr.trans (cond_t h)
                        clear h
                        refine AW_region ?_
                        refine AL_cons (LR_move (at_tmp 11 _) rfl) (sS (sT1 rfl) sB0 sF0) ?_
                        refine AL_cons (LR_bin (at_tmp 61 _) (at_c (v' := U64 (1#64)) rfl) (add_U64 x3 (1#64)) rfl) (sS (sA (sT1 rfl) sT0) sB0 sF0) ?_
                        refine AL_cons (LR_assign (at_tmp 62 _) rfl) (sS (sT1 rfl) sB0 sF0) ?_
                        refine AL_nil ?_
                        exact thenN (cutLeaf (v := x3 + (1#64)) hr (weak0 ((sT rfl sT0)) sub_nil))
                      · have hr := hr.trans (cond_f h)
                        clear h
                        refine AW_region ?_
                        refine AL_cons (LR_move (at_tmp 11 _) rfl) (sS (sT1 rfl) sB0 sF0) ?_
                        refine AL_cons (LR_bin (at_tmp 63 _) (at_c (v' := U64 (1#64)) rfl) (sub_U64 x3 (1#64)) rfl) (sS (sA (sT1 rfl) sT0) sB0 sF0) ?_
                        refine AL_cons (LR_assign (at_tmp 64 _) rfl) (sS (sT1 rfl) sB0 sF0) ?_
                        refine AL_nil ?_
                        exact thenN (cutLeaf (v := x3 - (1#64)) hr (weak0 ((sT rfl sT0)) sub_nil))
                  · have hr := hr.trans (cond_f h)
                    clear h
                    refine AW_skip ?_
                    exact thenN (cutLeaf (v := x3) hr (weak0 ((sT rfl sT0)) sub_nil))
              · rintro x6 hr
                show AW Hfaa.prog _ _ _ ⟨[(11, .inl (is (U64 x6)))], []⟩
                have hr : some r = F350_6 N x6 := hr
                refine AW_seq1 ?_
                refine AW_region ?_
                refine AL_cons (LR_move (at_tmp 11 _) rfl) (sS (sT1 rfl) sB0 sF0) ?_
                obtain ⟨y18, hy18, hr⟩ := bind_some hr
                refine AL_cons (LR_call Hfaa.func347 rfl rfl (C347 N x6 y18 hy18) (all_cons (at_tmp 65 _) all_nil) rfl) (sS (sA (sT1 rfl) sT0) sB0 sF0) ?_
                refine AL_cons (LR_conv (vx := U32 y18) (at_tmp 66 _) (conv_U64 Hfaa.underlying65 Hfaa.underlying30 (y18.toNat : Int)) rfl) (sS (sT1 rfl) sB0 sF0) ?_
                refine AL_cons (LR_assign (at_tmp 67 _) rfl) (sS (sT1 rfl) sB0 sF0) ?_
                refine AL_nil ?_
                refine thenN ?_
                refine AW_ret ?_
                obtain rfl := Option.some.inj hr
                exact res1 rfl (rvT rfl)
/-- math.IsNaN -/
def F429 (a0 : Option Nat) : Bool := fcmp .neq .f64 a0 a0
theorem C429 (a0 : Option Nat) (r : Bool) (hr : r = F429 a0) : Aw.Fn Hfaa.prog 429 [fl .f64 a0] (is (Bl r)) := by
  refine fn_intro Hfaa.func429 rfl rfl rfl ?_
  intro bn0 w0 H0
  refine AW_seq1 ?_
  refine AW_region ?_
  refine AL_cons (LR_assign (at_c (v' := Bl false) rfl) rfl) (sS sT0 sB0 sF0) ?_
  refine AL_nil ?_
  refine thenN ?_
  refine AW_seq1 ?_
  refine AW_region ?_
  refine AL_cons (LR_move (at_tmp 0 _) rfl) (sS (sT1 rfl) sB0 sF0) ?_
  refine AL_cons (LR_move (at_tmp 0 _) rfl) (sS (sT1 rfl) sB0 sF0) ?_
  refine AL_cons (LR_fcmp rfl (at_tmp 3 _) (at_tmp 4 _) rfl) (sS (sA (sT1 rfl) (sT1 rfl)) sB0 sF0) ?_
  refine AL_cons (LR_assign (at_tmp 5 _) rfl) (sS (sT1 rfl) sB0 sF0) ?_
  refine AL_nil ?_
  refine thenN ?_
  refine AW_ret ?_
  subst hr
  exact res1 rfl (rvT rfl)
/-- math.Abs -/
def F444 (N : Nat) (a0 : Option Nat) : Option (Option Nat) := bif a0.isSome then some (some ((BitVec.ofNat 64 (a0.getD 0)) &&& ~~~(9223372036854775808#64)).toNat) else none
theorem C444 (N : Nat) (a0 : Option Nat) (r : Option Nat) (hr : some r = F444 N a0) : Aw.Fn Hfaa.prog 444 [fl .f64 a0] (fl .f64 r) := by
  refine fn_intro Hfaa.func444 rfl rfl rfl ?_
  intro bn0 w0 H0
  refine AW_seq1 ?_
  refine AW_region ?_
  refine AL_cons (LR_assign (at_f rfl) rfl) (sS sT0 sB0 sF0) ?_
  refine AL_nil ?_
  refine thenN ?_
  refine AW_seq1 ?_
  refine AW_region ?_
  refine AL_cons (LR_move (at_tmp 0 _) rfl) (sS (sT1 rfl) sB0 sF0) ?_
  obtain ⟨hg2, hr⟩ := guard_some hr
  refine AL_cons (LR_ext (ex262 a0 hg2) (all_cons (at_tmp 3 _) all_nil) rfl) (sS (sA (sT1 rfl) sT0) sB0 sF0) ?_
  refine AL_cons (LR_bin (at_tmp 4 _) (at_c (v' := U64 (9223372036854775808#64)) rfl) (andNot_U64 (BitVec.ofNat 64 (a0.getD 0)) (9223372036854775808#64)) rfl) (sS (sA (sT1 rfl) sT0) sB0 sF0) ?_
  refine AL_cons (LR_ext (ex404 ((BitVec.ofNat 64 (a0.getD 0)) &&& ~~~(9223372036854775808#64))) (all_cons (at_tmp 5 _) all_nil) rfl) (sS (sA (sT1 rfl) sT0) sB0 sF0) ?_
  refine AL_cons (LR_assign (at_tmp 6 _) rfl) (sS (sT1 rfl) sB0 sF0) ?_
  refine AL_nil ?_
  refine thenN ?_
  refine AW_ret ?_
  obtain rfl := Option.some.inj hr
  exact res1 rfl (rvT rfl)
/-- math.IsInf -/
def F430_1 (N : Nat) (x1 : Option Nat) : Option (Bool) := some (fcmp .gtr .f64 x1 (some 9218868437227405311))
def F430_3 (N : Nat) (a0 : Option Nat) (x3 : Bool) : Option (Bool) := bif x3 then F430_1 N (fneg .f64 a0) else F430_1 N a0
def F430_2 (N : Nat) (a0 : Option Nat) (a1 : Int) (x2 : Bool) : Option (Bool) := bif x2 then (F444 N a0).bind fun y2 => F430_1 N y2 else F430_3 N a0 (decide (a1 < 0))
def F430 (N : Nat) (a0 : Option Nat) (a1 : Int) : Option (Bool) := F430_2 N a0 a1 (a1 == 0)
theorem C430 (N : Nat) (a0 : Option Nat) (a1 : Int) (r : Bool) (hr : some r = F430 N a0 a1) : Aw.Fn Hfaa.prog 430 [fl .f64 a0, is (I64 a1)] (is (Bl r)) := by
  refine fn_intro Hfaa.func430 rfl rfl rfl ?_
  intro bn0 w0 H0
  refine AW_seq1 ?_
  refine AW_region ?_
  refine AL_cons (LR_assign (at_c (v' := Bl false) rfl) rfl) (sS sT0 sB0 sF0) ?_
  refine AL_nil ?_
  refine thenN ?_
  refine AW_cut (σ := Option Nat) (fun v => ⟨[(0, .inl (fl .f64 v))], []⟩) (fun v => some r = F430_1 N v) ?_ ?_
  · skip
    refine AW_cut (σ := Bool) (fun v => ⟨[(0, .inl (fl .f64 a0)), (1, .inl (is (I64 a1))), (6, .inl (is (Bl v)))], []⟩) (fun v => some r = F430_2 N a0 a1 v) ?_ ?_
    · skip
      refine AW_region ?_
      refine AL_cons (LR_move (at_tmp 1 _) rfl) (sS (sT1 rfl) sB0 sF0) ?_
      refine AL_cons (LR_bin (at_tmp 5 _) (at_c (v' := I64 0) rfl) (eql_I64 a1 0) rfl) (sS (sA (sT1 rfl) sT0) sB0 sF0) ?_
      refine AL_nil ?_
      exact thenN (cutLeaf (v := a1 == 0) hr (weak0 ((sT rfl (sT rfl (sT rfl sT0)))) sub_nil))
    · rintro x2 hr
      show AW Hfaa.prog _ _ _ ⟨[(0, .inl (fl .f64 a0)), (1, .inl (is (I64 a1))), (6, .inl (is (Bl x2)))], []⟩
      have hr : some r = F430_2 N a0 a1 x2 := hr
      refine AW_condT (b := x2) rfl (fun h => ?_) (fun h => ?_)
      · have hr := hr.trans (cond_t h)
        clear h
        refine AW_region ?_
        refine AL_cons (LR_move (at_tmp 0 _) rfl) (sS (sT1 rfl) sB0 sF0) ?_
        obtain ⟨y2, hy2, hr⟩ := bind_some hr
        refine AL_cons (LR_call Hfaa.func444 rfl rfl (C444 N a0 y2 hy2) (all_cons (at_tmp 7 _) all_nil) rfl) (sS (sA (sT1 rfl) sT0) sB0 sF0) ?_
        refine AL_cons (LR_assign (at_tmp 8 _) rfl) (sS (sT1 rfl) sB0 sF0) ?_
        refine AL_nil ?_
        exact thenN (cutLeaf (v := y2) hr (weak0 ((sT rfl sT0)) sub_nil))
      · have hr := hr.trans (cond_f h)
        clear h
        refine AW_cut (σ := Bool) (fun v => ⟨[(0, .inl (fl .f64 a0)), (10, .inl (is (Bl v)))], []⟩) (fun v => some r = F430_3 N a0 v) ?_ ?_
        · skip
          refine AW_region ?_
          refine AL_cons (LR_move (at_tmp 1 _) rfl) (sS (sT1 rfl) sB0 sF0) ?_
          refine AL_cons (LR_bin (at_tmp 9 _) (at_c (v' := I64 0) rfl) (lss_I64 a1 0) rfl) (sS (sA (sT1 rfl) sT0) sB0 sF0) ?_
          refine AL_nil ?_
          exact thenN (cutLeaf (v := decide (a1 < 0)) hr (weak0 ((sT rfl (sT rfl sT0))) sub_nil))
        · rintro x3 hr
          show AW Hfaa.prog _ _ _ ⟨[(0, .inl (fl .f64 a0)), (10, .inl (is (Bl x3)))], []⟩
          have hr : some r = F430_3 N a0 x3 := hr
          refine AW_condT (b := x3) rfl (fun h => ?_) (fun h => ?_)
          · have hr := hr.trans (cond_t h)
            clear h
            refine AW_region ?_
            refine AL_cons (LR_move (at_tmp 0 _) rfl) (sS (sT1 rfl) sB0 sF0) ?_
            refine AL_cons (LR_fneg (at_tmp 11 _) rfl) (sS (sT1 rfl) sB0 sF0) ?_
            refine AL_cons (LR_assign (at_tmp 12 _) rfl) (sS (sT1 rfl) sB0 sF0) ?_
            refine AL_nil ?_
            exact thenN (cutLeaf (v := fneg .f64 a0) hr (weak0 ((sT rfl sT0)) sub_nil))
          · have hr := hr.trans (cond_f h)
            clear h
            refine AW_skip ?_
            exact thenN (cutLeaf (v := a0) hr (weak0 ((sT rfl sT0)) sub_nil))
  · rintro x1 hr
    show AW Hfaa.prog _ _ _ ⟨[(0, .inl (fl .f64 x1))], []⟩
    have hr : some r = F430_1 N x1 := hr
    refine AW_seq1 ?_
    refine AW_region ?_
    refine AL_cons (LR_move (at_tmp 0 _) rfl) (sS (sT1 rfl) sB0 sF0) ?_
    refine AL_cons (LR_fcmp rfl (at_tmp 13 _) (at_f rfl) rfl) (sS (sA (sT1 rfl) sT0) sB0 sF0) ?_
    refine AL_cons (LR_assign (at_tmp 14 _) rfl) (sS (sT1 rfl) sB0 sF0) ?_
    refine AL_nil ?_
    refine thenN ?_
    refine AW_ret ?_
    obtain rfl := Option.some.inj hr
    exact res1 rfl (rvT rfl)
/-- math.NaN -/
def F446  : Option Nat := some (9221120237041090561#64).toNat
theorem C446  (r : Option Nat) (hr : r = F446) : Aw.Fn Hfaa.prog 446 [] (fl .f64 r) := by
  refine fn_intro Hfaa.func446 rfl rfl rfl ?_
  intro bn0 w0 H0
  refine AW_seq1 ?_
  refine AW_region ?_
  refine AL_cons (LR_assign (at_f rfl) rfl) (sS sT0 sB0 sF0) ?_
  refine AL_nil ?_
  refine thenN ?_
  refine AW_seq1 ?_
  refine AW_region ?_
  refine AL_cons (LR_ext (ex404 (9221120237041090561#64)) (all_cons (at_c (v' := U64 (9221120237041090561#64)) rfl) all_nil) rfl) (sS (sA sT0 sT0) sB0 sF0) ?_
  refine AL_cons (LR_assign (at_tmp 1 _) rfl) (sS (sT1 rfl) sB0 sF0) ?_
  refine AL_nil ?_
  refine thenN ?_
  refine AW_ret ?_
  subst hr
  exact res1 rfl (rvT rfl)
/-- math.normalize -/
def F445_1 (N : Nat) (a0 : Option Nat) (x1 : Bool) : Option (Option Nat × Int) := bif x1 then some ((fbits .mul .f64 a0 (some 4841369599423283200), (-52))) else some (a0, 0)
def F445 (N : Nat) (a0 : Option Nat) : Option (Option Nat × Int) := (F444 N a0).bind fun y4 => F445_1 N a0 (fcmp .lss .f64 y4 (some 4503599627370496))
theorem C445 (N : Nat) (a0 : Option Nat) (r : Option Nat × Int) (hr : some r = F445 N a0) : Aw.Fn Hfaa.prog 445 [fl .f64 a0] (tup [fl .f64 r.1, is (I64 r.2)]) := by
  refine fn_intro Hfaa.func445 rfl rfl rfl ?_
  intro bn0 w0 H0
  refine AW_seq1 ?_
  refine AW_region ?_
  refine AL_cons (LR_assign (at_f rfl) rfl) (sS sT0 sB0 sF0) ?_
  refine AL_cons (LR_assign (at_c (v' := I64 0) rfl) rfl) (sS sT0 sB0 sF0) ?_
  refine AL_nil ?_
  refine thenN ?_
  refine AW_seq1 ?_
  refine AW_cut (σ := Bool) (fun v => ⟨[(0, .inl (fl .f64 a0)), (6, .inl (is (Bl v)))], []⟩) (fun v => some r = F445_1 N a0 v) ?_ ?_
  · skip
    refine AW_region ?_
    refine AL_cons (LR_move (at_tmp 0 _) rfl) (sS (sT1 rfl) sB0 sF0) ?_
    obtain ⟨y4, hy4, hr⟩ := bind_some hr
    refine AL_cons (LR_call Hfaa.func444 rfl rfl (C444 N a0 y4 hy4) (all_cons (at_tmp 4 _) all_nil) rfl) (sS (sA (sT1 rfl) sT0) sB0 sF0) ?_
    refine AL_cons (LR_fcmp rfl (at_tmp 5 _) (at_f rfl) rfl) (sS (sA (sT1 rfl) sT0) sB0 sF0) ?_
    refine AL_nil ?_
    exact thenN (cutLeaf (v := fcmp .lss .f64 y4 (some 4503599627370496)) hr (weak0 ((sT rfl (sT rfl sT0))) sub_nil))
  · rintro x1 hr
    show AW Hfaa.prog _ _ _ ⟨[(0, .inl (fl .f64 a0)), (6, .inl (is (Bl x1)))], []⟩
    have hr : some r = F445_1 N a0 x1 := hr
    refine AW_condT (b := x1) rfl (fun h => ?_) (fun h => ?_)
    · have hr := hr.trans (cond_t h)
      clear h
      refine AW_seq1 ?_
      refine AW_region ?_
      refine AL_cons (LR_move (at_tmp 0 _) rfl) (sS (sT1 rfl) sB0 sF0) ?_
      refine AL_cons (LR_fbin rfl (at_tmp 7 _) (at_f rfl) rfl) (sS (sA (sT1 rfl) sT0) sB0 sF0) ?_
      refine AL_cons (LR_assign (at_tmp 8 _) rfl) (sS (sT1 rfl) sB0 sF0) ?_
      refine AL_cons (LR_assign (at_c (v' := I64 (-52)) rfl) rfl) (sS sT0 sB0 sF0) ?_
      refine AL_nil ?_
      refine thenN ?_
      refine AW_ret ?_
      refine thenR ?_
      obtain rfl := Option.some.inj hr
      exact res2 rfl (rvT rfl) (rvT rfl)
    · have hr := hr.trans (cond_f h)
      clear h
      refine AW_skip ?_
      refine thenN ?_
      refine AW_seq1 ?_
      refine AW_region ?_
      refine AL_cons (LR_move (at_tmp 0 _) rfl) (sS (sT1 rfl) sB0 sF0) ?_
      refine AL_cons (LR_assign (at_tmp 9 _) rfl) (sS (sT1 rfl) sB0 sF0) ?_
      refine AL_cons (LR_assign (at_c (v' := I64 0) rfl) rfl) (sS sT0 sB0 sF0) ?_
      refine AL_nil ?_
      refine thenN ?_
      refine AW_ret ?_
      obtain rfl := Option.some.inj hr
      exact res2 rfl (rvT rfl) (rvT rfl)
/-- math.frexp -/
def F455_7 (N : Nat) (x6 : Int) (x8 : BitVec 64) : Option (Option Nat × Int) := some (some x8.toNat, x6)
def F455_6 (N : Nat) (x6 : Int) (x7 : BitVec 64) : Option (Option Nat × Int) := F455_7 N x6 (x7 ||| (4602678819172646912#64))
def F455_5 (N : Nat) (x5 : BitVec 64) (x6 : Int) : Option (Option Nat × Int) := F455_6 N x6 (x5 &&& ~~~(9218868437227405312#64))
def F455_4 (N : Nat) (x4 : Int) (x5 : BitVec 64) : Option (Option Nat × Int) := F455_5 N x5 (w64 (x4 + (w64 ((w64 ((w64 (((x5 >>> 52) &&& (2047#64)).toNat : Int)) - 1023)) + 1))))
def F455_3 (N : Nat) (x3 : Option Nat) (x4 : Int) : Option (Option Nat × Int) := bif x3.isSome then F455_4 N x4 (BitVec.ofNat 64 (x3.getD 0)) else none
def F455_2 (N : Nat) (a0 : Option Nat) (x2 : Bool) : Option (Option Nat × Int) := bif x2 then some (a0, 0) else (F445 N a0).bind fun y5 => F455_3 N y5.1 y5.2
def F455_1 (N : Nat) (a0 : Option Nat) (x1 : Bool) : Option (Option Nat × Int) := bif x1 then some (a0, 0) else (F430 N a0 0).bind fun y6 => F455_2 N a0 (y6 || (F429 a0))
def F455 (N : Nat) (a0 : Option Nat) : Option (Option Nat × Int) := F455_1 N a0 (fcmp .eql .f64 a0 (some 0))
theorem C455 (N : Nat) (a0 : Option Nat) (r : Option Nat × Int) (hr : some r = F455 N a0) : Aw.Fn Hfaa.prog 455 [fl .f64 a0] (tup [fl .f64 r.1, is (I64 r.2)]) := by
  refine fn_intro Hfaa.func455 rfl rfl rfl ?_
  intro bn0 w0 H0
  refine AW_seq1 ?_
  refine AW_region ?_
  refine AL_cons (LR_assign (at_f rfl) rfl) (sS sT0 sB0 sF0) ?_
  refine AL_cons (LR_assign (at_c (v' := I64 0) rfl) rfl) (sS sT0 sB0 sF0) ?_
  refine AL_nil ?_
  refine thenN ?_
  refine AW_seq1 ?_
  refine AW_block ?_
  refine AW_cut (σ := Bool) (fun v => ⟨[(0, .inl (fl .f64 a0)), (5, .inl (is (Bl v)))], []⟩) (fun v => some r = F455_1 N a0 v) ?_ ?_
  · skip
    refine AW_region ?_
    refine AL_cons (LR_move (at_tmp 0 _) rfl) (sS (sT1 rfl) sB0 sF0) ?_
    refine AL_cons (LR_fcmp rfl (at_tmp 6 _) (at_f rfl) rfl) (sS (sA (sT1 rfl) sT0) sB0 sF0) ?_
    refine AL_cons (LR_assign (at_tmp 7 _) rfl) (sS (sT1 rfl) sB0 sF0) ?_
    refine AL_nil ?_
    exact thenN (cutLeaf (v := fcmp .eql .f64 a0 (some 0)) hr (weak0 ((sT rfl (sT rfl sT0))) sub_nil))
  · rintro x1 hr
    show AW Hfaa.prog _ _ _ ⟨[(0, .inl (fl .f64 a0)), (5, .inl (is (Bl x1)))], []⟩
    have hr : some r = F455_1 N a0 x1 := hr
    refine AW_condT (b := x1) rfl (fun h => ?_) (fun h => ?_)
    · have hr := hr.trans (cond_t h)
      clear h
      refine AW_seq1 ?_
      refine AW_region ?_
      refine AL_cons (LR_move (at_tmp 0 _) rfl) (sS (sT1 rfl) sB0 sF0) ?_
      refine AL_cons (LR_assign (at_tmp 8 _) rfl) (sS (sT1 rfl) sB0 sF0) ?_
      refine AL_cons (LR_assign (at_c (v' := I64 0) rfl) rfl) (sS sT0 sB0 sF0) ?_
      refine AL_nil ?_
      refine thenN ?_
      refine AW_ret ?_
      refine blR ?_
      refine thenR ?_
      obtain rfl := Option.some.inj hr
      exact res2 rfl (rvT rfl) (rvT rfl)
    · have hr := hr.trans (cond_f h)
      clear h
      refine AW_cut (σ := Bool) (fun v => ⟨[(0, .inl (fl .f64 a0)), (9, .inl (is (Bl v)))], []⟩) (fun v => some r = F455_2 N a0 v) ?_ ?_
      · skip
        refine AW_region ?_
        refine AL_cons (LR_move (at_tmp 0 _) rfl) (sS (sT1 rfl) sB0 sF0) ?_
        obtain ⟨y6, hy6, hr⟩ := bind_some hr
        refine AL_cons (LR_call Hfaa.func430 rfl rfl (C430 N a0 0 y6 hy6) (all_cons (at_tmp 10 _) (all_cons (at_c (v' := I64 0) rfl) all_nil)) rfl) (sS (sA (sT1 rfl) (sA sT0 sT0)) sB0 sF0) ?_
        refine AL_cons (LR_move (at_tmp 11 _) rfl) (sS (sT1 rfl) sB0 sF0) ?_
        refine AL_cutAt 3 ⟨[(0, .inl (fl .f64 a0)), (5, .inl (is (Bl x1))), (10, .inl (fl .f64 a0)), (11, .inl (is (Bl y6))), (12, .inl (is (Bl y6))), (15, .inl (is (Bl (y6 || (F429 a0)))))], []⟩ ?_ ?_
        · cases hb : y6
          · skip
            refine AL_cons (LR_on rfl rfl rfl (LR_move (at_tmp 0 _) rfl)) (sS (sT rfl (sT1 rfl)) sB0 sF0) ?_
            refine AL_cons (LR_on rfl rfl rfl (LR_call Hfaa.func429 rfl rfl (C429 a0 _ rfl) (all_cons (at_tmp 13 _) all_nil) rfl)) (sS (sT rfl (sA (sT1 rfl) sT0)) sB0 sF0) ?_
            refine AL_cons (LR_pick (b := false) (at_tmp 12 _) (at_c (v' := Bl true) rfl) (at_tmp 14 _) rfl) (sS (sA (sT1 rfl) (sA sT0 (sT1 rfl))) sB0 sF0) ?_
            exact AL_nil ⟨rfl, weak0 ((sT rfl (sT rfl (sT rfl (sT rfl (sT rfl (sT rfl sT0))))))) sub_nil⟩
          · skip
            refine AL_cons (LR_off (b := true) rfl rfl rfl rfl) (sS (sT1 rfl) sB0 sF0) ?_
            refine AL_cons (LR_off (b := true) rfl rfl rfl rfl) (sS (sT1 rfl) sB0 sF0) ?_
            refine AL_cons (LR_pick (b := true) (at_tmp 12 _) (at_c (v' := Bl true) rfl) (at_tmp 14 _) rfl) (sS (sA (sT1 rfl) (sA sT0 (sT1 rfl))) sB0 sF0) ?_
            exact AL_nil ⟨rfl, weak0 ((sT rfl (sT rfl (sT rfl (sT rfl (sT rfl (sT rfl sT0))))))) sub_nil⟩
        refine AL_cons (LR_assign (at_tmp 15 _) rfl) (sS (sT1 rfl) sB0 sF0) ?_
        refine AL_nil ?_
        exact thenN (cutLeaf (v := y6 || (F429 a0)) hr (weak0 ((sT rfl (sT rfl sT0))) sub_nil))
      · rintro x2 hr
        show AW Hfaa.prog _ _ _ ⟨[(0, .inl (fl .f64 a0)), (9, .inl (is (Bl x2)))], []⟩
        have hr : some r = F455_2 N a0 x2 := hr
        refine AW_condT (b := x2) rfl (fun h => ?_) (fun h => ?_)
        · have hr := hr.trans (cond_t h)
          clear h
          refine AW_seq1 ?_
          refine AW_region ?_
          refine AL_cons (LR_move (at_tmp 0 _) rfl) (sS (sT1 rfl) sB0 sF0) ?_
          refine AL_cons (LR_assign (at_tmp 16 _) rfl) (sS (sT1 rfl) sB0 sF0) ?_
          refine AL_cons (LR_assign (at_c (v' := I64 0) rfl) rfl) (sS sT0 sB0 sF0) ?_
          refine AL_nil ?_
          refine thenN ?_
          refine AW_ret ?_
          refine blR ?_
          refine thenR ?_
          obtain rfl := Option.some.inj hr
          exact res2 rfl (rvT rfl) (rvT rfl)
        · have hr := hr.trans (cond_f h)
          clear h
          refine AW_skip ?_
          refine blN ?_
          refine thenN ?_
          refine AW_cut (σ := Option Nat × Int) (fun v => ⟨[(0, .inl (fl .f64 v.1)), (3, .inl (is (I64 v.2)))], []⟩) (fun v => some r = F455_3 N v.1 v.2) ?_ ?_
          · skip
            refine AW_region ?_
            refine AL_cons (LR_move (at_tmp 0 _) rfl) (sS (sT1 rfl) sB0 sF0) ?_
            obtain ⟨y5, hy5, hr⟩ := bind_some hr
            refine AL_cons (LR_call Hfaa.func445 rfl rfl (C445 N a0 y5 hy5) (all_cons (at_tmp 18 _) all_nil) rfl) (sS (sA (sT1 rfl) sT0) sB0 sF0) ?_
            refine AL_cons (LR_move (at_tmp 19 _) rfl) (sS (sT1 rfl) sB0 sF0) ?_
            refine AL_cons (LR_extract (at_tmp 17 _) rfl rfl) (sS (sT1 rfl) sB0 sF0) ?_
            refine AL_cons (LR_extract (at_tmp 17 _) rfl rfl) (sS (sT1 rfl) sB0 sF0) ?_
            refine AL_cons (LR_assign (at_tmp 20 _) rfl) (sS (sT1 rfl) sB0 sF0) ?_
            refine AL_cons (LR_assign (at_tmp 21 _) rfl) (sS (sT1 rfl) sB0 sF0) ?_
            refine AL_nil ?_
            exact thenN (cutLeaf (v := (y5.1, y5.2)) hr (weak0 ((sT rfl (sT rfl sT0))) sub_nil))
          · rintro ⟨x3, x4⟩ hr
            show AW Hfaa.prog _ _ _ ⟨[(0, .inl (fl .f64 x3)), (3, .inl (is (I64 x4)))], []⟩
            have hr : some r = F455_3 N x3 x4 := hr
            refine AW_cut (σ := BitVec 64) (fun v => ⟨[(3, .inl (is (I64 x4))), (4, .inl (is (U64 v)))], []⟩) (fun v => some r = F455_4 N x4 v) ?_ ?_
            · skip
              refine AW_region ?_
              refine AL_cons (LR_move (at_tmp 0 _) rfl) (sS (sT1 rfl) sB0 sF0) ?_
              obtain ⟨hg2, hr⟩ := guard_some hr
              refine AL_cons (LR_ext (ex262 x3 hg2) (all_cons (at_tmp 22 _) all_nil) rfl) (sS (sA (sT1 rfl) sT0) sB0 sF0) ?_
              refine AL_cons (LR_assign (at_tmp 23 _) rfl) (sS (sT1 rfl) sB0 sF0) ?_
              refine AL_nil ?_
              exact thenN (cutLeaf (v := BitVec.ofNat 64 (x3.getD 0)) hr (weak0 ((sT rfl (sT rfl sT0))) sub_nil))
            · rintro x5 hr
              show AW Hfaa.prog _ _ _ ⟨[(3, .inl (is (I64 x4))), (4, .inl (is (U64 x5)))], []⟩
              have hr : some r = F455_4 N x4 x5 := hr
              refine AW_cut (σ := Int) (fun v => ⟨[(3, .inl (is (I64 v))), (4, .inl (is (U64 x5)))], []⟩) (fun v => some r = F455_5 N x5 v) ?_ ?_
              · skip
                refine AW_region ?_
                refine AL_cons (LR_move (at_tmp 3 _) rfl) (sS (sT1 rfl) sB0 sF0) ?_
                refine AL_cons (LR_move (at_tmp 4 _) rfl) (sS (sT1 rfl) sB0 sF0) ?_
                refine AL_cons (LR_bin (at_tmp 25 _) (at_c (v' := U64 (52#64)) rfl) (shr_U64 x5 ((52#64).toNat : Int) (Int.natCast_nonneg _)) rfl) (sS (sA (sT1 rfl) sT0) sB0 sF0) ?_
                refine AL_cons (LR_bin (at_tmp 26 _) (at_c (v' := U64 (2047#64)) rfl) (and_U64 (x5 >>> 52) (2047#64)) rfl) (sS (sA (sT1 rfl) sT0) sB0 sF0) ?_
                refine AL_cons (LR_conv (vx := U64 ((x5 >>> 52) &&& (2047#64))) (at_tmp 27 _) (conv_I64 Hfaa.underlying30 Hfaa.underlying3 (((x5 >>> 52) &&& (2047#64)).toNat : Int)) rfl) (sS (sT1 rfl) sB0 sF0) ?_
                refine AL_cons (LR_bin (at_tmp 28 _) (at_c (v' := I64 1023) rfl) (sub_I64 (w64 (((x5 >>> 52) &&& (2047#64)).toNat : Int)) 1023) rfl) (sS (sA (sT1 rfl) sT0) sB0 sF0) ?_
                refine AL_cons (LR_bin (at_tmp 29 _) (at_c (v' := I64 1) rfl) (add_I64 (w64 ((w64 (((x5 >>> 52) &&& (2047#64)).toNat : Int)) - 1023)) 1) rfl) (sS (sA (sT1 rfl) sT0) sB0 sF0) ?_
                refine AL_cons (LR_bin (at_tmp 24 _) (at_tmp 30 _) (add_I64 x4 (w64 ((w64 ((w64 (((x5 >>> 52) &&& (2047#64)).toNat : Int)) - 1023)) + 1))) rfl) (sS (sA (sT1 rfl) (sT1 rfl)) sB0 sF0) ?_
                refine AL_cons (LR_assign (at_tmp 31 _) rfl) (sS (sT1 rfl) sB0 sF0) ?_
                refine AL_nil ?_
                exact thenN (cutLeaf (v := w64 (x4 + (w64 ((w64 ((w64 (((x5 >>> 52) &&& (2047#64)).toNat : Int)) - 1023)) + 1)))) hr (weak0 ((sT rfl (sT rfl sT0))) sub_nil))
              · rintro x6 hr
                show AW Hfaa.prog _ _ _ ⟨[(3, .inl (is (I64 x6))), (4, .inl (is (U64 x5)))], []⟩
                have hr : some r = F455_5 N x5 x6 := hr
                refine AW_cut (σ := BitVec 64) (fun v => ⟨[(3, .inl (is (I64 x6))), (4, .inl (is (U64 v)))], []⟩) (fun v => some r = F455_6 N x6 v) ?_ ?_
                · skip
                  refine AW_region ?_
                  refine AL_cons (LR_move (at_tmp 4 _) rfl) (sS (sT1 rfl) sB0 sF0) ?_
                  refine AL_cons (LR_bin (at_tmp 32 _) (at_c (v' := U64 (9218868437227405312#64)) rfl) (andNot_U64 x5 (9218868437227405312#64)) rfl) (sS (sA (sT1 rfl) sT0) sB0 sF0) ?_
                  refine AL_cons (LR_assign (at_tmp 33 _) rfl) (sS (sT1 rfl) sB0 sF0) ?_
                  refine AL_nil ?_
                  exact thenN (cutLeaf (v := x5 &&& ~~~(9218868437227405312#64)) hr (weak0 ((sT rfl (sT rfl sT0))) sub_nil))
                · rintro x7 hr
                  show AW Hfaa.prog _ _ _ ⟨[(3, .inl (is (I64 x6))), (4, .inl (is (U64 x7)))], []⟩
                  have hr : some r = F455_6 N x6 x7 := hr
                  refine AW_cut (σ := BitVec 64) (fun v => ⟨[(3, .inl (is (I64 x6))), (4, .inl (is (U64 v)))], []⟩) (fun v => some r = F455_7 N x6 v) ?_ ?_
                  · skip
                    refine AW_region ?_
                    refine AL_cons (LR_move (at_tmp 4 _) rfl) (sS (sT1 rfl) sB0 sF0) ?_
                    refine AL_cons (LR_bin (at_tmp 34 _) (at_c (v' := U64 (4602678819172646912#64)) rfl) (or_U64 x7 (4602678819172646912#64)) rfl) (sS (sA (sT1 rfl) sT0) sB0 sF0) ?_
                    refine AL_cons (LR_assign (at_tmp 35 _) rfl) (sS (sT1 rfl) sB0 sF0) ?_
                    refine AL_nil ?_
                    exact thenN (cutLeaf (v := x7 ||| (4602678819172646912#64)) hr (weak0 ((sT rfl (sT rfl sT0))) sub_nil))
                  · rintro x8 hr
                    show AW Hfaa.prog _ _ _ ⟨[(3, .inl (is (I64 x6))), (4, .inl (is (U64 x8)))], []⟩
                    have hr : some r = F455_7 N x6 x8 := hr
                    refine AW_seq1 ?_
                    refine AW_region ?_
                    refine AL_cons (LR_move (at_tmp 4 _) rfl) (sS (sT1 rfl) sB0 sF0) ?_
                    refine AL_cons (LR_ext (ex404 x8) (all_cons (at_tmp 36 _) all_nil) rfl) (sS (sA (sT1 rfl) sT0) sB0 sF0) ?_
                    refine AL_cons (LR_assign (at_tmp 37 _) rfl) (sS (sT1 rfl) sB0 sF0) ?_
                    refine AL_nil ?_
                    refine thenN ?_
                    refine AW_ret ?_
                    obtain rfl := Option.some.inj hr
                    exact res2 rfl (rvT rfl) (rvT rfl)
end Go.Proofs.YfwaawGreat
