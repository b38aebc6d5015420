import Derived.Test.YfwaawGreatG0
import Derived.Test.YfwaawGreatG34
import Derived.Test.YfwaawGreatG67
import Derived.Test.YfwaawGreatG68
namespace Go.Proofs.YfwaawGreat
open Go.Aw
set_option linter.unusedVariables false
set_option maxRecDepth 100000
set_option maxHeartbeats 1000000
/-- law.towerNativeOn -/
def F26_3 (N : Nat) (a0 : Tab) (x3 : BitVec 8) (x4 : BitVec 8) (x5 : NS (Opv)) : Option (Bool) := (F54 N a0 (2#8) x3 x4 (0#8) x5).bind fun y7 => (F54 N a0 (0#8) x3 x4 (0#8) x5).bind fun y8 => (F52 N y7.1 y7.2 y8.1 y8.2).bind fun y9 => some y9
def F26_2 (N : Nat) (a0 : Tab) (a2 : NS (Opv)) (x3 : BitVec 8) (x4 : BitVec 8) : Option (Bool) := (F32 N a2).bind fun y10 => F26_3 N a0 x3 x4 y10
def F26_1 (N : Nat) (a0 : Tab) (a1 : Bool) (a2 : NS (Opv)) (x1 : BitVec 8) (x2 : BitVec 8) : Option (Bool) := bif a1 then lt (F14) fun y11 => F26_2 N a0 a2 y11.1 y11.2 else F26_2 N a0 a2 x1 x2
def F26 (N : Nat) (a0 : Tab) (a1 : Bool) (a2 : NS (Opv)) : Option (Bool) := lt (F13) fun y12 => F26_1 N a0 a1 a2 y12.1 y12.2
theorem C26 (N : Nat) (a0 : Tab) (a1 : Bool) (a2 : NS (Opv)) (r : Bool) (hr : some r = F26 N a0 a1 a2) : Aw.Fn Hfaa.prog 26 [tabp a0, is (Bl a1), nsl opK 6 a2] (is (Bl r)) := by
  refine fn_intro Hfaa.func26 rfl rfl rfl ?_
  intro bn0 w0 H0
  refine AW_seq1 ?_
  refine AW_region ?_
  refine AL_cons (LR_assign (at_c (v' := Bl false) rfl) rfl) (sS sT0 sB0 sF0) ?_
  refine AL_nil ?_
  refine thenN ?_
  refine AW_cut (σ := BitVec 8 × BitVec 8) (fun v => ⟨[(0, .inl (tabp a0)), (1, .inl (is (Bl a1))), (2, .inl (nsl opK 6 a2)), (7, .inr (.inl (7, 0)))], [(7, pb 23 [is (U8 v.1), is (U8 v.2)])]⟩) (fun v => some r = F26_1 N a0 a1 a2 v.1 v.2) ?_ ?_
  · skip
    refine AW_region ?_
    obtain ⟨y12, hy12, hr⟩ := lt_some hr
    refine AL_cons (LR_call Hfaa.func13 rfl rfl (C13 y12 hy12) all_nil rfl) (sS sT0 sB0 sF0) ?_
    refine AL_cons (zl23 rfl) (sS sT0 sB0 (sF1 rfl)) ?_
    refine AL_cons (LR_store (at_tmp 7 _) (at_tmp 8 _) (cells_agg _) (onC (one_is rfl) (onC (one_is rfl) onN)) sz23 rfl rfl) (sS (sA (sT1 rfl) (sT1 rfl)) (sB1 rfl) sF0) ?_
    refine AL_nil ?_
    exact thenN (cutLeaf (v := (y12.1, y12.2)) hr (weak0 ((sT rfl (sT rfl (sT rfl (sT rfl sT0))))) (sub_keep sub_nil)))
  · rintro ⟨x1, x2⟩ hr
    show AW Hfaa.prog _ _ _ ⟨[(0, .inl (tabp a0)), (1, .inl (is (Bl a1))), (2, .inl (nsl opK 6 a2)), (7, .inr (.inl (7, 0)))], [(7, pb 23 [is (U8 x1), is (U8 x2)])]⟩
    have hr : some r = F26_1 N a0 a1 a2 x1 x2 := hr
    refine AW_cut (σ := BitVec 8 × BitVec 8) (fun v => ⟨[(0, .inl (tabp a0)), (2, .inl (nsl opK 6 a2)), (7, .inr (.inl (7, 0)))], [(7, pb 23 [is (U8 v.1), is (U8 v.2)])]⟩) (fun v => some r = F26_2 N a0 a2 v.1 v.2) ?_ ?_
    · skip
      refine AW_seq1 ?_
      refine AW_region ?_
      refine AL_cons (LR_move (at_tmp 1 _) rfl) (sS (sT1 rfl) sB0 sF0) ?_
      refine AL_nil ?_
      refine thenN ?_
      refine AW_condT (b := a1) rfl (fun h => ?_) (fun h => ?_)
      · have hr := hr.trans (cond_t h)
        clear h
        refine AW_region ?_
        obtain ⟨y11, hy11, hr⟩ := lt_some hr
        refine AL_cons (LR_call Hfaa.func14 rfl rfl (C14 y11 hy11) all_nil rfl) (sS sT0 sB0 sF0) ?_
        refine AL_cons (LR_store (at_tmp 7 _) (at_tmp 10 _) (cells_agg _) (onC (one_is rfl) (onC (one_is rfl) onN)) sz23 rfl rfl) (sS (sA (sT1 rfl) (sT1 rfl)) (sB1 rfl) sF0) ?_
        refine AL_nil ?_
        exact thenN (cutLeaf (v := (y11.1, y11.2)) hr (weak0 ((sT rfl (sT rfl (sT rfl sT0)))) (sub_keep sub_nil)))
      · have hr := hr.trans (cond_f h)
        clear h
        refine AW_skip ?_
        exact thenN (cutLeaf (v := (x1, x2)) hr (weak0 ((sT rfl (sT rfl (sT rfl sT0)))) (sub_keep sub_nil)))
    · rintro ⟨x3, x4⟩ hr
      show AW Hfaa.prog _ _ _ ⟨[(0, .inl (tabp a0)), (2, .inl (nsl opK 6 a2)), (7, .inr (.inl (7, 0)))], [(7, pb 23 [is (U8 x3), is (U8 x4)])]⟩
      have hr : some r = F26_2 N a0 a2 x3 x4 := hr
      refine AW_cut (σ := NS (Opv)) (fun v => ⟨[(0, .inl (tabp a0)), (2, .inl (nsl opK 6 v)), (7, .inr (.inl (7, 0)))], [(7, pb 23 [is (U8 x3), is (U8 x4)])]⟩) (fun v => some r = F26_3 N a0 x3 x4 v) ?_ ?_
      · skip
        refine AW_region ?_
        refine AL_cons (LR_move (at_tmp 2 _) rfl) (sS (sT1 rfl) sB0 sF0) ?_
        obtain ⟨y10, hy10, hr⟩ := bind_some hr
        refine AL_cons (LR_call Hfaa.func32 rfl rfl (C32 N a2 y10 hy10) (all_cons (at_tmp 11 _) all_nil) rfl) (sS (sA (sT1 rfl) sT0) sB0 sF0) ?_
        refine AL_cons (LR_assign (at_tmp 12 _) rfl) (sS (sT1 rfl) sB0 sF0) ?_
        refine AL_nil ?_
        exact thenN (cutLeaf (v := y10) hr (weak0 ((sT rfl (sT rfl (sT rfl sT0)))) (sub_keep sub_nil)))
      · rintro x5 hr
        show AW Hfaa.prog _ _ _ ⟨[(0, .inl (tabp a0)), (2, .inl (nsl opK 6 x5)), (7, .inr (.inl (7, 0)))], [(7, pb 23 [is (U8 x3), is (U8 x4)])]⟩
        have hr : some r = F26_3 N a0 x3 x4 x5 := hr
        refine AW_seq1 ?_
        obtain ⟨y7, hy7, hr⟩ := bind_some hr
        obtain ⟨y8, hy8, hr⟩ := bind_some hr
        obtain ⟨y9, hy9, hr⟩ := bind_some hr
        refine AW_draw mixed
          (lrC (LR_move (at_tmp 0 _) rfl)
          (lrC (LR_loads (at_tmp 7 _) ag23 sz23 rfl rfl rfl)
          (lrC (LR_move (at_tmp 2 _) rfl)
          (lrC (LR_call Hfaa.func54 rfl rfl (C54 N a0 (2#8) x3 x4 (0#8) x5 y7 hy7) (all_cons (at_tmp 13 _) (all_cons (at_c (v' := U8 (2#8)) rfl) (all_cons (at_tmp 14 _) (all_cons (at_c (v' := U8 (0#8)) rfl) (all_cons (at_tmp 15 _) all_nil))))) rfl)
          (lrC (LR_move (at_tmp 0 _) rfl)
          (lrC (LR_loads (at_tmp 7 _) ag23 sz23 rfl rfl rfl)
          (lrC (LR_move (at_tmp 2 _) rfl)
          (lrC (LR_call Hfaa.func54 rfl rfl (C54 N a0 (0#8) x3 x4 (0#8) x5 y8 hy8) (all_cons (at_tmp 17 _) (all_cons (at_c (v' := U8 (0#8)) rfl) (all_cons (at_tmp 18 _) (all_cons (at_c (v' := U8 (0#8)) rfl) (all_cons (at_tmp 19 _) all_nil))))) rfl)
          (lrC (LR_call Hfaa.func52 rfl rfl (C52 N y7.1 y7.2 y8.1 y8.2 y9 hy9) (all_cons (at_tmp 16 _) (all_cons (at_tmp 20 _) all_nil)) rfl)
          (lrC (LR_assign (at_tmp 21 _) rfl)
          lrN))))))))))
          (by kernel_rfl)
          (saC (sS (sT1 rfl) sB0 sF0) (saC (sS (sT1 rfl) (sB1 rfl) sF0) (saC (sS (sT1 rfl) sB0 sF0) (saC (sS (sA (sT1 rfl) (sA sT0 (sA (sT1 rfl) (sA sT0 (sA (sT1 rfl) sT0))))) sB0 sF0) (saC (sS (sT1 rfl) sB0 sF0) (saC (sS (sT1 rfl) (sB1 rfl) sF0) (saC (sS (sT1 rfl) sB0 sF0) (saC (sS (sA (sT1 rfl) (sA sT0 (sA (sT1 rfl) (sA sT0 (sA (sT1 rfl) sT0))))) sB0 sF0) (saC (sS (sA (sT1 rfl) (sA (sT1 rfl) sT0)) sB0 sF0) (saC (sS (sT1 rfl) sB0 sF0) saN)))))))))) ?_
        refine thenN ?_
        refine AW_ret ?_
        obtain rfl := Option.some.inj hr
        exact res1 rfl (rvT rfl)
/-- law.towerOn -/
def F19_6 (N : Nat) (a0 : Tab) (a1_0 : BitVec 8) (a1_1 : BitVec 8) (a2 : BitVec 8) (x8 : NS (Opv)) (x9 : Bool) (x10 : Nat → BitVec 64) (x11 : NS (List UInt8)) : Option (Bool) := (F29 N a0 (2#8) a1_0 a1_1 a2 x8).bind fun y25 => (F30 N y25.1 y25.2.1 y25.2.2 x9 x10 x11).bind fun y26 => some y26
def F19_8 (N : Nat) (a0 : Tab) (a1_0 : BitVec 8) (a1_1 : BitVec 8) (a2 : BitVec 8) (a3 : NS (Opv)) (x2 : Bool) (x3 : Nat → BitVec 64) (x4 : NS (List UInt8)) (x12 : NS (Opv)) (x13 : Bool) : Option (Bool) := bif x13 then (F29 N a0 (0#8) a1_0 a1_1 a2 x12).bind fun y28 => F19_6 N a0 a1_0 a1_1 a2 x12 y28.1 y28.2.1 y28.2.2 else F19_6 N a0 a1_0 a1_1 a2 a3 x2 x3 x4
def F19_7 (N : Nat) (a0 : Tab) (a1_0 : BitVec 8) (a1_1 : BitVec 8) (a2 : BitVec 8) (a3 : NS (Opv)) (x2 : Bool) (x3 : Nat → BitVec 64) (x4 : NS (List UInt8)) (x12 : NS (Opv)) : Option (Bool) := F19_8 N a0 a1_0 a1_1 a2 a3 x2 x3 x4 x12 ((decide ((a3.2.1 : Int) ≤ 256)) && (decide ((x12.2.1 : Int) < (a3.2.1 : Int))))
def F19_5 (N : Nat) (a0 : Tab) (a1_0 : BitVec 8) (a1_1 : BitVec 8) (a2 : BitVec 8) (a3 : NS (Opv)) (x2 : Bool) (x3 : Nat → BitVec 64) (x4 : NS (List UInt8)) (x7 : Bool) : Option (Bool) := bif x7 then some false else (F32 N a3).bind fun y29 => F19_7 N a0 a1_0 a1_1 a2 a3 x2 x3 x4 y29
def F19_4 (N : Nat) (a0 : Tab) (a1_0 : BitVec 8) (a1_1 : BitVec 8) (a2 : BitVec 8) (a3 : NS (Opv)) (x2 : Bool) (x3 : Nat → BitVec 64) (x4 : NS (List UInt8)) (x6 : Bool) : Option (Bool) := bif x6 then some true else lt (F14) fun y30 => (F26 N a0 ((a1_0 == y30.1) && (a1_1 == y30.2)) a3).bind fun y31 => F19_5 N a0 a1_0 a1_1 a2 a3 x2 x3 x4 (!y31)
def F19_3 (N : Nat) (a0 : Tab) (a1_0 : BitVec 8) (a1_1 : BitVec 8) (a2 : BitVec 8) (a3 : NS (Opv)) (x2 : Bool) (x3 : Nat → BitVec 64) (x4 : NS (List UInt8)) (x5 : Bool) : Option (Bool) := bif x5 then some false else lt (F31 (2#8) a1_0 a1_1 a2) fun y32 => F19_4 N a0 a1_0 a1_1 a2 a3 x2 x3 x4 (!y32)
def F19_2 (N : Nat) (a0 : Tab) (a1_0 : BitVec 8) (a1_1 : BitVec 8) (a2 : BitVec 8) (a3 : NS (Opv)) (x2 : Bool) (x3 : Nat → BitVec 64) (x4 : NS (List UInt8)) : Option (Bool) := (F29 N a0 (1#8) a1_0 a1_1 a2 a3).bind fun y33 => (F30 N y33.1 y33.2.1 y33.2.2 x2 x3 x4).bind fun y34 => F19_3 N a0 a1_0 a1_1 a2 a3 x2 x3 x4 (!y34)
def F19_1 (N : Nat) (a0 : Tab) (a1_0 : BitVec 8) (a1_1 : BitVec 8) (a2 : BitVec 8) (a3 : NS (Opv)) (x1 : Bool) : Option (Bool) := bif x1 then some false else (F29 N a0 (0#8) a1_0 a1_1 a2 a3).bind fun y35 => F19_2 N a0 a1_0 a1_1 a2 a3 y35.1 y35.2.1 y35.2.2
def F19 (N : Nat) (a0 : Tab) (a1_0 : BitVec 8) (a1_1 : BitVec 8) (a2 : BitVec 8) (a3 : NS (Opv)) : Option (Bool) := (F25 N a0 a1_0 a1_1 a2 a3).bind fun y36 => F19_1 N a0 a1_0 a1_1 a2 a3 (!y36)
theorem C19 (N : Nat) (a0 : Tab) (a1_0 : BitVec 8) (a1_1 : BitVec 8) (a2 : BitVec 8) (a3 : NS (Opv)) (r : Bool) (hr : some r = F19 N a0 a1_0 a1_1 a2 a3) : Aw.Fn Hfaa.prog 19 [tabp a0, agg [is (U8 a1_0), is (U8 a1_1)], is (U8 a2), nsl opK 6 a3] (is (Bl r)) := by
  refine fn_intro Hfaa.func19 rfl rfl rfl ?_
  intro bn0 w0 H0
  refine AW_seq1 ?_
  refine AW_region ?_
  refine AL_cons (LR_box (at_tmp 1 _) (cells_agg _) rfl) (sS (sT1 rfl) sB0 (sF1 rfl)) ?_
  refine AL_cons (LR_assign (at_c (v' := Bl false) rfl) rfl) (sS sT0 sB0 sF0) ?_
  refine AL_nil ?_
  refine thenN ?_
  refine AW_seq1 ?_
  refine AW_cut (σ := Bool) (fun v => ⟨[(0, .inl (tabp a0)), (2, .inl (is (U8 a2))), (3, .inl (nsl opK 6 a3)), (5, .inr (.inl (5, 0))), (16, .inl (is (Bl v)))], [(5, pb 23 [is (U8 a1_0), is (U8 a1_1)])]⟩) (fun v => some r = F19_1 N a0 a1_0 a1_1 a2 a3 v) ?_ ?_
  · skip
    refine AW_region ?_
    refine AL_cons (LR_move (at_tmp 0 _) rfl) (sS (sT1 rfl) sB0 sF0) ?_
    refine AL_cons (LR_loads (at_tmp 5 _) ag23 sz23 rfl rfl rfl) (sS (sT1 rfl) (sB1 rfl) sF0) ?_
    refine AL_cons (LR_move (at_tmp 2 _) rfl) (sS (sT1 rfl) sB0 sF0) ?_
    refine AL_cons (LR_move (at_tmp 3 _) rfl) (sS (sT1 rfl) sB0 sF0) ?_
    obtain ⟨y36, hy36, hr⟩ := bind_some hr
    refine AL_cons (LR_call Hfaa.func25 rfl rfl (C25 N a0 a1_0 a1_1 a2 a3 y36 hy36) (all_cons (at_tmp 11 _) (all_cons (at_tmp 12 _) (all_cons (at_tmp 13 _) (all_cons (at_tmp 14 _) all_nil)))) rfl) (sS (sA (sT1 rfl) (sA (sT1 rfl) (sA (sT1 rfl) (sA (sT1 rfl) sT0)))) sB0 sF0) ?_
    refine AL_cons (LR_un (at_tmp 15 _) (not_Bl y36) rfl) (sS (sT1 rfl) sB0 sF0) ?_
    refine AL_nil ?_
    exact thenN (cutLeaf (v := !y36) hr (weak0 ((sT rfl (sT rfl (sT rfl (sT rfl (sT rfl sT0)))))) (sub_keep sub_nil)))
  · rintro x1 hr
    show AW Hfaa.prog _ _ _ ⟨[(0, .inl (tabp a0)), (2, .inl (is (U8 a2))), (3, .inl (nsl opK 6 a3)), (5, .inr (.inl (5, 0))), (16, .inl (is (Bl x1)))], [(5, pb 23 [is (U8 a1_0), is (U8 a1_1)])]⟩
    have hr : some r = F19_1 N a0 a1_0 a1_1 a2 a3 x1 := hr
    refine AW_condT (b := x1) rfl (fun h => ?_) (fun h => ?_)
    · have hr := hr.trans (cond_t h)
      clear h
      refine AW_seq1 ?_
      refine AW_region ?_
      refine AL_cons (LR_assign (at_c (v' := Bl false) rfl) rfl) (sS sT0 sB0 sF0) ?_
      refine AL_nil ?_
      refine thenN ?_
      refine AW_ret ?_
      refine thenR ?_
      obtain rfl := Option.some.inj hr
      exact res1 rfl (rvT rfl)
    · have hr := hr.trans (cond_f h)
      clear h
      refine AW_skip ?_
      refine thenN ?_
      refine AW_cut (σ := Bool × (Nat → BitVec 64) × NS (List UInt8)) (fun v => ⟨[(0, .inl (tabp a0)), (2, .inl (is (U8 a2))), (3, .inl (nsl opK 6 a3)), (5, .inr (.inl (5, 0))), (9, .inr (.inl (9, 0)))], [(5, pb 23 [is (U8 a1_0), is (U8 a1_1)]), (9, pb 59 (is (Bl v.1) :: (ar U64 8 v.2.1 ++ (ns Sv v.2.2 :: []))))]⟩) (fun v => some r = F19_2 N a0 a1_0 a1_1 a2 a3 v.1 v.2.1 v.2.2) ?_ ?_
      · skip
        refine AW_region ?_
        refine AL_cons (LR_move (at_tmp 0 _) rfl) (sS (sT1 rfl) sB0 sF0) ?_
        refine AL_cons (LR_loads (at_tmp 5 _) ag23 sz23 rfl rfl rfl) (sS (sT1 rfl) (sB1 rfl) sF0) ?_
        refine AL_cons (LR_move (at_tmp 2 _) rfl) (sS (sT1 rfl) sB0 sF0) ?_
        refine AL_cons (LR_move (at_tmp 3 _) rfl) (sS (sT1 rfl) sB0 sF0) ?_
        obtain ⟨y35, hy35, hr⟩ := bind_some hr
        refine AL_cons (LR_call Hfaa.func29 rfl rfl (C29 N a0 (0#8) a1_0 a1_1 a2 a3 y35 hy35) (all_cons (at_tmp 17 _) (all_cons (at_c (v' := U8 (0#8)) rfl) (all_cons (at_tmp 18 _) (all_cons (at_tmp 19 _) (all_cons (at_tmp 20 _) all_nil))))) rfl) (sS (sA (sT1 rfl) (sA sT0 (sA (sT1 rfl) (sA (sT1 rfl) (sA (sT1 rfl) sT0))))) sB0 sF0) ?_
        refine AL_cons (zl59 rfl) (sS sT0 sB0 (sF1 rfl)) ?_
        refine AL_cons (LR_storeA (at_tmp 9 _) (at_tmp 21 _) (cells_agg _) (onC (one_is rfl) (ones_ar (fun _ => rfl) (onC (one_ns _) onN))) sz59 (lnC (lnA (lnC ln0))) (bleLen (lnC (lnA (lnC ln0))) rfl) (setSeg_full _ _ (lenEq (lnC (lnA (lnC ln0))) (lnC (lnA (lnC ln0)))))) (sS (sA (sT1 rfl) (sT1 rfl)) (sB1 rfl) sF0) ?_
        refine AL_nil ?_
        exact thenN (cutLeaf (v := (y35.1, y35.2.1, y35.2.2)) hr (weak0 ((sT rfl (sT rfl (sT rfl (sT rfl (sT rfl sT0)))))) (sub_keep (sub_keep sub_nil))))
      · rintro ⟨x2, x3, x4⟩ hr
        show AW Hfaa.prog _ _ _ ⟨[(0, .inl (tabp a0)), (2, .inl (is (U8 a2))), (3, .inl (nsl opK 6 a3)), (5, .inr (.inl (5, 0))), (9, .inr (.inl (9, 0)))], [(5, pb 23 [is (U8 a1_0), is (U8 a1_1)]), (9, pb 59 (is (Bl x2) :: (ar U64 8 x3 ++ (ns Sv x4 :: []))))]⟩
        have hr : some r = F19_2 N a0 a1_0 a1_1 a2 a3 x2 x3 x4 := hr
        refine AW_seq1 ?_
        refine AW_cut (σ := Bool) (fun v => ⟨[(0, .inl (tabp a0)), (2, .inl (is (U8 a2))), (3, .inl (nsl opK 6 a3)), (5, .inr (.inl (5, 0))), (9, .inr (.inl (9, 0))), (29, .inl (is (Bl v)))], [(5, pb 23 [is (U8 a1_0), is (U8 a1_1)]), (9, pb 59 (is (Bl x2) :: (ar U64 8 x3 ++ (ns Sv x4 :: []))))]⟩) (fun v => some r = F19_3 N a0 a1_0 a1_1 a2 a3 x2 x3 x4 v) ?_ ?_
        · skip
          obtain ⟨y33, hy33, hr⟩ := bind_some hr
          obtain ⟨y34, hy34, hr⟩ := bind_some hr
          refine AW_draw mixed
            (lrC (LR_move (at_tmp 0 _) rfl)
            (lrC (LR_loads (at_tmp 5 _) ag23 sz23 rfl rfl rfl)
            (lrC (LR_move (at_tmp 2 _) rfl)
            (lrC (LR_move (at_tmp 3 _) rfl)
            (lrC (LR_call Hfaa.func29 rfl rfl (C29 N a0 (1#8) a1_0 a1_1 a2 a3 y33 hy33) (all_cons (at_tmp 22 _) (all_cons (at_c (v' := U8 (1#8)) rfl) (all_cons (at_tmp 23 _) (all_cons (at_tmp 24 _) (all_cons (at_tmp 25 _) all_nil))))) rfl)
            (lrC (LR_loads (at_tmp 9 _) ag59 sz59 (tkF (lnC (lnA (lnC ln0)))) (bleLen (lnC (lnA (lnC ln0))) rfl) rfl)
            (lrC (LR_call Hfaa.func30 rfl rfl (C30 N y33.1 y33.2.1 y33.2.2 x2 x3 x4 y34 hy34) (all_cons (at_tmp 26 _) (all_cons (at_tmp 27 _) all_nil)) rfl)
            (lrC (LR_un (at_tmp 28 _) (not_Bl y34) rfl)
            lrN))))))))
            (by kernel_rfl)
            (saC (sS (sT1 rfl) sB0 sF0) (saC (sS (sT1 rfl) (sB1 rfl) sF0) (saC (sS (sT1 rfl) sB0 sF0) (saC (sS (sT1 rfl) sB0 sF0) (saC (sS (sA (sT1 rfl) (sA sT0 (sA (sT1 rfl) (sA (sT1 rfl) (sA (sT1 rfl) sT0))))) sB0 sF0) (saC (sS (sT1 rfl) (sB1 rfl) sF0) (saC (sS (sA (sT1 rfl) (sA (sT1 rfl) sT0)) sB0 sF0) (saC (sS (sT1 rfl) sB0 sF0) saN)))))))) ?_
          exact thenN (cutLeaf (v := !y34) hr (weak0 ((sT rfl (sT rfl (sT rfl (sT rfl (sT rfl (sT rfl sT0))))))) (sub_keep (sub_keep sub_nil))))
        · rintro x5 hr
          show AW Hfaa.prog _ _ _ ⟨[(0, .inl (tabp a0)), (2, .inl (is (U8 a2))), (3, .inl (nsl opK 6 a3)), (5, .inr (.inl (5, 0))), (9, .inr (.inl (9, 0))), (29, .inl (is (Bl x5)))], [(5, pb 23 [is (U8 a1_0), is (U8 a1_1)]), (9, pb 59 (is (Bl x2) :: (ar U64 8 x3 ++ (ns Sv x4 :: []))))]⟩
          have hr : some r = F19_3 N a0 a1_0 a1_1 a2 a3 x2 x3 x4 x5 := hr
          refine AW_condT (b := x5) rfl (fun h => ?_) (fun h => ?_)
          · have hr := hr.trans (cond_t h)
            clear h
            refine AW_seq1 ?_
            refine AW_region ?_
            refine AL_cons (LR_assign (at_c (v' := Bl false) rfl) rfl) (sS sT0 sB0 sF0) ?_
            refine AL_nil ?_
            refine thenN ?_
            refine AW_ret ?_
            refine thenR ?_
            obtain rfl := Option.some.inj hr
            exact res1 rfl (rvT rfl)
          · have hr := hr.trans (cond_f h)
            clear h
            refine AW_skip ?_
            refine thenN ?_
            refine AW_seq1 ?_
            refine AW_cut (σ := Bool) (fun v => ⟨[(0, .inl (tabp a0)), (2, .inl (is (U8 a2))), (3, .inl (nsl opK 6 a3)), (5, .inr (.inl (5, 0))), (9, .inr (.inl (9, 0))), (33, .inl (is (Bl v)))], [(5, pb 23 [is (U8 a1_0), is (U8 a1_1)]), (9, pb 59 (is (Bl x2) :: (ar U64 8 x3 ++ (ns Sv x4 :: []))))]⟩) (fun v => some r = F19_4 N a0 a1_0 a1_1 a2 a3 x2 x3 x4 v) ?_ ?_
            · skip
              refine AW_region ?_
              refine AL_cons (LR_loads (at_tmp 5 _) ag23 sz23 rfl rfl rfl) (sS (sT1 rfl) (sB1 rfl) sF0) ?_
              refine AL_cons (LR_move (at_tmp 2 _) rfl) (sS (sT1 rfl) sB0 sF0) ?_
              obtain ⟨y32, hy32, hr⟩ := lt_some hr
              refine AL_cons (LR_call Hfaa.func31 rfl rfl (C31 (2#8) a1_0 a1_1 a2 y32 hy32) (all_cons (at_c (v' := U8 (2#8)) rfl) (all_cons (at_tmp 30 _) (all_cons (at_tmp 31 _) all_nil))) rfl) (sS (sA sT0 (sA (sT1 rfl) (sA (sT1 rfl) sT0))) sB0 sF0) ?_
              refine AL_cons (LR_un (at_tmp 32 _) (not_Bl y32) rfl) (sS (sT1 rfl) sB0 sF0) ?_
              refine AL_nil ?_
              exact thenN (cutLeaf (v := !y32) hr (weak0 ((sT rfl (sT rfl (sT rfl (sT rfl (sT rfl (sT rfl sT0))))))) (sub_keep (sub_keep sub_nil))))
            · rintro x6 hr
              show AW Hfaa.prog _ _ _ ⟨[(0, .inl (tabp a0)), (2, .inl (is (U8 a2))), (3, .inl (nsl opK 6 a3)), (5, .inr (.inl (5, 0))), (9, .inr (.inl (9, 0))), (33, .inl (is (Bl x6)))], [(5, pb 23 [is (U8 a1_0), is (U8 a1_1)]), (9, pb 59 (is (Bl x2) :: (ar U64 8 x3 ++ (ns Sv x4 :: []))))]⟩
              have hr : some r = F19_4 N a0 a1_0 a1_1 a2 a3 x2 x3 x4 x6 := hr
              refine AW_condT (b := x6) rfl (fun h => ?_) (fun h => ?_)
              · have hr := hr.trans (cond_t h)
                clear h
                refine AW_seq1 ?_
                refine AW_region ?_
                refine AL_cons (LR_assign (at_c (v' := Bl true) rfl) rfl) (sS sT0 sB0 sF0) ?_
                refine AL_nil ?_
                refine thenN ?_
                refine AW_ret ?_
                refine thenR ?_
                obtain rfl := Option.some.inj hr
                exact res1 rfl (rvT rfl)
              · have hr := hr.trans (cond_f h)
                clear h
                refine AW_skip ?_
                refine thenN ?_
                refine AW_seq1 ?_
                refine AW_cut (σ := Bool) (fun v => ⟨[(0, .inl (tabp a0)), (2, .inl (is (U8 a2))), (3, .inl (nsl opK 6 a3)), (5, .inr (.inl (5, 0))), (9, .inr (.inl (9, 0))), (40, .inl (is (Bl v)))], [(5, pb 23 [is (U8 a1_0), is (U8 a1_1)]), (9, pb 59 (is (Bl x2) :: (ar U64 8 x3 ++ (ns Sv x4 :: []))))]⟩) (fun v => some r = F19_5 N a0 a1_0 a1_1 a2 a3 x2 x3 x4 v) ?_ ?_
                · skip
                  obtain ⟨y30, hy30, hr⟩ := lt_some hr
                  obtain ⟨y31, hy31, hr⟩ := bind_some hr
                  refine AW_draw mixed
                    (lrC (LR_move (at_tmp 0 _) rfl)
                    (lrC (LR_loads (at_tmp 5 _) ag23 sz23 rfl rfl rfl)
                    (lrC (LR_call Hfaa.func14 rfl rfl (C14 y30 hy30) all_nil rfl)
                    (lrC (LR_binA (at_tmp 35 _) (at_tmp 36 _) (eqlA23 a1_0 a1_1 y30.1 y30.2) rfl)
                    (lrC (LR_move (at_tmp 3 _) rfl)
                    (lrC (LR_call Hfaa.func26 rfl rfl (C26 N a0 ((a1_0 == y30.1) && (a1_1 == y30.2)) a3 y31 hy31) (all_cons (at_tmp 34 _) (all_cons (at_tmp 37 _) (all_cons (at_tmp 38 _) all_nil))) rfl)
                    (lrC (LR_un (at_tmp 39 _) (not_Bl y31) rfl)
                    lrN)))))))
                    (by kernel_rfl)
                    (saC (sS (sT1 rfl) sB0 sF0) (saC (sS (sT1 rfl) (sB1 rfl) sF0) (saC (sS sT0 sB0 sF0) (saC (sS (sA (sT1 rfl) (sT1 rfl)) sB0 sF0) (saC (sS (sT1 rfl) sB0 sF0) (saC (sS (sA (sT1 rfl) (sA (sT1 rfl) (sA (sT1 rfl) sT0))) sB0 sF0) (saC (sS (sT1 rfl) sB0 sF0) saN))))))) ?_
                  exact thenN (cutLeaf (v := !y31) hr (weak0 ((sT rfl (sT rfl (sT rfl (sT rfl (sT rfl (sT rfl sT0))))))) (sub_keep (sub_keep sub_nil))))
                · rintro x7 hr
                  show AW Hfaa.prog _ _ _ ⟨[(0, .inl (tabp a0)), (2, .inl (is (U8 a2))), (3, .inl (nsl opK 6 a3)), (5, .inr (.inl (5, 0))), (9, .inr (.inl (9, 0))), (40, .inl (is (Bl x7)))], [(5, pb 23 [is (U8 a1_0), is (U8 a1_1)]), (9, pb 59 (is (Bl x2) :: (ar U64 8 x3 ++ (ns Sv x4 :: []))))]⟩
                  have hr : some r = F19_5 N a0 a1_0 a1_1 a2 a3 x2 x3 x4 x7 := hr
                  refine AW_condT (b := x7) rfl (fun h => ?_) (fun h => ?_)
                  · have hr := hr.trans (cond_t h)
                    clear h
                    refine AW_seq1 ?_
                    refine AW_region ?_
                    refine AL_cons (LR_assign (at_c (v' := Bl false) rfl) rfl) (sS sT0 sB0 sF0) ?_
                    refine AL_nil ?_
                    refine thenN ?_
                    refine AW_ret ?_
                    refine thenR ?_
                    obtain rfl := Option.some.inj hr
                    exact res1 rfl (rvT rfl)
                  · have hr := hr.trans (cond_f h)
                    clear h
                    refine AW_skip ?_
                    refine thenN ?_
                    refine AW_cut (σ := NS (Opv) × Bool × (Nat → BitVec 64) × NS (List UInt8)) (fun v => ⟨[(0, .inl (tabp a0)), (2, .inl (is (U8 a2))), (3, .inl (nsl opK 6 v.1)), (5, .inr (.inl (5, 0))), (9, .inr (.inl (9, 0)))], [(5, pb 23 [is (U8 a1_0), is (U8 a1_1)]), (9, pb 59 (is (Bl v.2.1) :: (ar U64 8 v.2.2.1 ++ (ns Sv v.2.2.2 :: []))))]⟩) (fun v => some r = F19_6 N a0 a1_0 a1_1 a2 v.1 v.2.1 v.2.2.1 v.2.2.2) ?_ ?_
                    · skip
                      refine AW_cut (σ := NS (Opv)) (fun v => ⟨[(0, .inl (tabp a0)), (2, .inl (is (U8 a2))), (3, .inl (nsl opK 6 a3)), (5, .inr (.inl (5, 0))), (9, .inr (.inl (9, 0))), (10, .inl (nsl opK 6 v))], [(5, pb 23 [is (U8 a1_0), is (U8 a1_1)]), (9, pb 59 (is (Bl x2) :: (ar U64 8 x3 ++ (ns Sv x4 :: []))))]⟩) (fun v => some r = F19_7 N a0 a1_0 a1_1 a2 a3 x2 x3 x4 v) ?_ ?_
                      · skip
                        refine AW_region ?_
                        refine AL_cons (LR_move (at_tmp 3 _) rfl) (sS (sT1 rfl) sB0 sF0) ?_
                        obtain ⟨y29, hy29, hr⟩ := bind_some hr
                        refine AL_cons (LR_call Hfaa.func32 rfl rfl (C32 N a3 y29 hy29) (all_cons (at_tmp 41 _) all_nil) rfl) (sS (sA (sT1 rfl) sT0) sB0 sF0) ?_
                        refine AL_cons (LR_assign (at_tmp 42 _) rfl) (sS (sT1 rfl) sB0 sF0) ?_
                        refine AL_nil ?_
                        exact thenN (cutLeaf (v := y29) hr (weak0 ((sT rfl (sT rfl (sT rfl (sT rfl (sT rfl (sT rfl sT0))))))) (sub_keep (sub_keep sub_nil))))
                      · rintro x12 hr
                        show AW Hfaa.prog _ _ _ ⟨[(0, .inl (tabp a0)), (2, .inl (is (U8 a2))), (3, .inl (nsl opK 6 a3)), (5, .inr (.inl (5, 0))), (9, .inr (.inl (9, 0))), (10, .inl (nsl opK 6 x12))], [(5, pb 23 [is (U8 a1_0), is (U8 a1_1)]), (9, pb 59 (is (Bl x2) :: (ar U64 8 x3 ++ (ns Sv x4 :: []))))]⟩
                        have hr : some r = F19_7 N a0 a1_0 a1_1 a2 a3 x2 x3 x4 x12 := hr
                        refine AW_cut (σ := Bool) (fun v => ⟨[(0, .inl (tabp a0)), (2, .inl (is (U8 a2))), (3, .inl (nsl opK 6 a3)), (5, .inr (.inl (5, 0))), (9, .inr (.inl (9, 0))), (10, .inl (nsl opK 6 x12)), (52, .inl (is (Bl v)))], [(5, pb 23 [is (U8 a1_0), is (U8 a1_1)]), (9, pb 59 (is (Bl x2) :: (ar U64 8 x3 ++ (ns Sv x4 :: []))))]⟩) (fun v => some r = F19_8 N a0 a1_0 a1_1 a2 a3 x2 x3 x4 x12 v) ?_ ?_
                        · skip
                          refine AW_region ?_
                          refine AL_cons (LR_move (at_tmp 3 _) rfl) (sS (sT1 rfl) sB0 sF0) ?_
                          refine AL_cons (LR_bi1 (at_tmp 43 _) (len_nsl Hfaa.underlying25 a3) rfl) (sS (sT1 rfl) sB0 sF0) ?_
                          refine AL_cons (LR_bin (at_tmp 44 _) (at_c (v' := I64 256) rfl) (leq_I64 (a3.2.1 : Int) 256) rfl) (sS (sA (sT1 rfl) sT0) sB0 sF0) ?_
                          refine AL_cons (LR_move (at_tmp 45 _) rfl) (sS (sT1 rfl) sB0 sF0) ?_
                          refine AL_cutAt 6 ⟨[(0, .inl (tabp a0)), (2, .inl (is (U8 a2))), (3, .inl (nsl opK 6 a3)), (5, .inr (.inl (5, 0))), (9, .inr (.inl (9, 0))), (10, .inl (nsl opK 6 x12)), (43, .inl (nsl opK 6 a3)), (44, .inl (is (I64 (a3.2.1 : Int)))), (45, .inl (is (Bl (decide ((a3.2.1 : Int) ≤ 256))))), (46, .inl (is (Bl (decide ((a3.2.1 : Int) ≤ 256))))), (52, .inl (is (Bl ((decide ((a3.2.1 : Int) ≤ 256)) && (decide ((x12.2.1 : Int) < (a3.2.1 : Int)))))))], [(5, pb 23 [is (U8 a1_0), is (U8 a1_1)]), (9, pb 59 (is (Bl x2) :: (ar U64 8 x3 ++ (ns Sv x4 :: []))))]⟩ ?_ ?_
                          · cases hb : decide ((a3.2.1 : Int) ≤ 256)
                            · skip
                              refine AL_cons (LR_off (b := false) rfl rfl rfl rfl) (sS (sT1 rfl) sB0 sF0) ?_
                              refine AL_cons (LR_off (b := false) rfl rfl rfl rfl) (sS (sT1 rfl) sB0 sF0) ?_
                              refine AL_cons (LR_off (b := false) rfl rfl rfl rfl) (sS (sT1 rfl) sB0 sF0) ?_
                              refine AL_cons (LR_off (b := false) rfl rfl rfl rfl) (sS (sT1 rfl) sB0 sF0) ?_
                              refine AL_cons (LR_off (b := false) rfl rfl rfl rfl) (sS (sT1 rfl) sB0 sF0) ?_
                              refine AL_cons (LR_pick (b := false) (at_tmp 46 _) (at_tmp 51 _) (at_c (v' := Bl false) rfl) rfl) (sS (sA (sT1 rfl) (sA (sT1 rfl) sT0)) sB0 sF0) ?_
                              exact AL_nil ⟨rfl, weak0 ((sT rfl (sT rfl (sT rfl (sT rfl (sT rfl (sT rfl (sT rfl (sT rfl (sT rfl (sT rfl (sT rfl sT0)))))))))))) (sub_keep (sub_keep sub_nil))⟩
                            · skip
                              refine AL_cons (LR_on rfl rfl rfl (LR_move (at_tmp 10 _) rfl)) (sS (sT rfl (sT1 rfl)) sB0 sF0) ?_
                              refine AL_cons (LR_on rfl rfl rfl (LR_bi1 (at_tmp 47 _) (len_nsl Hfaa.underlying25 x12) rfl)) (sS (sT rfl (sT1 rfl)) sB0 sF0) ?_
                              refine AL_cons (LR_on rfl rfl rfl (LR_move (at_tmp 3 _) rfl)) (sS (sT rfl (sT1 rfl)) sB0 sF0) ?_
                              refine AL_cons (LR_on rfl rfl rfl (LR_bi1 (at_tmp 49 _) (len_nsl Hfaa.underlying25 a3) rfl)) (sS (sT rfl (sT1 rfl)) sB0 sF0) ?_
                              refine AL_cons (LR_on rfl rfl rfl (LR_bin (at_tmp 48 _) (at_tmp 50 _) (lss_I64 (x12.2.1 : Int) (a3.2.1 : Int)) rfl)) (sS (sT rfl (sA (sT1 rfl) (sT1 rfl))) sB0 sF0) ?_
                              refine AL_cons (LR_pick (b := true) (at_tmp 46 _) (at_tmp 51 _) (at_c (v' := Bl false) rfl) rfl) (sS (sA (sT1 rfl) (sA (sT1 rfl) sT0)) sB0 sF0) ?_
                              exact AL_nil ⟨rfl, weak0 ((sT rfl (sT rfl (sT rfl (sT rfl (sT rfl (sT rfl (sT rfl (sT rfl (sT rfl (sT rfl (sT rfl sT0)))))))))))) (sub_keep (sub_keep sub_nil))⟩
                          refine AL_nil ?_
                          exact thenN (cutLeaf (v := (decide ((a3.2.1 : Int) ≤ 256)) && (decide ((x12.2.1 : Int) < (a3.2.1 : Int)))) hr (weak0 ((sT rfl (sT rfl (sT rfl (sT rfl (sT rfl (sT rfl (sT rfl sT0)))))))) (sub_keep (sub_keep sub_nil))))
                        · rintro x13 hr
                          show AW Hfaa.prog _ _ _ ⟨[(0, .inl (tabp a0)), (2, .inl (is (U8 a2))), (3, .inl (nsl opK 6 a3)), (5, .inr (.inl (5, 0))), (9, .inr (.inl (9, 0))), (10, .inl (nsl opK 6 x12)), (52, .inl (is (Bl x13)))], [(5, pb 23 [is (U8 a1_0), is (U8 a1_1)]), (9, pb 59 (is (Bl x2) :: (ar U64 8 x3 ++ (ns Sv x4 :: []))))]⟩
                          have hr : some r = F19_8 N a0 a1_0 a1_1 a2 a3 x2 x3 x4 x12 x13 := hr
                          refine AW_condT (b := x13) rfl (fun h => ?_) (fun h => ?_)
                          · have hr := hr.trans (cond_t h)
                            clear h
                            refine AW_region ?_
                            refine AL_cons (LR_move (at_tmp 10 _) rfl) (sS (sT1 rfl) sB0 sF0) ?_
                            refine AL_cons (LR_move (at_tmp 0 _) rfl) (sS (sT1 rfl) sB0 sF0) ?_
                            refine AL_cons (LR_loads (at_tmp 5 _) ag23 sz23 rfl rfl rfl) (sS (sT1 rfl) (sB1 rfl) sF0) ?_
                            refine AL_cons (LR_move (at_tmp 2 _) rfl) (sS (sT1 rfl) sB0 sF0) ?_
                            refine AL_cons (LR_move (at_tmp 10 _) rfl) (sS (sT1 rfl) sB0 sF0) ?_
                            obtain ⟨y28, hy28, hr⟩ := bind_some hr
                            refine AL_cons (LR_call Hfaa.func29 rfl rfl (C29 N a0 (0#8) a1_0 a1_1 a2 x12 y28 hy28) (all_cons (at_tmp 54 _) (all_cons (at_c (v' := U8 (0#8)) rfl) (all_cons (at_tmp 55 _) (all_cons (at_tmp 56 _) (all_cons (at_tmp 57 _) all_nil))))) rfl) (sS (sA (sT1 rfl) (sA sT0 (sA (sT1 rfl) (sA (sT1 rfl) (sA (sT1 rfl) sT0))))) sB0 sF0) ?_
                            refine AL_cons (LR_assign (at_tmp 53 _) rfl) (sS (sT1 rfl) sB0 sF0) ?_
                            refine AL_cons (LR_storeA (at_tmp 9 _) (at_tmp 58 _) (cells_agg _) (onC (one_is rfl) (ones_ar (fun _ => rfl) (onC (one_ns _) onN))) sz59 (lnC (lnA (lnC ln0))) (bleLen (lnC (lnA (lnC ln0))) rfl) (setSeg_full _ _ (lenEq (lnC (lnA (lnC ln0))) (lnC (lnA (lnC ln0)))))) (sS (sA (sT1 rfl) (sT1 rfl)) (sB1 rfl) sF0) ?_
                            refine AL_nil ?_
                            exact thenN (cutLeaf (v := (x12, y28.1, y28.2.1, y28.2.2)) hr (weak0 ((sT rfl (sT rfl (sT rfl (sT rfl (sT rfl sT0)))))) (sub_keep (sub_keep sub_nil))))
                          · have hr := hr.trans (cond_f h)
                            clear h
                            refine AW_skip ?_
                            exact thenN (cutLeaf (v := (a3, x2, x3, x4)) hr (weak0 ((sT rfl (sT rfl (sT rfl (sT rfl (sT rfl sT0)))))) (sub_keep (sub_keep sub_nil))))
                    · rintro ⟨x8, x9, x10, x11⟩ hr
                      show AW Hfaa.prog _ _ _ ⟨[(0, .inl (tabp a0)), (2, .inl (is (U8 a2))), (3, .inl (nsl opK 6 x8)), (5, .inr (.inl (5, 0))), (9, .inr (.inl (9, 0)))], [(5, pb 23 [is (U8 a1_0), is (U8 a1_1)]), (9, pb 59 (is (Bl x9) :: (ar U64 8 x10 ++ (ns Sv x11 :: []))))]⟩
                      have hr : some r = F19_6 N a0 a1_0 a1_1 a2 x8 x9 x10 x11 := hr
                      refine AW_seq1 ?_
                      obtain ⟨y25, hy25, hr⟩ := bind_some hr
                      obtain ⟨y26, hy26, hr⟩ := bind_some hr
                      refine AW_draw mixed
                        (lrC (LR_move (at_tmp 0 _) rfl)
                        (lrC (LR_loads (at_tmp 5 _) ag23 sz23 rfl rfl rfl)
                        (lrC (LR_move (at_tmp 2 _) rfl)
                        (lrC (LR_move (at_tmp 3 _) rfl)
                        (lrC (LR_call Hfaa.func29 rfl rfl (C29 N a0 (2#8) a1_0 a1_1 a2 x8 y25 hy25) (all_cons (at_tmp 59 _) (all_cons (at_c (v' := U8 (2#8)) rfl) (all_cons (at_tmp 60 _) (all_cons (at_tmp 61 _) (all_cons (at_tmp 62 _) all_nil))))) rfl)
                        (lrC (LR_loads (at_tmp 9 _) ag59 sz59 (tkF (lnC (lnA (lnC ln0)))) (bleLen (lnC (lnA (lnC ln0))) rfl) rfl)
                        (lrC (LR_call Hfaa.func30 rfl rfl (C30 N y25.1 y25.2.1 y25.2.2 x9 x10 x11 y26 hy26) (all_cons (at_tmp 63 _) (all_cons (at_tmp 64 _) all_nil)) rfl)
                        (lrC (LR_assign (at_tmp 65 _) rfl)
                        lrN))))))))
                        (by kernel_rfl)
                        (saC (sS (sT1 rfl) sB0 sF0) (saC (sS (sT1 rfl) (sB1 rfl) sF0) (saC (sS (sT1 rfl) sB0 sF0) (saC (sS (sT1 rfl) sB0 sF0) (saC (sS (sA (sT1 rfl) (sA sT0 (sA (sT1 rfl) (sA (sT1 rfl) (sA (sT1 rfl) sT0))))) sB0 sF0) (saC (sS (sT1 rfl) (sB1 rfl) sF0) (saC (sS (sA (sT1 rfl) (sA (sT1 rfl) sT0)) sB0 sF0) (saC (sS (sT1 rfl) sB0 sF0) saN)))))))) ?_
                      refine thenN ?_
                      refine AW_ret ?_
                      obtain rfl := Option.some.inj hr
                      exact res1 rfl (rvT rfl)
/-- law.tower -/
def F10_1 (N : Nat) (x1 : Bool) : Option (Bool) := some x1
def F10 (N : Nat) (a0 : Tab) (a1_0 : BitVec 8) (a1_1 : BitVec 8) (a2 : BitVec 8) (a3 : NS (Opv)) : Option (Bool) := (F18 N a0).bind fun y4 => bif !y4 then F10_1 N true else (F19 N a0 a1_0 a1_1 a2 a3).bind fun y6 => F10_1 N y6
theorem C10 (N : Nat) (a0 : Tab) (a1_0 : BitVec 8) (a1_1 : BitVec 8) (a2 : BitVec 8) (a3 : NS (Opv)) (r : Bool) (hr : some r = F10 N a0 a1_0 a1_1 a2 a3) : Aw.Fn Hfaa.prog 10 [tabp a0, agg [is (U8 a1_0), is (U8 a1_1)], is (U8 a2), nsl opK 6 a3] (is (Bl r)) := by
  refine fn_intro Hfaa.func10 rfl rfl rfl ?_
  intro bn0 w0 H0
  refine AW_seq1 ?_
  refine AW_region ?_
  refine AL_cons (LR_box (at_tmp 1 _) (cells_agg _) rfl) (sS (sT1 rfl) sB0 (sF1 rfl)) ?_
  refine AL_cons (LR_assign (at_c (v' := Bl false) rfl) rfl) (sS sT0 sB0 sF0) ?_
  refine AL_nil ?_
  refine thenN ?_
  refine AW_cut (σ := Bool) (fun v => ⟨[(8, .inl (is (Bl v)))], []⟩) (fun v => some r = F10_1 N v) ?_ ?_
  · skip
    refine AW_region ?_
    refine AL_cons (LR_move (at_tmp 0 _) rfl) (sS (sT1 rfl) sB0 sF0) ?_
    obtain ⟨y4, hy4, hr⟩ := bind_some hr
    refine AL_cons (LR_call Hfaa.func18 rfl rfl (C18 N a0 y4 hy4) (all_cons (at_tmp 9 _) all_nil) rfl) (sS (sA (sT1 rfl) sT0) sB0 sF0) ?_
    refine AL_cons (LR_un (at_tmp 10 _) (not_Bl y4) rfl) (sS (sT1 rfl) sB0 sF0) ?_
    refine AL_cons (LR_move (at_tmp 11 _) rfl) (sS (sT1 rfl) sB0 sF0) ?_
    cases hb : !y4
    · have hr := hr.trans (cond_f hb)
      refine AL_cons (LR_on rfl rfl rfl (LR_move (at_tmp 0 _) rfl)) (sS (sT rfl (sT1 rfl)) sB0 sF0) ?_
      refine AL_cons (LR_on rfl rfl rfl (LR_loads (at_tmp 5 _) ag23 sz23 rfl rfl rfl)) (sS (sT rfl (sT1 rfl)) (sB1 rfl) sF0) ?_
      refine AL_cons (LR_on rfl rfl rfl (LR_move (at_tmp 2 _) rfl)) (sS (sT rfl (sT1 rfl)) sB0 sF0) ?_
      refine AL_cons (LR_on rfl rfl rfl (LR_move (at_tmp 3 _) rfl)) (sS (sT rfl (sT1 rfl)) sB0 sF0) ?_
      obtain ⟨y6, hy6, hr⟩ := bind_some hr
      refine AL_cons (LR_on rfl rfl rfl (LR_call Hfaa.func19 rfl rfl (C19 N a0 a1_0 a1_1 a2 a3 y6 hy6) (all_cons (at_tmp 13 _) (all_cons (at_tmp 14 _) (all_cons (at_tmp 15 _) (all_cons (at_tmp 16 _) all_nil)))) rfl)) (sS (sT rfl (sA (sT1 rfl) (sA (sT1 rfl) (sA (sT1 rfl) (sA (sT1 rfl) sT0))))) sB0 sF0) ?_
      refine AL_cons (LR_pick (b := false) (at_tmp 12 _) (at_c (v' := Bl true) rfl) (at_tmp 17 _) rfl) (sS (sA (sT1 rfl) (sA sT0 (sT1 rfl))) sB0 sF0) ?_
      refine AL_cons (LR_assign (at_tmp 18 _) rfl) (sS (sT1 rfl) sB0 sF0) ?_
      refine AL_nil ?_
      exact thenN (cutLeaf (v := y6) hr (weak0 ((sT rfl sT0)) (sub_drop sub_nil)))
    · have hr := hr.trans (cond_t hb)
      refine AL_cons (LR_off (b := true) rfl rfl rfl rfl) (sS (sT1 rfl) sB0 sF0) ?_
      refine AL_cons (LR_off (b := true) rfl rfl rfl rfl) (sS (sT1 rfl) sB0 sF0) ?_
      refine AL_cons (LR_off (b := true) rfl rfl rfl rfl) (sS (sT1 rfl) sB0 sF0) ?_
      refine AL_cons (LR_off (b := true) rfl rfl rfl rfl) (sS (sT1 rfl) sB0 sF0) ?_
      refine AL_cons (LR_off (b := true) rfl rfl rfl rfl) (sS (sT1 rfl) sB0 sF0) ?_
      refine AL_cons (LR_pick (b := true) (at_tmp 12 _) (at_c (v' := Bl true) rfl) (at_tmp 17 _) rfl) (sS (sA (sT1 rfl) (sA sT0 (sT1 rfl))) sB0 sF0) ?_
      refine AL_cons (LR_assign (at_tmp 18 _) rfl) (sS (sT1 rfl) sB0 sF0) ?_
      refine AL_nil ?_
      exact thenN (cutLeaf (v := true) hr (weak0 ((sT rfl sT0)) (sub_drop sub_nil)))
  · rintro x1 hr
    show AW Hfaa.prog _ _ _ ⟨[(8, .inl (is (Bl x1)))], []⟩
    have hr : some r = F10_1 N x1 := hr
    refine AW_ret ?_
    obtain rfl := Option.some.inj hr
    exact res1 rfl (rvT rfl)
/-- law.Tower -/
def F3 (N : Nat) (a0_0 : BitVec 8) (a0_1 : BitVec 8) (a1 : BitVec 8) (a2 : NS (Opv)) : Option (Bool) := (F11 N).bind fun y3 => (F10 N y3 a0_0 a0_1 a1 a2).bind fun y4 => some y4
theorem C3 (N : Nat) (a0_0 : BitVec 8) (a0_1 : BitVec 8) (a1 : BitVec 8) (a2 : NS (Opv)) (r : Bool) (hr : some r = F3 N a0_0 a0_1 a1 a2) : Aw.Fn Hfaa.prog 3 [agg [is (U8 a0_0), is (U8 a0_1)], is (U8 a1), nsl opK 6 a2] (is (Bl r)) := by
  refine fn_intro Hfaa.func3 rfl rfl rfl ?_
  intro bn0 w0 H0
  refine AW_seq1 ?_
  refine AW_region ?_
  refine AL_cons (LR_box (at_tmp 0 _) (cells_agg _) rfl) (sS (sT1 rfl) sB0 (sF1 rfl)) ?_
  refine AL_cons (LR_assign (at_c (v' := Bl false) rfl) rfl) (sS sT0 sB0 sF0) ?_
  refine AL_nil ?_
  refine thenN ?_
  refine AW_seq1 ?_
  obtain ⟨y3, hy3, hr⟩ := bind_some hr
  obtain ⟨y4, hy4, hr⟩ := bind_some hr
  refine AW_draw mixed
    (lrC (LR_call Hfaa.func11 rfl rfl (C11 N y3 hy3) all_nil rfl)
    (lrC (LR_loads (at_tmp 3 _) ag23 sz23 rfl rfl rfl)
    (lrC (LR_move (at_tmp 1 _) rfl)
    (lrC (LR_move (at_tmp 2 _) rfl)
    (lrC (LR_call Hfaa.func10 rfl rfl (C10 N y3 a0_0 a0_1 a1 a2 y4 hy4) (all_cons (at_tmp 7 _) (all_cons (at_tmp 8 _) (all_cons (at_tmp 9 _) (all_cons (at_tmp 10 _) all_nil)))) rfl)
    (lrC (LR_assign (at_tmp 11 _) rfl)
    lrN))))))
    (by kernel_rfl)
    (saC (sS sT0 sB0 sF0) (saC (sS (sT1 rfl) (sB1 rfl) sF0) (saC (sS (sT1 rfl) sB0 sF0) (saC (sS (sT1 rfl) sB0 sF0) (saC (sS (sA (sT1 rfl) (sA (sT1 rfl) (sA (sT1 rfl) (sA (sT1 rfl) sT0)))) sB0 sF0) (saC (sS (sT1 rfl) sB0 sF0) saN)))))) ?_
  refine thenN ?_
  refine AW_ret ?_
  obtain rfl := Option.some.inj hr
  exact res1 rfl (rvT rfl)
end Go.Proofs.YfwaawGreat
