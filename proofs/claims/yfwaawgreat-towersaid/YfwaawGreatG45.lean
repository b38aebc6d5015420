import Derived.Test.YfwaawGreatG1
import Derived.Test.YfwaawGreatG2
import Derived.Test.YfwaawGreatG25
import Derived.Test.YfwaawGreatG44
namespace Go.Proofs.YfwaawGreat
open Go.Aw
set_option linter.unusedVariables false
set_option maxRecDepth 100000
set_option maxHeartbeats 1000000
/-- soft.FMA -/
def F314_1 (N : Nat) (x1 : BitVec 64) : Option (BitVec 64) := some x1
def F314 (N : Nat) (a0_0 : BitVec 8) (a0_1 : BitVec 8) (a1 : BitVec 8) (a2 : BitVec 64) (a3 : BitVec 64) (a4 : BitVec 64) : Option (BitVec 64) := (F172 N a0_0 a0_1 a1 a2 a3 a4).bind fun y2 => F314_1 N y2.1
theorem C314 (N : Nat) (a0_0 : BitVec 8) (a0_1 : BitVec 8) (a1 : BitVec 8) (a2 : BitVec 64) (a3 : BitVec 64) (a4 : BitVec 64) (r : BitVec 64) (hr : some r = F314 N a0_0 a0_1 a1 a2 a3 a4) : Aw.Fn Hfaa.prog 314 [agg [is (U8 a0_0), is (U8 a0_1)], is (U8 a1), is (U64 a2), is (U64 a3), is (U64 a4)] (is (U64 r)) := by
  refine fn_intro Hfaa.func314 rfl rfl rfl ?_
  intro bn0 w0 H0
  refine AW_seq1 ?_
  refine AW_region ?_
  refine AL_cons (LR_box (at_tmp 0 _) (cells_agg _) rfl) (sS (sT1 rfl) sB0 (sF1 rfl)) ?_
  refine AL_cons (LR_assign (at_c (v' := U64 (0#64)) rfl) rfl) (sS sT0 sB0 sF0) ?_
  refine AL_nil ?_
  refine thenN ?_
  refine AW_cut (σ := BitVec 64) (fun v => ⟨[(11, .inl (is (U64 v)))], []⟩) (fun v => some r = F314_1 N v) ?_ ?_
  · skip
    refine AW_region ?_
    refine AL_cons (LR_loads (at_tmp 5 _) ag23 sz23 rfl rfl rfl) (sS (sT1 rfl) (sB1 rfl) sF0) ?_
    refine AL_cons (LR_move (at_tmp 1 _) rfl) (sS (sT1 rfl) sB0 sF0) ?_
    refine AL_cons (LR_move (at_tmp 2 _) rfl) (sS (sT1 rfl) sB0 sF0) ?_
    refine AL_cons (LR_move (at_tmp 3 _) rfl) (sS (sT1 rfl) sB0 sF0) ?_
    refine AL_cons (LR_move (at_tmp 4 _) rfl) (sS (sT1 rfl) sB0 sF0) ?_
    obtain ⟨y2, hy2, hr⟩ := bind_some hr
    refine AL_cons (LR_call Hfaa.func172 rfl rfl (C172 N a0_0 a0_1 a1 a2 a3 a4 y2 hy2) (all_cons (at_tmp 14 _) (all_cons (at_tmp 15 _) (all_cons (at_tmp 16 _) (all_cons (at_tmp 17 _) (all_cons (at_tmp 18 _) all_nil))))) rfl) (sS (sA (sT1 rfl) (sA (sT1 rfl) (sA (sT1 rfl) (sA (sT1 rfl) (sA (sT1 rfl) sT0))))) sB0 sF0) ?_
    refine AL_cons (LR_move (at_tmp 19 _) rfl) (sS (sT1 rfl) sB0 sF0) ?_
    refine AL_cons (LR_extract (at_tmp 13 _) rfl rfl) (sS (sT1 rfl) sB0 sF0) ?_
    refine AL_cons (LR_extract (at_tmp 13 _) rfl rfl) (sS (sT1 rfl) sB0 sF0) ?_
    refine AL_cons (LR_assign (at_tmp 20 _) rfl) (sS (sT1 rfl) sB0 sF0) ?_
    refine AL_cons (LR_assign (at_tmp 21 _) rfl) (sS (sT1 rfl) sB0 sF0) ?_
    refine AL_nil ?_
    exact thenN (cutLeaf (v := y2.1) hr (weak0 ((sT rfl sT0)) (sub_drop sub_nil)))
  · rintro x1 hr
    show AW Hfaa.prog _ _ _ ⟨[(11, .inl (is (U64 x1)))], []⟩
    have hr : some r = F314_1 N x1 := hr
    refine AW_seq1 ?_
    refine AW_region ?_
    refine AL_cons (LR_move (at_tmp 11 _) rfl) (sS (sT1 rfl) sB0 sF0) ?_
    refine AL_cons (LR_assign (at_tmp 22 _) rfl) (sS (sT1 rfl) sB0 sF0) ?_
    refine AL_nil ?_
    refine thenN ?_
    refine AW_ret ?_
    obtain rfl := Option.some.inj hr
    exact res1 rfl (rvT rfl)
/-- soft.reduce -/
def F275_4 (N : Nat) (x4 : BitVec 64) (x5 : BitVec 64) : Option (BitVec 64 × Bool) := some ((x5, (x4 &&& (1#64)) == (1#64)))
def F275_10 (N : Nat) (a2 : BitVec 64) (x3 : Int) (x6 : Int) (x10 : Int) (x12 : BitVec 64) (x13 : BitVec 64) : Option ((Int × BitVec 64 × BitVec 64) ⊕ (BitVec 64 × Bool)) := some (.inl ((w16 (x6 - x10), x12, x13)))
def F275_9 (N : Nat) (a2 : BitVec 64) (x3 : Int) (x6 : Int) (x10 : Int) (x11 : BitVec 64) (x12 : BitVec 64) : Option ((Int × BitVec 64 × BitVec 64) ⊕ (BitVec 64 × Bool)) := bif a2 != 0#64 then F275_10 N a2 x3 x6 x10 x12 (x11 % a2) else none
def F275_8 (N : Nat) (a2 : BitVec 64) (x3 : Int) (x6 : Int) (x10 : Int) (x11 : BitVec 64) : Option ((Int × BitVec 64 × BitVec 64) ⊕ (BitVec 64 × Bool)) := bif a2 != 0#64 then F275_9 N a2 x3 x6 x10 x11 (x11 / a2) else none
def F275_7 (N : Nat) (a2 : BitVec 64) (x3 : Int) (x6 : Int) (x8 : BitVec 64) (x10 : Int) : Option ((Int × BitVec 64 × BitVec 64) ⊕ (BitVec 64 × Bool)) := bif decide (0 ≤ x10) then F275_8 N a2 x3 x6 x10 (x8 <<< x10.toNat) else none
def F275_6 (N : Nat) (a2 : BitVec 64) (x3 : Int) (x6 : Int) (x7 : BitVec 64) (x8 : BitVec 64) (x9 : Bool) : Option ((Int × BitVec 64 × BitVec 64) ⊕ (BitVec 64 × Bool)) := bif x9 then F275_7 N a2 x3 x6 x8 (min x6 x3) else (F275_4 N x7 x8).map Sum.inr
def F275_L5b (N : Nat) (a2 : BitVec 64) (x3 : Int) (x6 : Int) (x7 : BitVec 64) (x8 : BitVec 64) : Option ((Int × BitVec 64 × BitVec 64) ⊕ (BitVec 64 × Bool)) := F275_6 N a2 x3 x6 x7 x8 (decide (x6 > 0))
def F275_L5 (N : Nat) (a2 : BitVec 64) (x3 : Int) : (Int × BitVec 64 × BitVec 64) → Option ((Int × BitVec 64 × BitVec 64) ⊕ (BitVec 64 × Bool)) := fun v => F275_L5b N a2 x3 v.1 v.2.1 v.2.2
def F275_3 (N : Nat) (a2 : BitVec 64) (a3 : Int) (x1 : BitVec 64) (x2 : BitVec 64) (x3 : Int) : Option (BitVec 64 × Bool) := iterL (F275_L5 N a2 x3) N (a3, x1, x2)
def F275_2 (N : Nat) (a0_0 : BitVec 8) (a0_1 : BitVec 8) (a2 : BitVec 64) (a3 : Int) (x1 : BitVec 64) (x2 : BitVec 64) : Option (BitVec 64 × Bool) := F275_3 N a2 a3 x1 x2 (w16 (63 - (w16 (a0_1.toNat : Int))))
def F275_1 (N : Nat) (a0_0 : BitVec 8) (a0_1 : BitVec 8) (a1 : BitVec 64) (a2 : BitVec 64) (a3 : Int) (x1 : BitVec 64) : Option (BitVec 64 × Bool) := bif a2 != 0#64 then F275_2 N a0_0 a0_1 a2 a3 x1 (a1 % a2) else none
def F275 (N : Nat) (a0_0 : BitVec 8) (a0_1 : BitVec 8) (a1 : BitVec 64) (a2 : BitVec 64) (a3 : Int) : Option (BitVec 64 × Bool) := bif a2 != 0#64 then F275_1 N a0_0 a0_1 a1 a2 a3 (a1 / a2) else none
theorem C275 (N : Nat) (a0_0 : BitVec 8) (a0_1 : BitVec 8) (a1 : BitVec 64) (a2 : BitVec 64) (a3 : Int) (r : BitVec 64 × Bool) (hr : some r = F275 N a0_0 a0_1 a1 a2 a3) : Aw.Fn Hfaa.prog 275 [agg [is (U8 a0_0), is (U8 a0_1)], is (U64 a1), is (U64 a2), is (I16 a3)] (tup [is (U64 r.1), is (Bl r.2)]) := by
  refine fn_intro Hfaa.func275 rfl rfl rfl ?_
  intro bn0 w0 H0
  refine AW_seq1 ?_
  refine AW_region ?_
  refine AL_cons (LR_box (at_tmp 0 _) (cells_agg _) rfl) (sS (sT1 rfl) sB0 (sF1 rfl)) ?_
  refine AL_cons (LR_assign (at_c (v' := U64 (0#64)) rfl) rfl) (sS sT0 sB0 sF0) ?_
  refine AL_cons (LR_assign (at_c (v' := Bl false) rfl) rfl) (sS sT0 sB0 sF0) ?_
  refine AL_nil ?_
  refine thenN ?_
  refine AW_cut (σ := BitVec 64) (fun v => ⟨[(1, .inl (is (U64 a1))), (2, .inl (is (U64 a2))), (3, .inl (is (I16 a3))), (4, .inr (.inl (4, 0))), (10, .inl (is (U64 v)))], [(4, pb 23 [is (U8 a0_0), is (U8 a0_1)])]⟩) (fun v => some r = F275_1 N a0_0 a0_1 a1 a2 a3 v) ?_ ?_
  · skip
    refine AW_region ?_
    refine AL_cons (LR_move (at_tmp 1 _) rfl) (sS (sT1 rfl) sB0 sF0) ?_
    refine AL_cons (LR_move (at_tmp 2 _) rfl) (sS (sT1 rfl) sB0 sF0) ?_
    obtain ⟨hg28, hr⟩ := guard_some hr
    refine AL_cons (LR_bin (at_tmp 13 _) (at_tmp 14 _) (quo_U64 a1 a2 (dne hg28)) rfl) (sS (sA (sT1 rfl) (sT1 rfl)) sB0 sF0) ?_
    refine AL_cons (LR_assign (at_tmp 15 _) rfl) (sS (sT1 rfl) sB0 sF0) ?_
    refine AL_nil ?_
    exact thenN (cutLeaf (v := a1 / a2) hr (weak0 ((sT rfl (sT rfl (sT rfl (sT rfl (sT rfl sT0)))))) (sub_keep sub_nil)))
  · rintro x1 hr
    show AW Hfaa.prog _ _ _ ⟨[(1, .inl (is (U64 a1))), (2, .inl (is (U64 a2))), (3, .inl (is (I16 a3))), (4, .inr (.inl (4, 0))), (10, .inl (is (U64 x1)))], [(4, pb 23 [is (U8 a0_0), is (U8 a0_1)])]⟩
    have hr : some r = F275_1 N a0_0 a0_1 a1 a2 a3 x1 := hr
    refine AW_cut (σ := BitVec 64) (fun v => ⟨[(2, .inl (is (U64 a2))), (3, .inl (is (I16 a3))), (4, .inr (.inl (4, 0))), (10, .inl (is (U64 x1))), (8, .inl (is (U64 v)))], [(4, pb 23 [is (U8 a0_0), is (U8 a0_1)])]⟩) (fun v => some r = F275_2 N a0_0 a0_1 a2 a3 x1 v) ?_ ?_
    · skip
      refine AW_region ?_
      refine AL_cons (LR_move (at_tmp 1 _) rfl) (sS (sT1 rfl) sB0 sF0) ?_
      refine AL_cons (LR_move (at_tmp 2 _) rfl) (sS (sT1 rfl) sB0 sF0) ?_
      obtain ⟨hg27, hr⟩ := guard_some hr
      refine AL_cons (LR_bin (at_tmp 16 _) (at_tmp 17 _) (rem_U64 a1 a2 (dne hg27)) rfl) (sS (sA (sT1 rfl) (sT1 rfl)) sB0 sF0) ?_
      refine AL_cons (LR_assign (at_tmp 18 _) rfl) (sS (sT1 rfl) sB0 sF0) ?_
      refine AL_nil ?_
      exact thenN (cutLeaf (v := a1 % a2) hr (weak0 ((sT rfl (sT rfl (sT rfl (sT rfl (sT rfl sT0)))))) (sub_keep sub_nil)))
    · rintro x2 hr
      show AW Hfaa.prog _ _ _ ⟨[(2, .inl (is (U64 a2))), (3, .inl (is (I16 a3))), (4, .inr (.inl (4, 0))), (10, .inl (is (U64 x1))), (8, .inl (is (U64 x2)))], [(4, pb 23 [is (U8 a0_0), is (U8 a0_1)])]⟩
      have hr : some r = F275_2 N a0_0 a0_1 a2 a3 x1 x2 := hr
      refine AW_cut (σ := Int) (fun v => ⟨[(2, .inl (is (U64 a2))), (3, .inl (is (I16 a3))), (10, .inl (is (U64 x1))), (8, .inl (is (U64 x2))), (11, .inl (is (I16 v)))], []⟩) (fun v => some r = F275_3 N a2 a3 x1 x2 v) ?_ ?_
      · skip
        refine AW_region ?_
        refine AL_cons (LR_fieldAddr (off := 0) (o := 1) (at_tmp 4 _) (fun b w => fa23_1 b 0 w) rfl) (sS (sT1 rfl) sB0 sF0) ?_
        refine AL_cons (LR_load (at_tmp 19 _) na5 rfl rfl) (sS (sT1 rfl) (sB1 rfl) sF0) ?_
        refine AL_cons (LR_conv (vx := U8 a0_1) (at_tmp 20 _) (conv_I16 Hfaa.underlying5 Hfaa.underlying44 (a0_1.toNat : Int)) rfl) (sS (sT1 rfl) sB0 sF0) ?_
        refine AL_cons (LR_bin (at_c (v' := I16 63) rfl) (at_tmp 21 _) (sub_I16 63 (w16 (a0_1.toNat : Int))) rfl) (sS (sA sT0 (sT1 rfl)) sB0 sF0) ?_
        refine AL_cons (LR_assign (at_tmp 22 _) rfl) (sS (sT1 rfl) sB0 sF0) ?_
        refine AL_nil ?_
        exact thenN (cutLeaf (v := w16 (63 - (w16 (a0_1.toNat : Int)))) hr (weak0 ((sT rfl (sT rfl (sT rfl (sT rfl (sT rfl sT0)))))) (sub_drop sub_nil)))
      · rintro x3 hr
        show AW Hfaa.prog _ _ _ ⟨[(2, .inl (is (U64 a2))), (3, .inl (is (I16 a3))), (10, .inl (is (U64 x1))), (8, .inl (is (U64 x2))), (11, .inl (is (I16 x3)))], []⟩
        have hr : some r = F275_3 N a2 a3 x1 x2 x3 := hr
        refine AW_cut (σ := BitVec 64 × BitVec 64) (fun v => ⟨[(10, .inl (is (U64 v.1))), (8, .inl (is (U64 v.2)))], []⟩) (fun v => some r = F275_4 N v.1 v.2) ?_ ?_
        · skip
          refine AW_block ?_
          refine AW_iterR (σ := Int × BitVec 64 × BitVec 64) (r := r) (x0 := (a3, x1, x2)) (emb := fun v => ⟨[(2, .inl (is (U64 a2))), (3, .inl (is (I16 v.1))), (10, .inl (is (U64 v.2.1))), (8, .inl (is (U64 v.2.2))), (11, .inl (is (I16 x3)))], []⟩) ?_ hr ?_
          · exact weak0 ((sT rfl (sT rfl (sT rfl (sT rfl (sT rfl sT0)))))) sub_nil
          rintro ⟨x6, x7, x8⟩ out2 hr
          show AW Hfaa.prog _ _ _ ⟨[(2, .inl (is (U64 a2))), (3, .inl (is (I16 x6))), (10, .inl (is (U64 x7))), (8, .inl (is (U64 x8))), (11, .inl (is (I16 x3)))], []⟩
          have hr : some out2 = F275_L5b N a2 x3 x6 x7 x8 := hr
          refine AW_seq1 ?_
          refine AW_cut (σ := Bool) (fun v => ⟨[(2, .inl (is (U64 a2))), (3, .inl (is (I16 x6))), (10, .inl (is (U64 x7))), (8, .inl (is (U64 x8))), (11, .inl (is (I16 x3))), (24, .inl (is (Bl v)))], []⟩) (fun v => some out2 = F275_6 N a2 x3 x6 x7 x8 v) ?_ ?_
          · skip
            refine AW_region ?_
            refine AL_cons (LR_move (at_tmp 3 _) rfl) (sS (sT1 rfl) sB0 sF0) ?_
            refine AL_cons (LR_bin (at_tmp 23 _) (at_c (v' := I16 0) rfl) (gtr_I16 x6 0) rfl) (sS (sA (sT1 rfl) sT0) sB0 sF0) ?_
            refine AL_nil ?_
            exact thenN (cutLeaf (v := decide (x6 > 0)) hr (weak0 ((sT rfl (sT rfl (sT rfl (sT rfl (sT rfl (sT rfl sT0))))))) sub_nil))
          · rintro x9 hr
            show AW Hfaa.prog _ _ _ ⟨[(2, .inl (is (U64 a2))), (3, .inl (is (I16 x6))), (10, .inl (is (U64 x7))), (8, .inl (is (U64 x8))), (11, .inl (is (I16 x3))), (24, .inl (is (Bl x9)))], []⟩
            have hr : some out2 = F275_6 N a2 x3 x6 x7 x8 x9 := hr
            refine AW_condT (b := x9) rfl (fun h => ?_) (fun h => ?_)
            · have hr := hr.trans (cond_t h)
              clear h
              refine AW_skip ?_
              refine thenN ?_
              refine AW_block ?_
              refine AW_cut (σ := Int) (fun v => ⟨[(2, .inl (is (U64 a2))), (3, .inl (is (I16 x6))), (8, .inl (is (U64 x8))), (11, .inl (is (I16 x3))), (12, .inl (is (I16 v)))], []⟩) (fun v => some out2 = F275_7 N a2 x3 x6 x8 v) ?_ ?_
              · skip
                refine AW_region ?_
                refine AL_cons (LR_move (at_tmp 3 _) rfl) (sS (sT1 rfl) sB0 sF0) ?_
                refine AL_cons (LR_move (at_tmp 11 _) rfl) (sS (sT1 rfl) sB0 sF0) ?_
                refine AL_cons (LR_bi2 (vx := I16 x6) (vy := I16 x3) (v := I16 (min x6 x3)) (at_tmp 25 _) (at_tmp 26 _) (fun cs w => min_I .i16 x6 x3 cs w) rfl) (sS (sA (sT1 rfl) (sT1 rfl)) sB0 sF0) ?_
                refine AL_cons (LR_assign (at_tmp 27 _) rfl) (sS (sT1 rfl) sB0 sF0) ?_
                refine AL_nil ?_
                exact thenN (cutLeaf (v := min x6 x3) hr (weak0 ((sT rfl (sT rfl (sT rfl (sT rfl (sT rfl sT0)))))) sub_nil))
              · rintro x10 hr
                show AW Hfaa.prog _ _ _ ⟨[(2, .inl (is (U64 a2))), (3, .inl (is (I16 x6))), (8, .inl (is (U64 x8))), (11, .inl (is (I16 x3))), (12, .inl (is (I16 x10)))], []⟩
                have hr : some out2 = F275_7 N a2 x3 x6 x8 x10 := hr
                refine AW_cut (σ := BitVec 64) (fun v => ⟨[(2, .inl (is (U64 a2))), (3, .inl (is (I16 x6))), (8, .inl (is (U64 v))), (11, .inl (is (I16 x3))), (12, .inl (is (I16 x10)))], []⟩) (fun v => some out2 = F275_8 N a2 x3 x6 x10 v) ?_ ?_
                · skip
                  refine AW_region ?_
                  refine AL_cons (LR_move (at_tmp 8 _) rfl) (sS (sT1 rfl) sB0 sF0) ?_
                  refine AL_cons (LR_move (at_tmp 12 _) rfl) (sS (sT1 rfl) sB0 sF0) ?_
                  obtain ⟨hg26, hr⟩ := guard_some hr
                  refine AL_cons (LR_bin (at_tmp 28 _) (at_tmp 29 _) (shl_U64 x8 x10 (of_decide_eq_true hg26)) rfl) (sS (sA (sT1 rfl) (sT1 rfl)) sB0 sF0) ?_
                  refine AL_cons (LR_assign (at_tmp 30 _) rfl) (sS (sT1 rfl) sB0 sF0) ?_
                  refine AL_nil ?_
                  exact thenN (cutLeaf (v := x8 <<< x10.toNat) hr (weak0 ((sT rfl (sT rfl (sT rfl (sT rfl (sT rfl sT0)))))) sub_nil))
                · rintro x11 hr
                  show AW Hfaa.prog _ _ _ ⟨[(2, .inl (is (U64 a2))), (3, .inl (is (I16 x6))), (8, .inl (is (U64 x11))), (11, .inl (is (I16 x3))), (12, .inl (is (I16 x10)))], []⟩
                  have hr : some out2 = F275_8 N a2 x3 x6 x10 x11 := hr
                  refine AW_cut (σ := BitVec 64) (fun v => ⟨[(2, .inl (is (U64 a2))), (3, .inl (is (I16 x6))), (8, .inl (is (U64 x11))), (11, .inl (is (I16 x3))), (12, .inl (is (I16 x10))), (10, .inl (is (U64 v)))], []⟩) (fun v => some out2 = F275_9 N a2 x3 x6 x10 x11 v) ?_ ?_
                  · skip
                    refine AW_region ?_
                    refine AL_cons (LR_move (at_tmp 8 _) rfl) (sS (sT1 rfl) sB0 sF0) ?_
                    refine AL_cons (LR_move (at_tmp 2 _) rfl) (sS (sT1 rfl) sB0 sF0) ?_
                    obtain ⟨hg25, hr⟩ := guard_some hr
                    refine AL_cons (LR_bin (at_tmp 31 _) (at_tmp 32 _) (quo_U64 x11 a2 (dne hg25)) rfl) (sS (sA (sT1 rfl) (sT1 rfl)) sB0 sF0) ?_
                    refine AL_cons (LR_assign (at_tmp 33 _) rfl) (sS (sT1 rfl) sB0 sF0) ?_
                    refine AL_nil ?_
                    exact thenN (cutLeaf (v := x11 / a2) hr (weak0 ((sT rfl (sT rfl (sT rfl (sT rfl (sT rfl (sT rfl sT0))))))) sub_nil))
                  · rintro x12 hr
                    show AW Hfaa.prog _ _ _ ⟨[(2, .inl (is (U64 a2))), (3, .inl (is (I16 x6))), (8, .inl (is (U64 x11))), (11, .inl (is (I16 x3))), (12, .inl (is (I16 x10))), (10, .inl (is (U64 x12)))], []⟩
                    have hr : some out2 = F275_9 N a2 x3 x6 x10 x11 x12 := hr
                    refine AW_cut (σ := BitVec 64) (fun v => ⟨[(2, .inl (is (U64 a2))), (3, .inl (is (I16 x6))), (8, .inl (is (U64 v))), (11, .inl (is (I16 x3))), (12, .inl (is (I16 x10))), (10, .inl (is (U64 x12)))], []⟩) (fun v => some out2 = F275_10 N a2 x3 x6 x10 x12 v) ?_ ?_
                    · skip
                      refine AW_region ?_
                      refine AL_cons (LR_move (at_tmp 8 _) rfl) (sS (sT1 rfl) sB0 sF0) ?_
                      refine AL_cons (LR_move (at_tmp 2 _) rfl) (sS (sT1 rfl) sB0 sF0) ?_
                      obtain ⟨hg24, hr⟩ := guard_some hr
                      refine AL_cons (LR_bin (at_tmp 34 _) (at_tmp 35 _) (rem_U64 x11 a2 (dne hg24)) rfl) (sS (sA (sT1 rfl) (sT1 rfl)) sB0 sF0) ?_
                      refine AL_cons (LR_assign (at_tmp 36 _) rfl) (sS (sT1 rfl) sB0 sF0) ?_
                      refine AL_nil ?_
                      exact thenN (cutLeaf (v := x11 % a2) hr (weak0 ((sT rfl (sT rfl (sT rfl (sT rfl (sT rfl (sT rfl sT0))))))) sub_nil))
                    · rintro x13 hr
                      show AW Hfaa.prog _ _ _ ⟨[(2, .inl (is (U64 a2))), (3, .inl (is (I16 x6))), (8, .inl (is (U64 x13))), (11, .inl (is (I16 x3))), (12, .inl (is (I16 x10))), (10, .inl (is (U64 x12)))], []⟩
                      have hr : some out2 = F275_10 N a2 x3 x6 x10 x12 x13 := hr
                      refine AW_region ?_
                      refine AL_cons (LR_move (at_tmp 3 _) rfl) (sS (sT1 rfl) sB0 sF0) ?_
                      refine AL_cons (LR_move (at_tmp 12 _) rfl) (sS (sT1 rfl) sB0 sF0) ?_
                      refine AL_cons (LR_bin (at_tmp 37 _) (at_tmp 38 _) (sub_I16 x6 x10) rfl) (sS (sA (sT1 rfl) (sT1 rfl)) sB0 sF0) ?_
                      refine AL_cons (LR_assign (at_tmp 39 _) rfl) (sS (sT1 rfl) sB0 sF0) ?_
                      refine AL_nil ?_
                      refine blN ?_
                      exact thenN (loopNext (x' := (w16 (x6 - x10), x12, x13)) hr (weak0 ((sT rfl (sT rfl (sT rfl (sT rfl (sT rfl sT0)))))) sub_nil))
            · have hr := hr.trans (cond_f h)
              clear h
              refine AW_exit ?_
              refine thenX ?_
              obtain ⟨r', hro, hr⟩ := map_inr hr
              refine thenX (loopOut hro (fun he => ?_))
              rw [he] at hr
              refine blH ?_
              exact thenN (cutLeaf (v := (x7, x8)) hr (weak0 ((sT rfl (sT rfl sT0))) sub_nil))
        · rintro ⟨x4, x5⟩ hr
          show AW Hfaa.prog _ _ _ ⟨[(10, .inl (is (U64 x4))), (8, .inl (is (U64 x5)))], []⟩
          have hr : some r = F275_4 N x4 x5 := hr
          refine AW_seq1 ?_
          refine AW_region ?_
          refine AL_cons (LR_move (at_tmp 8 _) rfl) (sS (sT1 rfl) sB0 sF0) ?_
          refine AL_cons (LR_move (at_tmp 10 _) rfl) (sS (sT1 rfl) sB0 sF0) ?_
          refine AL_cons (LR_bin (at_tmp 41 _) (at_c (v' := U64 (1#64)) rfl) (and_U64 x4 (1#64)) rfl) (sS (sA (sT1 rfl) sT0) sB0 sF0) ?_
          refine AL_cons (LR_bin (at_tmp 42 _) (at_c (v' := U64 (1#64)) rfl) (eql_U64 (x4 &&& (1#64)) (1#64)) rfl) (sS (sA (sT1 rfl) sT0) sB0 sF0) ?_
          refine AL_cons (LR_assign (at_tmp 40 _) rfl) (sS (sT1 rfl) sB0 sF0) ?_
          refine AL_cons (LR_assign (at_tmp 43 _) rfl) (sS (sT1 rfl) sB0 sF0) ?_
          refine AL_nil ?_
          refine thenN ?_
          refine AW_ret ?_
          obtain rfl := Option.some.inj hr
          exact res2 rfl (rvT rfl) (rvT rfl)
/-- soft.RemFlags -/
def F173_9 (N : Nat) (a0_0 : BitVec 8) (a0_1 : BitVec 8) (x2 : Bool) (x3 : Int) (x4 : Int) (x5 : BitVec 64) (x14 : BitVec 64) (x17 : Int) (x18 : BitVec 64) (x19 : Bool) : Option (BitVec 64 × BitVec 8) := bif x19 then (F215 N a0_0 a0_1 (0#8) (!x2) x17 x18).bind fun y30 => some (y30.1, y30.2) else (F215 N a0_0 a0_1 (0#8) x2 x17 x14).bind fun y32 => some (y32.1, y32.2)
def F173_8 (N : Nat) (a0_0 : BitVec 8) (a0_1 : BitVec 8) (x2 : Bool) (x3 : Int) (x4 : Int) (x5 : BitVec 64) (x14 : BitVec 64) (x16 : Bool) (x17 : Int) (x18 : BitVec 64) : Option (BitVec 64 × BitVec 8) := F173_9 N a0_0 a0_1 x2 x3 x4 x5 x14 x17 x18 ((decide (x18.toNat < x14.toNat)) || ((x14 == x18) && x16))
def F173_7 (N : Nat) (a0_0 : BitVec 8) (a0_1 : BitVec 8) (x2 : Bool) (x3 : Int) (x4 : Int) (x5 : BitVec 64) (x14 : BitVec 64) (x15 : BitVec 64) (x16 : Bool) (x17 : Int) : Option (BitVec 64 × BitVec 8) := F173_8 N a0_0 a0_1 x2 x3 x4 x5 x14 x16 x17 (x15 - x14)
def F173_11 (N : Nat) (a0_0 : BitVec 8) (a0_1 : BitVec 8) (x2 : Bool) (x3 : Int) (x4 : Int) (x5 : BitVec 64) (x21 : BitVec 64) : Option (BitVec 64 × BitVec 8) := F173_7 N a0_0 a0_1 x2 x3 x4 x5 x5 x21 false x4
def F173_10 (N : Nat) (a0_0 : BitVec 8) (a0_1 : BitVec 8) (x2 : Bool) (x3 : Int) (x4 : Int) (x5 : BitVec 64) (x6 : Bool) (x7 : Int) (x8 : Int) (x9 : BitVec 64) (x20 : Bool) : Option (BitVec 64 × BitVec 8) := bif x20 then F173_11 N a0_0 a0_1 x2 x3 x4 x5 (x9 <<< 1) else (F275 N a0_0 a0_1 x5 x9 (w16 (x4 - x8))).bind fun y33 => F173_7 N a0_0 a0_1 x2 x3 x4 x5 y33.1 x9 y33.2 x8
def F173_6 (N : Nat) (a0_0 : BitVec 8) (a0_1 : BitVec 8) (x2 : Bool) (x3 : Int) (x4 : Int) (x5 : BitVec 64) (x6 : Bool) (x7 : Int) (x8 : Int) (x9 : BitVec 64) (x13 : Bool) : Option (BitVec 64 × BitVec 8) := bif x13 then (F215 N a0_0 a0_1 (0#8) x2 x4 x5).bind fun y25 => some (y25.1, y25.2) else F173_10 N a0_0 a0_1 x2 x3 x4 x5 x6 x7 x8 x9 (decide (x4 < x8))
def F173_5 (N : Nat) (a0_0 : BitVec 8) (a0_1 : BitVec 8) (x2 : Bool) (x3 : Int) (x4 : Int) (x5 : BitVec 64) (x6 : Bool) (x7 : Int) (x8 : Int) (x9 : BitVec 64) (x12 : Bool) : Option (BitVec 64 × BitVec 8) := bif x12 then lt (F259 a0_0 a0_1 x2) fun y23 => some (y23, 0#8) else F173_6 N a0_0 a0_1 x2 x3 x4 x5 x6 x7 x8 x9 ((x7 == 3) || (decide (x4 < (w16 (x8 - 1)))))
def F173_4 (N : Nat) (a0_0 : BitVec 8) (a0_1 : BitVec 8) (x2 : Bool) (x3 : Int) (x4 : Int) (x5 : BitVec 64) (x6 : Bool) (x7 : Int) (x8 : Int) (x9 : BitVec 64) (x11 : Bool) : Option (BitVec 64 × BitVec 8) := bif x11 then lt (F66 a0_0 a0_1) fun y21 => some (y21, 1#8) else F173_5 N a0_0 a0_1 x2 x3 x4 x5 x6 x7 x8 x9 (x3 == 0)
def F173_3 (N : Nat) (a0_0 : BitVec 8) (a0_1 : BitVec 8) (a1 : BitVec 64) (a2 : BitVec 64) (x2 : Bool) (x3 : Int) (x4 : Int) (x5 : BitVec 64) (x6 : Bool) (x7 : Int) (x8 : Int) (x9 : BitVec 64) (x10 : Bool) : Option (BitVec 64 × BitVec 8) := bif x10 then lt (F66 a0_0 a0_1) fun y18 => lt (F214 a0_0 a0_1 a1 a2) fun y19 => some (y18, y19) else F173_4 N a0_0 a0_1 x2 x3 x4 x5 x6 x7 x8 x9 ((x3 == 3) || (x7 == 0))
def F173_2 (N : Nat) (a0_0 : BitVec 8) (a0_1 : BitVec 8) (a1 : BitVec 64) (a2 : BitVec 64) (x2 : Bool) (x3 : Int) (x4 : Int) (x5 : BitVec 64) (x6 : Bool) (x7 : Int) (x8 : Int) (x9 : BitVec 64) : Option (BitVec 64 × BitVec 8) := F173_3 N a0_0 a0_1 a1 a2 x2 x3 x4 x5 x6 x7 x8 x9 ((x3 == 4) || (x7 == 4))
def F173_1 (N : Nat) (a0_0 : BitVec 8) (a0_1 : BitVec 8) (a1 : BitVec 64) (a2 : BitVec 64) (x1 : Bool) : Option (BitVec 64 × BitVec 8) := bif x1 then some (0#64, 0#8) else lt (F65 a0_0 a0_1 a1) fun y34 => lt (F65 a0_0 a0_1 a2) fun y35 => F173_2 N a0_0 a0_1 a1 a2 y34.1 y34.2.1 y34.2.2.1 y34.2.2.2 y35.1 y35.2.1 y35.2.2.1 y35.2.2.2
def F173 (N : Nat) (a0_0 : BitVec 8) (a0_1 : BitVec 8) (a1 : BitVec 64) (a2 : BitVec 64) : Option (BitVec 64 × BitVec 8) := lt (F40 a0_0 a0_1) fun y36 => F173_1 N a0_0 a0_1 a1 a2 (!y36)
theorem C173 (N : Nat) (a0_0 : BitVec 8) (a0_1 : BitVec 8) (a1 : BitVec 64) (a2 : BitVec 64) (r : BitVec 64 × BitVec 8) (hr : some r = F173 N a0_0 a0_1 a1 a2) : Aw.Fn Hfaa.prog 173 [agg [is (U8 a0_0), is (U8 a0_1)], is (U64 a1), is (U64 a2)] (tup [is (U64 r.1), is (U8 r.2)]) := by
  refine fn_intro Hfaa.func173 rfl rfl rfl ?_
  intro bn0 w0 H0
  refine AW_seq1 ?_
  refine AW_region ?_
  refine AL_cons (LR_box (at_tmp 0 _) (cells_agg _) rfl) (sS (sT1 rfl) sB0 (sF1 rfl)) ?_
  refine AL_cons (LR_assign (at_c (v' := U64 (0#64)) rfl) rfl) (sS sT0 sB0 sF0) ?_
  refine AL_cons (LR_assign (at_c (v' := U8 (0#8)) rfl) rfl) (sS sT0 sB0 sF0) ?_
  refine AL_nil ?_
  refine thenN ?_
  refine AW_seq1 ?_
  refine AW_cut (σ := Bool) (fun v => ⟨[(1, .inl (is (U64 a1))), (2, .inl (is (U64 a2))), (3, .inr (.inl (3, 0))), (17, .inl (is (Bl v)))], [(3, pb 23 [is (U8 a0_0), is (U8 a0_1)])]⟩) (fun v => some r = F173_1 N a0_0 a0_1 a1 a2 v) ?_ ?_
  · skip
    refine AW_region ?_
    refine AL_cons (LR_loads (at_tmp 3 _) ag23 sz23 rfl rfl rfl) (sS (sT1 rfl) (sB1 rfl) sF0) ?_
    obtain ⟨y36, hy36, hr⟩ := lt_some hr
    refine AL_cons (LR_call Hfaa.func40 rfl rfl (C40 a0_0 a0_1 y36 hy36) (all_cons (at_tmp 15 _) all_nil) rfl) (sS (sA (sT1 rfl) sT0) sB0 sF0) ?_
    refine AL_cons (LR_un (at_tmp 16 _) (not_Bl y36) rfl) (sS (sT1 rfl) sB0 sF0) ?_
    refine AL_nil ?_
    exact thenN (cutLeaf (v := !y36) hr (weak0 ((sT rfl (sT rfl (sT rfl (sT rfl sT0))))) (sub_keep sub_nil)))
  · rintro x1 hr
    show AW Hfaa.prog _ _ _ ⟨[(1, .inl (is (U64 a1))), (2, .inl (is (U64 a2))), (3, .inr (.inl (3, 0))), (17, .inl (is (Bl x1)))], [(3, pb 23 [is (U8 a0_0), is (U8 a0_1)])]⟩
    have hr : some r = F173_1 N a0_0 a0_1 a1 a2 x1 := hr
    refine AW_condT (b := x1) rfl (fun h => ?_) (fun h => ?_)
    · have hr := hr.trans (cond_t h)
      clear h
      refine AW_seq1 ?_
      refine AW_region ?_
      refine AL_cons (LR_assign (at_c (v' := U64 (0#64)) rfl) rfl) (sS sT0 sB0 sF0) ?_
      refine AL_cons (LR_assign (at_c (v' := U8 (0#8)) rfl) rfl) (sS sT0 sB0 sF0) ?_
      refine AL_nil ?_
      refine thenN ?_
      refine AW_ret ?_
      refine thenR ?_
      obtain rfl := Option.some.inj hr
      exact res2 rfl (rvT rfl) (rvT rfl)
    · have hr := hr.trans (cond_f h)
      clear h
      refine AW_skip ?_
      refine thenN ?_
      refine AW_cut (σ := Bool × Int × Int × BitVec 64 × Bool × Int × Int × BitVec 64) (fun v => ⟨[(1, .inl (is (U64 a1))), (2, .inl (is (U64 a2))), (3, .inr (.inl (3, 0))), (8, .inr (.inl (8, 0))), (9, .inr (.inl (9, 0)))], [(3, pb 23 [is (U8 a0_0), is (U8 a0_1)]), (8, pb 112 [is (Bl v.1), is (I8 v.2.1), is (I16 v.2.2.1), is (U64 v.2.2.2.1)]), (9, pb 112 [is (Bl v.2.2.2.2.1), is (I8 v.2.2.2.2.2.1), is (I16 v.2.2.2.2.2.2.1), is (U64 v.2.2.2.2.2.2.2)])]⟩) (fun v => some r = F173_2 N a0_0 a0_1 a1 a2 v.1 v.2.1 v.2.2.1 v.2.2.2.1 v.2.2.2.2.1 v.2.2.2.2.2.1 v.2.2.2.2.2.2.1 v.2.2.2.2.2.2.2) ?_ ?_
      · skip
        obtain ⟨y34, hy34, hr⟩ := lt_some hr
        obtain ⟨y35, hy35, hr⟩ := lt_some hr
        refine AW_draw mixed
          (lrC (LR_loads (at_tmp 3 _) ag23 sz23 rfl rfl rfl)
          (lrC (LR_move (at_tmp 1 _) rfl)
          (lrC (LR_call Hfaa.func65 rfl rfl (C65 a0_0 a0_1 a1 y34 hy34) (all_cons (at_tmp 18 _) (all_cons (at_tmp 19 _) all_nil)) rfl)
          (lrC (LR_loads (at_tmp 3 _) ag23 sz23 rfl rfl rfl)
          (lrC (LR_move (at_tmp 2 _) rfl)
          (lrC (LR_call Hfaa.func65 rfl rfl (C65 a0_0 a0_1 a2 y35 hy35) (all_cons (at_tmp 21 _) (all_cons (at_tmp 22 _) all_nil)) rfl)
          (lrC (zl112 rfl)
          (lrC (zl112 rfl)
          (lrC (LR_store (at_tmp 8 _) (at_tmp 20 _) (cells_agg _) (onC (one_is rfl) (onC (one_is rfl) (onC (one_is rfl) (onC (one_is rfl) onN)))) sz112 rfl rfl)
          (lrC (LR_store (at_tmp 9 _) (at_tmp 23 _) (cells_agg _) (onC (one_is rfl) (onC (one_is rfl) (onC (one_is rfl) (onC (one_is rfl) onN)))) sz112 rfl rfl)
          lrN))))))))))
          (by kernel_rfl)
          (saC (sS (sT1 rfl) (sB1 rfl) sF0) (saC (sS (sT1 rfl) sB0 sF0) (saC (sS (sA (sT1 rfl) (sA (sT1 rfl) sT0)) sB0 sF0) (saC (sS (sT1 rfl) (sB1 rfl) sF0) (saC (sS (sT1 rfl) sB0 sF0) (saC (sS (sA (sT1 rfl) (sA (sT1 rfl) sT0)) sB0 sF0) (saC (sS sT0 sB0 (sF1 rfl)) (saC (sS sT0 sB0 (sF1 rfl)) (saC (sS (sA (sT1 rfl) (sT1 rfl)) (sB1 rfl) sF0) (saC (sS (sA (sT1 rfl) (sT1 rfl)) (sB1 rfl) sF0) saN)))))))))) ?_
        exact thenN (cutLeaf (v := (y34.1, y34.2.1, y34.2.2.1, y34.2.2.2, y35.1, y35.2.1, y35.2.2.1, y35.2.2.2)) hr (weak0 ((sT rfl (sT rfl (sT rfl (sT rfl (sT rfl sT0)))))) (sub_keep (sub_keep (sub_keep sub_nil)))))
      · rintro ⟨x2, x3, x4, x5, x6, x7, x8, x9⟩ hr
        show AW Hfaa.prog _ _ _ ⟨[(1, .inl (is (U64 a1))), (2, .inl (is (U64 a2))), (3, .inr (.inl (3, 0))), (8, .inr (.inl (8, 0))), (9, .inr (.inl (9, 0)))], [(3, pb 23 [is (U8 a0_0), is (U8 a0_1)]), (8, pb 112 [is (Bl x2), is (I8 x3), is (I16 x4), is (U64 x5)]), (9, pb 112 [is (Bl x6), is (I8 x7), is (I16 x8), is (U64 x9)])]⟩
        have hr : some r = F173_2 N a0_0 a0_1 a1 a2 x2 x3 x4 x5 x6 x7 x8 x9 := hr
        refine AW_seq1 ?_
        refine AW_block ?_
        refine AW_cut (σ := Bool) (fun v => ⟨[(1, .inl (is (U64 a1))), (2, .inl (is (U64 a2))), (3, .inr (.inl (3, 0))), (8, .inr (.inl (8, 0))), (9, .inr (.inl (9, 0))), (24, .inl (is (Bl v)))], [(3, pb 23 [is (U8 a0_0), is (U8 a0_1)]), (8, pb 112 [is (Bl x2), is (I8 x3), is (I16 x4), is (U64 x5)]), (9, pb 112 [is (Bl x6), is (I8 x7), is (I16 x8), is (U64 x9)])]⟩) (fun v => some r = F173_3 N a0_0 a0_1 a1 a2 x2 x3 x4 x5 x6 x7 x8 x9 v) ?_ ?_
        · skip
          refine AW_region ?_
          refine AL_cons (LR_fieldAddr (off := 0) (o := 1) (at_tmp 8 _) (fun b w => fa112_1 b 0 w) rfl) (sS (sT1 rfl) sB0 sF0) ?_
          refine AL_cons (LR_load (at_tmp 25 _) na110 rfl rfl) (sS (sT1 rfl) (sB1 rfl) sF0) ?_
          refine AL_cons (LR_bin (at_tmp 26 _) (at_c (v' := I8 4) rfl) (eql_I8 x3 4) rfl) (sS (sA (sT1 rfl) sT0) sB0 sF0) ?_
          refine AL_cons (LR_move (at_tmp 27 _) rfl) (sS (sT1 rfl) sB0 sF0) ?_
          refine AL_cutAt 4 ⟨[(1, .inl (is (U64 a1))), (2, .inl (is (U64 a2))), (3, .inr (.inl (3, 0))), (8, .inr (.inl (8, 0))), (9, .inr (.inl (9, 0))), (25, .inr (.inl (8, 1))), (26, .inl (is (I8 x3))), (27, .inl (is (Bl (x3 == 4)))), (28, .inl (is (Bl (x3 == 4)))), (32, .inl (is (Bl ((x3 == 4) || (x7 == 4)))))], [(3, pb 23 [is (U8 a0_0), is (U8 a0_1)]), (8, pb 112 [is (Bl x2), is (I8 x3), is (I16 x4), is (U64 x5)]), (9, pb 112 [is (Bl x6), is (I8 x7), is (I16 x8), is (U64 x9)])]⟩ ?_ ?_
          · cases hb : x3 == 4
            · skip
              refine AL_cons (LR_on rfl rfl rfl (LR_fieldAddr (off := 0) (o := 1) (at_tmp 9 _) (fun b w => fa112_1 b 0 w) rfl)) (sS (sT rfl (sT1 rfl)) sB0 sF0) ?_
              refine AL_cons (LR_on rfl rfl rfl (LR_load (at_tmp 29 _) na110 rfl rfl)) (sS (sT rfl (sT1 rfl)) (sB1 rfl) sF0) ?_
              refine AL_cons (LR_on rfl rfl rfl (LR_bin (at_tmp 30 _) (at_c (v' := I8 4) rfl) (eql_I8 x7 4) rfl)) (sS (sT rfl (sA (sT1 rfl) sT0)) sB0 sF0) ?_
              refine AL_cons (LR_pick (b := false) (at_tmp 28 _) (at_c (v' := Bl true) rfl) (at_tmp 31 _) rfl) (sS (sA (sT1 rfl) (sA sT0 (sT1 rfl))) sB0 sF0) ?_
              exact AL_nil ⟨rfl, weak0 ((sT rfl (sT rfl (sT rfl (sT rfl (sT rfl (sT rfl (sT rfl (sT rfl (sT rfl (sT rfl sT0))))))))))) (sub_keep (sub_keep (sub_keep sub_nil)))⟩
            · skip
              refine AL_cons (LR_off (b := true) rfl rfl rfl rfl) (sS (sT1 rfl) sB0 sF0) ?_
              refine AL_cons (LR_off (b := true) rfl rfl rfl rfl) (sS (sT1 rfl) sB0 sF0) ?_
              refine AL_cons (LR_off (b := true) rfl rfl rfl rfl) (sS (sT1 rfl) sB0 sF0) ?_
              refine AL_cons (LR_pick (b := true) (at_tmp 28 _) (at_c (v' := Bl true) rfl) (at_tmp 31 _) rfl) (sS (sA (sT1 rfl) (sA sT0 (sT1 rfl))) sB0 sF0) ?_
              exact AL_nil ⟨rfl, weak0 ((sT rfl (sT rfl (sT rfl (sT rfl (sT rfl (sT rfl (sT rfl (sT rfl (sT rfl (sT rfl sT0))))))))))) (sub_keep (sub_keep (sub_keep sub_nil)))⟩
          refine AL_cons (LR_assign (at_tmp 32 _) rfl) (sS (sT1 rfl) sB0 sF0) ?_
          refine AL_nil ?_
          exact thenN (cutLeaf (v := (x3 == 4) || (x7 == 4)) hr (weak0 ((sT rfl (sT rfl (sT rfl (sT rfl (sT rfl (sT rfl sT0))))))) (sub_keep (sub_keep (sub_keep sub_nil)))))
        · rintro x10 hr
          show AW Hfaa.prog _ _ _ ⟨[(1, .inl (is (U64 a1))), (2, .inl (is (U64 a2))), (3, .inr (.inl (3, 0))), (8, .inr (.inl (8, 0))), (9, .inr (.inl (9, 0))), (24, .inl (is (Bl x10)))], [(3, pb 23 [is (U8 a0_0), is (U8 a0_1)]), (8, pb 112 [is (Bl x2), is (I8 x3), is (I16 x4), is (U64 x5)]), (9, pb 112 [is (Bl x6), is (I8 x7), is (I16 x8), is (U64 x9)])]⟩
          have hr : some r = F173_3 N a0_0 a0_1 a1 a2 x2 x3 x4 x5 x6 x7 x8 x9 x10 := hr
          refine AW_condT (b := x10) rfl (fun h => ?_) (fun h => ?_)
          · have hr := hr.trans (cond_t h)
            clear h
            refine AW_seq1 ?_
            obtain ⟨y18, hy18, hr⟩ := lt_some hr
            obtain ⟨y19, hy19, hr⟩ := lt_some hr
            refine AW_draw mixed
              (lrC (LR_loads (at_tmp 3 _) ag23 sz23 rfl rfl rfl)
              (lrC (LR_call Hfaa.func66 rfl rfl (C66 a0_0 a0_1 y18 hy18) (all_cons (at_tmp 33 _) all_nil) rfl)
              (lrC (LR_loads (at_tmp 3 _) ag23 sz23 rfl rfl rfl)
              (lrC (LR_move (at_tmp 1 _) rfl)
              (lrC (LR_move (at_tmp 2 _) rfl)
              (lrC (LR_call Hfaa.func214 rfl rfl (C214 a0_0 a0_1 a1 a2 y19 hy19) (all_cons (at_tmp 35 _) (all_cons (at_tmp 36 _) (all_cons (at_tmp 37 _) all_nil))) rfl)
              (lrC (LR_assign (at_tmp 34 _) rfl)
              (lrC (LR_assign (at_tmp 38 _) rfl)
              lrN))))))))
              (by kernel_rfl)
              (saC (sS (sT1 rfl) (sB1 rfl) sF0) (saC (sS (sA (sT1 rfl) sT0) sB0 sF0) (saC (sS (sT1 rfl) (sB1 rfl) sF0) (saC (sS (sT1 rfl) sB0 sF0) (saC (sS (sT1 rfl) sB0 sF0) (saC (sS (sA (sT1 rfl) (sA (sT1 rfl) (sA (sT1 rfl) sT0))) sB0 sF0) (saC (sS (sT1 rfl) sB0 sF0) (saC (sS (sT1 rfl) sB0 sF0) saN)))))))) ?_
            refine thenN ?_
            refine AW_ret ?_
            refine blR ?_
            refine thenR ?_
            obtain rfl := Option.some.inj hr
            exact res2 rfl (rvT rfl) (rvT rfl)
          · have hr := hr.trans (cond_f h)
            clear h
            refine AW_cut (σ := Bool) (fun v => ⟨[(3, .inr (.inl (3, 0))), (8, .inr (.inl (8, 0))), (9, .inr (.inl (9, 0))), (39, .inl (is (Bl v)))], [(3, pb 23 [is (U8 a0_0), is (U8 a0_1)]), (8, pb 112 [is (Bl x2), is (I8 x3), is (I16 x4), is (U64 x5)]), (9, pb 112 [is (Bl x6), is (I8 x7), is (I16 x8), is (U64 x9)])]⟩) (fun v => some r = F173_4 N a0_0 a0_1 x2 x3 x4 x5 x6 x7 x8 x9 v) ?_ ?_
            · skip
              refine AW_region ?_
              refine AL_cons (LR_fieldAddr (off := 0) (o := 1) (at_tmp 8 _) (fun b w => fa112_1 b 0 w) rfl) (sS (sT1 rfl) sB0 sF0) ?_
              refine AL_cons (LR_load (at_tmp 40 _) na110 rfl rfl) (sS (sT1 rfl) (sB1 rfl) sF0) ?_
              refine AL_cons (LR_bin (at_tmp 41 _) (at_c (v' := I8 3) rfl) (eql_I8 x3 3) rfl) (sS (sA (sT1 rfl) sT0) sB0 sF0) ?_
              refine AL_cons (LR_move (at_tmp 42 _) rfl) (sS (sT1 rfl) sB0 sF0) ?_
              refine AL_cutAt 4 ⟨[(1, .inl (is (U64 a1))), (2, .inl (is (U64 a2))), (3, .inr (.inl (3, 0))), (8, .inr (.inl (8, 0))), (9, .inr (.inl (9, 0))), (24, .inl (is (Bl x10))), (40, .inr (.inl (8, 1))), (41, .inl (is (I8 x3))), (42, .inl (is (Bl (x3 == 3)))), (43, .inl (is (Bl (x3 == 3)))), (47, .inl (is (Bl ((x3 == 3) || (x7 == 0)))))], [(3, pb 23 [is (U8 a0_0), is (U8 a0_1)]), (8, pb 112 [is (Bl x2), is (I8 x3), is (I16 x4), is (U64 x5)]), (9, pb 112 [is (Bl x6), is (I8 x7), is (I16 x8), is (U64 x9)])]⟩ ?_ ?_
              · cases hb : x3 == 3
                · skip
                  refine AL_cons (LR_on rfl rfl rfl (LR_fieldAddr (off := 0) (o := 1) (at_tmp 9 _) (fun b w => fa112_1 b 0 w) rfl)) (sS (sT rfl (sT1 rfl)) sB0 sF0) ?_
                  refine AL_cons (LR_on rfl rfl rfl (LR_load (at_tmp 44 _) na110 rfl rfl)) (sS (sT rfl (sT1 rfl)) (sB1 rfl) sF0) ?_
                  refine AL_cons (LR_on rfl rfl rfl (LR_bin (at_tmp 45 _) (at_c (v' := I8 0) rfl) (eql_I8 x7 0) rfl)) (sS (sT rfl (sA (sT1 rfl) sT0)) sB0 sF0) ?_
                  refine AL_cons (LR_pick (b := false) (at_tmp 43 _) (at_c (v' := Bl true) rfl) (at_tmp 46 _) rfl) (sS (sA (sT1 rfl) (sA sT0 (sT1 rfl))) sB0 sF0) ?_
                  exact AL_nil ⟨rfl, weak0 ((sT rfl (sT rfl (sT rfl (sT rfl (sT rfl (sT rfl (sT rfl (sT rfl (sT rfl (sT rfl (sT rfl sT0)))))))))))) (sub_keep (sub_keep (sub_keep sub_nil)))⟩
                · skip
                  refine AL_cons (LR_off (b := true) rfl rfl rfl rfl) (sS (sT1 rfl) sB0 sF0) ?_
                  refine AL_cons (LR_off (b := true) rfl rfl rfl rfl) (sS (sT1 rfl) sB0 sF0) ?_
                  refine AL_cons (LR_off (b := true) rfl rfl rfl rfl) (sS (sT1 rfl) sB0 sF0) ?_
                  refine AL_cons (LR_pick (b := true) (at_tmp 43 _) (at_c (v' := Bl true) rfl) (at_tmp 46 _) rfl) (sS (sA (sT1 rfl) (sA sT0 (sT1 rfl))) sB0 sF0) ?_
                  exact AL_nil ⟨rfl, weak0 ((sT rfl (sT rfl (sT rfl (sT rfl (sT rfl (sT rfl (sT rfl (sT rfl (sT rfl (sT rfl (sT rfl sT0)))))))))))) (sub_keep (sub_keep (sub_keep sub_nil)))⟩
              refine AL_cons (LR_assign (at_tmp 47 _) rfl) (sS (sT1 rfl) sB0 sF0) ?_
              refine AL_nil ?_
              exact thenN (cutLeaf (v := (x3 == 3) || (x7 == 0)) hr (weak0 ((sT rfl (sT rfl (sT rfl (sT rfl sT0))))) (sub_keep (sub_keep (sub_keep sub_nil)))))
            · rintro x11 hr
              show AW Hfaa.prog _ _ _ ⟨[(3, .inr (.inl (3, 0))), (8, .inr (.inl (8, 0))), (9, .inr (.inl (9, 0))), (39, .inl (is (Bl x11)))], [(3, pb 23 [is (U8 a0_0), is (U8 a0_1)]), (8, pb 112 [is (Bl x2), is (I8 x3), is (I16 x4), is (U64 x5)]), (9, pb 112 [is (Bl x6), is (I8 x7), is (I16 x8), is (U64 x9)])]⟩
              have hr : some r = F173_4 N a0_0 a0_1 x2 x3 x4 x5 x6 x7 x8 x9 x11 := hr
              refine AW_condT (b := x11) rfl (fun h => ?_) (fun h => ?_)
              · have hr := hr.trans (cond_t h)
                clear h
                refine AW_seq1 ?_
                refine AW_region ?_
                refine AL_cons (LR_loads (at_tmp 3 _) ag23 sz23 rfl rfl rfl) (sS (sT1 rfl) (sB1 rfl) sF0) ?_
                obtain ⟨y21, hy21, hr⟩ := lt_some hr
                refine AL_cons (LR_call Hfaa.func66 rfl rfl (C66 a0_0 a0_1 y21 hy21) (all_cons (at_tmp 48 _) all_nil) rfl) (sS (sA (sT1 rfl) sT0) sB0 sF0) ?_
                refine AL_cons (LR_assign (at_tmp 49 _) rfl) (sS (sT1 rfl) sB0 sF0) ?_
                refine AL_cons (LR_assign (at_c (v' := U8 (1#8)) rfl) rfl) (sS sT0 sB0 sF0) ?_
                refine AL_nil ?_
                refine thenN ?_
                refine AW_ret ?_
                refine blR ?_
                refine thenR ?_
                obtain rfl := Option.some.inj hr
                exact res2 rfl (rvT rfl) (rvT rfl)
              · have hr := hr.trans (cond_f h)
                clear h
                refine AW_cut (σ := Bool) (fun v => ⟨[(3, .inr (.inl (3, 0))), (8, .inr (.inl (8, 0))), (9, .inr (.inl (9, 0))), (50, .inl (is (Bl v)))], [(3, pb 23 [is (U8 a0_0), is (U8 a0_1)]), (8, pb 112 [is (Bl x2), is (I8 x3), is (I16 x4), is (U64 x5)]), (9, pb 112 [is (Bl x6), is (I8 x7), is (I16 x8), is (U64 x9)])]⟩) (fun v => some r = F173_5 N a0_0 a0_1 x2 x3 x4 x5 x6 x7 x8 x9 v) ?_ ?_
                · skip
                  refine AW_region ?_
                  refine AL_cons (LR_fieldAddr (off := 0) (o := 1) (at_tmp 8 _) (fun b w => fa112_1 b 0 w) rfl) (sS (sT1 rfl) sB0 sF0) ?_
                  refine AL_cons (LR_load (at_tmp 51 _) na110 rfl rfl) (sS (sT1 rfl) (sB1 rfl) sF0) ?_
                  refine AL_cons (LR_bin (at_tmp 52 _) (at_c (v' := I8 0) rfl) (eql_I8 x3 0) rfl) (sS (sA (sT1 rfl) sT0) sB0 sF0) ?_
                  refine AL_cons (LR_assign (at_tmp 53 _) rfl) (sS (sT1 rfl) sB0 sF0) ?_
                  refine AL_nil ?_
                  exact thenN (cutLeaf (v := x3 == 0) hr (weak0 ((sT rfl (sT rfl (sT rfl (sT rfl sT0))))) (sub_keep (sub_keep (sub_keep sub_nil)))))
                · rintro x12 hr
                  show AW Hfaa.prog _ _ _ ⟨[(3, .inr (.inl (3, 0))), (8, .inr (.inl (8, 0))), (9, .inr (.inl (9, 0))), (50, .inl (is (Bl x12)))], [(3, pb 23 [is (U8 a0_0), is (U8 a0_1)]), (8, pb 112 [is (Bl x2), is (I8 x3), is (I16 x4), is (U64 x5)]), (9, pb 112 [is (Bl x6), is (I8 x7), is (I16 x8), is (U64 x9)])]⟩
                  have hr : some r = F173_5 N a0_0 a0_1 x2 x3 x4 x5 x6 x7 x8 x9 x12 := hr
                  refine AW_condT (b := x12) rfl (fun h => ?_) (fun h => ?_)
                  · have hr := hr.trans (cond_t h)
                    clear h
                    refine AW_seq1 ?_
                    refine AW_region ?_
                    refine AL_cons (LR_loads (at_tmp 3 _) ag23 sz23 rfl rfl rfl) (sS (sT1 rfl) (sB1 rfl) sF0) ?_
                    refine AL_cons (LR_fieldAddr (off := 0) (o := 0) (at_tmp 8 _) (fun b w => fa112_0 b 0 w) rfl) (sS (sT1 rfl) sB0 sF0) ?_
                    refine AL_cons (LR_load (at_tmp 55 _) na4 rfl rfl) (sS (sT1 rfl) (sB1 rfl) sF0) ?_
                    obtain ⟨y23, hy23, hr⟩ := lt_some hr
                    refine AL_cons (LR_call Hfaa.func259 rfl rfl (C259 a0_0 a0_1 x2 y23 hy23) (all_cons (at_tmp 54 _) (all_cons (at_tmp 56 _) all_nil)) rfl) (sS (sA (sT1 rfl) (sA (sT1 rfl) sT0)) sB0 sF0) ?_
                    refine AL_cons (LR_assign (at_tmp 57 _) rfl) (sS (sT1 rfl) sB0 sF0) ?_
                    refine AL_cons (LR_assign (at_c (v' := U8 (0#8)) rfl) rfl) (sS sT0 sB0 sF0) ?_
                    refine AL_nil ?_
                    refine thenN ?_
                    refine AW_ret ?_
                    refine blR ?_
                    refine thenR ?_
                    obtain rfl := Option.some.inj hr
                    exact res2 rfl (rvT rfl) (rvT rfl)
                  · have hr := hr.trans (cond_f h)
                    clear h
                    refine AW_cut (σ := Bool) (fun v => ⟨[(3, .inr (.inl (3, 0))), (8, .inr (.inl (8, 0))), (9, .inr (.inl (9, 0))), (58, .inl (is (Bl v)))], [(3, pb 23 [is (U8 a0_0), is (U8 a0_1)]), (8, pb 112 [is (Bl x2), is (I8 x3), is (I16 x4), is (U64 x5)]), (9, pb 112 [is (Bl x6), is (I8 x7), is (I16 x8), is (U64 x9)])]⟩) (fun v => some r = F173_6 N a0_0 a0_1 x2 x3 x4 x5 x6 x7 x8 x9 v) ?_ ?_
                    · skip
                      refine AW_region ?_
                      refine AL_cons (LR_fieldAddr (off := 0) (o := 1) (at_tmp 9 _) (fun b w => fa112_1 b 0 w) rfl) (sS (sT1 rfl) sB0 sF0) ?_
                      refine AL_cons (LR_load (at_tmp 59 _) na110 rfl rfl) (sS (sT1 rfl) (sB1 rfl) sF0) ?_
                      refine AL_cons (LR_bin (at_tmp 60 _) (at_c (v' := I8 3) rfl) (eql_I8 x7 3) rfl) (sS (sA (sT1 rfl) sT0) sB0 sF0) ?_
                      refine AL_cons (LR_move (at_tmp 61 _) rfl) (sS (sT1 rfl) sB0 sF0) ?_
                      refine AL_cutAt 7 ⟨[(3, .inr (.inl (3, 0))), (8, .inr (.inl (8, 0))), (9, .inr (.inl (9, 0))), (50, .inl (is (Bl x12))), (59, .inr (.inl (9, 1))), (60, .inl (is (I8 x7))), (61, .inl (is (Bl (x7 == 3)))), (62, .inl (is (Bl (x7 == 3)))), (69, .inl (is (Bl ((x7 == 3) || (decide (x4 < (w16 (x8 - 1))))))))], [(3, pb 23 [is (U8 a0_0), is (U8 a0_1)]), (8, pb 112 [is (Bl x2), is (I8 x3), is (I16 x4), is (U64 x5)]), (9, pb 112 [is (Bl x6), is (I8 x7), is (I16 x8), is (U64 x9)])]⟩ ?_ ?_
                      · cases hb : x7 == 3
                        · skip
                          refine AL_cons (LR_on rfl rfl rfl (LR_fieldAddr (off := 0) (o := 2) (at_tmp 8 _) (fun b w => fa112_2 b 0 w) rfl)) (sS (sT rfl (sT1 rfl)) sB0 sF0) ?_
                          refine AL_cons (LR_on rfl rfl rfl (LR_load (at_tmp 63 _) na44 rfl rfl)) (sS (sT rfl (sT1 rfl)) (sB1 rfl) sF0) ?_
                          refine AL_cons (LR_on rfl rfl rfl (LR_fieldAddr (off := 0) (o := 2) (at_tmp 9 _) (fun b w => fa112_2 b 0 w) rfl)) (sS (sT rfl (sT1 rfl)) sB0 sF0) ?_
                          refine AL_cons (LR_on rfl rfl rfl (LR_load (at_tmp 65 _) na44 rfl rfl)) (sS (sT rfl (sT1 rfl)) (sB1 rfl) sF0) ?_
                          refine AL_cons (LR_on rfl rfl rfl (LR_bin (at_tmp 66 _) (at_c (v' := I16 1) rfl) (sub_I16 x8 1) rfl)) (sS (sT rfl (sA (sT1 rfl) sT0)) sB0 sF0) ?_
                          refine AL_cons (LR_on rfl rfl rfl (LR_bin (at_tmp 64 _) (at_tmp 67 _) (lss_I16 x4 (w16 (x8 - 1))) rfl)) (sS (sT rfl (sA (sT1 rfl) (sT1 rfl))) sB0 sF0) ?_
                          refine AL_cons (LR_pick (b := false) (at_tmp 62 _) (at_c (v' := Bl true) rfl) (at_tmp 68 _) rfl) (sS (sA (sT1 rfl) (sA sT0 (sT1 rfl))) sB0 sF0) ?_
                          exact AL_nil ⟨rfl, weak0 ((sT rfl (sT rfl (sT rfl (sT rfl (sT rfl (sT rfl (sT rfl (sT rfl (sT rfl sT0)))))))))) (sub_keep (sub_keep (sub_keep sub_nil)))⟩
                        · skip
                          refine AL_cons (LR_off (b := true) rfl rfl rfl rfl) (sS (sT1 rfl) sB0 sF0) ?_
                          refine AL_cons (LR_off (b := true) rfl rfl rfl rfl) (sS (sT1 rfl) sB0 sF0) ?_
                          refine AL_cons (LR_off (b := true) rfl rfl rfl rfl) (sS (sT1 rfl) sB0 sF0) ?_
                          refine AL_cons (LR_off (b := true) rfl rfl rfl rfl) (sS (sT1 rfl) sB0 sF0) ?_
                          refine AL_cons (LR_off (b := true) rfl rfl rfl rfl) (sS (sT1 rfl) sB0 sF0) ?_
                          refine AL_cons (LR_off (b := true) rfl rfl rfl rfl) (sS (sT1 rfl) sB0 sF0) ?_
                          refine AL_cons (LR_pick (b := true) (at_tmp 62 _) (at_c (v' := Bl true) rfl) (at_tmp 68 _) rfl) (sS (sA (sT1 rfl) (sA sT0 (sT1 rfl))) sB0 sF0) ?_
                          exact AL_nil ⟨rfl, weak0 ((sT rfl (sT rfl (sT rfl (sT rfl (sT rfl (sT rfl (sT rfl (sT rfl (sT rfl sT0)))))))))) (sub_keep (sub_keep (sub_keep sub_nil)))⟩
                      refine AL_cons (LR_assign (at_tmp 69 _) rfl) (sS (sT1 rfl) sB0 sF0) ?_
                      refine AL_nil ?_
                      exact thenN (cutLeaf (v := (x7 == 3) || (decide (x4 < (w16 (x8 - 1))))) hr (weak0 ((sT rfl (sT rfl (sT rfl (sT rfl sT0))))) (sub_keep (sub_keep (sub_keep sub_nil)))))
                    · rintro x13 hr
                      show AW Hfaa.prog _ _ _ ⟨[(3, .inr (.inl (3, 0))), (8, .inr (.inl (8, 0))), (9, .inr (.inl (9, 0))), (58, .inl (is (Bl x13)))], [(3, pb 23 [is (U8 a0_0), is (U8 a0_1)]), (8, pb 112 [is (Bl x2), is (I8 x3), is (I16 x4), is (U64 x5)]), (9, pb 112 [is (Bl x6), is (I8 x7), is (I16 x8), is (U64 x9)])]⟩
                      have hr : some r = F173_6 N a0_0 a0_1 x2 x3 x4 x5 x6 x7 x8 x9 x13 := hr
                      refine AW_condT (b := x13) rfl (fun h => ?_) (fun h => ?_)
                      · have hr := hr.trans (cond_t h)
                        clear h
                        refine AW_seq1 ?_
                        refine AW_region ?_
                        refine AL_cons (LR_loads (at_tmp 3 _) ag23 sz23 rfl rfl rfl) (sS (sT1 rfl) (sB1 rfl) sF0) ?_
                        refine AL_cons (LR_fieldAddr (off := 0) (o := 0) (at_tmp 8 _) (fun b w => fa112_0 b 0 w) rfl) (sS (sT1 rfl) sB0 sF0) ?_
                        refine AL_cons (LR_load (at_tmp 71 _) na4 rfl rfl) (sS (sT1 rfl) (sB1 rfl) sF0) ?_
                        refine AL_cons (LR_fieldAddr (off := 0) (o := 2) (at_tmp 8 _) (fun b w => fa112_2 b 0 w) rfl) (sS (sT1 rfl) sB0 sF0) ?_
                        refine AL_cons (LR_load (at_tmp 73 _) na44 rfl rfl) (sS (sT1 rfl) (sB1 rfl) sF0) ?_
                        refine AL_cons (LR_fieldAddr (off := 0) (o := 3) (at_tmp 8 _) (fun b w => fa112_3 b 0 w) rfl) (sS (sT1 rfl) sB0 sF0) ?_
                        refine AL_cons (LR_load (at_tmp 75 _) na30 rfl rfl) (sS (sT1 rfl) (sB1 rfl) sF0) ?_
                        obtain ⟨y25, hy25, hr⟩ := bind_some hr
                        refine AL_cons (LR_call Hfaa.func215 rfl rfl (C215 N a0_0 a0_1 (0#8) x2 x4 x5 y25 hy25) (all_cons (at_tmp 70 _) (all_cons (at_c (v' := U8 (0#8)) rfl) (all_cons (at_tmp 72 _) (all_cons (at_tmp 74 _) (all_cons (at_tmp 76 _) all_nil))))) rfl) (sS (sA (sT1 rfl) (sA sT0 (sA (sT1 rfl) (sA (sT1 rfl) (sA (sT1 rfl) sT0))))) sB0 sF0) ?_
                        refine AL_cons (LR_extract (at_tmp 77 _) rfl rfl) (sS (sT1 rfl) sB0 sF0) ?_
                        refine AL_cons (LR_extract (at_tmp 77 _) rfl rfl) (sS (sT1 rfl) sB0 sF0) ?_
                        refine AL_cons (LR_assign (at_tmp 78 _) rfl) (sS (sT1 rfl) sB0 sF0) ?_
                        refine AL_cons (LR_assign (at_tmp 79 _) rfl) (sS (sT1 rfl) sB0 sF0) ?_
                        refine AL_nil ?_
                        refine thenN ?_
                        refine AW_ret ?_
                        refine blR ?_
                        refine thenR ?_
                        obtain rfl := Option.some.inj hr
                        exact res2 rfl (rvT rfl) (rvT rfl)
                      · have hr := hr.trans (cond_f h)
                        clear h
                        refine AW_skip ?_
                        refine blN ?_
                        refine thenN ?_
                        refine AW_seq1 ?_
                        refine AW_draw mixed
                          (lrC (LR_fieldAddr (off := 0) (o := 3) (at_tmp 8 _) (fun b w => fa112_3 b 0 w) rfl)
                          (lrC (LR_load (at_tmp 80 _) na30 rfl rfl)
                          (lrC (LR_fieldAddr (off := 0) (o := 3) (at_tmp 9 _) (fun b w => fa112_3 b 0 w) rfl)
                          (lrC (LR_load (at_tmp 82 _) na30 rfl rfl)
                          (lrC (LR_fieldAddr (off := 0) (o := 2) (at_tmp 9 _) (fun b w => fa112_2 b 0 w) rfl)
                          (lrC (LR_load (at_tmp 84 _) na44 rfl rfl)
                          (lrC (LR_assign (at_tmp 81 _) rfl)
                          (lrC (LR_assign (at_tmp 83 _) rfl)
                          (lrC (LR_assign (at_tmp 85 _) rfl)
                          (lrC (LR_assign (at_c (v' := Bl false) rfl) rfl)
                          lrN))))))))))
                          (by kernel_rfl)
                          (saC (sS (sT1 rfl) sB0 sF0) (saC (sS (sT1 rfl) (sB1 rfl) sF0) (saC (sS (sT1 rfl) sB0 sF0) (saC (sS (sT1 rfl) (sB1 rfl) sF0) (saC (sS (sT1 rfl) sB0 sF0) (saC (sS (sT1 rfl) (sB1 rfl) sF0) (saC (sS (sT1 rfl) sB0 sF0) (saC (sS (sT1 rfl) sB0 sF0) (saC (sS (sT1 rfl) sB0 sF0) (saC (sS sT0 sB0 sF0) saN)))))))))) ?_
                        refine thenN ?_
                        refine AW_cut (σ := BitVec 64 × BitVec 64 × Bool × Int) (fun v => ⟨[(3, .inr (.inl (3, 0))), (8, .inr (.inl (8, 0))), (10, .inl (is (U64 v.1))), (11, .inl (is (U64 v.2.1))), (13, .inl (is (Bl v.2.2.1))), (12, .inl (is (I16 v.2.2.2)))], [(3, pb 23 [is (U8 a0_0), is (U8 a0_1)]), (8, pb 112 [is (Bl x2), is (I8 x3), is (I16 x4), is (U64 x5)])]⟩) (fun v => some r = F173_7 N a0_0 a0_1 x2 x3 x4 x5 v.1 v.2.1 v.2.2.1 v.2.2.2) ?_ ?_
                        · skip
                          refine AW_cut (σ := Bool) (fun v => ⟨[(3, .inr (.inl (3, 0))), (8, .inr (.inl (8, 0))), (9, .inr (.inl (9, 0))), (10, .inl (is (U64 x5))), (11, .inl (is (U64 x9))), (12, .inl (is (I16 x8))), (13, .inl (is (Bl false))), (90, .inl (is (Bl v)))], [(3, pb 23 [is (U8 a0_0), is (U8 a0_1)]), (8, pb 112 [is (Bl x2), is (I8 x3), is (I16 x4), is (U64 x5)]), (9, pb 112 [is (Bl x6), is (I8 x7), is (I16 x8), is (U64 x9)])]⟩) (fun v => some r = F173_10 N a0_0 a0_1 x2 x3 x4 x5 x6 x7 x8 x9 v) ?_ ?_
                          · skip
                            refine AW_region ?_
                            refine AL_cons (LR_fieldAddr (off := 0) (o := 2) (at_tmp 8 _) (fun b w => fa112_2 b 0 w) rfl) (sS (sT1 rfl) sB0 sF0) ?_
                            refine AL_cons (LR_load (at_tmp 86 _) na44 rfl rfl) (sS (sT1 rfl) (sB1 rfl) sF0) ?_
                            refine AL_cons (LR_fieldAddr (off := 0) (o := 2) (at_tmp 9 _) (fun b w => fa112_2 b 0 w) rfl) (sS (sT1 rfl) sB0 sF0) ?_
                            refine AL_cons (LR_load (at_tmp 88 _) na44 rfl rfl) (sS (sT1 rfl) (sB1 rfl) sF0) ?_
                            refine AL_cons (LR_bin (at_tmp 87 _) (at_tmp 89 _) (lss_I16 x4 x8) rfl) (sS (sA (sT1 rfl) (sT1 rfl)) sB0 sF0) ?_
                            refine AL_nil ?_
                            exact thenN (cutLeaf (v := decide (x4 < x8)) hr (weak0 ((sT rfl (sT rfl (sT rfl (sT rfl (sT rfl (sT rfl (sT rfl (sT rfl sT0))))))))) (sub_keep (sub_keep (sub_keep sub_nil)))))
                          · rintro x20 hr
                            show AW Hfaa.prog _ _ _ ⟨[(3, .inr (.inl (3, 0))), (8, .inr (.inl (8, 0))), (9, .inr (.inl (9, 0))), (10, .inl (is (U64 x5))), (11, .inl (is (U64 x9))), (12, .inl (is (I16 x8))), (13, .inl (is (Bl false))), (90, .inl (is (Bl x20)))], [(3, pb 23 [is (U8 a0_0), is (U8 a0_1)]), (8, pb 112 [is (Bl x2), is (I8 x3), is (I16 x4), is (U64 x5)]), (9, pb 112 [is (Bl x6), is (I8 x7), is (I16 x8), is (U64 x9)])]⟩
                            have hr : some r = F173_10 N a0_0 a0_1 x2 x3 x4 x5 x6 x7 x8 x9 x20 := hr
                            refine AW_condT (b := x20) rfl (fun h => ?_) (fun h => ?_)
                            · have hr := hr.trans (cond_t h)
                              clear h
                              refine AW_cut (σ := BitVec 64) (fun v => ⟨[(3, .inr (.inl (3, 0))), (8, .inr (.inl (8, 0))), (10, .inl (is (U64 x5))), (11, .inl (is (U64 v))), (13, .inl (is (Bl false)))], [(3, pb 23 [is (U8 a0_0), is (U8 a0_1)]), (8, pb 112 [is (Bl x2), is (I8 x3), is (I16 x4), is (U64 x5)])]⟩) (fun v => some r = F173_11 N a0_0 a0_1 x2 x3 x4 x5 v) ?_ ?_
                              · skip
                                refine AW_region ?_
                                refine AL_cons (LR_move (at_tmp 11 _) rfl) (sS (sT1 rfl) sB0 sF0) ?_
                                refine AL_cons (LR_bin (at_tmp 91 _) (at_c (v' := U64 (1#64)) rfl) (shl_U64 x9 ((1#64).toNat : Int) (Int.natCast_nonneg _)) rfl) (sS (sA (sT1 rfl) sT0) sB0 sF0) ?_
                                refine AL_cons (LR_assign (at_tmp 92 _) rfl) (sS (sT1 rfl) sB0 sF0) ?_
                                refine AL_nil ?_
                                exact thenN (cutLeaf (v := x9 <<< 1) hr (weak0 ((sT rfl (sT rfl (sT rfl (sT rfl (sT rfl sT0)))))) (sub_keep (sub_keep (sub_drop sub_nil)))))
                              · rintro x21 hr
                                show AW Hfaa.prog _ _ _ ⟨[(3, .inr (.inl (3, 0))), (8, .inr (.inl (8, 0))), (10, .inl (is (U64 x5))), (11, .inl (is (U64 x21))), (13, .inl (is (Bl false)))], [(3, pb 23 [is (U8 a0_0), is (U8 a0_1)]), (8, pb 112 [is (Bl x2), is (I8 x3), is (I16 x4), is (U64 x5)])]⟩
                                have hr : some r = F173_11 N a0_0 a0_1 x2 x3 x4 x5 x21 := hr
                                refine AW_region ?_
                                refine AL_cons (LR_fieldAddr (off := 0) (o := 2) (at_tmp 8 _) (fun b w => fa112_2 b 0 w) rfl) (sS (sT1 rfl) sB0 sF0) ?_
                                refine AL_cons (LR_load (at_tmp 93 _) na44 rfl rfl) (sS (sT1 rfl) (sB1 rfl) sF0) ?_
                                refine AL_cons (LR_assign (at_tmp 94 _) rfl) (sS (sT1 rfl) sB0 sF0) ?_
                                refine AL_nil ?_
                                exact thenN (cutLeaf (v := (x5, x21, false, x4)) hr (weak0 ((sT rfl (sT rfl (sT rfl (sT rfl (sT rfl (sT rfl sT0))))))) (sub_keep (sub_keep sub_nil))))
                            · have hr := hr.trans (cond_f h)
                              clear h
                              refine AW_region ?_
                              refine AL_cons (LR_loads (at_tmp 3 _) ag23 sz23 rfl rfl rfl) (sS (sT1 rfl) (sB1 rfl) sF0) ?_
                              refine AL_cons (LR_fieldAddr (off := 0) (o := 3) (at_tmp 8 _) (fun b w => fa112_3 b 0 w) rfl) (sS (sT1 rfl) sB0 sF0) ?_
                              refine AL_cons (LR_load (at_tmp 97 _) na30 rfl rfl) (sS (sT1 rfl) (sB1 rfl) sF0) ?_
                              refine AL_cons (LR_fieldAddr (off := 0) (o := 3) (at_tmp 9 _) (fun b w => fa112_3 b 0 w) rfl) (sS (sT1 rfl) sB0 sF0) ?_
                              refine AL_cons (LR_load (at_tmp 99 _) na30 rfl rfl) (sS (sT1 rfl) (sB1 rfl) sF0) ?_
                              refine AL_cons (LR_fieldAddr (off := 0) (o := 2) (at_tmp 8 _) (fun b w => fa112_2 b 0 w) rfl) (sS (sT1 rfl) sB0 sF0) ?_
                              refine AL_cons (LR_load (at_tmp 101 _) na44 rfl rfl) (sS (sT1 rfl) (sB1 rfl) sF0) ?_
                              refine AL_cons (LR_fieldAddr (off := 0) (o := 2) (at_tmp 9 _) (fun b w => fa112_2 b 0 w) rfl) (sS (sT1 rfl) sB0 sF0) ?_
                              refine AL_cons (LR_load (at_tmp 103 _) na44 rfl rfl) (sS (sT1 rfl) (sB1 rfl) sF0) ?_
                              refine AL_cons (LR_bin (at_tmp 102 _) (at_tmp 104 _) (sub_I16 x4 x8) rfl) (sS (sA (sT1 rfl) (sT1 rfl)) sB0 sF0) ?_
                              obtain ⟨y33, hy33, hr⟩ := bind_some hr
                              refine AL_cons (LR_call Hfaa.func275 rfl rfl (C275 N a0_0 a0_1 x5 x9 (w16 (x4 - x8)) y33 hy33) (all_cons (at_tmp 96 _) (all_cons (at_tmp 98 _) (all_cons (at_tmp 100 _) (all_cons (at_tmp 105 _) all_nil)))) rfl) (sS (sA (sT1 rfl) (sA (sT1 rfl) (sA (sT1 rfl) (sA (sT1 rfl) sT0)))) sB0 sF0) ?_
                              refine AL_cons (LR_move (at_tmp 106 _) rfl) (sS (sT1 rfl) sB0 sF0) ?_
                              refine AL_cons (LR_extract (at_tmp 95 _) rfl rfl) (sS (sT1 rfl) sB0 sF0) ?_
                              refine AL_cons (LR_extract (at_tmp 95 _) rfl rfl) (sS (sT1 rfl) sB0 sF0) ?_
                              refine AL_cons (LR_assign (at_tmp 107 _) rfl) (sS (sT1 rfl) sB0 sF0) ?_
                              refine AL_cons (LR_assign (at_tmp 108 _) rfl) (sS (sT1 rfl) sB0 sF0) ?_
                              refine AL_nil ?_
                              exact thenN (cutLeaf (v := (y33.1, x9, y33.2, x8)) hr (weak0 ((sT rfl (sT rfl (sT rfl (sT rfl (sT rfl (sT rfl sT0))))))) (sub_keep (sub_keep (sub_drop sub_nil)))))
                        · rintro ⟨x14, x15, x16, x17⟩ hr
                          show AW Hfaa.prog _ _ _ ⟨[(3, .inr (.inl (3, 0))), (8, .inr (.inl (8, 0))), (10, .inl (is (U64 x14))), (11, .inl (is (U64 x15))), (13, .inl (is (Bl x16))), (12, .inl (is (I16 x17)))], [(3, pb 23 [is (U8 a0_0), is (U8 a0_1)]), (8, pb 112 [is (Bl x2), is (I8 x3), is (I16 x4), is (U64 x5)])]⟩
                          have hr : some r = F173_7 N a0_0 a0_1 x2 x3 x4 x5 x14 x15 x16 x17 := hr
                          refine AW_seq1 ?_
                          refine AW_cut (σ := BitVec 64) (fun v => ⟨[(3, .inr (.inl (3, 0))), (8, .inr (.inl (8, 0))), (10, .inl (is (U64 x14))), (13, .inl (is (Bl x16))), (12, .inl (is (I16 x17))), (14, .inl (is (U64 v)))], [(3, pb 23 [is (U8 a0_0), is (U8 a0_1)]), (8, pb 112 [is (Bl x2), is (I8 x3), is (I16 x4), is (U64 x5)])]⟩) (fun v => some r = F173_8 N a0_0 a0_1 x2 x3 x4 x5 x14 x16 x17 v) ?_ ?_
                          · skip
                            refine AW_region ?_
                            refine AL_cons (LR_move (at_tmp 11 _) rfl) (sS (sT1 rfl) sB0 sF0) ?_
                            refine AL_cons (LR_move (at_tmp 10 _) rfl) (sS (sT1 rfl) sB0 sF0) ?_
                            refine AL_cons (LR_bin (at_tmp 109 _) (at_tmp 110 _) (sub_U64 x15 x14) rfl) (sS (sA (sT1 rfl) (sT1 rfl)) sB0 sF0) ?_
                            refine AL_cons (LR_assign (at_tmp 111 _) rfl) (sS (sT1 rfl) sB0 sF0) ?_
                            refine AL_nil ?_
                            exact thenN (cutLeaf (v := x15 - x14) hr (weak0 ((sT rfl (sT rfl (sT rfl (sT rfl (sT rfl (sT rfl sT0))))))) (sub_keep (sub_keep sub_nil))))
                          · rintro x18 hr
                            show AW Hfaa.prog _ _ _ ⟨[(3, .inr (.inl (3, 0))), (8, .inr (.inl (8, 0))), (10, .inl (is (U64 x14))), (13, .inl (is (Bl x16))), (12, .inl (is (I16 x17))), (14, .inl (is (U64 x18)))], [(3, pb 23 [is (U8 a0_0), is (U8 a0_1)]), (8, pb 112 [is (Bl x2), is (I8 x3), is (I16 x4), is (U64 x5)])]⟩
                            have hr : some r = F173_8 N a0_0 a0_1 x2 x3 x4 x5 x14 x16 x17 x18 := hr
                            refine AW_cut (σ := Bool) (fun v => ⟨[(3, .inr (.inl (3, 0))), (8, .inr (.inl (8, 0))), (10, .inl (is (U64 x14))), (12, .inl (is (I16 x17))), (14, .inl (is (U64 x18))), (122, .inl (is (Bl v)))], [(3, pb 23 [is (U8 a0_0), is (U8 a0_1)]), (8, pb 112 [is (Bl x2), is (I8 x3), is (I16 x4), is (U64 x5)])]⟩) (fun v => some r = F173_9 N a0_0 a0_1 x2 x3 x4 x5 x14 x17 x18 v) ?_ ?_
                            · skip
                              refine AW_region ?_
                              refine AL_cons (LR_move (at_tmp 10 _) rfl) (sS (sT1 rfl) sB0 sF0) ?_
                              refine AL_cons (LR_move (at_tmp 14 _) rfl) (sS (sT1 rfl) sB0 sF0) ?_
                              refine AL_cons (LR_bin (at_tmp 112 _) (at_tmp 113 _) (gtr_U64 x14 x18) rfl) (sS (sA (sT1 rfl) (sT1 rfl)) sB0 sF0) ?_
                              refine AL_cons (LR_move (at_tmp 114 _) rfl) (sS (sT1 rfl) sB0 sF0) ?_
                              refine AL_cutAt 7 ⟨[(3, .inr (.inl (3, 0))), (8, .inr (.inl (8, 0))), (10, .inl (is (U64 x14))), (13, .inl (is (Bl x16))), (12, .inl (is (I16 x17))), (14, .inl (is (U64 x18))), (112, .inl (is (U64 x14))), (113, .inl (is (U64 x18))), (114, .inl (is (Bl (decide (x18.toNat < x14.toNat))))), (115, .inl (is (Bl (decide (x18.toNat < x14.toNat))))), (122, .inl (is (Bl ((decide (x18.toNat < x14.toNat)) || ((x14 == x18) && x16)))))], [(3, pb 23 [is (U8 a0_0), is (U8 a0_1)]), (8, pb 112 [is (Bl x2), is (I8 x3), is (I16 x4), is (U64 x5)])]⟩ ?_ ?_
                              · cases hb : decide (x18.toNat < x14.toNat)
                                · skip
                                  refine AL_cons (LR_on rfl rfl rfl (LR_move (at_tmp 10 _) rfl)) (sS (sT rfl (sT1 rfl)) sB0 sF0) ?_
                                  refine AL_cons (LR_on rfl rfl rfl (LR_move (at_tmp 14 _) rfl)) (sS (sT rfl (sT1 rfl)) sB0 sF0) ?_
                                  refine AL_cons (LR_on rfl rfl rfl (LR_bin (at_tmp 116 _) (at_tmp 117 _) (eql_U64 x14 x18) rfl)) (sS (sT rfl (sA (sT1 rfl) (sT1 rfl))) sB0 sF0) ?_
                                  refine AL_cons (LR_on rfl rfl rfl (LR_move (at_tmp 118 _) rfl)) (sS (sT rfl (sT1 rfl)) sB0 sF0) ?_
                                  refine AL_cutAt 2 ⟨[(3, .inr (.inl (3, 0))), (8, .inr (.inl (8, 0))), (10, .inl (is (U64 x14))), (13, .inl (is (Bl x16))), (12, .inl (is (I16 x17))), (14, .inl (is (U64 x18))), (112, .inl (is (U64 x14))), (113, .inl (is (U64 x18))), (114, .inl (is (Bl false))), (115, .inl (is (Bl false))), (116, .inl (is (U64 x14))), (117, .inl (is (U64 x18))), (118, .inl (is (Bl (x14 == x18)))), (119, .inl (is (Bl (x14 == x18)))), (121, .inl (is (Bl ((x14 == x18) && x16))))], [(3, pb 23 [is (U8 a0_0), is (U8 a0_1)]), (8, pb 112 [is (Bl x2), is (I8 x3), is (I16 x4), is (U64 x5)])]⟩ ?_ ?_
                                  · cases hb : x14 == x18
                                    · skip
                                      refine AL_cons (LR_off (b := false) rfl rfl rfl rfl) (sS (sT1 rfl) sB0 sF0) ?_
                                      refine AL_cons (LR_on rfl rfl rfl (LR_pick (b := false) (at_tmp 119 _) (at_tmp 120 _) (at_c (v' := Bl false) rfl) rfl)) (sS (sT rfl (sA (sT1 rfl) (sA (sT1 rfl) sT0))) sB0 sF0) ?_
                                      exact AL_nil ⟨rfl, weak0 ((sT rfl (sT rfl (sT rfl (sT rfl (sT rfl (sT rfl (sT rfl (sT rfl (sT rfl (sT rfl (sT rfl (sT rfl (sT rfl (sT rfl (sT rfl sT0)))))))))))))))) (sub_keep (sub_keep sub_nil))⟩
                                    · skip
                                      refine AL_cons (LR_on rfl rfl rfl (LR_move (at_tmp 13 _) rfl)) (sS (sT rfl (sT1 rfl)) sB0 sF0) ?_
                                      refine AL_cons (LR_on rfl rfl rfl (LR_pick (b := true) (at_tmp 119 _) (at_tmp 120 _) (at_c (v' := Bl false) rfl) rfl)) (sS (sT rfl (sA (sT1 rfl) (sA (sT1 rfl) sT0))) sB0 sF0) ?_
                                      exact AL_nil ⟨rfl, weak0 ((sT rfl (sT rfl (sT rfl (sT rfl (sT rfl (sT rfl (sT rfl (sT rfl (sT rfl (sT rfl (sT rfl (sT rfl (sT rfl (sT rfl (sT rfl sT0)))))))))))))))) (sub_keep (sub_keep sub_nil))⟩
                                  refine AL_cons (LR_pick (b := false) (at_tmp 115 _) (at_c (v' := Bl true) rfl) (at_tmp 121 _) rfl) (sS (sA (sT1 rfl) (sA sT0 (sT1 rfl))) sB0 sF0) ?_
                                  exact AL_nil ⟨rfl, weak0 ((sT rfl (sT rfl (sT rfl (sT rfl (sT rfl (sT rfl (sT rfl (sT rfl (sT rfl (sT rfl (sT rfl sT0)))))))))))) (sub_keep (sub_keep sub_nil))⟩
                                · skip
                                  refine AL_cons (LR_off (b := true) rfl rfl rfl rfl) (sS (sT1 rfl) sB0 sF0) ?_
                                  refine AL_cons (LR_off (b := true) rfl rfl rfl rfl) (sS (sT1 rfl) sB0 sF0) ?_
                                  refine AL_cons (LR_off (b := true) rfl rfl rfl rfl) (sS (sT1 rfl) sB0 sF0) ?_
                                  refine AL_cons (LR_off (b := true) rfl rfl rfl rfl) (sS (sT1 rfl) sB0 sF0) ?_
                                  refine AL_cons (LR_offU rfl rfl rfl rfl) (sS (sT1 rfl) sB0 sF0) ?_
                                  refine AL_cons (LR_off (b := true) rfl rfl rfl rfl) (sS (sT1 rfl) sB0 sF0) ?_
                                  refine AL_cons (LR_pick (b := true) (at_tmp 115 _) (at_c (v' := Bl true) rfl) (at_tmp 121 _) rfl) (sS (sA (sT1 rfl) (sA sT0 (sT1 rfl))) sB0 sF0) ?_
                                  exact AL_nil ⟨rfl, weak0 ((sT rfl (sT rfl (sT rfl (sT rfl (sT rfl (sT rfl (sT rfl (sT rfl (sT rfl (sT rfl (sT rfl sT0)))))))))))) (sub_keep (sub_keep sub_nil))⟩
                              refine AL_nil ?_
                              exact thenN (cutLeaf (v := (decide (x18.toNat < x14.toNat)) || ((x14 == x18) && x16)) hr (weak0 ((sT rfl (sT rfl (sT rfl (sT rfl (sT rfl (sT rfl sT0))))))) (sub_keep (sub_keep sub_nil))))
                            · rintro x19 hr
                              show AW Hfaa.prog _ _ _ ⟨[(3, .inr (.inl (3, 0))), (8, .inr (.inl (8, 0))), (10, .inl (is (U64 x14))), (12, .inl (is (I16 x17))), (14, .inl (is (U64 x18))), (122, .inl (is (Bl x19)))], [(3, pb 23 [is (U8 a0_0), is (U8 a0_1)]), (8, pb 112 [is (Bl x2), is (I8 x3), is (I16 x4), is (U64 x5)])]⟩
                              have hr : some r = F173_9 N a0_0 a0_1 x2 x3 x4 x5 x14 x17 x18 x19 := hr
                              refine AW_condT (b := x19) rfl (fun h => ?_) (fun h => ?_)
                              · have hr := hr.trans (cond_t h)
                                clear h
                                refine AW_seq1 ?_
                                refine AW_region ?_
                                refine AL_cons (LR_loads (at_tmp 3 _) ag23 sz23 rfl rfl rfl) (sS (sT1 rfl) (sB1 rfl) sF0) ?_
                                refine AL_cons (LR_fieldAddr (off := 0) (o := 0) (at_tmp 8 _) (fun b w => fa112_0 b 0 w) rfl) (sS (sT1 rfl) sB0 sF0) ?_
                                refine AL_cons (LR_load (at_tmp 124 _) na4 rfl rfl) (sS (sT1 rfl) (sB1 rfl) sF0) ?_
                                refine AL_cons (LR_un (at_tmp 125 _) (not_Bl x2) rfl) (sS (sT1 rfl) sB0 sF0) ?_
                                refine AL_cons (LR_move (at_tmp 12 _) rfl) (sS (sT1 rfl) sB0 sF0) ?_
                                refine AL_cons (LR_move (at_tmp 14 _) rfl) (sS (sT1 rfl) sB0 sF0) ?_
                                obtain ⟨y30, hy30, hr⟩ := bind_some hr
                                refine AL_cons (LR_call Hfaa.func215 rfl rfl (C215 N a0_0 a0_1 (0#8) (!x2) x17 x18 y30 hy30) (all_cons (at_tmp 123 _) (all_cons (at_c (v' := U8 (0#8)) rfl) (all_cons (at_tmp 126 _) (all_cons (at_tmp 127 _) (all_cons (at_tmp 128 _) all_nil))))) rfl) (sS (sA (sT1 rfl) (sA sT0 (sA (sT1 rfl) (sA (sT1 rfl) (sA (sT1 rfl) sT0))))) sB0 sF0) ?_
                                refine AL_cons (LR_extract (at_tmp 129 _) rfl rfl) (sS (sT1 rfl) sB0 sF0) ?_
                                refine AL_cons (LR_extract (at_tmp 129 _) rfl rfl) (sS (sT1 rfl) sB0 sF0) ?_
                                refine AL_cons (LR_assign (at_tmp 130 _) rfl) (sS (sT1 rfl) sB0 sF0) ?_
                                refine AL_cons (LR_assign (at_tmp 131 _) rfl) (sS (sT1 rfl) sB0 sF0) ?_
                                refine AL_nil ?_
                                refine thenN ?_
                                refine AW_ret ?_
                                refine thenR ?_
                                obtain rfl := Option.some.inj hr
                                exact res2 rfl (rvT rfl) (rvT rfl)
                              · have hr := hr.trans (cond_f h)
                                clear h
                                refine AW_skip ?_
                                refine thenN ?_
                                refine AW_seq1 ?_
                                refine AW_region ?_
                                refine AL_cons (LR_loads (at_tmp 3 _) ag23 sz23 rfl rfl rfl) (sS (sT1 rfl) (sB1 rfl) sF0) ?_
                                refine AL_cons (LR_fieldAddr (off := 0) (o := 0) (at_tmp 8 _) (fun b w => fa112_0 b 0 w) rfl) (sS (sT1 rfl) sB0 sF0) ?_
                                refine AL_cons (LR_load (at_tmp 133 _) na4 rfl rfl) (sS (sT1 rfl) (sB1 rfl) sF0) ?_
                                refine AL_cons (LR_move (at_tmp 12 _) rfl) (sS (sT1 rfl) sB0 sF0) ?_
                                refine AL_cons (LR_move (at_tmp 10 _) rfl) (sS (sT1 rfl) sB0 sF0) ?_
                                obtain ⟨y32, hy32, hr⟩ := bind_some hr
                                refine AL_cons (LR_call Hfaa.func215 rfl rfl (C215 N a0_0 a0_1 (0#8) x2 x17 x14 y32 hy32) (all_cons (at_tmp 132 _) (all_cons (at_c (v' := U8 (0#8)) rfl) (all_cons (at_tmp 134 _) (all_cons (at_tmp 135 _) (all_cons (at_tmp 136 _) all_nil))))) rfl) (sS (sA (sT1 rfl) (sA sT0 (sA (sT1 rfl) (sA (sT1 rfl) (sA (sT1 rfl) sT0))))) sB0 sF0) ?_
                                refine AL_cons (LR_extract (at_tmp 137 _) rfl rfl) (sS (sT1 rfl) sB0 sF0) ?_
                                refine AL_cons (LR_extract (at_tmp 137 _) rfl rfl) (sS (sT1 rfl) sB0 sF0) ?_
                                refine AL_cons (LR_assign (at_tmp 138 _) rfl) (sS (sT1 rfl) sB0 sF0) ?_
                                refine AL_cons (LR_assign (at_tmp 139 _) rfl) (sS (sT1 rfl) sB0 sF0) ?_
                                refine AL_nil ?_
                                refine thenN ?_
                                refine AW_ret ?_
                                obtain rfl := Option.some.inj hr
                                exact res2 rfl (rvT rfl) (rvT rfl)
end Go.Proofs.YfwaawGreat
