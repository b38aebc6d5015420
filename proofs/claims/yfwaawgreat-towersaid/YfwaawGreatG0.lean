import Derived.Test.YfwaawGreatBig
namespace Go.Proofs.YfwaawGreat
open Go.Aw
set_option linter.unusedVariables false
set_option maxRecDepth 100000
set_option maxHeartbeats 1000000
/-- tab.entry -/
def F21_3 (N : Nat) (a1 : Int) (x2 : Int) (x3 : Nat) : Option (BitVec 64 × BitVec 64 × Int) := bif decide (x3 < 2 ^ 128) then some ((BitVec.ofNat 64 (x3 / 2 ^ 64), BitVec.ofNat 64 x3, w16 (a1 - (w16 x2)))) else none
def F21_2 (N : Nat) (a0 : Nat) (a1 : Int) (x2 : Int) : Option (BitVec 64 × BitVec 64 × Int) := bif lim ((1#64).toNat) then bif lim (((1#64).toNat) * 2 ^ (BitVec.ofInt 16 x2).toNat) && lim a0 then F21_3 N a1 x2 ((((1#64).toNat) * 2 ^ (BitVec.ofInt 16 x2).toNat) / a0) else none else none
def F21_5 (N : Nat) (a1 : Int) (x4 : Int) (x5 : Nat) : Option (BitVec 64 × BitVec 64 × Int) := bif decide (x5 < 2 ^ 128) then some ((BitVec.ofNat 64 (x5 / 2 ^ 64), BitVec.ofNat 64 x5, w16 (x4 + a1))) else none
def F21_6 (N : Nat) (a0 : Nat) (a1 : Int) (x4 : Int) (x6 : Bool) : Option (BitVec 64 × BitVec 64 × Int) := bif x6 then bif lim a0 then F21_5 N a1 x4 (a0 * 2 ^ (BitVec.ofInt 16 (w16 (0 - x4))).toNat) else none else bif lim a0 then F21_5 N a1 x4 (a0 / 2 ^ (BitVec.ofInt 16 x4).toNat) else none
def F21_4 (N : Nat) (a0 : Nat) (a1 : Int) (x4 : Int) : Option (BitVec 64 × BitVec 64 × Int) := F21_6 N a0 a1 x4 (decide (x4 < 0))
def F21_1 (N : Nat) (a0 : Nat) (a1 : Int) (x1 : Bool) : Option (BitVec 64 × BitVec 64 × Int) := bif x1 then bif lim a0 then F21_2 N a0 a1 (w64 (127 + (blen a0 : Int))) else none else bif lim a0 then F21_4 N a0 a1 (w16 ((w16 (blen a0 : Int)) - 128)) else none
def F21 (N : Nat) (a0 : Nat) (a1 : Int) : Option (BitVec 64 × BitVec 64 × Int) := F21_1 N a0 a1 (decide (a1 < 0))
theorem C21 (N : Nat) (a0 : Nat) (a1 : Int) (r : BitVec 64 × BitVec 64 × Int) (hr : some r = F21 N a0 a1) : Aw.Fn Hfaa.prog 21 [big a0, is (I16 a1)] (tup [agg [is (U64 r.1), is (U64 r.2.1)], is (I16 r.2.2)]) := by
  refine fn_intro Hfaa.func21 rfl rfl rfl ?_
  intro bn0 w0 H0
  refine AW_seq1 ?_
  refine AW_region ?_
  refine AL_cons (zl42 rfl) (sS sT0 sB0 (sF1 rfl)) ?_
  refine AL_cons (LR_assign (at_c (v' := I16 0) rfl) rfl) (sS sT0 sB0 sF0) ?_
  refine AL_nil ?_
  refine thenN ?_
  refine AW_seq1 ?_
  refine AW_cut (σ := Bool) (fun v => ⟨[(0, .inl (big a0)), (1, .inl (is (I16 a1))), (4, .inr (.inl (4, 0))), (12, .inl (is (Bl v)))], [(4, pb 42 [is (U64 (0#64)), is (U64 (0#64))])]⟩) (fun v => some r = F21_1 N a0 a1 v) ?_ ?_
  · skip
    refine AW_region ?_
    refine AL_cons (LR_move (at_tmp 1 _) rfl) (sS (sT1 rfl) sB0 sF0) ?_
    refine AL_cons (LR_bin (at_tmp 11 _) (at_c (v' := I16 0) rfl) (lss_I16 a1 0) rfl) (sS (sA (sT1 rfl) sT0) sB0 sF0) ?_
    refine AL_nil ?_
    exact thenN (cutLeaf (v := decide (a1 < 0)) hr (weak0 ((sT rfl (sT rfl (sT rfl (sT rfl sT0))))) (sub_keep sub_nil)))
  · rintro x1 hr
    show AW Hfaa.prog _ _ _ ⟨[(0, .inl (big a0)), (1, .inl (is (I16 a1))), (4, .inr (.inl (4, 0))), (12, .inl (is (Bl x1)))], [(4, pb 42 [is (U64 (0#64)), is (U64 (0#64))])]⟩
    have hr : some r = F21_1 N a0 a1 x1 := hr
    refine AW_condT (b := x1) rfl (fun h => ?_) (fun h => ?_)
    · have hr := hr.trans (cond_t h)
      clear h
      refine AW_cut (σ := Int) (fun v => ⟨[(0, .inl (big a0)), (1, .inl (is (I16 a1))), (4, .inr (.inl (4, 0))), (6, .inl (is (I64 v)))], [(4, pb 42 [is (U64 (0#64)), is (U64 (0#64))])]⟩) (fun v => some r = F21_2 N a0 a1 v) ?_ ?_
      · skip
        refine AW_region ?_
        refine AL_cons (LR_move (at_tmp 0 _) rfl) (sS (sT1 rfl) sB0 sF0) ?_
        obtain ⟨hg16, hr⟩ := guard_some hr
        refine AL_cons (LR_call Hfaa.func34 rfl rfl (B34 a0 hg16) (all_cons (at_tmp 13 _) all_nil) rfl) (sS (sA (sT1 rfl) sT0) sB0 sF0) ?_
        refine AL_cons (LR_bin (at_c (v' := I64 127) rfl) (at_tmp 14 _) (add_I64 127 (blen a0 : Int)) rfl) (sS (sA sT0 (sT1 rfl)) sB0 sF0) ?_
        refine AL_cons (LR_assign (at_tmp 15 _) rfl) (sS (sT1 rfl) sB0 sF0) ?_
        refine AL_nil ?_
        exact thenN (cutLeaf (v := w64 (127 + (blen a0 : Int))) hr (weak0 ((sT rfl (sT rfl (sT rfl (sT rfl sT0))))) (sub_keep sub_nil)))
      · rintro x2 hr
        show AW Hfaa.prog _ _ _ ⟨[(0, .inl (big a0)), (1, .inl (is (I16 a1))), (4, .inr (.inl (4, 0))), (6, .inl (is (I64 x2)))], [(4, pb 42 [is (U64 (0#64)), is (U64 (0#64))])]⟩
        have hr : some r = F21_2 N a0 a1 x2 := hr
        refine AW_cut (σ := Nat) (fun v => ⟨[(1, .inl (is (I16 a1))), (4, .inr (.inl (4, 0))), (6, .inl (is (I64 x2))), (7, .inl (big v))], [(4, pb 42 [is (U64 (0#64)), is (U64 (0#64))])]⟩) (fun v => some r = F21_3 N a1 x2 v) ?_ ?_
        · skip
          refine AW_region ?_
          refine AL_cons (LR_call Hfaa.func20 rfl rfl (B20 (1#64)) (all_cons (at_c (v' := U64 (1#64)) rfl) all_nil) rfl) (sS (sA sT0 sT0) sB0 sF0) ?_
          refine AL_cons (LR_move (at_tmp 6 _) rfl) (sS (sT1 rfl) sB0 sF0) ?_
          refine AL_cons (LR_conv (vx := I64 x2) (at_tmp 18 _) (conv_U16 Hfaa.underlying3 Hfaa.underlying71 x2) rfl) (sS (sT1 rfl) sB0 sF0) ?_
          obtain ⟨hg14, hr⟩ := guard_some hr
          refine AL_cons (LR_call Hfaa.func36 rfl rfl (B36 ((1#64).toNat) (BitVec.ofInt 16 x2) hg14) (all_cons (at_tmp 17 _) (all_cons (at_tmp 19 _) all_nil)) rfl) (sS (sA (sT1 rfl) (sA (sT1 rfl) sT0)) sB0 sF0) ?_
          refine AL_cons (LR_move (at_tmp 0 _) rfl) (sS (sT1 rfl) sB0 sF0) ?_
          obtain ⟨hg15, hr⟩ := guard_some hr
          refine AL_cons (LR_call Hfaa.func35 rfl rfl (B35 (((1#64).toNat) * 2 ^ (BitVec.ofInt 16 x2).toNat) a0 hg15) (all_cons (at_tmp 20 _) (all_cons (at_tmp 21 _) all_nil)) rfl) (sS (sA (sT1 rfl) (sA (sT1 rfl) sT0)) sB0 sF0) ?_
          refine AL_cons (LR_move (at_tmp 22 _) rfl) (sS (sT1 rfl) sB0 sF0) ?_
          refine AL_cons (LR_extract (at_tmp 16 _) rfl rfl) (sS (sT1 rfl) sB0 sF0) ?_
          refine AL_cons (LR_extract (at_tmp 16 _) rfl rfl) (sS (sT1 rfl) sB0 sF0) ?_
          refine AL_cons (LR_extract (at_tmp 16 _) rfl rfl) (sS (sT1 rfl) sB0 sF0) ?_
          refine AL_cons (LR_assign (at_tmp 23 _) rfl) (sS (sT1 rfl) sB0 sF0) ?_
          refine AL_cons (LR_assign (at_tmp 24 _) rfl) (sS (sT1 rfl) sB0 sF0) ?_
          refine AL_cons (LR_assign (at_tmp 25 _) rfl) (sS (sT1 rfl) sB0 sF0) ?_
          refine AL_nil ?_
          exact thenN (cutLeaf (v := (((1#64).toNat) * 2 ^ (BitVec.ofInt 16 x2).toNat) / a0) hr (weak0 ((sT rfl (sT rfl (sT rfl (sT rfl sT0))))) (sub_keep sub_nil)))
        · rintro x3 hr
          show AW Hfaa.prog _ _ _ ⟨[(1, .inl (is (I16 a1))), (4, .inr (.inl (4, 0))), (6, .inl (is (I64 x2))), (7, .inl (big x3))], [(4, pb 42 [is (U64 (0#64)), is (U64 (0#64))])]⟩
          have hr : some r = F21_3 N a1 x2 x3 := hr
          refine AW_seq1 ?_
          refine AW_region ?_
          refine AL_cons (LR_move (at_tmp 7 _) rfl) (sS (sT1 rfl) sB0 sF0) ?_
          obtain ⟨hg13, hr⟩ := guard_some hr
          refine AL_cons (LR_call Hfaa.func37 rfl rfl (B37 x3 hg13) (all_cons (at_tmp 26 _) all_nil) rfl) (sS (sA (sT1 rfl) sT0) sB0 sF0) ?_
          refine AL_cons (LR_move (at_tmp 1 _) rfl) (sS (sT1 rfl) sB0 sF0) ?_
          refine AL_cons (LR_move (at_tmp 6 _) rfl) (sS (sT1 rfl) sB0 sF0) ?_
          refine AL_cons (LR_conv (vx := I64 x2) (at_tmp 29 _) (conv_I16 Hfaa.underlying3 Hfaa.underlying44 x2) rfl) (sS (sT1 rfl) sB0 sF0) ?_
          refine AL_cons (LR_bin (at_tmp 28 _) (at_tmp 30 _) (sub_I16 a1 (w16 x2)) rfl) (sS (sA (sT1 rfl) (sT1 rfl)) sB0 sF0) ?_
          refine AL_cons (LR_store (at_tmp 4 _) (at_tmp 27 _) (cells_agg _) (onC (one_is rfl) (onC (one_is rfl) onN)) sz42 rfl rfl) (sS (sA (sT1 rfl) (sT1 rfl)) (sB1 rfl) sF0) ?_
          refine AL_cons (LR_assign (at_tmp 31 _) rfl) (sS (sT1 rfl) sB0 sF0) ?_
          refine AL_nil ?_
          refine thenN ?_
          refine AW_ret ?_
          refine thenR ?_
          obtain rfl := Option.some.inj hr
          exact res2 rfl (rvC rfl rfl ag42 sz42 rfl) (rvT rfl)
    · have hr := hr.trans (cond_f h)
      clear h
      refine AW_skip ?_
      refine thenN ?_
      refine AW_cut (σ := Int) (fun v => ⟨[(0, .inl (big a0)), (1, .inl (is (I16 a1))), (4, .inr (.inl (4, 0))), (10, .inl (is (I16 v)))], [(4, pb 42 [is (U64 (0#64)), is (U64 (0#64))])]⟩) (fun v => some r = F21_4 N a0 a1 v) ?_ ?_
      · skip
        refine AW_region ?_
        refine AL_cons (LR_move (at_tmp 0 _) rfl) (sS (sT1 rfl) sB0 sF0) ?_
        obtain ⟨hg24, hr⟩ := guard_some hr
        refine AL_cons (LR_call Hfaa.func34 rfl rfl (B34 a0 hg24) (all_cons (at_tmp 32 _) all_nil) rfl) (sS (sA (sT1 rfl) sT0) sB0 sF0) ?_
        refine AL_cons (LR_conv (vx := I64 (blen a0 : Int)) (at_tmp 33 _) (conv_I16 Hfaa.underlying3 Hfaa.underlying44 (blen a0 : Int)) rfl) (sS (sT1 rfl) sB0 sF0) ?_
        refine AL_cons (LR_bin (at_tmp 34 _) (at_c (v' := I16 128) rfl) (sub_I16 (w16 (blen a0 : Int)) 128) rfl) (sS (sA (sT1 rfl) sT0) sB0 sF0) ?_
        refine AL_cons (LR_assign (at_tmp 35 _) rfl) (sS (sT1 rfl) sB0 sF0) ?_
        refine AL_nil ?_
        exact thenN (cutLeaf (v := w16 ((w16 (blen a0 : Int)) - 128)) hr (weak0 ((sT rfl (sT rfl (sT rfl (sT rfl sT0))))) (sub_keep sub_nil)))
      · rintro x4 hr
        show AW Hfaa.prog _ _ _ ⟨[(0, .inl (big a0)), (1, .inl (is (I16 a1))), (4, .inr (.inl (4, 0))), (10, .inl (is (I16 x4)))], [(4, pb 42 [is (U64 (0#64)), is (U64 (0#64))])]⟩
        have hr : some r = F21_4 N a0 a1 x4 := hr
        refine AW_cut (σ := Nat) (fun v => ⟨[(0, .inl (big v)), (1, .inl (is (I16 a1))), (4, .inr (.inl (4, 0))), (10, .inl (is (I16 x4)))], [(4, pb 42 [is (U64 (0#64)), is (U64 (0#64))])]⟩) (fun v => some r = F21_5 N a1 x4 v) ?_ ?_
        · skip
          refine AW_cut (σ := Bool) (fun v => ⟨[(0, .inl (big a0)), (1, .inl (is (I16 a1))), (4, .inr (.inl (4, 0))), (10, .inl (is (I16 x4))), (37, .inl (is (Bl v)))], [(4, pb 42 [is (U64 (0#64)), is (U64 (0#64))])]⟩) (fun v => some r = F21_6 N a0 a1 x4 v) ?_ ?_
          · skip
            refine AW_region ?_
            refine AL_cons (LR_move (at_tmp 10 _) rfl) (sS (sT1 rfl) sB0 sF0) ?_
            refine AL_cons (LR_bin (at_tmp 36 _) (at_c (v' := I16 0) rfl) (lss_I16 x4 0) rfl) (sS (sA (sT1 rfl) sT0) sB0 sF0) ?_
            refine AL_nil ?_
            exact thenN (cutLeaf (v := decide (x4 < 0)) hr (weak0 ((sT rfl (sT rfl (sT rfl (sT rfl (sT rfl sT0)))))) (sub_keep sub_nil)))
          · rintro x6 hr
            show AW Hfaa.prog _ _ _ ⟨[(0, .inl (big a0)), (1, .inl (is (I16 a1))), (4, .inr (.inl (4, 0))), (10, .inl (is (I16 x4))), (37, .inl (is (Bl x6)))], [(4, pb 42 [is (U64 (0#64)), is (U64 (0#64))])]⟩
            have hr : some r = F21_6 N a0 a1 x4 x6 := hr
            refine AW_condT (b := x6) rfl (fun h => ?_) (fun h => ?_)
            · have hr := hr.trans (cond_t h)
              clear h
              refine AW_region ?_
              refine AL_cons (LR_move (at_tmp 0 _) rfl) (sS (sT1 rfl) sB0 sF0) ?_
              refine AL_cons (LR_move (at_tmp 10 _) rfl) (sS (sT1 rfl) sB0 sF0) ?_
              refine AL_cons (LR_un (at_tmp 39 _) (neg_I16 x4) rfl) (sS (sT1 rfl) sB0 sF0) ?_
              refine AL_cons (LR_conv (vx := I16 (w16 (0 - x4))) (at_tmp 40 _) (conv_U16 Hfaa.underlying44 Hfaa.underlying71 (w16 (0 - x4))) rfl) (sS (sT1 rfl) sB0 sF0) ?_
              obtain ⟨hg22, hr⟩ := guard_some hr
              refine AL_cons (LR_call Hfaa.func36 rfl rfl (B36 a0 (BitVec.ofInt 16 (w16 (0 - x4))) hg22) (all_cons (at_tmp 38 _) (all_cons (at_tmp 41 _) all_nil)) rfl) (sS (sA (sT1 rfl) (sA (sT1 rfl) sT0)) sB0 sF0) ?_
              refine AL_cons (LR_assign (at_tmp 42 _) rfl) (sS (sT1 rfl) sB0 sF0) ?_
              refine AL_nil ?_
              exact thenN (cutLeaf (v := a0 * 2 ^ (BitVec.ofInt 16 (w16 (0 - x4))).toNat) hr (weak0 ((sT rfl (sT rfl (sT rfl (sT rfl sT0))))) (sub_keep sub_nil)))
            · have hr := hr.trans (cond_f h)
              clear h
              refine AW_region ?_
              refine AL_cons (LR_move (at_tmp 0 _) rfl) (sS (sT1 rfl) sB0 sF0) ?_
              refine AL_cons (LR_move (at_tmp 10 _) rfl) (sS (sT1 rfl) sB0 sF0) ?_
              refine AL_cons (LR_conv (vx := I16 x4) (at_tmp 45 _) (conv_U16 Hfaa.underlying44 Hfaa.underlying71 x4) rfl) (sS (sT1 rfl) sB0 sF0) ?_
              obtain ⟨hg23, hr⟩ := guard_some hr
              refine AL_cons (LR_call Hfaa.func38 rfl rfl (B38 a0 (BitVec.ofInt 16 x4) hg23) (all_cons (at_tmp 44 _) (all_cons (at_tmp 46 _) all_nil)) rfl) (sS (sA (sT1 rfl) (sA (sT1 rfl) sT0)) sB0 sF0) ?_
              refine AL_cons (LR_move (at_tmp 47 _) rfl) (sS (sT1 rfl) sB0 sF0) ?_
              refine AL_cons (LR_extract (at_tmp 43 _) rfl rfl) (sS (sT1 rfl) sB0 sF0) ?_
              refine AL_cons (LR_extract (at_tmp 43 _) rfl rfl) (sS (sT1 rfl) sB0 sF0) ?_
              refine AL_cons (LR_assign (at_tmp 48 _) rfl) (sS (sT1 rfl) sB0 sF0) ?_
              refine AL_nil ?_
              exact thenN (cutLeaf (v := a0 / 2 ^ (BitVec.ofInt 16 x4).toNat) hr (weak0 ((sT rfl (sT rfl (sT rfl (sT rfl sT0))))) (sub_keep sub_nil)))
        · rintro x5 hr
          show AW Hfaa.prog _ _ _ ⟨[(0, .inl (big x5)), (1, .inl (is (I16 a1))), (4, .inr (.inl (4, 0))), (10, .inl (is (I16 x4)))], [(4, pb 42 [is (U64 (0#64)), is (U64 (0#64))])]⟩
          have hr : some r = F21_5 N a1 x4 x5 := hr
          refine AW_seq1 ?_
          refine AW_region ?_
          refine AL_cons (LR_move (at_tmp 0 _) rfl) (sS (sT1 rfl) sB0 sF0) ?_
          obtain ⟨hg21, hr⟩ := guard_some hr
          refine AL_cons (LR_call Hfaa.func37 rfl rfl (B37 x5 hg21) (all_cons (at_tmp 50 _) all_nil) rfl) (sS (sA (sT1 rfl) sT0) sB0 sF0) ?_
          refine AL_cons (LR_move (at_tmp 10 _) rfl) (sS (sT1 rfl) sB0 sF0) ?_
          refine AL_cons (LR_move (at_tmp 1 _) rfl) (sS (sT1 rfl) sB0 sF0) ?_
          refine AL_cons (LR_bin (at_tmp 52 _) (at_tmp 53 _) (add_I16 x4 a1) rfl) (sS (sA (sT1 rfl) (sT1 rfl)) sB0 sF0) ?_
          refine AL_cons (LR_store (at_tmp 4 _) (at_tmp 51 _) (cells_agg _) (onC (one_is rfl) (onC (one_is rfl) onN)) sz42 rfl rfl) (sS (sA (sT1 rfl) (sT1 rfl)) (sB1 rfl) sF0) ?_
          refine AL_cons (LR_assign (at_tmp 54 _) rfl) (sS (sT1 rfl) sB0 sF0) ?_
          refine AL_nil ?_
          refine thenN ?_
          refine AW_ret ?_
          obtain rfl := Option.some.inj hr
          exact res2 rfl (rvC rfl rfl ag42 sz42 rfl) (rvT rfl)
/-- tab.Build -/
def F11_3 (N : Nat) (x5 : Nat → BitVec 64 × BitVec 64) (x6 : Nat → Int) : Option (Tab) := some (⟨x5, x6⟩)
def F11_6 (N : Nat) (x4 : Nat) (x8 : Int) (x12 : Nat) (x13 : Nat → BitVec 64 × BitVec 64) (x14 : Nat → Int) : Option ((Nat × Int × (Nat → BitVec 64 × BitVec 64) × (Nat → Int)) ⊕ (Tab)) := some (.inl ((x12, w16 (x8 + 1), x13, x14)))
def F11_8 (N : Nat) (x4 : Nat) (x7 : Nat) (x8 : Int) (x17 : Nat → BitVec 64 × BitVec 64) (x18 : Nat → Int) : Option ((Nat × Int × (Nat → BitVec 64 × BitVec 64) × (Nat → Int)) ⊕ (Tab)) := bif lim x7 && lim x4 then F11_6 N x4 x8 (x7 * x4) x17 x18 else none
def F11_9 (N : Nat) (x4 : Nat) (x7 : Nat) (x8 : Int) (x15 : Nat → BitVec 64 × BitVec 64) (x16 : Nat → Int) (x19 : Bool) : Option ((Nat × Int × (Nat → BitVec 64 × BitVec 64) × (Nat → Int)) ⊕ (Tab)) := bif x19 then (F21 N x7 x8).bind fun y47 => bif (decide (0 ≤ w16 (348 + x8)) && decide (w16 (348 + x8) < (696 : Int))) then bif (decide (0 ≤ w16 (348 + x8)) && decide (w16 (348 + x8) < (696 : Int))) then F11_8 N x4 x7 x8 (upd x15 ((w16 (348 + x8)).toNat) (y47.1, y47.2.1)) (upd x16 ((w16 (348 + x8)).toNat) y47.2.2) else none else none else F11_8 N x4 x7 x8 x15 x16
def F11_7 (N : Nat) (x4 : Nat) (x7 : Nat) (x8 : Int) (x15 : Nat → BitVec 64 × BitVec 64) (x16 : Nat → Int) : Option ((Nat × Int × (Nat → BitVec 64 × BitVec 64) × (Nat → Int)) ⊕ (Tab)) := F11_9 N x4 x7 x8 x15 x16 (decide (x8 ≤ 347))
def F11_5 (N : Nat) (x4 : Nat) (x7 : Nat) (x8 : Int) (x9 : Nat → BitVec 64 × BitVec 64) (x10 : Nat → Int) (x11 : Bool) : Option ((Nat × Int × (Nat → BitVec 64 × BitVec 64) × (Nat → Int)) ⊕ (Tab)) := bif x11 then (F21 N x7 (w16 (0 - x8))).bind fun y48 => bif (decide (0 ≤ w16 (348 - x8)) && decide (w16 (348 - x8) < (696 : Int))) then bif (decide (0 ≤ w16 (348 - x8)) && decide (w16 (348 - x8) < (696 : Int))) then F11_7 N x4 x7 x8 (upd x9 ((w16 (348 - x8)).toNat) (y48.1, y48.2.1)) (upd x10 ((w16 (348 - x8)).toNat) y48.2.2) else none else none else (F11_3 N x9 x10).map Sum.inr
def F11_L4b (N : Nat) (x4 : Nat) (x7 : Nat) (x8 : Int) (x9 : Nat → BitVec 64 × BitVec 64) (x10 : Nat → Int) : Option ((Nat × Int × (Nat → BitVec 64 × BitVec 64) × (Nat → Int)) ⊕ (Tab)) := F11_5 N x4 x7 x8 x9 x10 (decide (x8 ≤ 348))
def F11_L4 (N : Nat) (x4 : Nat) : (Nat × Int × (Nat → BitVec 64 × BitVec 64) × (Nat → Int)) → Option ((Nat × Int × (Nat → BitVec 64 × BitVec 64) × (Nat → Int)) ⊕ (Tab)) := fun v => F11_L4b N x4 v.1 v.2.1 v.2.2.1 v.2.2.2
def F11_2 (N : Nat) (x1 : Nat → BitVec 64 × BitVec 64) (x2 : Nat → Int) (x3 : Nat) (x4 : Nat) : Option (Tab) := iterL (F11_L4 N x4) N (x3, 0, x1, x2)
def F11_1 (N : Nat) (x1 : Nat → BitVec 64 × BitVec 64) (x2 : Nat → Int) : Option (Tab) := F11_2 N x1 x2 ((1#64).toNat) ((5#64).toNat)
def F11 (N : Nat) : Option (Tab) := F11_1 N (fun _ => (0#64, 0#64)) (fun _ => 0)
theorem C11 (N : Nat) (r : Tab) (hr : some r = F11 N) : Aw.Fn Hfaa.prog 11 [] (tabp r) := by
  refine fn_intro Hfaa.func11 rfl rfl rfl ?_
  intro bn0 w0 H0
  refine AW_seq1 ?_
  refine AW_region ?_
  refine AL_cons (LR_assign (at_c (v' := .pointer none) rfl) rfl) (sS sT0 sB0 sF0) ?_
  refine AL_nil ?_
  refine thenN ?_
  refine AW_cut (σ := (Nat → BitVec 64 × BitVec 64) × (Nat → Int)) (fun v => ⟨[(1, .inr (.inl (5, 0)))], [(5, pb 47 (arp 696 v.1 ++ (ar I16 696 v.2 ++ [])))]⟩) (fun v => some r = F11_1 N v.1 v.2) ?_ ?_
  · skip
    refine AW_region ?_
    refine AL_cons (zl47 rfl) (sS sT0 sB0 (sF1 rfl)) ?_
    refine AL_cons (LR_assign (at_tmp 5 _) rfl) (sS (sT1 rfl) sB0 sF0) ?_
    refine AL_nil ?_
    exact thenN (cutLeaf (v := (fun _ => (0#64, 0#64), fun _ => 0)) hr (weak0 ((sT rfl sT0)) (sub_keep sub_nil)))
  · rintro ⟨x1, x2⟩ hr
    show AW Hfaa.prog _ _ _ ⟨[(1, .inr (.inl (5, 0)))], [(5, pb 47 (arp 696 x1 ++ (ar I16 696 x2 ++ [])))]⟩
    have hr : some r = F11_1 N x1 x2 := hr
    refine AW_cut (σ := Nat × Nat) (fun v => ⟨[(1, .inr (.inl (5, 0))), (2, .inl (big v.1)), (3, .inl (big v.2))], [(5, pb 47 (arp 696 x1 ++ (ar I16 696 x2 ++ [])))]⟩) (fun v => some r = F11_2 N x1 x2 v.1 v.2) ?_ ?_
    · skip
      refine AW_region ?_
      refine AL_cons (LR_call Hfaa.func20 rfl rfl (B20 (1#64)) (all_cons (at_c (v' := U64 (1#64)) rfl) all_nil) rfl) (sS (sA sT0 sT0) sB0 sF0) ?_
      refine AL_cons (LR_call Hfaa.func20 rfl rfl (B20 (5#64)) (all_cons (at_c (v' := U64 (5#64)) rfl) all_nil) rfl) (sS (sA sT0 sT0) sB0 sF0) ?_
      refine AL_cons (LR_assign (at_tmp 6 _) rfl) (sS (sT1 rfl) sB0 sF0) ?_
      refine AL_cons (LR_assign (at_tmp 7 _) rfl) (sS (sT1 rfl) sB0 sF0) ?_
      refine AL_nil ?_
      exact thenN (cutLeaf (v := ((1#64).toNat, (5#64).toNat)) hr (weak0 ((sT rfl (sT rfl (sT rfl sT0)))) (sub_keep sub_nil)))
    · rintro ⟨x3, x4⟩ hr
      show AW Hfaa.prog _ _ _ ⟨[(1, .inr (.inl (5, 0))), (2, .inl (big x3)), (3, .inl (big x4))], [(5, pb 47 (arp 696 x1 ++ (ar I16 696 x2 ++ [])))]⟩
      have hr : some r = F11_2 N x1 x2 x3 x4 := hr
      refine AW_cut (σ := (Nat → BitVec 64 × BitVec 64) × (Nat → Int)) (fun v => ⟨[(1, .inr (.inl (5, 0)))], [(5, pb 47 (arp 696 v.1 ++ (ar I16 696 v.2 ++ [])))]⟩) (fun v => some r = F11_3 N v.1 v.2) ?_ ?_
      · skip
        refine AW_seq1 ?_
        refine AW_region ?_
        refine AL_cons (LR_assign (at_c (v' := I16 0) rfl) rfl) (sS sT0 sB0 sF0) ?_
        refine AL_nil ?_
        refine thenN ?_
        refine AW_block ?_
        refine AW_iterR (σ := Nat × Int × (Nat → BitVec 64 × BitVec 64) × (Nat → Int)) (r := r) (x0 := (x3, 0, x1, x2)) (emb := fun v => ⟨[(1, .inr (.inl (5, 0))), (2, .inl (big v.1)), (3, .inl (big x4)), (4, .inl (is (I16 v.2.1)))], [(5, pb 47 (arp 696 v.2.2.1 ++ (ar I16 696 v.2.2.2 ++ [])))]⟩) ?_ hr ?_
        · exact weak0 ((sT rfl (sT rfl (sT rfl (sT rfl sT0))))) (sub_keep sub_nil)
        rintro ⟨x7, x8, x9, x10⟩ out2 hr
        show AW Hfaa.prog _ _ _ ⟨[(1, .inr (.inl (5, 0))), (2, .inl (big x7)), (3, .inl (big x4)), (4, .inl (is (I16 x8)))], [(5, pb 47 (arp 696 x9 ++ (ar I16 696 x10 ++ [])))]⟩
        have hr : some out2 = F11_L4b N x4 x7 x8 x9 x10 := hr
        refine AW_seq1 ?_
        refine AW_cut (σ := Bool) (fun v => ⟨[(1, .inr (.inl (5, 0))), (2, .inl (big x7)), (3, .inl (big x4)), (4, .inl (is (I16 x8))), (9, .inl (is (Bl v)))], [(5, pb 47 (arp 696 x9 ++ (ar I16 696 x10 ++ [])))]⟩) (fun v => some out2 = F11_5 N x4 x7 x8 x9 x10 v) ?_ ?_
        · skip
          refine AW_region ?_
          refine AL_cons (LR_move (at_tmp 4 _) rfl) (sS (sT1 rfl) sB0 sF0) ?_
          refine AL_cons (LR_bin (at_tmp 8 _) (at_c (v' := I16 348) rfl) (leq_I16 x8 348) rfl) (sS (sA (sT1 rfl) sT0) sB0 sF0) ?_
          refine AL_nil ?_
          exact thenN (cutLeaf (v := decide (x8 ≤ 348)) hr (weak0 ((sT rfl (sT rfl (sT rfl (sT rfl (sT rfl sT0)))))) (sub_keep sub_nil)))
        · rintro x11 hr
          show AW Hfaa.prog _ _ _ ⟨[(1, .inr (.inl (5, 0))), (2, .inl (big x7)), (3, .inl (big x4)), (4, .inl (is (I16 x8))), (9, .inl (is (Bl x11)))], [(5, pb 47 (arp 696 x9 ++ (ar I16 696 x10 ++ [])))]⟩
          have hr : some out2 = F11_5 N x4 x7 x8 x9 x10 x11 := hr
          refine AW_condT (b := x11) rfl (fun h => ?_) (fun h => ?_)
          · have hr := hr.trans (cond_t h)
            clear h
            refine AW_skip ?_
            refine thenN ?_
            refine AW_cut (σ := Nat × (Nat → BitVec 64 × BitVec 64) × (Nat → Int)) (fun v => ⟨[(1, .inr (.inl (5, 0))), (2, .inl (big v.1)), (3, .inl (big x4)), (4, .inl (is (I16 x8)))], [(5, pb 47 (arp 696 v.2.1 ++ (ar I16 696 v.2.2 ++ [])))]⟩) (fun v => some out2 = F11_6 N x4 x8 v.1 v.2.1 v.2.2) ?_ ?_
            · skip
              refine AW_block ?_
              refine AW_cut (σ := (Nat → BitVec 64 × BitVec 64) × (Nat → Int)) (fun v => ⟨[(1, .inr (.inl (5, 0))), (2, .inl (big x7)), (3, .inl (big x4)), (4, .inl (is (I16 x8)))], [(5, pb 47 (arp 696 v.1 ++ (ar I16 696 v.2 ++ [])))]⟩) (fun v => some out2 = F11_7 N x4 x7 x8 v.1 v.2) ?_ ?_
              · skip
                obtain ⟨y48, hy48, hr⟩ := bind_some hr
                obtain ⟨hg107, hr⟩ := guard_some hr
                obtain ⟨hg108, hr⟩ := guard_some hr
                refine AW_draw mixed
                  (lrC (LR_move (at_tmp 1 _) rfl)
                  (lrC (LR_move (at_tmp 4 _) rfl)
                  (lrC (LR_bin (at_c (v' := I16 348) rfl) (at_tmp 14 _) (sub_I16 348 x8) rfl)
                  (lrC (LR_move (at_tmp 1 _) rfl)
                  (lrC (LR_move (at_tmp 4 _) rfl)
                  (lrC (LR_bin (at_c (v' := I16 348) rfl) (at_tmp 17 _) (sub_I16 348 x8) rfl)
                  (lrC (LR_move (at_tmp 2 _) rfl)
                  (lrC (LR_move (at_tmp 4 _) rfl)
                  (lrC (LR_un (at_tmp 20 _) (neg_I16 x8) rfl)
                  (lrC (LR_call Hfaa.func21 rfl rfl (C21 N x7 (w16 (0 - x8)) y48 hy48) (all_cons (at_tmp 19 _) (all_cons (at_tmp 21 _) all_nil)) rfl)
                  (lrC (LR_move (at_tmp 22 _) rfl)
                  (lrC (LR_extract (at_tmp 12 _) rfl rfl)
                  (lrC (LR_extract (at_tmp 12 _) rfl rfl)
                  (lrC (LR_nilCheck (at_tmp 13 _) rfl)
                  (lrC (LR_fieldAddr (off := 0) (o := 0) (at_tmp 25 _) (fun b w => fa47_0 b 0 w) rfl)
                  (lrC (LR_indexAddr2 Hfaa.underlying43 sz42 (at_tmp 26 _) (at_tmp 15 _) (dand hg107) rfl)
                  (lrC (LR_storeA (at_tmp 27 _) (at_tmp 23 _) (cells_agg _) (onC (one_is rfl) (onC (one_is rfl) onN)) sz42 rfl (ble_dyn (lnP (lnA ln0)) (by have := (ltn (dand hg107)); omega)) (arp_set (ltn (dand hg107))))
                  (lrC (LR_nilCheck (at_tmp 16 _) rfl)
                  (lrC (LR_fieldAddr (off := 0) (o := 1392) (at_tmp 28 _) (fun b w => fa47_1 b 0 w) rfl)
                  (lrC (LR_indexAddr (o := 1392 + ((w16 (348 - x8)).toNat)) Hfaa.underlying45 sz44 (at_tmp 29 _) (at_tmp 18 _) (dand hg108) (by first | rfl | omega) rfl)
                  (lrC (LR_storeA (at_tmp 30 _) (at_tmp 24 _) (cells_one (one_is rfl)) (onC (one_is rfl) onN) sz44 rfl (ble_dyn (lnP (lnA ln0)) (by have := (ltn (dand hg108)); omega)) (stPp (n := 696) (stA (ltn (dand hg108)))))
                  lrN)))))))))))))))))))))
                  (by kernel_rfl)
                  (saC (sS (sT1 rfl) sB0 sF0) (saC (sS (sT1 rfl) sB0 sF0) (saC (sS (sA sT0 (sT1 rfl)) sB0 sF0) (saC (sS (sT1 rfl) sB0 sF0) (saC (sS (sT1 rfl) sB0 sF0) (saC (sS (sA sT0 (sT1 rfl)) sB0 sF0) (saC (sS (sT1 rfl) sB0 sF0) (saC (sS (sT1 rfl) sB0 sF0) (saC (sS (sT1 rfl) sB0 sF0) (saC (sS (sA (sT1 rfl) (sA (sT1 rfl) sT0)) sB0 sF0) (saC (sS (sT1 rfl) sB0 sF0) (saC (sS (sT1 rfl) sB0 sF0) (saC (sS (sT1 rfl) sB0 sF0) (saC (sS (sT1 rfl) sB0 sF0) (saC (sS (sT1 rfl) sB0 sF0) (saC (sS (sA (sT1 rfl) (sT1 rfl)) sB0 sF0) (saC (sS (sA (sT1 rfl) (sT1 rfl)) (sB1 rfl) sF0) (saC (sS (sT1 rfl) sB0 sF0) (saC (sS (sT1 rfl) sB0 sF0) (saC (sS (sA (sT1 rfl) (sT1 rfl)) sB0 sF0) (saC (sS (sA (sT1 rfl) (sT1 rfl)) (sB1 rfl) sF0) saN))))))))))))))))))))) ?_
                exact thenN (cutLeaf (v := (upd x9 ((w16 (348 - x8)).toNat) (y48.1, y48.2.1), upd x10 ((w16 (348 - x8)).toNat) y48.2.2)) hr (weak0 ((sT rfl (sT rfl (sT rfl (sT rfl sT0))))) (sub_keep sub_nil)))
              · rintro ⟨x15, x16⟩ hr
                show AW Hfaa.prog _ _ _ ⟨[(1, .inr (.inl (5, 0))), (2, .inl (big x7)), (3, .inl (big x4)), (4, .inl (is (I16 x8)))], [(5, pb 47 (arp 696 x15 ++ (ar I16 696 x16 ++ [])))]⟩
                have hr : some out2 = F11_7 N x4 x7 x8 x15 x16 := hr
                refine AW_cut (σ := (Nat → BitVec 64 × BitVec 64) × (Nat → Int)) (fun v => ⟨[(1, .inr (.inl (5, 0))), (2, .inl (big x7)), (3, .inl (big x4)), (4, .inl (is (I16 x8)))], [(5, pb 47 (arp 696 v.1 ++ (ar I16 696 v.2 ++ [])))]⟩) (fun v => some out2 = F11_8 N x4 x7 x8 v.1 v.2) ?_ ?_
                · skip
                  refine AW_cut (σ := Bool) (fun v => ⟨[(1, .inr (.inl (5, 0))), (2, .inl (big x7)), (3, .inl (big x4)), (4, .inl (is (I16 x8))), (32, .inl (is (Bl v)))], [(5, pb 47 (arp 696 x15 ++ (ar I16 696 x16 ++ [])))]⟩) (fun v => some out2 = F11_9 N x4 x7 x8 x15 x16 v) ?_ ?_
                  · skip
                    refine AW_region ?_
                    refine AL_cons (LR_move (at_tmp 4 _) rfl) (sS (sT1 rfl) sB0 sF0) ?_
                    refine AL_cons (LR_bin (at_tmp 31 _) (at_c (v' := I16 347) rfl) (leq_I16 x8 347) rfl) (sS (sA (sT1 rfl) sT0) sB0 sF0) ?_
                    refine AL_nil ?_
                    exact thenN (cutLeaf (v := decide (x8 ≤ 347)) hr (weak0 ((sT rfl (sT rfl (sT rfl (sT rfl (sT rfl sT0)))))) (sub_keep sub_nil)))
                  · rintro x19 hr
                    show AW Hfaa.prog _ _ _ ⟨[(1, .inr (.inl (5, 0))), (2, .inl (big x7)), (3, .inl (big x4)), (4, .inl (is (I16 x8))), (32, .inl (is (Bl x19)))], [(5, pb 47 (arp 696 x15 ++ (ar I16 696 x16 ++ [])))]⟩
                    have hr : some out2 = F11_9 N x4 x7 x8 x15 x16 x19 := hr
                    refine AW_condT (b := x19) rfl (fun h => ?_) (fun h => ?_)
                    · have hr := hr.trans (cond_t h)
                      clear h
                      obtain ⟨y47, hy47, hr⟩ := bind_some hr
                      obtain ⟨hg105, hr⟩ := guard_some hr
                      obtain ⟨hg106, hr⟩ := guard_some hr
                      refine AW_draw mixed
                        (lrC (LR_move (at_tmp 1 _) rfl)
                        (lrC (LR_move (at_tmp 4 _) rfl)
                        (lrC (LR_bin (at_c (v' := I16 348) rfl) (at_tmp 35 _) (add_I16 348 x8) rfl)
                        (lrC (LR_move (at_tmp 1 _) rfl)
                        (lrC (LR_move (at_tmp 4 _) rfl)
                        (lrC (LR_bin (at_c (v' := I16 348) rfl) (at_tmp 38 _) (add_I16 348 x8) rfl)
                        (lrC (LR_move (at_tmp 2 _) rfl)
                        (lrC (LR_move (at_tmp 4 _) rfl)
                        (lrC (LR_call Hfaa.func21 rfl rfl (C21 N x7 x8 y47 hy47) (all_cons (at_tmp 40 _) (all_cons (at_tmp 41 _) all_nil)) rfl)
                        (lrC (LR_move (at_tmp 42 _) rfl)
                        (lrC (LR_extract (at_tmp 33 _) rfl rfl)
                        (lrC (LR_extract (at_tmp 33 _) rfl rfl)
                        (lrC (LR_nilCheck (at_tmp 34 _) rfl)
                        (lrC (LR_fieldAddr (off := 0) (o := 0) (at_tmp 45 _) (fun b w => fa47_0 b 0 w) rfl)
                        (lrC (LR_indexAddr2 Hfaa.underlying43 sz42 (at_tmp 46 _) (at_tmp 36 _) (dand hg105) rfl)
                        (lrC (LR_storeA (at_tmp 47 _) (at_tmp 43 _) (cells_agg _) (onC (one_is rfl) (onC (one_is rfl) onN)) sz42 rfl (ble_dyn (lnP (lnA ln0)) (by have := (ltn (dand hg105)); omega)) (arp_set (ltn (dand hg105))))
                        (lrC (LR_nilCheck (at_tmp 37 _) rfl)
                        (lrC (LR_fieldAddr (off := 0) (o := 1392) (at_tmp 48 _) (fun b w => fa47_1 b 0 w) rfl)
                        (lrC (LR_indexAddr (o := 1392 + ((w16 (348 + x8)).toNat)) Hfaa.underlying45 sz44 (at_tmp 49 _) (at_tmp 39 _) (dand hg106) (by first | rfl | omega) rfl)
                        (lrC (LR_storeA (at_tmp 50 _) (at_tmp 44 _) (cells_one (one_is rfl)) (onC (one_is rfl) onN) sz44 rfl (ble_dyn (lnP (lnA ln0)) (by have := (ltn (dand hg106)); omega)) (stPp (n := 696) (stA (ltn (dand hg106)))))
                        lrN))))))))))))))))))))
                        (by kernel_rfl)
                        (saC (sS (sT1 rfl) sB0 sF0) (saC (sS (sT1 rfl) sB0 sF0) (saC (sS (sA sT0 (sT1 rfl)) sB0 sF0) (saC (sS (sT1 rfl) sB0 sF0) (saC (sS (sT1 rfl) sB0 sF0) (saC (sS (sA sT0 (sT1 rfl)) sB0 sF0) (saC (sS (sT1 rfl) sB0 sF0) (saC (sS (sT1 rfl) sB0 sF0) (saC (sS (sA (sT1 rfl) (sA (sT1 rfl) sT0)) sB0 sF0) (saC (sS (sT1 rfl) sB0 sF0) (saC (sS (sT1 rfl) sB0 sF0) (saC (sS (sT1 rfl) sB0 sF0) (saC (sS (sT1 rfl) sB0 sF0) (saC (sS (sT1 rfl) sB0 sF0) (saC (sS (sA (sT1 rfl) (sT1 rfl)) sB0 sF0) (saC (sS (sA (sT1 rfl) (sT1 rfl)) (sB1 rfl) sF0) (saC (sS (sT1 rfl) sB0 sF0) (saC (sS (sT1 rfl) sB0 sF0) (saC (sS (sA (sT1 rfl) (sT1 rfl)) sB0 sF0) (saC (sS (sA (sT1 rfl) (sT1 rfl)) (sB1 rfl) sF0) saN)))))))))))))))))))) ?_
                      exact thenN (cutLeaf (v := (upd x15 ((w16 (348 + x8)).toNat) (y47.1, y47.2.1), upd x16 ((w16 (348 + x8)).toNat) y47.2.2)) hr (weak0 ((sT rfl (sT rfl (sT rfl (sT rfl sT0))))) (sub_keep sub_nil)))
                    · have hr := hr.trans (cond_f h)
                      clear h
                      refine AW_skip ?_
                      exact thenN (cutLeaf (v := (x15, x16)) hr (weak0 ((sT rfl (sT rfl (sT rfl (sT rfl sT0))))) (sub_keep sub_nil)))
                · rintro ⟨x17, x18⟩ hr
                  show AW Hfaa.prog _ _ _ ⟨[(1, .inr (.inl (5, 0))), (2, .inl (big x7)), (3, .inl (big x4)), (4, .inl (is (I16 x8)))], [(5, pb 47 (arp 696 x17 ++ (ar I16 696 x18 ++ [])))]⟩
                  have hr : some out2 = F11_8 N x4 x7 x8 x17 x18 := hr
                  refine AW_region ?_
                  refine AL_cons (LR_move (at_tmp 2 _) rfl) (sS (sT1 rfl) sB0 sF0) ?_
                  refine AL_cons (LR_move (at_tmp 3 _) rfl) (sS (sT1 rfl) sB0 sF0) ?_
                  obtain ⟨hg104, hr⟩ := guard_some hr
                  refine AL_cons (LR_call Hfaa.func22 rfl rfl (B22 x7 x4 hg104) (all_cons (at_tmp 51 _) (all_cons (at_tmp 52 _) all_nil)) rfl) (sS (sA (sT1 rfl) (sA (sT1 rfl) sT0)) sB0 sF0) ?_
                  refine AL_cons (LR_assign (at_tmp 53 _) rfl) (sS (sT1 rfl) sB0 sF0) ?_
                  refine AL_nil ?_
                  refine blN ?_
                  exact thenN (cutLeaf (v := (x7 * x4, x17, x18)) hr (weak0 ((sT rfl (sT rfl (sT rfl (sT rfl sT0))))) (sub_keep sub_nil)))
            · rintro ⟨x12, x13, x14⟩ hr
              show AW Hfaa.prog _ _ _ ⟨[(1, .inr (.inl (5, 0))), (2, .inl (big x12)), (3, .inl (big x4)), (4, .inl (is (I16 x8)))], [(5, pb 47 (arp 696 x13 ++ (ar I16 696 x14 ++ [])))]⟩
              have hr : some out2 = F11_6 N x4 x8 x12 x13 x14 := hr
              refine AW_region ?_
              refine AL_cons (LR_move (at_tmp 4 _) rfl) (sS (sT1 rfl) sB0 sF0) ?_
              refine AL_cons (LR_bin (at_tmp 10 _) (at_c (v' := I16 1) rfl) (add_I16 x8 1) rfl) (sS (sA (sT1 rfl) sT0) sB0 sF0) ?_
              refine AL_cons (LR_assign (at_tmp 11 _) rfl) (sS (sT1 rfl) sB0 sF0) ?_
              refine AL_nil ?_
              exact thenN (loopNext (x' := (x12, w16 (x8 + 1), x13, x14)) hr (weak0 ((sT rfl (sT rfl (sT rfl (sT rfl sT0))))) (sub_keep sub_nil)))
          · have hr := hr.trans (cond_f h)
            clear h
            refine AW_exit ?_
            refine thenX ?_
            obtain ⟨r', hro, hr⟩ := map_inr hr
            refine thenX (loopOut hro (fun he => ?_))
            rw [he] at hr
            refine blH ?_
            exact thenN (cutLeaf (v := (x9, x10)) hr (weak0 ((sT rfl sT0)) (sub_keep sub_nil)))
      · rintro ⟨x5, x6⟩ hr
        show AW Hfaa.prog _ _ _ ⟨[(1, .inr (.inl (5, 0)))], [(5, pb 47 (arp 696 x5 ++ (ar I16 696 x6 ++ [])))]⟩
        have hr : some r = F11_3 N x5 x6 := hr
        refine AW_seq1 ?_
        refine AW_region ?_
        refine AL_cons (LR_move (at_tmp 1 _) rfl) (sS (sT1 rfl) sB0 sF0) ?_
        refine AL_cons (LR_assign (at_tmp 54 _) rfl) (sS (sT1 rfl) sB0 sF0) ?_
        refine AL_nil ?_
        refine thenN ?_
        refine AW_frzTab 5 0 x5 x6 rfl rfl ?_
        refine AW_ret ?_
        obtain rfl := Option.some.inj hr
        exact res1 rfl (rvT rfl)
/-- tab.Fits -/
def F27 (a0_0 : BitVec 64) (a0_1 : BitVec 64) (a1 : Int) : Bool := ((((a0_0 >>> 63) == (1#64)) && (!((a0_0 == (18446744073709551615#64)) && (a0_1 == (18446744073709551615#64))))) && (decide ((-1300) ≤ a1))) && (decide (a1 ≤ 1100))
theorem C27 (a0_0 : BitVec 64) (a0_1 : BitVec 64) (a1 : Int) (r : Bool) (hr : r = F27 a0_0 a0_1 a1) : Aw.Fn Hfaa.prog 27 [agg [is (U64 a0_0), is (U64 a0_1)], is (I16 a1)] (is (Bl r)) := by
  refine fn_intro Hfaa.func27 rfl rfl rfl ?_
  intro bn0 w0 H0
  refine AW_seq1 ?_
  refine AW_region ?_
  refine AL_cons (LR_box (at_tmp 0 _) (cells_agg _) rfl) (sS (sT1 rfl) sB0 (sF1 rfl)) ?_
  refine AL_cons (LR_assign (at_c (v' := Bl false) rfl) rfl) (sS sT0 sB0 sF0) ?_
  refine AL_nil ?_
  refine thenN ?_
  refine AW_seq1 ?_
  refine AW_region ?_
  refine AL_cons (LR_fieldAddr (off := 0) (o := 0) (at_tmp 2 _) (fun b w => fa42_0 b 0 w) rfl) (sS (sT1 rfl) sB0 sF0) ?_
  refine AL_cons (LR_load (at_tmp 5 _) na30 rfl rfl) (sS (sT1 rfl) (sB1 rfl) sF0) ?_
  refine AL_cons (LR_bin (at_tmp 6 _) (at_c (v' := U64 (63#64)) rfl) (shr_U64 a0_0 ((63#64).toNat : Int) (Int.natCast_nonneg _)) rfl) (sS (sA (sT1 rfl) sT0) sB0 sF0) ?_
  refine AL_cons (LR_bin (at_tmp 7 _) (at_c (v' := U64 (1#64)) rfl) (eql_U64 (a0_0 >>> 63) (1#64)) rfl) (sS (sA (sT1 rfl) sT0) sB0 sF0) ?_
  refine AL_cons (LR_move (at_tmp 8 _) rfl) (sS (sT1 rfl) sB0 sF0) ?_
  refine AL_cutAt 4 ⟨[(0, .inl (agg [is (U64 a0_0), is (U64 a0_1)])), (1, .inl (is (I16 a1))), (2, .inr (.inl (2, 0))), (4, .inl (is (Bl false))), (5, .inr (.inl (2, 0))), (6, .inl (is (U64 a0_0))), (7, .inl (is (U64 (a0_0 >>> 63)))), (8, .inl (is (Bl ((a0_0 >>> 63) == (1#64))))), (9, .inl (is (Bl ((a0_0 >>> 63) == (1#64))))), (13, .inl (is (Bl (((a0_0 >>> 63) == (1#64)) && (!((a0_0 == (18446744073709551615#64)) && (a0_1 == (18446744073709551615#64))))))))], [(2, pb 42 [is (U64 a0_0), is (U64 a0_1)])]⟩ ?_ ?_
  · cases hb : (a0_0 >>> 63) == (1#64)
    · skip
      refine AL_cons (LR_off (b := false) rfl rfl rfl rfl) (sS (sT1 rfl) sB0 sF0) ?_
      refine AL_cons (LR_off (b := false) rfl rfl rfl rfl) (sS (sT1 rfl) sB0 sF0) ?_
      refine AL_cons (LR_off (b := false) rfl rfl rfl rfl) (sS (sT1 rfl) sB0 sF0) ?_
      refine AL_cons (LR_pick (b := false) (at_tmp 9 _) (at_tmp 12 _) (at_c (v' := Bl false) rfl) rfl) (sS (sA (sT1 rfl) (sA (sT1 rfl) sT0)) sB0 sF0) ?_
      exact AL_nil ⟨rfl, weak0 ((sT rfl (sT rfl (sT rfl (sT rfl (sT rfl (sT rfl (sT rfl (sT rfl (sT rfl (sT rfl sT0))))))))))) (sub_keep sub_nil)⟩
    · skip
      refine AL_cons (LR_on rfl rfl rfl (LR_loads (at_tmp 2 _) ag42 sz42 rfl rfl rfl)) (sS (sT rfl (sT1 rfl)) (sB1 rfl) sF0) ?_
      refine AL_cons (LR_on rfl rfl rfl (bl42 (parts_cons (i := 0) (off := 0) (at_c (v' := U64 (18446744073709551615#64)) rfl) (cells_one (one_is rfl)) rfl rfl (parts_cons (i := 1) (off := 1) (at_c (v' := U64 (18446744073709551615#64)) rfl) (cells_one (one_is rfl)) rfl rfl parts_nil)) rfl rfl)) (sS (sT rfl (sA sT0 (sA sT0 sT0))) sB0 sF0) ?_
      refine AL_cons (LR_on rfl rfl rfl (LR_binA (at_tmp 10 _) (at_tmp 11 _) (neqA42 a0_0 a0_1 (18446744073709551615#64) (18446744073709551615#64)) rfl)) (sS (sT rfl (sA (sT1 rfl) (sT1 rfl))) sB0 sF0) ?_
      refine AL_cons (LR_pick (b := true) (at_tmp 9 _) (at_tmp 12 _) (at_c (v' := Bl false) rfl) rfl) (sS (sA (sT1 rfl) (sA (sT1 rfl) sT0)) sB0 sF0) ?_
      exact AL_nil ⟨rfl, weak0 ((sT rfl (sT rfl (sT rfl (sT rfl (sT rfl (sT rfl (sT rfl (sT rfl (sT rfl (sT rfl sT0))))))))))) (sub_keep sub_nil)⟩
  refine AL_cons (LR_move (at_tmp 13 _) rfl) (sS (sT1 rfl) sB0 sF0) ?_
  refine AL_cutAt 3 ⟨[(0, .inl (agg [is (U64 a0_0), is (U64 a0_1)])), (1, .inl (is (I16 a1))), (2, .inr (.inl (2, 0))), (4, .inl (is (Bl false))), (5, .inr (.inl (2, 0))), (6, .inl (is (U64 a0_0))), (7, .inl (is (U64 (a0_0 >>> 63)))), (8, .inl (is (Bl ((a0_0 >>> 63) == (1#64))))), (9, .inl (is (Bl ((a0_0 >>> 63) == (1#64))))), (13, .inl (is (Bl (((a0_0 >>> 63) == (1#64)) && (!((a0_0 == (18446744073709551615#64)) && (a0_1 == (18446744073709551615#64)))))))), (14, .inl (is (Bl (((a0_0 >>> 63) == (1#64)) && (!((a0_0 == (18446744073709551615#64)) && (a0_1 == (18446744073709551615#64)))))))), (17, .inl (is (Bl ((((a0_0 >>> 63) == (1#64)) && (!((a0_0 == (18446744073709551615#64)) && (a0_1 == (18446744073709551615#64))))) && (decide ((-1300) ≤ a1))))))], [(2, pb 42 [is (U64 a0_0), is (U64 a0_1)])]⟩ ?_ ?_
  · cases hb : ((a0_0 >>> 63) == (1#64)) && (!((a0_0 == (18446744073709551615#64)) && (a0_1 == (18446744073709551615#64))))
    · skip
      refine AL_cons (LR_off (b := false) rfl rfl rfl rfl) (sS (sT1 rfl) sB0 sF0) ?_
      refine AL_cons (LR_off (b := false) rfl rfl rfl rfl) (sS (sT1 rfl) sB0 sF0) ?_
      refine AL_cons (LR_pick (b := false) (at_tmp 14 _) (at_tmp 16 _) (at_c (v' := Bl false) rfl) rfl) (sS (sA (sT1 rfl) (sA (sT1 rfl) sT0)) sB0 sF0) ?_
      exact AL_nil ⟨rfl, weak0 ((sT rfl (sT rfl (sT rfl (sT rfl (sT rfl (sT rfl (sT rfl (sT rfl (sT rfl (sT rfl (sT rfl (sT rfl sT0))))))))))))) (sub_keep sub_nil)⟩
    · skip
      refine AL_cons (LR_on rfl rfl rfl (LR_move (at_tmp 1 _) rfl)) (sS (sT rfl (sT1 rfl)) sB0 sF0) ?_
      refine AL_cons (LR_on rfl rfl rfl (LR_bin (at_c (v' := I16 (-1300)) rfl) (at_tmp 15 _) (leq_I16 (-1300) a1) rfl)) (sS (sT rfl (sA sT0 (sT1 rfl))) sB0 sF0) ?_
      refine AL_cons (LR_pick (b := true) (at_tmp 14 _) (at_tmp 16 _) (at_c (v' := Bl false) rfl) rfl) (sS (sA (sT1 rfl) (sA (sT1 rfl) sT0)) sB0 sF0) ?_
      exact AL_nil ⟨rfl, weak0 ((sT rfl (sT rfl (sT rfl (sT rfl (sT rfl (sT rfl (sT rfl (sT rfl (sT rfl (sT rfl (sT rfl (sT rfl sT0))))))))))))) (sub_keep sub_nil)⟩
  refine AL_cons (LR_move (at_tmp 17 _) rfl) (sS (sT1 rfl) sB0 sF0) ?_
  refine AL_cutAt 3 ⟨[(0, .inl (agg [is (U64 a0_0), is (U64 a0_1)])), (1, .inl (is (I16 a1))), (2, .inr (.inl (2, 0))), (4, .inl (is (Bl false))), (5, .inr (.inl (2, 0))), (6, .inl (is (U64 a0_0))), (7, .inl (is (U64 (a0_0 >>> 63)))), (8, .inl (is (Bl ((a0_0 >>> 63) == (1#64))))), (9, .inl (is (Bl ((a0_0 >>> 63) == (1#64))))), (13, .inl (is (Bl (((a0_0 >>> 63) == (1#64)) && (!((a0_0 == (18446744073709551615#64)) && (a0_1 == (18446744073709551615#64)))))))), (14, .inl (is (Bl (((a0_0 >>> 63) == (1#64)) && (!((a0_0 == (18446744073709551615#64)) && (a0_1 == (18446744073709551615#64)))))))), (17, .inl (is (Bl ((((a0_0 >>> 63) == (1#64)) && (!((a0_0 == (18446744073709551615#64)) && (a0_1 == (18446744073709551615#64))))) && (decide ((-1300) ≤ a1)))))), (18, .inl (is (Bl ((((a0_0 >>> 63) == (1#64)) && (!((a0_0 == (18446744073709551615#64)) && (a0_1 == (18446744073709551615#64))))) && (decide ((-1300) ≤ a1)))))), (21, .inl (is (Bl (((((a0_0 >>> 63) == (1#64)) && (!((a0_0 == (18446744073709551615#64)) && (a0_1 == (18446744073709551615#64))))) && (decide ((-1300) ≤ a1))) && (decide (a1 ≤ 1100))))))], [(2, pb 42 [is (U64 a0_0), is (U64 a0_1)])]⟩ ?_ ?_
  · cases hb : (((a0_0 >>> 63) == (1#64)) && (!((a0_0 == (18446744073709551615#64)) && (a0_1 == (18446744073709551615#64))))) && (decide ((-1300) ≤ a1))
    · skip
      refine AL_cons (LR_off (b := false) rfl rfl rfl rfl) (sS (sT1 rfl) sB0 sF0) ?_
      refine AL_cons (LR_off (b := false) rfl rfl rfl rfl) (sS (sT1 rfl) sB0 sF0) ?_
      refine AL_cons (LR_pick (b := false) (at_tmp 18 _) (at_tmp 20 _) (at_c (v' := Bl false) rfl) rfl) (sS (sA (sT1 rfl) (sA (sT1 rfl) sT0)) sB0 sF0) ?_
      exact AL_nil ⟨rfl, weak0 ((sT rfl (sT rfl (sT rfl (sT rfl (sT rfl (sT rfl (sT rfl (sT rfl (sT rfl (sT rfl (sT rfl (sT rfl (sT rfl (sT rfl sT0))))))))))))))) (sub_keep sub_nil)⟩
    · skip
      refine AL_cons (LR_on rfl rfl rfl (LR_move (at_tmp 1 _) rfl)) (sS (sT rfl (sT1 rfl)) sB0 sF0) ?_
      refine AL_cons (LR_on rfl rfl rfl (LR_bin (at_tmp 19 _) (at_c (v' := I16 1100) rfl) (leq_I16 a1 1100) rfl)) (sS (sT rfl (sA (sT1 rfl) sT0)) sB0 sF0) ?_
      refine AL_cons (LR_pick (b := true) (at_tmp 18 _) (at_tmp 20 _) (at_c (v' := Bl false) rfl) rfl) (sS (sA (sT1 rfl) (sA (sT1 rfl) sT0)) sB0 sF0) ?_
      exact AL_nil ⟨rfl, weak0 ((sT rfl (sT rfl (sT rfl (sT rfl (sT rfl (sT rfl (sT rfl (sT rfl (sT rfl (sT rfl (sT rfl (sT rfl (sT rfl (sT rfl sT0))))))))))))))) (sub_keep sub_nil)⟩
  refine AL_cons (LR_assign (at_tmp 21 _) rfl) (sS (sT1 rfl) sB0 sF0) ?_
  refine AL_nil ?_
  refine thenN ?_
  refine AW_ret ?_
  subst hr
  exact res1 rfl (rvT rfl)
/-- tab.Entry -/
def F28_2 (N : Nat) (x2 : Int) (x3 : BitVec 64) (x4 : BitVec 64) : Option (BitVec 64 × BitVec 64 × Int × Bool) := some (x3, x4, x2, true)
def F28_1 (N : Nat) (a0 : Int) (x1 : Bool) : Option (BitVec 64 × BitVec 64 × Int × Bool) := bif x1 then some (0#64, 0#64, 0, false) else (F21 N (5 ^ (BitVec.ofInt 16 (max a0 (w16 (0 - a0)))).toNat) a0).bind fun y2 => F28_2 N y2.2.2 y2.1 y2.2.1
def F28 (N : Nat) (a0 : Int) : Option (BitVec 64 × BitVec 64 × Int × Bool) := F28_1 N a0 ((decide (a0 < (-348))) || (decide (a0 > 347)))
theorem C28 (N : Nat) (a0 : Int) (r : BitVec 64 × BitVec 64 × Int × Bool) (hr : some r = F28 N a0) : Aw.Fn Hfaa.prog 28 [is (I16 a0)] (tup [agg [is (U64 r.1), is (U64 r.2.1)], is (I16 r.2.2.1), is (Bl r.2.2.2)]) := by
  refine fn_intro Hfaa.func28 rfl rfl rfl ?_
  intro bn0 w0 H0
  refine AW_seq1 ?_
  refine AW_region ?_
  refine AL_cons (zl42 rfl) (sS sT0 sB0 (sF1 rfl)) ?_
  refine AL_cons (LR_assign (at_c (v' := I16 0) rfl) rfl) (sS sT0 sB0 sF0) ?_
  refine AL_cons (LR_assign (at_c (v' := Bl false) rfl) rfl) (sS sT0 sB0 sF0) ?_
  refine AL_nil ?_
  refine thenN ?_
  refine AW_seq1 ?_
  refine AW_cut (σ := Bool) (fun v => ⟨[(0, .inl (is (I16 a0))), (2, .inr (.inl (2, 0))), (10, .inl (is (Bl v)))], [(2, pb 42 [is (U64 (0#64)), is (U64 (0#64))])]⟩) (fun v => some r = F28_1 N a0 v) ?_ ?_
  · skip
    refine AW_region ?_
    refine AL_cons (LR_move (at_tmp 0 _) rfl) (sS (sT1 rfl) sB0 sF0) ?_
    refine AL_cons (LR_bin (at_tmp 5 _) (at_c (v' := I16 (-348)) rfl) (lss_I16 a0 (-348)) rfl) (sS (sA (sT1 rfl) sT0) sB0 sF0) ?_
    refine AL_cons (LR_move (at_tmp 6 _) rfl) (sS (sT1 rfl) sB0 sF0) ?_
    refine AL_cutAt 3 ⟨[(0, .inl (is (I16 a0))), (2, .inr (.inl (2, 0))), (3, .inl (is (I16 0))), (4, .inl (is (Bl false))), (5, .inl (is (I16 a0))), (6, .inl (is (Bl (decide (a0 < (-348)))))), (7, .inl (is (Bl (decide (a0 < (-348)))))), (10, .inl (is (Bl ((decide (a0 < (-348))) || (decide (a0 > 347))))))], [(2, pb 42 [is (U64 (0#64)), is (U64 (0#64))])]⟩ ?_ ?_
    · cases hb : decide (a0 < (-348))
      · skip
        refine AL_cons (LR_on rfl rfl rfl (LR_move (at_tmp 0 _) rfl)) (sS (sT rfl (sT1 rfl)) sB0 sF0) ?_
        refine AL_cons (LR_on rfl rfl rfl (LR_bin (at_tmp 8 _) (at_c (v' := I16 347) rfl) (gtr_I16 a0 347) rfl)) (sS (sT rfl (sA (sT1 rfl) sT0)) sB0 sF0) ?_
        refine AL_cons (LR_pick (b := false) (at_tmp 7 _) (at_c (v' := Bl true) rfl) (at_tmp 9 _) rfl) (sS (sA (sT1 rfl) (sA sT0 (sT1 rfl))) sB0 sF0) ?_
        exact AL_nil ⟨rfl, weak0 ((sT rfl (sT rfl (sT rfl (sT rfl (sT rfl (sT rfl (sT rfl (sT rfl sT0))))))))) (sub_keep sub_nil)⟩
      · skip
        refine AL_cons (LR_off (b := true) rfl rfl rfl rfl) (sS (sT1 rfl) sB0 sF0) ?_
        refine AL_cons (LR_off (b := true) rfl rfl rfl rfl) (sS (sT1 rfl) sB0 sF0) ?_
        refine AL_cons (LR_pick (b := true) (at_tmp 7 _) (at_c (v' := Bl true) rfl) (at_tmp 9 _) rfl) (sS (sA (sT1 rfl) (sA sT0 (sT1 rfl))) sB0 sF0) ?_
        exact AL_nil ⟨rfl, weak0 ((sT rfl (sT rfl (sT rfl (sT rfl (sT rfl (sT rfl (sT rfl (sT rfl sT0))))))))) (sub_keep sub_nil)⟩
    refine AL_nil ?_
    exact thenN (cutLeaf (v := (decide (a0 < (-348))) || (decide (a0 > 347))) hr (weak0 ((sT rfl (sT rfl (sT rfl sT0)))) (sub_keep sub_nil)))
  · rintro x1 hr
    show AW Hfaa.prog _ _ _ ⟨[(0, .inl (is (I16 a0))), (2, .inr (.inl (2, 0))), (10, .inl (is (Bl x1)))], [(2, pb 42 [is (U64 (0#64)), is (U64 (0#64))])]⟩
    have hr : some r = F28_1 N a0 x1 := hr
    refine AW_condT (b := x1) rfl (fun h => ?_) (fun h => ?_)
    · have hr := hr.trans (cond_t h)
      clear h
      refine AW_seq1 ?_
      refine AW_region ?_
      refine AL_cons (bl42 parts_nil rfl rfl) (sS sT0 sB0 sF0) ?_
      refine AL_cons (LR_store (at_tmp 2 _) (at_tmp 11 _) (cells_agg _) (onC (one_is rfl) (onC (one_is rfl) onN)) sz42 rfl rfl) (sS (sA (sT1 rfl) (sT1 rfl)) (sB1 rfl) sF0) ?_
      refine AL_cons (LR_assign (at_c (v' := I16 0) rfl) rfl) (sS sT0 sB0 sF0) ?_
      refine AL_cons (LR_assign (at_c (v' := Bl false) rfl) rfl) (sS sT0 sB0 sF0) ?_
      refine AL_nil ?_
      refine thenN ?_
      refine AW_ret ?_
      refine thenR ?_
      obtain rfl := Option.some.inj hr
      exact res3 rfl (rvC rfl rfl ag42 sz42 rfl) (rvT rfl) (rvT rfl)
    · have hr := hr.trans (cond_f h)
      clear h
      refine AW_skip ?_
      refine thenN ?_
      refine AW_cut (σ := Int × BitVec 64 × BitVec 64) (fun v => ⟨[(2, .inr (.inl (2, 0))), (3, .inl (is (I16 v.1)))], [(2, pb 42 [is (U64 v.2.1), is (U64 v.2.2)])]⟩) (fun v => some r = F28_2 N v.1 v.2.1 v.2.2) ?_ ?_
      · skip
        refine AW_region ?_
        refine AL_cons (LR_move (at_tmp 0 _) rfl) (sS (sT1 rfl) sB0 sF0) ?_
        refine AL_cons (LR_move (at_tmp 0 _) rfl) (sS (sT1 rfl) sB0 sF0) ?_
        refine AL_cons (LR_un (at_tmp 14 _) (neg_I16 a0) rfl) (sS (sT1 rfl) sB0 sF0) ?_
        refine AL_cons (LR_bi2 (vx := I16 a0) (vy := I16 (w16 (0 - a0))) (v := I16 (max a0 (w16 (0 - a0)))) (at_tmp 13 _) (at_tmp 15 _) (fun cs w => max_I .i16 a0 (w16 (0 - a0)) cs w) rfl) (sS (sA (sT1 rfl) (sT1 rfl)) sB0 sF0) ?_
        refine AL_cons (LR_conv (vx := I16 (max a0 (w16 (0 - a0)))) (at_tmp 16 _) (conv_U16 Hfaa.underlying44 Hfaa.underlying71 (max a0 (w16 (0 - a0)))) rfl) (sS (sT1 rfl) sB0 sF0) ?_
        refine AL_cons (LR_call Hfaa.func55 rfl rfl (B55 (BitVec.ofInt 16 (max a0 (w16 (0 - a0))))) (all_cons (at_tmp 17 _) all_nil) rfl) (sS (sA (sT1 rfl) sT0) sB0 sF0) ?_
        refine AL_cons (LR_move (at_tmp 0 _) rfl) (sS (sT1 rfl) sB0 sF0) ?_
        obtain ⟨y2, hy2, hr⟩ := bind_some hr
        refine AL_cons (LR_call Hfaa.func21 rfl rfl (C21 N (5 ^ (BitVec.ofInt 16 (max a0 (w16 (0 - a0)))).toNat) a0 y2 hy2) (all_cons (at_tmp 18 _) (all_cons (at_tmp 19 _) all_nil)) rfl) (sS (sA (sT1 rfl) (sA (sT1 rfl) sT0)) sB0 sF0) ?_
        refine AL_cons (LR_move (at_tmp 20 _) rfl) (sS (sT1 rfl) sB0 sF0) ?_
        refine AL_cons (LR_extract (at_tmp 12 _) rfl rfl) (sS (sT1 rfl) sB0 sF0) ?_
        refine AL_cons (LR_extract (at_tmp 12 _) rfl rfl) (sS (sT1 rfl) sB0 sF0) ?_
        refine AL_cons (LR_store (at_tmp 2 _) (at_tmp 21 _) (cells_agg _) (onC (one_is rfl) (onC (one_is rfl) onN)) sz42 rfl rfl) (sS (sA (sT1 rfl) (sT1 rfl)) (sB1 rfl) sF0) ?_
        refine AL_cons (LR_assign (at_tmp 22 _) rfl) (sS (sT1 rfl) sB0 sF0) ?_
        refine AL_nil ?_
        exact thenN (cutLeaf (v := (y2.2.2, y2.1, y2.2.1)) hr (weak0 ((sT rfl (sT rfl sT0))) (sub_keep sub_nil)))
      · rintro ⟨x2, x3, x4⟩ hr
        show AW Hfaa.prog _ _ _ ⟨[(2, .inr (.inl (2, 0))), (3, .inl (is (I16 x2)))], [(2, pb 42 [is (U64 x3), is (U64 x4)])]⟩
        have hr : some r = F28_2 N x2 x3 x4 := hr
        refine AW_seq1 ?_
        refine AW_region ?_
        refine AL_cons (LR_loads (at_tmp 2 _) ag42 sz42 rfl rfl rfl) (sS (sT1 rfl) (sB1 rfl) sF0) ?_
        refine AL_cons (LR_move (at_tmp 3 _) rfl) (sS (sT1 rfl) sB0 sF0) ?_
        refine AL_cons (LR_store (at_tmp 2 _) (at_tmp 23 _) (cells_agg _) (onC (one_is rfl) (onC (one_is rfl) onN)) sz42 rfl rfl) (sS (sA (sT1 rfl) (sT1 rfl)) (sB1 rfl) sF0) ?_
        refine AL_cons (LR_assign (at_tmp 24 _) rfl) (sS (sT1 rfl) sB0 sF0) ?_
        refine AL_cons (LR_assign (at_c (v' := Bl true) rfl) rfl) (sS sT0 sB0 sF0) ?_
        refine AL_nil ?_
        refine thenN ?_
        refine AW_ret ?_
        obtain rfl := Option.some.inj hr
        exact res3 rfl (rvC rfl rfl ag42 sz42 rfl) (rvT rfl) (rvT rfl)
/-- (*tab.Table).Ok -/
def F18_3 (N : Nat) (a0 : Tab) (x1 : Int) (x3 : Bool) : Option ((Int) ⊕ (Bool)) := bif x3 then (some false).map Sum.inr else some (.inl (w64 (x1 + 1)))
def F18_7 (N : Nat) (a0 : Tab) (x4 : Int) (x9 : Bool) : Option ((Int) ⊕ (Bool)) := bif x9 then (some false).map Sum.inr else some (.inl (w64 (x4 + 1)))
def F18_6 (N : Nat) (a0 : Tab) (x4 : Int) (x6 : Int) (x7 : BitVec 64) (x8 : BitVec 64) : Option ((Int) ⊕ (Bool)) := bif !((((a0.man x4.toNat).1) == x7) && (((a0.man x4.toNat).2) == x8)) then bif (decide (0 ≤ x4) && decide (x4 < (696 : Int))) then F18_7 N a0 x4 true else none else bif (decide (0 ≤ x4) && decide (x4 < (696 : Int))) then bif (decide (0 ≤ x4) && decide (x4 < (696 : Int))) then F18_7 N a0 x4 ((a0.ex x4.toNat) != x6) else none else none
def F18_5 (N : Nat) (a0 : Tab) (x4 : Int) (x5 : Bool) : Option ((Int) ⊕ (Bool)) := bif x5 then (F28 N (w16 ((w16 x4) - 348))).bind fun y32 => F18_6 N a0 x4 y32.2.2.1 y32.1 y32.2.1 else (some true).map Sum.inr
def F18_L4b (N : Nat) (a0 : Tab) (x4 : Int) : Option ((Int) ⊕ (Bool)) := F18_5 N a0 x4 (decide (x4 < 696))
def F18_L4 (N : Nat) (a0 : Tab) : (Int) → Option ((Int) ⊕ (Bool)) := fun v => F18_L4b N a0 v
def F18_2 (N : Nat) (a0 : Tab) (x1 : Int) (x2 : Bool) : Option ((Int) ⊕ (Bool)) := bif x2 then bif (decide (0 ≤ x1) && decide (x1 < (696 : Int))) then bif (decide (0 ≤ x1) && decide (x1 < (696 : Int))) then lt (F27 ((a0.man x1.toNat).1) ((a0.man x1.toNat).2) (a0.ex x1.toNat)) fun y16 => F18_3 N a0 x1 (!y16) else none else none else (iterL (F18_L4 N a0) N 0).map Sum.inr
def F18_L1b (N : Nat) (a0 : Tab) (x1 : Int) : Option ((Int) ⊕ (Bool)) := F18_2 N a0 x1 (decide (x1 < 696))
def F18_L1 (N : Nat) (a0 : Tab) : (Int) → Option ((Int) ⊕ (Bool)) := fun v => F18_L1b N a0 v
def F18 (N : Nat) (a0 : Tab) : Option (Bool) := iterL (F18_L1 N a0) N 0
theorem C18 (N : Nat) (a0 : Tab) (r : Bool) (hr : some r = F18 N a0) : Aw.Fn Hfaa.prog 18 [tabp a0] (is (Bl r)) := by
  refine fn_intro Hfaa.func18 rfl rfl rfl ?_
  intro bn0 w0 H0
  refine AW_seq1 ?_
  refine AW_region ?_
  refine AL_cons (LR_assign (at_c (v' := Bl false) rfl) rfl) (sS sT0 sB0 sF0) ?_
  refine AL_nil ?_
  refine thenN ?_
  refine AW_seq1 ?_
  refine AW_seq1 ?_
  refine AW_region ?_
  refine AL_cons (LR_move (at_tmp 0 _) rfl) (sS (sT1 rfl) sB0 sF0) ?_
  refine AL_cons (LR_binA (at_tmp 8 _) (at_c (v' := .pointer none) rfl) (eqTabNil Hfaa.underlying27 a0) rfl) (sS (sA (sT1 rfl) sT0) sB0 sF0) ?_
  refine AL_nil ?_
  refine thenN ?_
  refine AW_condT (b := false) rfl (fun h => by cases h) (fun _ => ?_)
  refine AW_skip ?_
  refine thenN ?_
  refine AW_seq1 ?_
  refine AW_seq1 ?_
  refine AW_region ?_
  refine AL_cons (LR_move (at_c (v' := I64 0) rfl) rfl) (sS sT0 sB0 sF0) ?_
  refine AL_nil ?_
  refine thenN ?_
  refine AW_block ?_
  refine AW_iterR (σ := Int) (r := r) (x0 := 0) (emb := fun v => ⟨[(0, .inl (tabp a0)), (10, .inl (is (I64 v)))], []⟩) ?_ hr ?_
  · exact weak0 ((sT rfl (sT rfl sT0))) sub_nil
  rintro x1 out2 hr
  show AW Hfaa.prog _ _ _ ⟨[(0, .inl (tabp a0)), (10, .inl (is (I64 x1)))], []⟩
  have hr : some out2 = F18_L1b N a0 x1 := hr
  refine AW_cut (σ := Bool) (fun v => ⟨[(0, .inl (tabp a0)), (10, .inl (is (I64 x1))), (11, .inl (is (Bl v)))], []⟩) (fun v => some out2 = F18_2 N a0 x1 v) ?_ ?_
  · skip
    refine AW_region ?_
    refine AL_cons (LR_bin (at_tmp 10 _) (at_c (v' := I64 696) rfl) (lss_I64 x1 696) rfl) (sS (sA (sT1 rfl) sT0) sB0 sF0) ?_
    refine AL_nil ?_
    exact thenN (cutLeaf (v := decide (x1 < 696)) hr (weak0 ((sT rfl (sT rfl (sT rfl sT0)))) sub_nil))
  · rintro x2 hr
    show AW Hfaa.prog _ _ _ ⟨[(0, .inl (tabp a0)), (10, .inl (is (I64 x1))), (11, .inl (is (Bl x2)))], []⟩
    have hr : some out2 = F18_2 N a0 x1 x2 := hr
    refine AW_seq1 ?_
    refine AW_condT (b := x2) rfl (fun h => ?_) (fun h => ?_)
    · have hr := hr.trans (cond_t h)
      clear h
      refine AW_skip ?_
      refine thenN ?_
      refine AW_seq1 ?_
      refine AW_block ?_
      refine AW_seq1 ?_
      refine AW_region ?_
      refine AL_cons (LR_move (at_tmp 10 _) rfl) (sS (sT1 rfl) sB0 sF0) ?_
      refine AL_cons (LR_assign (at_tmp 12 _) rfl) (sS (sT1 rfl) sB0 sF0) ?_
      refine AL_nil ?_
      refine thenN ?_
      refine AW_cut (σ := Bool) (fun v => ⟨[(0, .inl (tabp a0)), (10, .inl (is (I64 x1))), (26, .inl (is (Bl v)))], []⟩) (fun v => some out2 = F18_3 N a0 x1 v) ?_ ?_
      · skip
        obtain ⟨hg31, hr⟩ := guard_some hr
        obtain ⟨hg32, hr⟩ := guard_some hr
        obtain ⟨y16, hy16, hr⟩ := lt_some hr
        refine AW_draw mixed
          (lrC (LR_move (at_tmp 0 _) rfl)
          (lrC (LR_move (at_tmp 3 _) rfl)
          (lrC (LR_nilCheckTab (at_tmp 13 _) rfl)
          (lrC (LR_fieldTab (off := 0) (at_tmp 15 _) (fun b w => fa47_0 b 0 w) rfl)
          (lrC (LR_indexTabM Hfaa.underlying43 sz42 (at_tmp 16 _) (at_tmp 14 _) (dand hg31) rfl)
          (lrC (LR_loadQ2 (at_tmp 17 _) ag42 sz42 rfl)
          (lrC (LR_move (at_tmp 0 _) rfl)
          (lrC (LR_move (at_tmp 3 _) rfl)
          (lrC (LR_nilCheckTab (at_tmp 19 _) rfl)
          (lrC (LR_fieldTab (off := 1392) (at_tmp 21 _) (fun b w => fa47_1 b 0 w) rfl)
          (lrC (LR_indexTabE Hfaa.underlying45 sz44 (at_tmp 22 _) (at_tmp 20 _) (dand hg32) rfl)
          (lrC (LR_loadQ (at_tmp 23 _) na44 rfl)
          (lrC (LR_call Hfaa.func27 rfl rfl (C27 ((a0.man x1.toNat).1) ((a0.man x1.toNat).2) (a0.ex x1.toNat) y16 hy16) (all_cons (at_tmp 18 _) (all_cons (at_tmp 24 _) all_nil)) rfl)
          (lrC (LR_un (at_tmp 25 _) (not_Bl y16) rfl)
          lrN))))))))))))))
          (by kernel_rfl)
          (saC (sS (sT1 rfl) sB0 sF0) (saC (sS (sT1 rfl) sB0 sF0) (saC (sS (sT1 rfl) sB0 sF0) (saC (sS (sT1 rfl) sB0 sF0) (saC (sS (sA (sT1 rfl) (sT1 rfl)) sB0 sF0) (saC (sS (sT1 rfl) sB0 sF0) (saC (sS (sT1 rfl) sB0 sF0) (saC (sS (sT1 rfl) sB0 sF0) (saC (sS (sT1 rfl) sB0 sF0) (saC (sS (sT1 rfl) sB0 sF0) (saC (sS (sA (sT1 rfl) (sT1 rfl)) sB0 sF0) (saC (sS (sT1 rfl) sB0 sF0) (saC (sS (sA (sT1 rfl) (sA (sT1 rfl) sT0)) sB0 sF0) (saC (sS (sT1 rfl) sB0 sF0) saN)))))))))))))) ?_
        exact thenN (cutLeaf (v := !y16) hr (weak0 ((sT rfl (sT rfl (sT rfl sT0)))) sub_nil))
      · rintro x3 hr
        show AW Hfaa.prog _ _ _ ⟨[(0, .inl (tabp a0)), (10, .inl (is (I64 x1))), (26, .inl (is (Bl x3)))], []⟩
        have hr : some out2 = F18_3 N a0 x1 x3 := hr
        refine AW_condT (b := x3) rfl (fun h => ?_) (fun h => ?_)
        · have hr := hr.trans (cond_t h)
          clear h
          refine AW_seq1 ?_
          refine AW_region ?_
          refine AL_cons (LR_assign (at_c (v' := Bl false) rfl) rfl) (sS sT0 sB0 sF0) ?_
          refine AL_nil ?_
          refine thenN ?_
          refine AW_ret ?_
          refine blR ?_
          refine thenR ?_
          obtain ⟨r', hro, hr⟩ := map_inr hr
          refine thenR (loopOut hro (fun he => ?_))
          rw [he] at hr
          refine blR ?_
          refine thenR ?_
          obtain rfl := Option.some.inj hr
          exact res1 rfl (rvT rfl)
        · have hr := hr.trans (cond_f h)
          clear h
          refine AW_skip ?_
          refine blN ?_
          refine thenN ?_
          refine AW_region ?_
          refine AL_cons (LR_bin (at_tmp 10 _) (at_c (v' := I64 1) rfl) (add_I64 x1 1) rfl) (sS (sA (sT1 rfl) sT0) sB0 sF0) ?_
          refine AL_cons (LR_move (at_tmp 27 _) rfl) (sS (sT1 rfl) sB0 sF0) ?_
          refine AL_nil ?_
          exact thenN (loopNext (x' := w64 (x1 + 1)) hr (weak0 ((sT rfl (sT rfl sT0))) sub_nil))
    · have hr := hr.trans (cond_f h)
      clear h
      refine AW_exit ?_
      refine thenX ?_
      obtain ⟨r', hro, hr⟩ := map_inr hr
      refine thenX (loopOut hro (fun he => ?_))
      rw [he] at hr
      refine blH ?_
      refine thenN ?_
      refine AW_seq1 ?_
      refine AW_seq1 ?_
      refine AW_region ?_
      refine AL_cons (LR_move (at_c (v' := I64 0) rfl) rfl) (sS sT0 sB0 sF0) ?_
      refine AL_nil ?_
      refine thenN ?_
      refine AW_block ?_
      refine AW_iterR (σ := Int) (r := r) (x0 := 0) (emb := fun v => ⟨[(0, .inl (tabp a0)), (28, .inl (is (I64 v)))], []⟩) ?_ hr ?_
      · exact weak0 ((sT rfl (sT rfl sT0))) sub_nil
      rintro x4 out4 hr
      show AW Hfaa.prog _ _ _ ⟨[(0, .inl (tabp a0)), (28, .inl (is (I64 x4)))], []⟩
      have hr : some out4 = F18_L4b N a0 x4 := hr
      refine AW_cut (σ := Bool) (fun v => ⟨[(0, .inl (tabp a0)), (28, .inl (is (I64 x4))), (29, .inl (is (Bl v)))], []⟩) (fun v => some out4 = F18_5 N a0 x4 v) ?_ ?_
      · skip
        refine AW_region ?_
        refine AL_cons (LR_bin (at_tmp 28 _) (at_c (v' := I64 696) rfl) (lss_I64 x4 696) rfl) (sS (sA (sT1 rfl) sT0) sB0 sF0) ?_
        refine AL_nil ?_
        exact thenN (cutLeaf (v := decide (x4 < 696)) hr (weak0 ((sT rfl (sT rfl (sT rfl sT0)))) sub_nil))
      · rintro x5 hr
        show AW Hfaa.prog _ _ _ ⟨[(0, .inl (tabp a0)), (28, .inl (is (I64 x4))), (29, .inl (is (Bl x5)))], []⟩
        have hr : some out4 = F18_5 N a0 x4 x5 := hr
        refine AW_seq1 ?_
        refine AW_condT (b := x5) rfl (fun h => ?_) (fun h => ?_)
        · have hr := hr.trans (cond_t h)
          clear h
          refine AW_skip ?_
          refine thenN ?_
          refine AW_seq1 ?_
          refine AW_block ?_
          refine AW_seq1 ?_
          refine AW_region ?_
          refine AL_cons (LR_move (at_tmp 28 _) rfl) (sS (sT1 rfl) sB0 sF0) ?_
          refine AL_cons (LR_assign (at_tmp 30 _) rfl) (sS (sT1 rfl) sB0 sF0) ?_
          refine AL_nil ?_
          refine thenN ?_
          refine AW_cut (σ := Int × BitVec 64 × BitVec 64) (fun v => ⟨[(0, .inl (tabp a0)), (28, .inl (is (I64 x4))), (4, .inl (is (I64 x4))), (5, .inr (.inl (5, 0))), (6, .inl (is (I16 v.1)))], [(5, pb 42 [is (U64 v.2.1), is (U64 v.2.2)])]⟩) (fun v => some out4 = F18_6 N a0 x4 v.1 v.2.1 v.2.2) ?_ ?_
          · skip
            refine AW_region ?_
            refine AL_cons (LR_move (at_tmp 4 _) rfl) (sS (sT1 rfl) sB0 sF0) ?_
            refine AL_cons (LR_conv (vx := I64 x4) (at_tmp 32 _) (conv_I16 Hfaa.underlying3 Hfaa.underlying44 x4) rfl) (sS (sT1 rfl) sB0 sF0) ?_
            refine AL_cons (LR_bin (at_tmp 33 _) (at_c (v' := I16 348) rfl) (sub_I16 (w16 x4) 348) rfl) (sS (sA (sT1 rfl) sT0) sB0 sF0) ?_
            obtain ⟨y32, hy32, hr⟩ := bind_some hr
            refine AL_cons (LR_call Hfaa.func28 rfl rfl (C28 N (w16 ((w16 x4) - 348)) y32 hy32) (all_cons (at_tmp 34 _) all_nil) rfl) (sS (sA (sT1 rfl) sT0) sB0 sF0) ?_
            refine AL_cons (LR_move (at_tmp 35 _) rfl) (sS (sT1 rfl) sB0 sF0) ?_
            refine AL_cons (LR_extract (at_tmp 31 _) rfl rfl) (sS (sT1 rfl) sB0 sF0) ?_
            refine AL_cons (LR_extract (at_tmp 31 _) rfl rfl) (sS (sT1 rfl) sB0 sF0) ?_
            refine AL_cons (LR_extract (at_tmp 31 _) rfl rfl) (sS (sT1 rfl) sB0 sF0) ?_
            refine AL_cons (zl42 rfl) (sS sT0 sB0 (sF1 rfl)) ?_
            refine AL_cons (LR_store (at_tmp 5 _) (at_tmp 36 _) (cells_agg _) (onC (one_is rfl) (onC (one_is rfl) onN)) sz42 rfl rfl) (sS (sA (sT1 rfl) (sT1 rfl)) (sB1 rfl) sF0) ?_
            refine AL_cons (LR_assign (at_tmp 37 _) rfl) (sS (sT1 rfl) sB0 sF0) ?_
            refine AL_cons (LR_assign (at_tmp 38 _) rfl) (sS (sT1 rfl) sB0 sF0) ?_
            refine AL_nil ?_
            exact thenN (cutLeaf (v := (y32.2.2.1, y32.1, y32.2.1)) hr (weak0 ((sT rfl (sT rfl (sT rfl (sT rfl (sT rfl sT0)))))) (sub_keep sub_nil)))
          · rintro ⟨x6, x7, x8⟩ hr
            show AW Hfaa.prog _ _ _ ⟨[(0, .inl (tabp a0)), (28, .inl (is (I64 x4))), (4, .inl (is (I64 x4))), (5, .inr (.inl (5, 0))), (6, .inl (is (I16 x6)))], [(5, pb 42 [is (U64 x7), is (U64 x8)])]⟩
            have hr : some out4 = F18_6 N a0 x4 x6 x7 x8 := hr
            refine AW_cut (σ := Bool) (fun v => ⟨[(0, .inl (tabp a0)), (28, .inl (is (I64 x4))), (56, .inl (is (Bl v)))], []⟩) (fun v => some out4 = F18_7 N a0 x4 v) ?_ ?_
            · skip
              rcases bool_em (!((((a0.man x4.toNat).1) == x7) && (((a0.man x4.toNat).2) == x8))) with hb16 | hb16
              · have hr := hr.trans (cond_f hb16)
                obtain ⟨hg110, hr⟩ := guard_some hr
                obtain ⟨hg111, hr⟩ := guard_some hr
                refine AW_draw mixed
                  (lrC (LR_move (at_tmp 0 _) rfl)
                  (lrC (LR_move (at_tmp 4 _) rfl)
                  (lrC (LR_nilCheckTab (at_tmp 39 _) rfl)
                  (lrC (LR_fieldTab (off := 0) (at_tmp 41 _) (fun b w => fa47_0 b 0 w) rfl)
                  (lrC (LR_indexTabM Hfaa.underlying43 sz42 (at_tmp 42 _) (at_tmp 40 _) (dand hg110) rfl)
                  (lrC (LR_loadQ2 (at_tmp 43 _) ag42 sz42 rfl)
                  (lrC (LR_loads (at_tmp 5 _) ag42 sz42 rfl rfl rfl)
                  (lrC (LR_asB (LR_binA (at_tmp 44 _) (at_tmp 45 _) (neqA42 ((a0.man x4.toNat).1) ((a0.man x4.toNat).2) x7 x8) rfl) hb16)
                  (lrC (LR_move (at_tmp 46 _) rfl)
                  (lrC (LR_on rfl rfl rfl (LR_move (at_tmp 0 _) rfl))
                  (lrC (LR_on rfl rfl rfl (LR_move (at_tmp 4 _) rfl))
                  (lrC (LR_on rfl rfl rfl (LR_nilCheckTab (at_tmp 48 _) rfl))
                  (lrC (LR_on rfl rfl rfl (LR_fieldTab (off := 1392) (at_tmp 50 _) (fun b w => fa47_1 b 0 w) rfl))
                  (lrC (LR_on rfl rfl rfl (LR_indexTabE Hfaa.underlying45 sz44 (at_tmp 51 _) (at_tmp 49 _) (dand hg111) rfl))
                  (lrC (LR_on rfl rfl rfl (LR_loadQ (at_tmp 52 _) na44 rfl))
                  (lrC (LR_on rfl rfl rfl (LR_move (at_tmp 6 _) rfl))
                  (lrC (LR_on rfl rfl rfl (LR_bin (at_tmp 53 _) (at_tmp 54 _) (neq_I16 (a0.ex x4.toNat) x6) rfl))
                  (lrC (LR_pick (b := false) (at_tmp 47 _) (at_c (v' := Bl true) rfl) (at_tmp 55 _) rfl)
                  lrN))))))))))))))))))
                  (by kernel_rfl)
                  (saC (sS (sT1 rfl) sB0 sF0) (saC (sS (sT1 rfl) sB0 sF0) (saC (sS (sT1 rfl) sB0 sF0) (saC (sS (sT1 rfl) sB0 sF0) (saC (sS (sA (sT1 rfl) (sT1 rfl)) sB0 sF0) (saC (sS (sT1 rfl) sB0 sF0) (saC (sS (sT1 rfl) (sB1 rfl) sF0) (saC (sS (sA (sT1 rfl) (sT1 rfl)) sB0 sF0) (saC (sS (sT1 rfl) sB0 sF0) (saC (sS (sT rfl (sT1 rfl)) sB0 sF0) (saC (sS (sT rfl (sT1 rfl)) sB0 sF0) (saC (sS (sT rfl (sT1 rfl)) sB0 sF0) (saC (sS (sT rfl (sT1 rfl)) sB0 sF0) (saC (sS (sT rfl (sA (sT1 rfl) (sT1 rfl))) sB0 sF0) (saC (sS (sT rfl (sT1 rfl)) sB0 sF0) (saC (sS (sT rfl (sT1 rfl)) sB0 sF0) (saC (sS (sT rfl (sA (sT1 rfl) (sT1 rfl))) sB0 sF0) (saC (sS (sA (sT1 rfl) (sA sT0 (sT1 rfl))) sB0 sF0) saN)))))))))))))))))) ?_
                exact thenN (cutLeaf (v := (a0.ex x4.toNat) != x6) hr (weak0 ((sT rfl (sT rfl (sT rfl sT0)))) (sub_drop sub_nil)))
              · have hr := hr.trans (cond_t hb16)
                obtain ⟨hg112, hr⟩ := guard_some hr
                refine AW_draw mixed
                  (lrC (LR_move (at_tmp 0 _) rfl)
                  (lrC (LR_move (at_tmp 4 _) rfl)
                  (lrC (LR_nilCheckTab (at_tmp 39 _) rfl)
                  (lrC (LR_fieldTab (off := 0) (at_tmp 41 _) (fun b w => fa47_0 b 0 w) rfl)
                  (lrC (LR_indexTabM Hfaa.underlying43 sz42 (at_tmp 42 _) (at_tmp 40 _) (dand hg112) rfl)
                  (lrC (LR_loadQ2 (at_tmp 43 _) ag42 sz42 rfl)
                  (lrC (LR_loads (at_tmp 5 _) ag42 sz42 rfl rfl rfl)
                  (lrC (LR_asB (LR_binA (at_tmp 44 _) (at_tmp 45 _) (neqA42 ((a0.man x4.toNat).1) ((a0.man x4.toNat).2) x7 x8) rfl) hb16)
                  (lrC (LR_move (at_tmp 46 _) rfl)
                  (lrC (LR_off (b := true) rfl rfl rfl rfl)
                  (lrC (LR_off (b := true) rfl rfl rfl rfl)
                  (lrC (LR_off (b := true) rfl rfl rfl rfl)
                  (lrC (LR_off (b := true) rfl rfl rfl rfl)
                  (lrC (LR_off (b := true) rfl rfl rfl rfl)
                  (lrC (LR_off (b := true) rfl rfl rfl rfl)
                  (lrC (LR_off (b := true) rfl rfl rfl rfl)
                  (lrC (LR_off (b := true) rfl rfl rfl rfl)
                  (lrC (LR_pick (b := true) (at_tmp 47 _) (at_c (v' := Bl true) rfl) (at_tmp 55 _) rfl)
                  lrN))))))))))))))))))
                  (by kernel_rfl)
                  (saC (sS (sT1 rfl) sB0 sF0) (saC (sS (sT1 rfl) sB0 sF0) (saC (sS (sT1 rfl) sB0 sF0) (saC (sS (sT1 rfl) sB0 sF0) (saC (sS (sA (sT1 rfl) (sT1 rfl)) sB0 sF0) (saC (sS (sT1 rfl) sB0 sF0) (saC (sS (sT1 rfl) (sB1 rfl) sF0) (saC (sS (sA (sT1 rfl) (sT1 rfl)) sB0 sF0) (saC (sS (sT1 rfl) sB0 sF0) (saC (sS (sT1 rfl) sB0 sF0) (saC (sS (sT1 rfl) sB0 sF0) (saC (sS (sT1 rfl) sB0 sF0) (saC (sS (sT1 rfl) sB0 sF0) (saC (sS (sT1 rfl) sB0 sF0) (saC (sS (sT1 rfl) sB0 sF0) (saC (sS (sT1 rfl) sB0 sF0) (saC (sS (sT1 rfl) sB0 sF0) (saC (sS (sA (sT1 rfl) (sA sT0 (sT1 rfl))) sB0 sF0) saN)))))))))))))))))) ?_
                exact thenN (cutLeaf (v := true) hr (weak0 ((sT rfl (sT rfl (sT rfl sT0)))) (sub_drop sub_nil)))
            · rintro x9 hr
              show AW Hfaa.prog _ _ _ ⟨[(0, .inl (tabp a0)), (28, .inl (is (I64 x4))), (56, .inl (is (Bl x9)))], []⟩
              have hr : some out4 = F18_7 N a0 x4 x9 := hr
              refine AW_condT (b := x9) rfl (fun h => ?_) (fun h => ?_)
              · have hr := hr.trans (cond_t h)
                clear h
                refine AW_seq1 ?_
                refine AW_region ?_
                refine AL_cons (LR_assign (at_c (v' := Bl false) rfl) rfl) (sS sT0 sB0 sF0) ?_
                refine AL_nil ?_
                refine thenN ?_
                refine AW_ret ?_
                refine blR ?_
                refine thenR ?_
                obtain ⟨r', hro, hr⟩ := map_inr hr
                refine thenR (loopOut hro (fun he => ?_))
                rw [he] at hr
                refine blR ?_
                refine thenR ?_
                obtain rfl := Option.some.inj hr
                exact res1 rfl (rvT rfl)
              · have hr := hr.trans (cond_f h)
                clear h
                refine AW_skip ?_
                refine blN ?_
                refine thenN ?_
                refine AW_region ?_
                refine AL_cons (LR_bin (at_tmp 28 _) (at_c (v' := I64 1) rfl) (add_I64 x4 1) rfl) (sS (sA (sT1 rfl) sT0) sB0 sF0) ?_
                refine AL_cons (LR_move (at_tmp 57 _) rfl) (sS (sT1 rfl) sB0 sF0) ?_
                refine AL_nil ?_
                exact thenN (loopNext (x' := w64 (x4 + 1)) hr (weak0 ((sT rfl (sT rfl sT0))) sub_nil))
        · have hr := hr.trans (cond_f h)
          clear h
          refine AW_exit ?_
          refine thenX ?_
          obtain ⟨r', hro, hr⟩ := map_inr hr
          refine thenX (loopOut hro (fun he => ?_))
          rw [he] at hr
          refine blH ?_
          refine thenN ?_
          refine AW_seq1 ?_
          refine AW_region ?_
          refine AL_cons (LR_assign (at_c (v' := Bl true) rfl) rfl) (sS sT0 sB0 sF0) ?_
          refine AL_nil ?_
          refine thenN ?_
          refine AW_ret ?_
          obtain rfl := Option.some.inj hr
          exact res1 rfl (rvT rfl)
end Go.Proofs.YfwaawGreat
