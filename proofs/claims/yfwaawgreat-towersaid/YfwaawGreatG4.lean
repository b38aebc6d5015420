import Derived.Test.YfwaawGreatG1
import Derived.Test.YfwaawGreatG2
import Derived.Test.YfwaawGreatG3
namespace Go.Proofs.YfwaawGreat
open Go.Aw
set_option linter.unusedVariables false
set_option maxRecDepth 100000
set_option maxHeartbeats 1000000
/-- exact.pack -/
def F249_3 (a0_0 : BitVec 8) (a0_1 : BitVec 8) (a2 : Bool) (a6 : Bool) (x1 : BitVec 64) (x3 : Bool) : BitVec 64 × BitVec 8 := bif x3 then lt (F251 a0_0 a0_1 a2) fun y14 => (x1 ||| y14, 0#8) else bif a6 then lt (F251 a0_0 a0_1 a2) fun y16 => (x1 ||| y16, 24#8) else lt (F251 a0_0 a0_1 a2) fun y18 => (x1 ||| y18, 16#8)
def F249_2 (a0_0 : BitVec 8) (a0_1 : BitVec 8) (a1 : BitVec 8) (a2 : Bool) (a5_0 : Int) (a5_1 : Bool) (a6 : Bool) (x1 : BitVec 64) (x2 : Bool) : BitVec 64 × BitVec 8 := bif x2 then lt (F252 a0_0 a0_1 a1 a2) fun y12 => (y12.1, y12.2) else F249_3 a0_0 a0_1 a2 a6 x1 (!a5_1)
def F249_1 (a0_0 : BitVec 8) (a0_1 : BitVec 8) (a1 : BitVec 8) (a2 : Bool) (a5_0 : Int) (a5_1 : Bool) (a6 : Bool) (x1 : BitVec 64) : BitVec 64 × BitVec 8 := lt (F67 a0_0 a0_1 false) fun y19 => F249_2 a0_0 a0_1 a1 a2 a5_0 a5_1 a6 x1 (decide (y19.toNat ≤ x1.toNat))
def F249 (a0_0 : BitVec 8) (a0_1 : BitVec 8) (a1 : BitVec 8) (a2 : Bool) (a3 : Int) (a4 : BitVec 64) (a5_0 : Int) (a5_1 : Bool) (a6 : Bool) : BitVec 64 × BitVec 8 := lt (F246 a0_0 a0_1) fun y20 => F249_1 a0_0 a0_1 a1 a2 a5_0 a5_1 a6 (((BitVec.ofInt 64 (w64 (a3 - y20))) <<< a0_1.toNat) + a4)
theorem C249 (a0_0 : BitVec 8) (a0_1 : BitVec 8) (a1 : BitVec 8) (a2 : Bool) (a3 : Int) (a4 : BitVec 64) (a5_0 : Int) (a5_1 : Bool) (a6 : Bool) (r : BitVec 64 × BitVec 8) (hr : r = F249 a0_0 a0_1 a1 a2 a3 a4 a5_0 a5_1 a6) : Aw.Fn Hfaa.prog 249 [agg [is (U8 a0_0), is (U8 a0_1)], is (U8 a1), is (Bl a2), is (I64 a3), is (U64 a4), agg [is (I8 a5_0), is (Bl a5_1)], is (Bl a6)] (tup [is (U64 r.1), is (U8 r.2)]) := by
  refine fn_intro Hfaa.func249 rfl rfl rfl ?_
  intro bn0 w0 H0
  refine AW_seq1 ?_
  refine AW_region ?_
  refine AL_cons (LR_box (at_tmp 0 _) (cells_agg _) rfl) (sS (sT1 rfl) sB0 (sF1 rfl)) ?_
  refine AL_cons (LR_box (at_tmp 5 _) (cells_agg _) rfl) (sS (sT1 rfl) sB0 (sF1 rfl)) ?_
  refine AL_cons (LR_assign (at_c (v' := U64 (0#64)) rfl) rfl) (sS sT0 sB0 sF0) ?_
  refine AL_cons (LR_assign (at_c (v' := U8 (0#8)) rfl) rfl) (sS sT0 sB0 sF0) ?_
  refine AL_nil ?_
  refine thenN ?_
  refine AW_cut (σ := BitVec 64) (fun v => ⟨[(1, .inl (is (U8 a1))), (2, .inl (is (Bl a2))), (6, .inl (is (Bl a6))), (7, .inr (.inl (7, 0))), (12, .inr (.inl (12, 0))), (16, .inl (is (U64 v)))], [(7, pb 23 [is (U8 a0_0), is (U8 a0_1)]), (12, pb 181 [is (I8 a5_0), is (Bl a5_1)])]⟩) (fun v => r = F249_1 a0_0 a0_1 a1 a2 a5_0 a5_1 a6 v) ?_ ?_
  · skip
    obtain ⟨y20, hy20, hr⟩ := lt_some hr
    refine AW_draw mixed
      (lrC (LR_move (at_tmp 3 _) rfl)
      (lrC (LR_loads (at_tmp 7 _) ag23 sz23 rfl rfl rfl)
      (lrC (LR_call Hfaa.func246 rfl rfl (C246 a0_0 a0_1 y20 hy20) (all_cons (at_tmp 18 _) all_nil) rfl)
      (lrC (LR_bin (at_tmp 17 _) (at_tmp 19 _) (sub_I64 a3 y20) rfl)
      (lrC (LR_conv (vx := I64 (w64 (a3 - y20))) (at_tmp 20 _) (conv_U64 Hfaa.underlying3 Hfaa.underlying30 (w64 (a3 - y20))) rfl)
      (lrC (LR_fieldAddr (off := 0) (o := 1) (at_tmp 7 _) (fun b w => fa23_1 b 0 w) rfl)
      (lrC (LR_load (at_tmp 22 _) na5 rfl rfl)
      (lrC (LR_bin (at_tmp 21 _) (at_tmp 23 _) (shl_U64 (BitVec.ofInt 64 (w64 (a3 - y20))) (a0_1.toNat : Int) (Int.natCast_nonneg _)) rfl)
      (lrC (LR_move (at_tmp 4 _) rfl)
      (lrC (LR_bin (at_tmp 24 _) (at_tmp 25 _) (add_U64 ((BitVec.ofInt 64 (w64 (a3 - y20))) <<< a0_1.toNat) a4) rfl)
      (lrC (LR_assign (at_tmp 26 _) rfl)
      lrN)))))))))))
      (by kernel_rfl)
      (saC (sS (sT1 rfl) sB0 sF0) (saC (sS (sT1 rfl) (sB1 rfl) sF0) (saC (sS (sA (sT1 rfl) sT0) sB0 sF0) (saC (sS (sA (sT1 rfl) (sT1 rfl)) sB0 sF0) (saC (sS (sT1 rfl) sB0 sF0) (saC (sS (sT1 rfl) sB0 sF0) (saC (sS (sT1 rfl) (sB1 rfl) sF0) (saC (sS (sA (sT1 rfl) (sT1 rfl)) sB0 sF0) (saC (sS (sT1 rfl) sB0 sF0) (saC (sS (sA (sT1 rfl) (sT1 rfl)) sB0 sF0) (saC (sS (sT1 rfl) sB0 sF0) saN))))))))))) ?_
    exact thenN (cutLeaf (v := ((BitVec.ofInt 64 (w64 (a3 - y20))) <<< a0_1.toNat) + a4) hr (weak0 ((sT rfl (sT rfl (sT rfl (sT rfl (sT rfl (sT rfl sT0))))))) (sub_keep (sub_keep sub_nil))))
  · rintro x1 hr
    show AW Hfaa.prog _ _ _ ⟨[(1, .inl (is (U8 a1))), (2, .inl (is (Bl a2))), (6, .inl (is (Bl a6))), (7, .inr (.inl (7, 0))), (12, .inr (.inl (12, 0))), (16, .inl (is (U64 x1)))], [(7, pb 23 [is (U8 a0_0), is (U8 a0_1)]), (12, pb 181 [is (I8 a5_0), is (Bl a5_1)])]⟩
    have hr : r = F249_1 a0_0 a0_1 a1 a2 a5_0 a5_1 a6 x1 := hr
    refine AW_seq1 ?_
    refine AW_block ?_
    refine AW_cut (σ := Bool) (fun v => ⟨[(1, .inl (is (U8 a1))), (2, .inl (is (Bl a2))), (6, .inl (is (Bl a6))), (7, .inr (.inl (7, 0))), (12, .inr (.inl (12, 0))), (16, .inl (is (U64 x1))), (27, .inl (is (Bl v)))], [(7, pb 23 [is (U8 a0_0), is (U8 a0_1)]), (12, pb 181 [is (I8 a5_0), is (Bl a5_1)])]⟩) (fun v => r = F249_2 a0_0 a0_1 a1 a2 a5_0 a5_1 a6 x1 v) ?_ ?_
    · skip
      refine AW_region ?_
      refine AL_cons (LR_move (at_tmp 16 _) rfl) (sS (sT1 rfl) sB0 sF0) ?_
      refine AL_cons (LR_loads (at_tmp 7 _) ag23 sz23 rfl rfl rfl) (sS (sT1 rfl) (sB1 rfl) sF0) ?_
      obtain ⟨y19, hy19, hr⟩ := lt_some hr
      refine AL_cons (LR_call Hfaa.func67 rfl rfl (C67 a0_0 a0_1 false y19 hy19) (all_cons (at_tmp 29 _) (all_cons (at_c (v' := Bl false) rfl) all_nil)) rfl) (sS (sA (sT1 rfl) (sA sT0 sT0)) sB0 sF0) ?_
      refine AL_cons (LR_bin (at_tmp 28 _) (at_tmp 30 _) (geq_U64 x1 y19) rfl) (sS (sA (sT1 rfl) (sT1 rfl)) sB0 sF0) ?_
      refine AL_cons (LR_assign (at_tmp 31 _) rfl) (sS (sT1 rfl) sB0 sF0) ?_
      refine AL_nil ?_
      exact thenN (cutLeaf (v := decide (y19.toNat ≤ x1.toNat)) hr (weak0 ((sT rfl (sT rfl (sT rfl (sT rfl (sT rfl (sT rfl (sT rfl sT0)))))))) (sub_keep (sub_keep sub_nil))))
    · rintro x2 hr
      show AW Hfaa.prog _ _ _ ⟨[(1, .inl (is (U8 a1))), (2, .inl (is (Bl a2))), (6, .inl (is (Bl a6))), (7, .inr (.inl (7, 0))), (12, .inr (.inl (12, 0))), (16, .inl (is (U64 x1))), (27, .inl (is (Bl x2)))], [(7, pb 23 [is (U8 a0_0), is (U8 a0_1)]), (12, pb 181 [is (I8 a5_0), is (Bl a5_1)])]⟩
      have hr : r = F249_2 a0_0 a0_1 a1 a2 a5_0 a5_1 a6 x1 x2 := hr
      refine AW_condT (b := x2) rfl (fun h => ?_) (fun h => ?_)
      · have hr := hr.trans (cond_t h)
        clear h
        refine AW_seq1 ?_
        refine AW_region ?_
        refine AL_cons (LR_loads (at_tmp 7 _) ag23 sz23 rfl rfl rfl) (sS (sT1 rfl) (sB1 rfl) sF0) ?_
        refine AL_cons (LR_move (at_tmp 1 _) rfl) (sS (sT1 rfl) sB0 sF0) ?_
        refine AL_cons (LR_move (at_tmp 2 _) rfl) (sS (sT1 rfl) sB0 sF0) ?_
        obtain ⟨y12, hy12, hr⟩ := lt_some hr
        refine AL_cons (LR_call Hfaa.func252 rfl rfl (C252 a0_0 a0_1 a1 a2 y12 hy12) (all_cons (at_tmp 32 _) (all_cons (at_tmp 33 _) (all_cons (at_tmp 34 _) all_nil))) rfl) (sS (sA (sT1 rfl) (sA (sT1 rfl) (sA (sT1 rfl) sT0))) sB0 sF0) ?_
        refine AL_cons (LR_extract (at_tmp 35 _) rfl rfl) (sS (sT1 rfl) sB0 sF0) ?_
        refine AL_cons (LR_extract (at_tmp 35 _) rfl rfl) (sS (sT1 rfl) sB0 sF0) ?_
        refine AL_cons (LR_assign (at_tmp 36 _) rfl) (sS (sT1 rfl) sB0 sF0) ?_
        refine AL_cons (LR_assign (at_tmp 37 _) rfl) (sS (sT1 rfl) sB0 sF0) ?_
        refine AL_nil ?_
        refine thenN ?_
        refine AW_ret ?_
        refine blR ?_
        refine thenR ?_
        subst hr
        exact res2 rfl (rvT rfl) (rvT rfl)
      · have hr := hr.trans (cond_f h)
        clear h
        refine AW_cut (σ := Bool) (fun v => ⟨[(2, .inl (is (Bl a2))), (6, .inl (is (Bl a6))), (7, .inr (.inl (7, 0))), (16, .inl (is (U64 x1))), (38, .inl (is (Bl v)))], [(7, pb 23 [is (U8 a0_0), is (U8 a0_1)])]⟩) (fun v => r = F249_3 a0_0 a0_1 a2 a6 x1 v) ?_ ?_
        · skip
          refine AW_region ?_
          refine AL_cons (LR_fieldAddr (off := 0) (o := 1) (at_tmp 12 _) (fun b w => fa181_1 b 0 w) rfl) (sS (sT1 rfl) sB0 sF0) ?_
          refine AL_cons (LR_load (at_tmp 39 _) na4 rfl rfl) (sS (sT1 rfl) (sB1 rfl) sF0) ?_
          refine AL_cons (LR_un (at_tmp 40 _) (not_Bl a5_1) rfl) (sS (sT1 rfl) sB0 sF0) ?_
          refine AL_cons (LR_assign (at_tmp 41 _) rfl) (sS (sT1 rfl) sB0 sF0) ?_
          refine AL_nil ?_
          exact thenN (cutLeaf (v := !a5_1) hr (weak0 ((sT rfl (sT rfl (sT rfl (sT rfl (sT rfl sT0)))))) (sub_keep (sub_drop sub_nil))))
        · rintro x3 hr
          show AW Hfaa.prog _ _ _ ⟨[(2, .inl (is (Bl a2))), (6, .inl (is (Bl a6))), (7, .inr (.inl (7, 0))), (16, .inl (is (U64 x1))), (38, .inl (is (Bl x3)))], [(7, pb 23 [is (U8 a0_0), is (U8 a0_1)])]⟩
          have hr : r = F249_3 a0_0 a0_1 a2 a6 x1 x3 := hr
          refine AW_condT (b := x3) rfl (fun h => ?_) (fun h => ?_)
          · have hr := hr.trans (cond_t h)
            clear h
            refine AW_seq1 ?_
            refine AW_region ?_
            refine AL_cons (LR_move (at_tmp 16 _) rfl) (sS (sT1 rfl) sB0 sF0) ?_
            refine AL_cons (LR_loads (at_tmp 7 _) ag23 sz23 rfl rfl rfl) (sS (sT1 rfl) (sB1 rfl) sF0) ?_
            refine AL_cons (LR_move (at_tmp 2 _) rfl) (sS (sT1 rfl) sB0 sF0) ?_
            obtain ⟨y14, hy14, hr⟩ := lt_some hr
            refine AL_cons (LR_call Hfaa.func251 rfl rfl (C251 a0_0 a0_1 a2 y14 hy14) (all_cons (at_tmp 43 _) (all_cons (at_tmp 44 _) all_nil)) rfl) (sS (sA (sT1 rfl) (sA (sT1 rfl) sT0)) sB0 sF0) ?_
            refine AL_cons (LR_bin (at_tmp 42 _) (at_tmp 45 _) (or_U64 x1 y14) rfl) (sS (sA (sT1 rfl) (sT1 rfl)) sB0 sF0) ?_
            refine AL_cons (LR_assign (at_tmp 46 _) rfl) (sS (sT1 rfl) sB0 sF0) ?_
            refine AL_cons (LR_assign (at_c (v' := U8 (0#8)) rfl) rfl) (sS sT0 sB0 sF0) ?_
            refine AL_nil ?_
            refine thenN ?_
            refine AW_ret ?_
            refine blR ?_
            refine thenR ?_
            subst hr
            exact res2 rfl (rvT rfl) (rvT rfl)
          · have hr := hr.trans (cond_f h)
            clear h
            refine AW_seq1 ?_
            refine AW_region ?_
            refine AL_cons (LR_move (at_tmp 6 _) rfl) (sS (sT1 rfl) sB0 sF0) ?_
            refine AL_cons (LR_assign (at_tmp 48 _) rfl) (sS (sT1 rfl) sB0 sF0) ?_
            refine AL_nil ?_
            refine thenN ?_
            refine AW_condT (b := a6) rfl (fun h => ?_) (fun h => ?_)
            · have hr := hr.trans (cond_t h)
              clear h
              refine AW_seq1 ?_
              refine AW_region ?_
              refine AL_cons (LR_move (at_tmp 16 _) rfl) (sS (sT1 rfl) sB0 sF0) ?_
              refine AL_cons (LR_loads (at_tmp 7 _) ag23 sz23 rfl rfl rfl) (sS (sT1 rfl) (sB1 rfl) sF0) ?_
              refine AL_cons (LR_move (at_tmp 2 _) rfl) (sS (sT1 rfl) sB0 sF0) ?_
              obtain ⟨y16, hy16, hr⟩ := lt_some hr
              refine AL_cons (LR_call Hfaa.func251 rfl rfl (C251 a0_0 a0_1 a2 y16 hy16) (all_cons (at_tmp 50 _) (all_cons (at_tmp 51 _) all_nil)) rfl) (sS (sA (sT1 rfl) (sA (sT1 rfl) sT0)) sB0 sF0) ?_
              refine AL_cons (LR_bin (at_tmp 49 _) (at_tmp 52 _) (or_U64 x1 y16) rfl) (sS (sA (sT1 rfl) (sT1 rfl)) sB0 sF0) ?_
              refine AL_cons (LR_assign (at_tmp 53 _) rfl) (sS (sT1 rfl) sB0 sF0) ?_
              refine AL_cons (LR_assign (at_c (v' := U8 (24#8)) rfl) rfl) (sS sT0 sB0 sF0) ?_
              refine AL_nil ?_
              refine thenN ?_
              refine AW_ret ?_
              refine blR ?_
              refine thenR ?_
              subst hr
              exact res2 rfl (rvT rfl) (rvT rfl)
            · have hr := hr.trans (cond_f h)
              clear h
              refine AW_skip ?_
              refine blN ?_
              refine thenN ?_
              refine AW_seq1 ?_
              refine AW_region ?_
              refine AL_cons (LR_move (at_tmp 16 _) rfl) (sS (sT1 rfl) sB0 sF0) ?_
              refine AL_cons (LR_loads (at_tmp 7 _) ag23 sz23 rfl rfl rfl) (sS (sT1 rfl) (sB1 rfl) sF0) ?_
              refine AL_cons (LR_move (at_tmp 2 _) rfl) (sS (sT1 rfl) sB0 sF0) ?_
              obtain ⟨y18, hy18, hr⟩ := lt_some hr
              refine AL_cons (LR_call Hfaa.func251 rfl rfl (C251 a0_0 a0_1 a2 y18 hy18) (all_cons (at_tmp 55 _) (all_cons (at_tmp 56 _) all_nil)) rfl) (sS (sA (sT1 rfl) (sA (sT1 rfl) sT0)) sB0 sF0) ?_
              refine AL_cons (LR_bin (at_tmp 54 _) (at_tmp 57 _) (or_U64 x1 y18) rfl) (sS (sA (sT1 rfl) (sT1 rfl)) sB0 sF0) ?_
              refine AL_cons (LR_assign (at_tmp 58 _) rfl) (sS (sT1 rfl) sB0 sF0) ?_
              refine AL_cons (LR_assign (at_c (v' := U8 (16#8)) rfl) rfl) (sS sT0 sB0 sF0) ?_
              refine AL_nil ?_
              refine thenN ?_
              refine AW_ret ?_
              subst hr
              exact res2 rfl (rvT rfl) (rvT rfl)
/-- exact.RoundFlags -/
def F136_10 (N : Nat) (a0_0 : BitVec 8) (a0_1 : BitVec 8) (a1 : BitVec 8) (x2 : Bool) (x3 : Nat) (x4 : Nat) (x7 : Int) (x11 : Nat) (x12 : Int) (x13 : Bool) (x15 : Bool) : Option (BitVec 64 × BitVec 8) := bif lim x11 then lt (F249 a0_0 a0_1 a1 x2 x7 (BitVec.ofNat 64 x11) x12 x13 x15) fun y30 => some (y30.1, y30.2) else none
def F136_13 (N : Nat) (a0_0 : BitVec 8) (a0_1 : BitVec 8) (a1 : BitVec 8) (x2 : Bool) (x3 : Nat) (x4 : Nat) (x7 : Int) (x11 : Nat) (x12 : Int) (x13 : Bool) (x19 : Nat) : Option (BitVec 64 × BitVec 8) := bif lim x19 then F136_10 N a0_0 a0_1 a1 x2 x3 x4 x7 x11 x12 x13 ((blen x19 : Int) == (w64 ((w64 (a0_1.toNat : Int)) + 1))) else none
def F136_12 (N : Nat) (a0_0 : BitVec 8) (a0_1 : BitVec 8) (a1 : BitVec 8) (x2 : Bool) (x3 : Nat) (x4 : Nat) (x7 : Int) (x11 : Nat) (x12 : Int) (x13 : Bool) (x17 : Nat) (x18 : Nat) : Option (BitVec 64 × BitVec 8) := (F245 N a1 x2 x17 x18).bind fun y34 => F136_13 N a0_0 a0_1 a1 x2 x3 x4 x7 x11 x12 x13 y34.1
def F136_11 (N : Nat) (a0_0 : BitVec 8) (a0_1 : BitVec 8) (a1 : BitVec 8) (x2 : Bool) (x3 : Nat) (x4 : Nat) (x6 : Int) (x7 : Int) (x11 : Nat) (x12 : Int) (x13 : Bool) (x14 : Bool) (x16 : Bool) : Option (BitVec 64 × BitVec 8) := bif x16 then (F208 N x3 x4 (w64 ((w64 (a0_1.toNat : Int)) - x6))).bind fun y35 => F136_12 N a0_0 a0_1 a1 x2 x3 x4 x7 x11 x12 x13 y35.1 y35.2 else F136_10 N a0_0 a0_1 a1 x2 x3 x4 x7 x11 x12 x13 x14
def F136_9 (N : Nat) (a0_0 : BitVec 8) (a0_1 : BitVec 8) (a1 : BitVec 8) (x2 : Bool) (x3 : Nat) (x4 : Nat) (x6 : Int) (x7 : Int) (x11 : Nat) (x12 : Int) (x13 : Bool) (x14 : Bool) : Option (BitVec 64 × BitVec 8) := lt (F246 a0_0 a0_1) fun y36 => F136_11 N a0_0 a0_1 a1 x2 x3 x4 x6 x7 x11 x12 x13 x14 (x6 == (w64 (y36 - 1)))
def F136_8 (N : Nat) (a0_0 : BitVec 8) (a0_1 : BitVec 8) (a1 : BitVec 8) (x2 : Bool) (x3 : Nat) (x4 : Nat) (x6 : Int) (x7 : Int) (x11 : Nat) (x12 : Int) (x13 : Bool) : Option (BitVec 64 × BitVec 8) := lt (F246 a0_0 a0_1) fun y37 => F136_9 N a0_0 a0_1 a1 x2 x3 x4 x6 x7 x11 x12 x13 (decide (x6 < y37))
def F136_7 (N : Nat) (a0_0 : BitVec 8) (a0_1 : BitVec 8) (a1 : BitVec 8) (x2 : Bool) (x3 : Nat) (x4 : Nat) (x6 : Int) (x7 : Int) (x9 : Nat) (x10 : Nat) : Option (BitVec 64 × BitVec 8) := (F245 N a1 x2 x9 x10).bind fun y38 => F136_8 N a0_0 a0_1 a1 x2 x3 x4 x6 x7 y38.1 y38.2.1 y38.2.2
def F136_6 (N : Nat) (a0_0 : BitVec 8) (a0_1 : BitVec 8) (a1 : BitVec 8) (x2 : Bool) (x3 : Nat) (x4 : Nat) (x6 : Int) (x7 : Int) (x8 : Bool) : Option (BitVec 64 × BitVec 8) := bif x8 then lt (F252 a0_0 a0_1 a1 x2) fun y19 => some (y19.1, y19.2) else (F208 N x3 x4 (w64 ((w64 (a0_1.toNat : Int)) - x7))).bind fun y39 => F136_7 N a0_0 a0_1 a1 x2 x3 x4 x6 x7 y39.1 y39.2
def F136_5 (N : Nat) (a0_0 : BitVec 8) (a0_1 : BitVec 8) (a1 : BitVec 8) (x2 : Bool) (x3 : Nat) (x4 : Nat) (x6 : Int) (x7 : Int) : Option (BitVec 64 × BitVec 8) := lt (F247 a0_0 a0_1) fun y40 => F136_6 N a0_0 a0_1 a1 x2 x3 x4 x6 x7 (decide (x7 > y40))
def F136_4 (N : Nat) (a0_0 : BitVec 8) (a0_1 : BitVec 8) (a1 : BitVec 8) (x2 : Bool) (x3 : Nat) (x4 : Nat) (x6 : Int) : Option (BitVec 64 × BitVec 8) := lt (F246 a0_0 a0_1) fun y41 => F136_5 N a0_0 a0_1 a1 x2 x3 x4 x6 (max x6 y41)
def F136_3 (N : Nat) (a0_0 : BitVec 8) (a0_1 : BitVec 8) (a1 : BitVec 8) (x2 : Bool) (x3 : Nat) (x4 : Nat) (x5 : Bool) : Option (BitVec 64 × BitVec 8) := bif x5 then lt (F251 a0_0 a0_1 x2) fun y8 => some (y8, 0#8) else lt (F246 a0_0 a0_1) fun y42 => lt (F247 a0_0 a0_1) fun y43 => (F207 N x3 x4 (w64 (y42 - 1)) y43).bind fun y44 => F136_4 N a0_0 a0_1 a1 x2 x3 x4 y44
def F136_2 (N : Nat) (a0_0 : BitVec 8) (a0_1 : BitVec 8) (a1 : BitVec 8) (x2 : Bool) (x3 : Nat) (x4 : Nat) : Option (BitVec 64 × BitVec 8) := F136_3 N a0_0 a0_1 a1 x2 x3 x4 (x3 == 0)
def F136_1 (N : Nat) (a0_0 : BitVec 8) (a0_1 : BitVec 8) (a1 : BitVec 8) (a2_0 : Bool) (a2_1 : Nat) (a2_2 : Nat) (x1 : Bool) : Option (BitVec 64 × BitVec 8) := bif x1 then some (0#64, 0#8) else (F250 N a2_0 a2_1 a2_2).bind fun y45 => F136_2 N a0_0 a0_1 a1 y45.1 y45.2.1 y45.2.2
def F136 (N : Nat) (a0_0 : BitVec 8) (a0_1 : BitVec 8) (a1 : BitVec 8) (a2_0 : Bool) (a2_1 : Nat) (a2_2 : Nat) : Option (BitVec 64 × BitVec 8) := lt (F40 a0_0 a0_1) fun y46 => F136_1 N a0_0 a0_1 a1 a2_0 a2_1 a2_2 (!y46)
theorem C136 (N : Nat) (a0_0 : BitVec 8) (a0_1 : BitVec 8) (a1 : BitVec 8) (a2_0 : Bool) (a2_1 : Nat) (a2_2 : Nat) (r : BitVec 64 × BitVec 8) (hr : some r = F136 N a0_0 a0_1 a1 a2_0 a2_1 a2_2) : Aw.Fn Hfaa.prog 136 [agg [is (U8 a0_0), is (U8 a0_1)], is (U8 a1), agg [is (Bl a2_0), big a2_1, big a2_2]] (tup [is (U64 r.1), is (U8 r.2)]) := by
  refine fn_intro Hfaa.func136 rfl rfl rfl ?_
  intro bn0 w0 H0
  refine AW_seq1 ?_
  refine AW_region ?_
  refine AL_cons (LR_box (at_tmp 0 _) (cells_agg _) rfl) (sS (sT1 rfl) sB0 (sF1 rfl)) ?_
  refine AL_cons (LR_box (at_tmp 2 _) (cells_agg _) rfl) (sS (sT1 rfl) sB0 (sF1 rfl)) ?_
  refine AL_cons (LR_assign (at_c (v' := U64 (0#64)) rfl) rfl) (sS sT0 sB0 sF0) ?_
  refine AL_cons (LR_assign (at_c (v' := U8 (0#8)) rfl) rfl) (sS sT0 sB0 sF0) ?_
  refine AL_nil ?_
  refine thenN ?_
  refine AW_seq1 ?_
  refine AW_cut (σ := Bool) (fun v => ⟨[(1, .inl (is (U8 a1))), (3, .inr (.inl (3, 0))), (5, .inr (.inl (5, 0))), (19, .inl (is (Bl v)))], [(3, pb 23 [is (U8 a0_0), is (U8 a0_1)]), (5, pb 119 [is (Bl a2_0), big a2_1, big a2_2])]⟩) (fun v => some r = F136_1 N a0_0 a0_1 a1 a2_0 a2_1 a2_2 v) ?_ ?_
  · skip
    refine AW_region ?_
    refine AL_cons (LR_loads (at_tmp 3 _) ag23 sz23 rfl rfl rfl) (sS (sT1 rfl) (sB1 rfl) sF0) ?_
    obtain ⟨y46, hy46, hr⟩ := lt_some hr
    refine AL_cons (LR_call Hfaa.func40 rfl rfl (C40 a0_0 a0_1 y46 hy46) (all_cons (at_tmp 17 _) all_nil) rfl) (sS (sA (sT1 rfl) sT0) sB0 sF0) ?_
    refine AL_cons (LR_un (at_tmp 18 _) (not_Bl y46) rfl) (sS (sT1 rfl) sB0 sF0) ?_
    refine AL_nil ?_
    exact thenN (cutLeaf (v := !y46) hr (weak0 ((sT rfl (sT rfl (sT rfl (sT rfl sT0))))) (sub_keep (sub_keep sub_nil))))
  · rintro x1 hr
    show AW Hfaa.prog _ _ _ ⟨[(1, .inl (is (U8 a1))), (3, .inr (.inl (3, 0))), (5, .inr (.inl (5, 0))), (19, .inl (is (Bl x1)))], [(3, pb 23 [is (U8 a0_0), is (U8 a0_1)]), (5, pb 119 [is (Bl a2_0), big a2_1, big a2_2])]⟩
    have hr : some r = F136_1 N a0_0 a0_1 a1 a2_0 a2_1 a2_2 x1 := hr
    refine AW_condT (b := x1) rfl (fun h => ?_) (fun h => ?_)
    · have hr := hr.trans (cond_t h)
      clear h
      refine AW_seq1 ?_
      refine AW_region ?_
      refine AL_cons (LR_assign (at_c (v' := U64 (0#64)) rfl) rfl) (sS sT0 sB0 sF0) ?_
      refine AL_cons (LR_assign (at_c (v' := U8 (0#8)) rfl) rfl) (sS sT0 sB0 sF0) ?_
      refine AL_nil ?_
      refine thenN ?_
      refine AW_ret ?_
      refine thenR ?_
      obtain rfl := Option.some.inj hr
      exact res2 rfl (rvT rfl) (rvT rfl)
    · have hr := hr.trans (cond_f h)
      clear h
      refine AW_skip ?_
      refine thenN ?_
      refine AW_cut (σ := Bool × Nat × Nat) (fun v => ⟨[(1, .inl (is (U8 a1))), (3, .inr (.inl (3, 0))), (5, .inr (.inl (5, 0)))], [(3, pb 23 [is (U8 a0_0), is (U8 a0_1)]), (5, pb 119 [is (Bl v.1), big v.2.1, big v.2.2])]⟩) (fun v => some r = F136_2 N a0_0 a0_1 a1 v.1 v.2.1 v.2.2) ?_ ?_
      · skip
        refine AW_region ?_
        refine AL_cons (LR_fieldAddr (off := 0) (o := 0) (at_tmp 5 _) (fun b w => fa119_0 b 0 w) rfl) (sS (sT1 rfl) sB0 sF0) ?_
        refine AL_cons (LR_load (at_tmp 20 _) na4 rfl rfl) (sS (sT1 rfl) (sB1 rfl) sF0) ?_
        refine AL_cons (LR_fieldAddr (off := 0) (o := 1) (at_tmp 5 _) (fun b w => fa119_1 b 0 w) rfl) (sS (sT1 rfl) sB0 sF0) ?_
        refine AL_cons (LR_load (at_tmp 22 _) na49 rfl rfl) (sS (sT1 rfl) (sB1 rfl) sF0) ?_
        refine AL_cons (LR_fieldAddr (off := 0) (o := 2) (at_tmp 5 _) (fun b w => fa119_2 b 0 w) rfl) (sS (sT1 rfl) sB0 sF0) ?_
        refine AL_cons (LR_load (at_tmp 24 _) na49 rfl rfl) (sS (sT1 rfl) (sB1 rfl) sF0) ?_
        obtain ⟨y45, hy45, hr⟩ := bind_some hr
        refine AL_cons (LR_call Hfaa.func250 rfl rfl (C250 N a2_0 a2_1 a2_2 y45 hy45) (all_cons (at_tmp 21 _) (all_cons (at_tmp 23 _) (all_cons (at_tmp 25 _) all_nil))) rfl) (sS (sA (sT1 rfl) (sA (sT1 rfl) (sA (sT1 rfl) sT0))) sB0 sF0) ?_
        refine AL_cons (LR_store (at_tmp 5 _) (at_tmp 26 _) (cells_agg _) (onC (one_is rfl) (onC (one_big _) (onC (one_big _) onN))) sz119 rfl rfl) (sS (sA (sT1 rfl) (sT1 rfl)) (sB1 rfl) sF0) ?_
        refine AL_nil ?_
        exact thenN (cutLeaf (v := (y45.1, y45.2.1, y45.2.2)) hr (weak0 ((sT rfl (sT rfl (sT rfl sT0)))) (sub_keep (sub_keep sub_nil))))
      · rintro ⟨x2, x3, x4⟩ hr
        show AW Hfaa.prog _ _ _ ⟨[(1, .inl (is (U8 a1))), (3, .inr (.inl (3, 0))), (5, .inr (.inl (5, 0)))], [(3, pb 23 [is (U8 a0_0), is (U8 a0_1)]), (5, pb 119 [is (Bl x2), big x3, big x4])]⟩
        have hr : some r = F136_2 N a0_0 a0_1 a1 x2 x3 x4 := hr
        refine AW_seq1 ?_
        refine AW_cut (σ := Bool) (fun v => ⟨[(1, .inl (is (U8 a1))), (3, .inr (.inl (3, 0))), (5, .inr (.inl (5, 0))), (29, .inl (is (Bl v)))], [(3, pb 23 [is (U8 a0_0), is (U8 a0_1)]), (5, pb 119 [is (Bl x2), big x3, big x4])]⟩) (fun v => some r = F136_3 N a0_0 a0_1 a1 x2 x3 x4 v) ?_ ?_
        · skip
          refine AW_region ?_
          refine AL_cons (LR_fieldAddr (off := 0) (o := 1) (at_tmp 5 _) (fun b w => fa119_1 b 0 w) rfl) (sS (sT1 rfl) sB0 sF0) ?_
          refine AL_cons (LR_load (at_tmp 27 _) na49 rfl rfl) (sS (sT1 rfl) (sB1 rfl) sF0) ?_
          refine AL_cons (LR_binA (at_tmp 28 _) at_nil (eqNil Hfaa.underlying49 x3) rfl) (sS (sA (sT1 rfl) sT0) sB0 sF0) ?_
          refine AL_nil ?_
          exact thenN (cutLeaf (v := x3 == 0) hr (weak0 ((sT rfl (sT rfl (sT rfl (sT rfl sT0))))) (sub_keep (sub_keep sub_nil))))
        · rintro x5 hr
          show AW Hfaa.prog _ _ _ ⟨[(1, .inl (is (U8 a1))), (3, .inr (.inl (3, 0))), (5, .inr (.inl (5, 0))), (29, .inl (is (Bl x5)))], [(3, pb 23 [is (U8 a0_0), is (U8 a0_1)]), (5, pb 119 [is (Bl x2), big x3, big x4])]⟩
          have hr : some r = F136_3 N a0_0 a0_1 a1 x2 x3 x4 x5 := hr
          refine AW_condT (b := x5) rfl (fun h => ?_) (fun h => ?_)
          · have hr := hr.trans (cond_t h)
            clear h
            refine AW_seq1 ?_
            refine AW_region ?_
            refine AL_cons (LR_loads (at_tmp 3 _) ag23 sz23 rfl rfl rfl) (sS (sT1 rfl) (sB1 rfl) sF0) ?_
            refine AL_cons (LR_fieldAddr (off := 0) (o := 0) (at_tmp 5 _) (fun b w => fa119_0 b 0 w) rfl) (sS (sT1 rfl) sB0 sF0) ?_
            refine AL_cons (LR_load (at_tmp 31 _) na4 rfl rfl) (sS (sT1 rfl) (sB1 rfl) sF0) ?_
            obtain ⟨y8, hy8, hr⟩ := lt_some hr
            refine AL_cons (LR_call Hfaa.func251 rfl rfl (C251 a0_0 a0_1 x2 y8 hy8) (all_cons (at_tmp 30 _) (all_cons (at_tmp 32 _) all_nil)) rfl) (sS (sA (sT1 rfl) (sA (sT1 rfl) sT0)) sB0 sF0) ?_
            refine AL_cons (LR_assign (at_tmp 33 _) rfl) (sS (sT1 rfl) sB0 sF0) ?_
            refine AL_cons (LR_assign (at_c (v' := U8 (0#8)) rfl) rfl) (sS sT0 sB0 sF0) ?_
            refine AL_nil ?_
            refine thenN ?_
            refine AW_ret ?_
            refine thenR ?_
            obtain rfl := Option.some.inj hr
            exact res2 rfl (rvT rfl) (rvT rfl)
          · have hr := hr.trans (cond_f h)
            clear h
            refine AW_skip ?_
            refine thenN ?_
            refine AW_cut (σ := Int) (fun v => ⟨[(1, .inl (is (U8 a1))), (3, .inr (.inl (3, 0))), (5, .inr (.inl (5, 0))), (8, .inl (is (I64 v)))], [(3, pb 23 [is (U8 a0_0), is (U8 a0_1)]), (5, pb 119 [is (Bl x2), big x3, big x4])]⟩) (fun v => some r = F136_4 N a0_0 a0_1 a1 x2 x3 x4 v) ?_ ?_
            · skip
              obtain ⟨y42, hy42, hr⟩ := lt_some hr
              obtain ⟨y43, hy43, hr⟩ := lt_some hr
              obtain ⟨y44, hy44, hr⟩ := bind_some hr
              refine AW_draw mixed
                (lrC (LR_fieldAddr (off := 0) (o := 1) (at_tmp 5 _) (fun b w => fa119_1 b 0 w) rfl)
                (lrC (LR_load (at_tmp 34 _) na49 rfl rfl)
                (lrC (LR_fieldAddr (off := 0) (o := 2) (at_tmp 5 _) (fun b w => fa119_2 b 0 w) rfl)
                (lrC (LR_load (at_tmp 36 _) na49 rfl rfl)
                (lrC (LR_loads (at_tmp 3 _) ag23 sz23 rfl rfl rfl)
                (lrC (LR_call Hfaa.func246 rfl rfl (C246 a0_0 a0_1 y42 hy42) (all_cons (at_tmp 38 _) all_nil) rfl)
                (lrC (LR_bin (at_tmp 39 _) (at_c (v' := I64 1) rfl) (sub_I64 y42 1) rfl)
                (lrC (LR_loads (at_tmp 3 _) ag23 sz23 rfl rfl rfl)
                (lrC (LR_call Hfaa.func247 rfl rfl (C247 a0_0 a0_1 y43 hy43) (all_cons (at_tmp 41 _) all_nil) rfl)
                (lrC (LR_call Hfaa.func207 rfl rfl (C207 N x3 x4 (w64 (y42 - 1)) y43 y44 hy44) (all_cons (at_tmp 35 _) (all_cons (at_tmp 37 _) (all_cons (at_tmp 40 _) (all_cons (at_tmp 42 _) all_nil)))) rfl)
                (lrC (LR_assign (at_tmp 43 _) rfl)
                lrN)))))))))))
                (by kernel_rfl)
                (saC (sS (sT1 rfl) sB0 sF0) (saC (sS (sT1 rfl) (sB1 rfl) sF0) (saC (sS (sT1 rfl) sB0 sF0) (saC (sS (sT1 rfl) (sB1 rfl) sF0) (saC (sS (sT1 rfl) (sB1 rfl) sF0) (saC (sS (sA (sT1 rfl) sT0) sB0 sF0) (saC (sS (sA (sT1 rfl) sT0) sB0 sF0) (saC (sS (sT1 rfl) (sB1 rfl) sF0) (saC (sS (sA (sT1 rfl) sT0) sB0 sF0) (saC (sS (sA (sT1 rfl) (sA (sT1 rfl) (sA (sT1 rfl) (sA (sT1 rfl) sT0)))) sB0 sF0) (saC (sS (sT1 rfl) sB0 sF0) saN))))))))))) ?_
              exact thenN (cutLeaf (v := y44) hr (weak0 ((sT rfl (sT rfl (sT rfl (sT rfl sT0))))) (sub_keep (sub_keep sub_nil))))
            · rintro x6 hr
              show AW Hfaa.prog _ _ _ ⟨[(1, .inl (is (U8 a1))), (3, .inr (.inl (3, 0))), (5, .inr (.inl (5, 0))), (8, .inl (is (I64 x6)))], [(3, pb 23 [is (U8 a0_0), is (U8 a0_1)]), (5, pb 119 [is (Bl x2), big x3, big x4])]⟩
              have hr : some r = F136_4 N a0_0 a0_1 a1 x2 x3 x4 x6 := hr
              refine AW_cut (σ := Int) (fun v => ⟨[(1, .inl (is (U8 a1))), (3, .inr (.inl (3, 0))), (5, .inr (.inl (5, 0))), (8, .inl (is (I64 x6))), (9, .inl (is (I64 v)))], [(3, pb 23 [is (U8 a0_0), is (U8 a0_1)]), (5, pb 119 [is (Bl x2), big x3, big x4])]⟩) (fun v => some r = F136_5 N a0_0 a0_1 a1 x2 x3 x4 x6 v) ?_ ?_
              · skip
                refine AW_region ?_
                refine AL_cons (LR_move (at_tmp 8 _) rfl) (sS (sT1 rfl) sB0 sF0) ?_
                refine AL_cons (LR_loads (at_tmp 3 _) ag23 sz23 rfl rfl rfl) (sS (sT1 rfl) (sB1 rfl) sF0) ?_
                obtain ⟨y41, hy41, hr⟩ := lt_some hr
                refine AL_cons (LR_call Hfaa.func246 rfl rfl (C246 a0_0 a0_1 y41 hy41) (all_cons (at_tmp 45 _) all_nil) rfl) (sS (sA (sT1 rfl) sT0) sB0 sF0) ?_
                refine AL_cons (LR_bi2 (vx := I64 x6) (vy := I64 y41) (v := I64 (max x6 y41)) (at_tmp 44 _) (at_tmp 46 _) (fun cs w => max_I .i64 x6 y41 cs w) rfl) (sS (sA (sT1 rfl) (sT1 rfl)) sB0 sF0) ?_
                refine AL_cons (LR_assign (at_tmp 47 _) rfl) (sS (sT1 rfl) sB0 sF0) ?_
                refine AL_nil ?_
                exact thenN (cutLeaf (v := max x6 y41) hr (weak0 ((sT rfl (sT rfl (sT rfl (sT rfl (sT rfl sT0)))))) (sub_keep (sub_keep sub_nil))))
              · rintro x7 hr
                show AW Hfaa.prog _ _ _ ⟨[(1, .inl (is (U8 a1))), (3, .inr (.inl (3, 0))), (5, .inr (.inl (5, 0))), (8, .inl (is (I64 x6))), (9, .inl (is (I64 x7)))], [(3, pb 23 [is (U8 a0_0), is (U8 a0_1)]), (5, pb 119 [is (Bl x2), big x3, big x4])]⟩
                have hr : some r = F136_5 N a0_0 a0_1 a1 x2 x3 x4 x6 x7 := hr
                refine AW_seq1 ?_
                refine AW_cut (σ := Bool) (fun v => ⟨[(1, .inl (is (U8 a1))), (3, .inr (.inl (3, 0))), (5, .inr (.inl (5, 0))), (8, .inl (is (I64 x6))), (9, .inl (is (I64 x7))), (51, .inl (is (Bl v)))], [(3, pb 23 [is (U8 a0_0), is (U8 a0_1)]), (5, pb 119 [is (Bl x2), big x3, big x4])]⟩) (fun v => some r = F136_6 N a0_0 a0_1 a1 x2 x3 x4 x6 x7 v) ?_ ?_
                · skip
                  refine AW_region ?_
                  refine AL_cons (LR_move (at_tmp 9 _) rfl) (sS (sT1 rfl) sB0 sF0) ?_
                  refine AL_cons (LR_loads (at_tmp 3 _) ag23 sz23 rfl rfl rfl) (sS (sT1 rfl) (sB1 rfl) sF0) ?_
                  obtain ⟨y40, hy40, hr⟩ := lt_some hr
                  refine AL_cons (LR_call Hfaa.func247 rfl rfl (C247 a0_0 a0_1 y40 hy40) (all_cons (at_tmp 49 _) all_nil) rfl) (sS (sA (sT1 rfl) sT0) sB0 sF0) ?_
                  refine AL_cons (LR_bin (at_tmp 48 _) (at_tmp 50 _) (gtr_I64 x7 y40) rfl) (sS (sA (sT1 rfl) (sT1 rfl)) sB0 sF0) ?_
                  refine AL_nil ?_
                  exact thenN (cutLeaf (v := decide (x7 > y40)) hr (weak0 ((sT rfl (sT rfl (sT rfl (sT rfl (sT rfl (sT rfl sT0))))))) (sub_keep (sub_keep sub_nil))))
                · rintro x8 hr
                  show AW Hfaa.prog _ _ _ ⟨[(1, .inl (is (U8 a1))), (3, .inr (.inl (3, 0))), (5, .inr (.inl (5, 0))), (8, .inl (is (I64 x6))), (9, .inl (is (I64 x7))), (51, .inl (is (Bl x8)))], [(3, pb 23 [is (U8 a0_0), is (U8 a0_1)]), (5, pb 119 [is (Bl x2), big x3, big x4])]⟩
                  have hr : some r = F136_6 N a0_0 a0_1 a1 x2 x3 x4 x6 x7 x8 := hr
                  refine AW_condT (b := x8) rfl (fun h => ?_) (fun h => ?_)
                  · have hr := hr.trans (cond_t h)
                    clear h
                    refine AW_seq1 ?_
                    refine AW_region ?_
                    refine AL_cons (LR_loads (at_tmp 3 _) ag23 sz23 rfl rfl rfl) (sS (sT1 rfl) (sB1 rfl) sF0) ?_
                    refine AL_cons (LR_move (at_tmp 1 _) rfl) (sS (sT1 rfl) sB0 sF0) ?_
                    refine AL_cons (LR_fieldAddr (off := 0) (o := 0) (at_tmp 5 _) (fun b w => fa119_0 b 0 w) rfl) (sS (sT1 rfl) sB0 sF0) ?_
                    refine AL_cons (LR_load (at_tmp 54 _) na4 rfl rfl) (sS (sT1 rfl) (sB1 rfl) sF0) ?_
                    obtain ⟨y19, hy19, hr⟩ := lt_some hr
                    refine AL_cons (LR_call Hfaa.func252 rfl rfl (C252 a0_0 a0_1 a1 x2 y19 hy19) (all_cons (at_tmp 52 _) (all_cons (at_tmp 53 _) (all_cons (at_tmp 55 _) all_nil))) rfl) (sS (sA (sT1 rfl) (sA (sT1 rfl) (sA (sT1 rfl) sT0))) sB0 sF0) ?_
                    refine AL_cons (LR_extract (at_tmp 56 _) rfl rfl) (sS (sT1 rfl) sB0 sF0) ?_
                    refine AL_cons (LR_extract (at_tmp 56 _) rfl rfl) (sS (sT1 rfl) sB0 sF0) ?_
                    refine AL_cons (LR_assign (at_tmp 57 _) rfl) (sS (sT1 rfl) sB0 sF0) ?_
                    refine AL_cons (LR_assign (at_tmp 58 _) rfl) (sS (sT1 rfl) sB0 sF0) ?_
                    refine AL_nil ?_
                    refine thenN ?_
                    refine AW_ret ?_
                    refine thenR ?_
                    obtain rfl := Option.some.inj hr
                    exact res2 rfl (rvT rfl) (rvT rfl)
                  · have hr := hr.trans (cond_f h)
                    clear h
                    refine AW_skip ?_
                    refine thenN ?_
                    refine AW_cut (σ := Nat × Nat) (fun v => ⟨[(1, .inl (is (U8 a1))), (3, .inr (.inl (3, 0))), (5, .inr (.inl (5, 0))), (8, .inl (is (I64 x6))), (9, .inl (is (I64 x7))), (10, .inl (big v.1)), (11, .inl (big v.2))], [(3, pb 23 [is (U8 a0_0), is (U8 a0_1)]), (5, pb 119 [is (Bl x2), big x3, big x4])]⟩) (fun v => some r = F136_7 N a0_0 a0_1 a1 x2 x3 x4 x6 x7 v.1 v.2) ?_ ?_
                    · skip
                      refine AW_region ?_
                      refine AL_cons (LR_fieldAddr (off := 0) (o := 1) (at_tmp 5 _) (fun b w => fa119_1 b 0 w) rfl) (sS (sT1 rfl) sB0 sF0) ?_
                      refine AL_cons (LR_load (at_tmp 60 _) na49 rfl rfl) (sS (sT1 rfl) (sB1 rfl) sF0) ?_
                      refine AL_cons (LR_fieldAddr (off := 0) (o := 2) (at_tmp 5 _) (fun b w => fa119_2 b 0 w) rfl) (sS (sT1 rfl) sB0 sF0) ?_
                      refine AL_cons (LR_load (at_tmp 62 _) na49 rfl rfl) (sS (sT1 rfl) (sB1 rfl) sF0) ?_
                      refine AL_cons (LR_fieldAddr (off := 0) (o := 1) (at_tmp 3 _) (fun b w => fa23_1 b 0 w) rfl) (sS (sT1 rfl) sB0 sF0) ?_
                      refine AL_cons (LR_load (at_tmp 64 _) na5 rfl rfl) (sS (sT1 rfl) (sB1 rfl) sF0) ?_
                      refine AL_cons (LR_conv (vx := U8 a0_1) (at_tmp 65 _) (conv_I64 Hfaa.underlying5 Hfaa.underlying3 (a0_1.toNat : Int)) rfl) (sS (sT1 rfl) sB0 sF0) ?_
                      refine AL_cons (LR_move (at_tmp 9 _) rfl) (sS (sT1 rfl) sB0 sF0) ?_
                      refine AL_cons (LR_bin (at_tmp 66 _) (at_tmp 67 _) (sub_I64 (w64 (a0_1.toNat : Int)) x7) rfl) (sS (sA (sT1 rfl) (sT1 rfl)) sB0 sF0) ?_
                      obtain ⟨y39, hy39, hr⟩ := bind_some hr
                      refine AL_cons (LR_call Hfaa.func208 rfl rfl (C208 N x3 x4 (w64 ((w64 (a0_1.toNat : Int)) - x7)) y39 hy39) (all_cons (at_tmp 61 _) (all_cons (at_tmp 63 _) (all_cons (at_tmp 68 _) all_nil))) rfl) (sS (sA (sT1 rfl) (sA (sT1 rfl) (sA (sT1 rfl) sT0))) sB0 sF0) ?_
                      refine AL_cons (LR_move (at_tmp 69 _) rfl) (sS (sT1 rfl) sB0 sF0) ?_
                      refine AL_cons (LR_extract (at_tmp 59 _) rfl rfl) (sS (sT1 rfl) sB0 sF0) ?_
                      refine AL_cons (LR_extract (at_tmp 59 _) rfl rfl) (sS (sT1 rfl) sB0 sF0) ?_
                      refine AL_cons (LR_assign (at_tmp 70 _) rfl) (sS (sT1 rfl) sB0 sF0) ?_
                      refine AL_cons (LR_assign (at_tmp 71 _) rfl) (sS (sT1 rfl) sB0 sF0) ?_
                      refine AL_nil ?_
                      exact thenN (cutLeaf (v := (y39.1, y39.2)) hr (weak0 ((sT rfl (sT rfl (sT rfl (sT rfl (sT rfl (sT rfl (sT rfl sT0)))))))) (sub_keep (sub_keep sub_nil))))
                    · rintro ⟨x9, x10⟩ hr
                      show AW Hfaa.prog _ _ _ ⟨[(1, .inl (is (U8 a1))), (3, .inr (.inl (3, 0))), (5, .inr (.inl (5, 0))), (8, .inl (is (I64 x6))), (9, .inl (is (I64 x7))), (10, .inl (big x9)), (11, .inl (big x10))], [(3, pb 23 [is (U8 a0_0), is (U8 a0_1)]), (5, pb 119 [is (Bl x2), big x3, big x4])]⟩
                      have hr : some r = F136_7 N a0_0 a0_1 a1 x2 x3 x4 x6 x7 x9 x10 := hr
                      refine AW_cut (σ := Nat × Int × Bool) (fun v => ⟨[(1, .inl (is (U8 a1))), (3, .inr (.inl (3, 0))), (5, .inr (.inl (5, 0))), (8, .inl (is (I64 x6))), (9, .inl (is (I64 x7))), (13, .inr (.inl (13, 0))), (12, .inl (big v.1))], [(3, pb 23 [is (U8 a0_0), is (U8 a0_1)]), (5, pb 119 [is (Bl x2), big x3, big x4]), (13, pb 181 [is (I8 v.2.1), is (Bl v.2.2)])]⟩) (fun v => some r = F136_8 N a0_0 a0_1 a1 x2 x3 x4 x6 x7 v.1 v.2.1 v.2.2) ?_ ?_
                      · skip
                        refine AW_region ?_
                        refine AL_cons (LR_move (at_tmp 1 _) rfl) (sS (sT1 rfl) sB0 sF0) ?_
                        refine AL_cons (LR_fieldAddr (off := 0) (o := 0) (at_tmp 5 _) (fun b w => fa119_0 b 0 w) rfl) (sS (sT1 rfl) sB0 sF0) ?_
                        refine AL_cons (LR_load (at_tmp 74 _) na4 rfl rfl) (sS (sT1 rfl) (sB1 rfl) sF0) ?_
                        refine AL_cons (LR_move (at_tmp 10 _) rfl) (sS (sT1 rfl) sB0 sF0) ?_
                        refine AL_cons (LR_move (at_tmp 11 _) rfl) (sS (sT1 rfl) sB0 sF0) ?_
                        obtain ⟨y38, hy38, hr⟩ := bind_some hr
                        refine AL_cons (LR_call Hfaa.func245 rfl rfl (C245 N a1 x2 x9 x10 y38 hy38) (all_cons (at_tmp 73 _) (all_cons (at_tmp 75 _) (all_cons (at_tmp 76 _) (all_cons (at_tmp 77 _) all_nil)))) rfl) (sS (sA (sT1 rfl) (sA (sT1 rfl) (sA (sT1 rfl) (sA (sT1 rfl) sT0)))) sB0 sF0) ?_
                        refine AL_cons (LR_move (at_tmp 78 _) rfl) (sS (sT1 rfl) sB0 sF0) ?_
                        refine AL_cons (LR_extract (at_tmp 72 _) rfl rfl) (sS (sT1 rfl) sB0 sF0) ?_
                        refine AL_cons (LR_extract (at_tmp 72 _) rfl rfl) (sS (sT1 rfl) sB0 sF0) ?_
                        refine AL_cons (zl181 rfl) (sS sT0 sB0 (sF1 rfl)) ?_
                        refine AL_cons (LR_assign (at_tmp 79 _) rfl) (sS (sT1 rfl) sB0 sF0) ?_
                        refine AL_cons (LR_store (at_tmp 13 _) (at_tmp 80 _) (cells_agg _) (onC (one_is rfl) (onC (one_is rfl) onN)) sz181 rfl rfl) (sS (sA (sT1 rfl) (sT1 rfl)) (sB1 rfl) sF0) ?_
                        refine AL_nil ?_
                        exact thenN (cutLeaf (v := (y38.1, y38.2.1, y38.2.2)) hr (weak0 ((sT rfl (sT rfl (sT rfl (sT rfl (sT rfl (sT rfl (sT rfl sT0)))))))) (sub_keep (sub_keep (sub_keep sub_nil)))))
                      · rintro ⟨x11, x12, x13⟩ hr
                        show AW Hfaa.prog _ _ _ ⟨[(1, .inl (is (U8 a1))), (3, .inr (.inl (3, 0))), (5, .inr (.inl (5, 0))), (8, .inl (is (I64 x6))), (9, .inl (is (I64 x7))), (13, .inr (.inl (13, 0))), (12, .inl (big x11))], [(3, pb 23 [is (U8 a0_0), is (U8 a0_1)]), (5, pb 119 [is (Bl x2), big x3, big x4]), (13, pb 181 [is (I8 x12), is (Bl x13)])]⟩
                        have hr : some r = F136_8 N a0_0 a0_1 a1 x2 x3 x4 x6 x7 x11 x12 x13 := hr
                        refine AW_cut (σ := Bool) (fun v => ⟨[(1, .inl (is (U8 a1))), (3, .inr (.inl (3, 0))), (5, .inr (.inl (5, 0))), (8, .inl (is (I64 x6))), (9, .inl (is (I64 x7))), (13, .inr (.inl (13, 0))), (12, .inl (big x11)), (14, .inl (is (Bl v)))], [(3, pb 23 [is (U8 a0_0), is (U8 a0_1)]), (5, pb 119 [is (Bl x2), big x3, big x4]), (13, pb 181 [is (I8 x12), is (Bl x13)])]⟩) (fun v => some r = F136_9 N a0_0 a0_1 a1 x2 x3 x4 x6 x7 x11 x12 x13 v) ?_ ?_
                        · skip
                          refine AW_region ?_
                          refine AL_cons (LR_move (at_tmp 8 _) rfl) (sS (sT1 rfl) sB0 sF0) ?_
                          refine AL_cons (LR_loads (at_tmp 3 _) ag23 sz23 rfl rfl rfl) (sS (sT1 rfl) (sB1 rfl) sF0) ?_
                          obtain ⟨y37, hy37, hr⟩ := lt_some hr
                          refine AL_cons (LR_call Hfaa.func246 rfl rfl (C246 a0_0 a0_1 y37 hy37) (all_cons (at_tmp 82 _) all_nil) rfl) (sS (sA (sT1 rfl) sT0) sB0 sF0) ?_
                          refine AL_cons (LR_bin (at_tmp 81 _) (at_tmp 83 _) (lss_I64 x6 y37) rfl) (sS (sA (sT1 rfl) (sT1 rfl)) sB0 sF0) ?_
                          refine AL_cons (LR_assign (at_tmp 84 _) rfl) (sS (sT1 rfl) sB0 sF0) ?_
                          refine AL_nil ?_
                          exact thenN (cutLeaf (v := decide (x6 < y37)) hr (weak0 ((sT rfl (sT rfl (sT rfl (sT rfl (sT rfl (sT rfl (sT rfl (sT rfl sT0))))))))) (sub_keep (sub_keep (sub_keep sub_nil)))))
                        · rintro x14 hr
                          show AW Hfaa.prog _ _ _ ⟨[(1, .inl (is (U8 a1))), (3, .inr (.inl (3, 0))), (5, .inr (.inl (5, 0))), (8, .inl (is (I64 x6))), (9, .inl (is (I64 x7))), (13, .inr (.inl (13, 0))), (12, .inl (big x11)), (14, .inl (is (Bl x14)))], [(3, pb 23 [is (U8 a0_0), is (U8 a0_1)]), (5, pb 119 [is (Bl x2), big x3, big x4]), (13, pb 181 [is (I8 x12), is (Bl x13)])]⟩
                          have hr : some r = F136_9 N a0_0 a0_1 a1 x2 x3 x4 x6 x7 x11 x12 x13 x14 := hr
                          refine AW_cut (σ := Bool) (fun v => ⟨[(1, .inl (is (U8 a1))), (3, .inr (.inl (3, 0))), (5, .inr (.inl (5, 0))), (9, .inl (is (I64 x7))), (13, .inr (.inl (13, 0))), (12, .inl (big x11)), (14, .inl (is (Bl v)))], [(3, pb 23 [is (U8 a0_0), is (U8 a0_1)]), (5, pb 119 [is (Bl x2), big x3, big x4]), (13, pb 181 [is (I8 x12), is (Bl x13)])]⟩) (fun v => some r = F136_10 N a0_0 a0_1 a1 x2 x3 x4 x7 x11 x12 x13 v) ?_ ?_
                          · skip
                            refine AW_cut (σ := Bool) (fun v => ⟨[(1, .inl (is (U8 a1))), (3, .inr (.inl (3, 0))), (5, .inr (.inl (5, 0))), (8, .inl (is (I64 x6))), (9, .inl (is (I64 x7))), (13, .inr (.inl (13, 0))), (12, .inl (big x11)), (14, .inl (is (Bl x14))), (89, .inl (is (Bl v)))], [(3, pb 23 [is (U8 a0_0), is (U8 a0_1)]), (5, pb 119 [is (Bl x2), big x3, big x4]), (13, pb 181 [is (I8 x12), is (Bl x13)])]⟩) (fun v => some r = F136_11 N a0_0 a0_1 a1 x2 x3 x4 x6 x7 x11 x12 x13 x14 v) ?_ ?_
                            · skip
                              refine AW_region ?_
                              refine AL_cons (LR_move (at_tmp 8 _) rfl) (sS (sT1 rfl) sB0 sF0) ?_
                              refine AL_cons (LR_loads (at_tmp 3 _) ag23 sz23 rfl rfl rfl) (sS (sT1 rfl) (sB1 rfl) sF0) ?_
                              obtain ⟨y36, hy36, hr⟩ := lt_some hr
                              refine AL_cons (LR_call Hfaa.func246 rfl rfl (C246 a0_0 a0_1 y36 hy36) (all_cons (at_tmp 86 _) all_nil) rfl) (sS (sA (sT1 rfl) sT0) sB0 sF0) ?_
                              refine AL_cons (LR_bin (at_tmp 87 _) (at_c (v' := I64 1) rfl) (sub_I64 y36 1) rfl) (sS (sA (sT1 rfl) sT0) sB0 sF0) ?_
                              refine AL_cons (LR_bin (at_tmp 85 _) (at_tmp 88 _) (eql_I64 x6 (w64 (y36 - 1))) rfl) (sS (sA (sT1 rfl) (sT1 rfl)) sB0 sF0) ?_
                              refine AL_nil ?_
                              exact thenN (cutLeaf (v := x6 == (w64 (y36 - 1))) hr (weak0 ((sT rfl (sT rfl (sT rfl (sT rfl (sT rfl (sT rfl (sT rfl (sT rfl (sT rfl sT0)))))))))) (sub_keep (sub_keep (sub_keep sub_nil)))))
                            · rintro x16 hr
                              show AW Hfaa.prog _ _ _ ⟨[(1, .inl (is (U8 a1))), (3, .inr (.inl (3, 0))), (5, .inr (.inl (5, 0))), (8, .inl (is (I64 x6))), (9, .inl (is (I64 x7))), (13, .inr (.inl (13, 0))), (12, .inl (big x11)), (14, .inl (is (Bl x14))), (89, .inl (is (Bl x16)))], [(3, pb 23 [is (U8 a0_0), is (U8 a0_1)]), (5, pb 119 [is (Bl x2), big x3, big x4]), (13, pb 181 [is (I8 x12), is (Bl x13)])]⟩
                              have hr : some r = F136_11 N a0_0 a0_1 a1 x2 x3 x4 x6 x7 x11 x12 x13 x14 x16 := hr
                              refine AW_condT (b := x16) rfl (fun h => ?_) (fun h => ?_)
                              · have hr := hr.trans (cond_t h)
                                clear h
                                refine AW_cut (σ := Nat × Nat) (fun v => ⟨[(1, .inl (is (U8 a1))), (3, .inr (.inl (3, 0))), (5, .inr (.inl (5, 0))), (9, .inl (is (I64 x7))), (13, .inr (.inl (13, 0))), (12, .inl (big x11)), (10, .inl (big v.1)), (11, .inl (big v.2))], [(3, pb 23 [is (U8 a0_0), is (U8 a0_1)]), (5, pb 119 [is (Bl x2), big x3, big x4]), (13, pb 181 [is (I8 x12), is (Bl x13)])]⟩) (fun v => some r = F136_12 N a0_0 a0_1 a1 x2 x3 x4 x7 x11 x12 x13 v.1 v.2) ?_ ?_
                                · skip
                                  refine AW_region ?_
                                  refine AL_cons (LR_fieldAddr (off := 0) (o := 1) (at_tmp 5 _) (fun b w => fa119_1 b 0 w) rfl) (sS (sT1 rfl) sB0 sF0) ?_
                                  refine AL_cons (LR_load (at_tmp 91 _) na49 rfl rfl) (sS (sT1 rfl) (sB1 rfl) sF0) ?_
                                  refine AL_cons (LR_fieldAddr (off := 0) (o := 2) (at_tmp 5 _) (fun b w => fa119_2 b 0 w) rfl) (sS (sT1 rfl) sB0 sF0) ?_
                                  refine AL_cons (LR_load (at_tmp 93 _) na49 rfl rfl) (sS (sT1 rfl) (sB1 rfl) sF0) ?_
                                  refine AL_cons (LR_fieldAddr (off := 0) (o := 1) (at_tmp 3 _) (fun b w => fa23_1 b 0 w) rfl) (sS (sT1 rfl) sB0 sF0) ?_
                                  refine AL_cons (LR_load (at_tmp 95 _) na5 rfl rfl) (sS (sT1 rfl) (sB1 rfl) sF0) ?_
                                  refine AL_cons (LR_conv (vx := U8 a0_1) (at_tmp 96 _) (conv_I64 Hfaa.underlying5 Hfaa.underlying3 (a0_1.toNat : Int)) rfl) (sS (sT1 rfl) sB0 sF0) ?_
                                  refine AL_cons (LR_move (at_tmp 8 _) rfl) (sS (sT1 rfl) sB0 sF0) ?_
                                  refine AL_cons (LR_bin (at_tmp 97 _) (at_tmp 98 _) (sub_I64 (w64 (a0_1.toNat : Int)) x6) rfl) (sS (sA (sT1 rfl) (sT1 rfl)) sB0 sF0) ?_
                                  obtain ⟨y35, hy35, hr⟩ := bind_some hr
                                  refine AL_cons (LR_call Hfaa.func208 rfl rfl (C208 N x3 x4 (w64 ((w64 (a0_1.toNat : Int)) - x6)) y35 hy35) (all_cons (at_tmp 92 _) (all_cons (at_tmp 94 _) (all_cons (at_tmp 99 _) all_nil))) rfl) (sS (sA (sT1 rfl) (sA (sT1 rfl) (sA (sT1 rfl) sT0))) sB0 sF0) ?_
                                  refine AL_cons (LR_move (at_tmp 100 _) rfl) (sS (sT1 rfl) sB0 sF0) ?_
                                  refine AL_cons (LR_extract (at_tmp 90 _) rfl rfl) (sS (sT1 rfl) sB0 sF0) ?_
                                  refine AL_cons (LR_extract (at_tmp 90 _) rfl rfl) (sS (sT1 rfl) sB0 sF0) ?_
                                  refine AL_cons (LR_assign (at_tmp 101 _) rfl) (sS (sT1 rfl) sB0 sF0) ?_
                                  refine AL_cons (LR_assign (at_tmp 102 _) rfl) (sS (sT1 rfl) sB0 sF0) ?_
                                  refine AL_nil ?_
                                  exact thenN (cutLeaf (v := (y35.1, y35.2)) hr (weak0 ((sT rfl (sT rfl (sT rfl (sT rfl (sT rfl (sT rfl (sT rfl (sT rfl sT0))))))))) (sub_keep (sub_keep (sub_keep sub_nil)))))
                                · rintro ⟨x17, x18⟩ hr
                                  show AW Hfaa.prog _ _ _ ⟨[(1, .inl (is (U8 a1))), (3, .inr (.inl (3, 0))), (5, .inr (.inl (5, 0))), (9, .inl (is (I64 x7))), (13, .inr (.inl (13, 0))), (12, .inl (big x11)), (10, .inl (big x17)), (11, .inl (big x18))], [(3, pb 23 [is (U8 a0_0), is (U8 a0_1)]), (5, pb 119 [is (Bl x2), big x3, big x4]), (13, pb 181 [is (I8 x12), is (Bl x13)])]⟩
                                  have hr : some r = F136_12 N a0_0 a0_1 a1 x2 x3 x4 x7 x11 x12 x13 x17 x18 := hr
                                  refine AW_cut (σ := Nat) (fun v => ⟨[(1, .inl (is (U8 a1))), (3, .inr (.inl (3, 0))), (5, .inr (.inl (5, 0))), (9, .inl (is (I64 x7))), (13, .inr (.inl (13, 0))), (12, .inl (big x11)), (15, .inl (big v))], [(3, pb 23 [is (U8 a0_0), is (U8 a0_1)]), (5, pb 119 [is (Bl x2), big x3, big x4]), (13, pb 181 [is (I8 x12), is (Bl x13)])]⟩) (fun v => some r = F136_13 N a0_0 a0_1 a1 x2 x3 x4 x7 x11 x12 x13 v) ?_ ?_
                                  · skip
                                    refine AW_region ?_
                                    refine AL_cons (LR_move (at_tmp 1 _) rfl) (sS (sT1 rfl) sB0 sF0) ?_
                                    refine AL_cons (LR_fieldAddr (off := 0) (o := 0) (at_tmp 5 _) (fun b w => fa119_0 b 0 w) rfl) (sS (sT1 rfl) sB0 sF0) ?_
                                    refine AL_cons (LR_load (at_tmp 105 _) na4 rfl rfl) (sS (sT1 rfl) (sB1 rfl) sF0) ?_
                                    refine AL_cons (LR_move (at_tmp 10 _) rfl) (sS (sT1 rfl) sB0 sF0) ?_
                                    refine AL_cons (LR_move (at_tmp 11 _) rfl) (sS (sT1 rfl) sB0 sF0) ?_
                                    obtain ⟨y34, hy34, hr⟩ := bind_some hr
                                    refine AL_cons (LR_call Hfaa.func245 rfl rfl (C245 N a1 x2 x17 x18 y34 hy34) (all_cons (at_tmp 104 _) (all_cons (at_tmp 106 _) (all_cons (at_tmp 107 _) (all_cons (at_tmp 108 _) all_nil)))) rfl) (sS (sA (sT1 rfl) (sA (sT1 rfl) (sA (sT1 rfl) (sA (sT1 rfl) sT0)))) sB0 sF0) ?_
                                    refine AL_cons (LR_move (at_tmp 109 _) rfl) (sS (sT1 rfl) sB0 sF0) ?_
                                    refine AL_cons (LR_extract (at_tmp 103 _) rfl rfl) (sS (sT1 rfl) sB0 sF0) ?_
                                    refine AL_cons (LR_extract (at_tmp 103 _) rfl rfl) (sS (sT1 rfl) sB0 sF0) ?_
                                    refine AL_cons (zl181 rfl) (sS sT0 sB0 (sF1 rfl)) ?_
                                    refine AL_cons (LR_assign (at_tmp 110 _) rfl) (sS (sT1 rfl) sB0 sF0) ?_
                                    refine AL_cons (LR_store (at_tmp 16 _) (at_tmp 111 _) (cells_agg _) (onC (one_is rfl) (onC (one_is rfl) onN)) sz181 rfl rfl) (sS (sA (sT1 rfl) (sT1 rfl)) (sB1 rfl) sF0) ?_
                                    refine AL_nil ?_
                                    exact thenN (cutLeaf (v := y34.1) hr (weak0 ((sT rfl (sT rfl (sT rfl (sT rfl (sT rfl (sT rfl (sT rfl sT0)))))))) (sub_keep (sub_keep (sub_keep (sub_drop sub_nil))))))
                                  · rintro x19 hr
                                    show AW Hfaa.prog _ _ _ ⟨[(1, .inl (is (U8 a1))), (3, .inr (.inl (3, 0))), (5, .inr (.inl (5, 0))), (9, .inl (is (I64 x7))), (13, .inr (.inl (13, 0))), (12, .inl (big x11)), (15, .inl (big x19))], [(3, pb 23 [is (U8 a0_0), is (U8 a0_1)]), (5, pb 119 [is (Bl x2), big x3, big x4]), (13, pb 181 [is (I8 x12), is (Bl x13)])]⟩
                                    have hr : some r = F136_13 N a0_0 a0_1 a1 x2 x3 x4 x7 x11 x12 x13 x19 := hr
                                    obtain ⟨hg4, hr⟩ := guard_some hr
                                    refine AW_draw mixed
                                      (lrC (LR_move (at_tmp 15 _) rfl)
                                      (lrC (LR_call Hfaa.func34 rfl rfl (B34 x19 hg4) (all_cons (at_tmp 112 _) all_nil) rfl)
                                      (lrC (LR_fieldAddr (off := 0) (o := 1) (at_tmp 3 _) (fun b w => fa23_1 b 0 w) rfl)
                                      (lrC (LR_load (at_tmp 114 _) na5 rfl rfl)
                                      (lrC (LR_conv (vx := U8 a0_1) (at_tmp 115 _) (conv_I64 Hfaa.underlying5 Hfaa.underlying3 (a0_1.toNat : Int)) rfl)
                                      (lrC (LR_bin (at_tmp 116 _) (at_c (v' := I64 1) rfl) (add_I64 (w64 (a0_1.toNat : Int)) 1) rfl)
                                      (lrC (LR_bin (at_tmp 113 _) (at_tmp 117 _) (eql_I64 (blen x19 : Int) (w64 ((w64 (a0_1.toNat : Int)) + 1))) rfl)
                                      (lrC (LR_assign (at_tmp 118 _) rfl)
                                      lrN))))))))
                                      (by kernel_rfl)
                                      (saC (sS (sT1 rfl) sB0 sF0) (saC (sS (sA (sT1 rfl) sT0) sB0 sF0) (saC (sS (sT1 rfl) sB0 sF0) (saC (sS (sT1 rfl) (sB1 rfl) sF0) (saC (sS (sT1 rfl) sB0 sF0) (saC (sS (sA (sT1 rfl) sT0) sB0 sF0) (saC (sS (sA (sT1 rfl) (sT1 rfl)) sB0 sF0) (saC (sS (sT1 rfl) sB0 sF0) saN)))))))) ?_
                                    exact thenN (cutLeaf (v := (blen x19 : Int) == (w64 ((w64 (a0_1.toNat : Int)) + 1))) hr (weak0 ((sT rfl (sT rfl (sT rfl (sT rfl (sT rfl (sT rfl (sT rfl sT0)))))))) (sub_keep (sub_keep (sub_keep sub_nil)))))
                              · have hr := hr.trans (cond_f h)
                                clear h
                                refine AW_skip ?_
                                exact thenN (cutLeaf (v := x14) hr (weak0 ((sT rfl (sT rfl (sT rfl (sT rfl (sT rfl (sT rfl (sT rfl sT0)))))))) (sub_keep (sub_keep (sub_keep sub_nil)))))
                          · rintro x15 hr
                            show AW Hfaa.prog _ _ _ ⟨[(1, .inl (is (U8 a1))), (3, .inr (.inl (3, 0))), (5, .inr (.inl (5, 0))), (9, .inl (is (I64 x7))), (13, .inr (.inl (13, 0))), (12, .inl (big x11)), (14, .inl (is (Bl x15)))], [(3, pb 23 [is (U8 a0_0), is (U8 a0_1)]), (5, pb 119 [is (Bl x2), big x3, big x4]), (13, pb 181 [is (I8 x12), is (Bl x13)])]⟩
                            have hr : some r = F136_10 N a0_0 a0_1 a1 x2 x3 x4 x7 x11 x12 x13 x15 := hr
                            refine AW_seq1 ?_
                            obtain ⟨hg3, hr⟩ := guard_some hr
                            obtain ⟨y30, hy30, hr⟩ := lt_some hr
                            refine AW_draw mixed
                              (lrC (LR_loads (at_tmp 3 _) ag23 sz23 rfl rfl rfl)
                              (lrC (LR_move (at_tmp 1 _) rfl)
                              (lrC (LR_fieldAddr (off := 0) (o := 0) (at_tmp 5 _) (fun b w => fa119_0 b 0 w) rfl)
                              (lrC (LR_load (at_tmp 121 _) na4 rfl rfl)
                              (lrC (LR_move (at_tmp 9 _) rfl)
                              (lrC (LR_move (at_tmp 12 _) rfl)
                              (lrC (LR_call Hfaa.func210 rfl rfl (B210 x11 hg3) (all_cons (at_tmp 124 _) all_nil) rfl)
                              (lrC (LR_loads (at_tmp 13 _) ag181 sz181 rfl rfl rfl)
                              (lrC (LR_move (at_tmp 14 _) rfl)
                              (lrC (LR_call Hfaa.func249 rfl rfl (C249 a0_0 a0_1 a1 x2 x7 (BitVec.ofNat 64 x11) x12 x13 x15 y30 hy30) (all_cons (at_tmp 119 _) (all_cons (at_tmp 120 _) (all_cons (at_tmp 122 _) (all_cons (at_tmp 123 _) (all_cons (at_tmp 125 _) (all_cons (at_tmp 126 _) (all_cons (at_tmp 127 _) all_nil))))))) rfl)
                              (lrC (LR_extract (at_tmp 128 _) rfl rfl)
                              (lrC (LR_extract (at_tmp 128 _) rfl rfl)
                              (lrC (LR_assign (at_tmp 129 _) rfl)
                              (lrC (LR_assign (at_tmp 130 _) rfl)
                              lrN))))))))))))))
                              (by kernel_rfl)
                              (saC (sS (sT1 rfl) (sB1 rfl) sF0) (saC (sS (sT1 rfl) sB0 sF0) (saC (sS (sT1 rfl) sB0 sF0) (saC (sS (sT1 rfl) (sB1 rfl) sF0) (saC (sS (sT1 rfl) sB0 sF0) (saC (sS (sT1 rfl) sB0 sF0) (saC (sS (sA (sT1 rfl) sT0) sB0 sF0) (saC (sS (sT1 rfl) (sB1 rfl) sF0) (saC (sS (sT1 rfl) sB0 sF0) (saC (sS (sA (sT1 rfl) (sA (sT1 rfl) (sA (sT1 rfl) (sA (sT1 rfl) (sA (sT1 rfl) (sA (sT1 rfl) (sA (sT1 rfl) sT0))))))) sB0 sF0) (saC (sS (sT1 rfl) sB0 sF0) (saC (sS (sT1 rfl) sB0 sF0) (saC (sS (sT1 rfl) sB0 sF0) (saC (sS (sT1 rfl) sB0 sF0) saN)))))))))))))) ?_
                            refine thenN ?_
                            refine AW_ret ?_
                            obtain rfl := Option.some.inj hr
                            exact res2 rfl (rvT rfl) (rvT rfl)
/-- exact.AddFlags -/
def F192_9 (N : Nat) (a0_0 : BitVec 8) (a0_1 : BitVec 8) (a1 : BitVec 8) (x2 : BitVec 64) (x3 : Bool) (x4 : Int) (x5 : Bool) (x6 : Nat) (x7 : Nat) (x22 : Bool) : Option (BitVec 64 × BitVec 8) := bif x22 then lt (F251 a0_0 a0_1 x3) fun y28 => some (y28, 0#8) else lt (F251 a0_0 a0_1 (a1 == (4#8))) fun y30 => some (y30, 0#8)
def F192_8 (N : Nat) (a0_0 : BitVec 8) (a0_1 : BitVec 8) (a1 : BitVec 8) (x2 : BitVec 64) (x3 : Bool) (x4 : Int) (x5 : Bool) (x6 : Nat) (x7 : Nat) (x8 : BitVec 64) (x9 : Bool) (x10 : Int) (x11 : Bool) (x12 : Nat) (x13 : Nat) (x18 : Bool) (x19 : Nat) (x20 : Nat) (x21 : Bool) : Option (BitVec 64 × BitVec 8) := bif x21 then F192_9 N a0_0 a0_1 a1 x2 x3 x4 x5 x6 x7 (x3 == x9) else (F136 N a0_0 a0_1 a1 x18 x19 x20).bind fun y32 => some (y32.1, y32.2)
def F192_7 (N : Nat) (a0_0 : BitVec 8) (a0_1 : BitVec 8) (a1 : BitVec 8) (x2 : BitVec 64) (x3 : Bool) (x4 : Int) (x5 : Bool) (x6 : Nat) (x7 : Nat) (x8 : BitVec 64) (x9 : Bool) (x10 : Int) (x11 : Bool) (x12 : Nat) (x13 : Nat) (x18 : Bool) (x19 : Nat) (x20 : Nat) : Option (BitVec 64 × BitVec 8) := F192_8 N a0_0 a0_1 a1 x2 x3 x4 x5 x6 x7 x8 x9 x10 x11 x12 x13 x18 x19 x20 (x19 == 0)
def F192_6 (N : Nat) (a0_0 : BitVec 8) (a0_1 : BitVec 8) (a1 : BitVec 8) (x2 : BitVec 64) (x3 : Bool) (x4 : Int) (x5 : Bool) (x6 : Nat) (x7 : Nat) (x8 : BitVec 64) (x9 : Bool) (x10 : Int) (x11 : Bool) (x12 : Nat) (x13 : Nat) (x17 : Bool) : Option (BitVec 64 × BitVec 8) := bif x17 then some (x8, 0#8) else (F146 N x5 x6 x7 x11 x12 x13).bind fun y33 => F192_7 N a0_0 a0_1 a1 x2 x3 x4 x5 x6 x7 x8 x9 x10 x11 x12 x13 y33.1 y33.2.1 y33.2.2
def F192_5 (N : Nat) (a0_0 : BitVec 8) (a0_1 : BitVec 8) (a1 : BitVec 8) (x2 : BitVec 64) (x3 : Bool) (x4 : Int) (x5 : Bool) (x6 : Nat) (x7 : Nat) (x8 : BitVec 64) (x9 : Bool) (x10 : Int) (x11 : Bool) (x12 : Nat) (x13 : Nat) (x16 : Bool) : Option (BitVec 64 × BitVec 8) := bif x16 then some (x2, 0#8) else F192_6 N a0_0 a0_1 a1 x2 x3 x4 x5 x6 x7 x8 x9 x10 x11 x12 x13 (x10 == 3)
def F192_4 (N : Nat) (a0_0 : BitVec 8) (a0_1 : BitVec 8) (a1 : BitVec 8) (x2 : BitVec 64) (x3 : Bool) (x4 : Int) (x5 : Bool) (x6 : Nat) (x7 : Nat) (x8 : BitVec 64) (x9 : Bool) (x10 : Int) (x11 : Bool) (x12 : Nat) (x13 : Nat) (x15 : Bool) : Option (BitVec 64 × BitVec 8) := bif x15 then lt (F66 a0_0 a0_1) fun y17 => some (y17, 1#8) else F192_5 N a0_0 a0_1 a1 x2 x3 x4 x5 x6 x7 x8 x9 x10 x11 x12 x13 (x4 == 3)
def F192_3 (N : Nat) (a0_0 : BitVec 8) (a0_1 : BitVec 8) (a1 : BitVec 8) (a2 : BitVec 64) (a3 : BitVec 64) (x2 : BitVec 64) (x3 : Bool) (x4 : Int) (x5 : Bool) (x6 : Nat) (x7 : Nat) (x8 : BitVec 64) (x9 : Bool) (x10 : Int) (x11 : Bool) (x12 : Nat) (x13 : Nat) (x14 : Bool) : Option (BitVec 64 × BitVec 8) := bif x14 then lt (F66 a0_0 a0_1) fun y14 => lt (F216 a0_0 a0_1 a2 a3) fun y15 => some (y14, y15) else F192_4 N a0_0 a0_1 a1 x2 x3 x4 x5 x6 x7 x8 x9 x10 x11 x12 x13 (((x4 == 3) && (x10 == 3)) && (x3 != x9))
def F192_2 (N : Nat) (a0_0 : BitVec 8) (a0_1 : BitVec 8) (a1 : BitVec 8) (a2 : BitVec 64) (a3 : BitVec 64) (x2 : BitVec 64) (x3 : Bool) (x4 : Int) (x5 : Bool) (x6 : Nat) (x7 : Nat) (x8 : BitVec 64) (x9 : Bool) (x10 : Int) (x11 : Bool) (x12 : Nat) (x13 : Nat) : Option (BitVec 64 × BitVec 8) := F192_3 N a0_0 a0_1 a1 a2 a3 x2 x3 x4 x5 x6 x7 x8 x9 x10 x11 x12 x13 ((x4 == 4) || (x10 == 4))
def F192_1 (N : Nat) (a0_0 : BitVec 8) (a0_1 : BitVec 8) (a1 : BitVec 8) (a2 : BitVec 64) (a3 : BitVec 64) (x1 : Bool) : Option (BitVec 64 × BitVec 8) := bif x1 then some (0#64, 0#8) else (F144 N a0_0 a0_1 a2).bind fun y34 => (F144 N a0_0 a0_1 a3).bind fun y35 => F192_2 N a0_0 a0_1 a1 a2 a3 y34.1 y34.2.1 y34.2.2.1 y34.2.2.2.1 y34.2.2.2.2.1 y34.2.2.2.2.2 y35.1 y35.2.1 y35.2.2.1 y35.2.2.2.1 y35.2.2.2.2.1 y35.2.2.2.2.2
def F192 (N : Nat) (a0_0 : BitVec 8) (a0_1 : BitVec 8) (a1 : BitVec 8) (a2 : BitVec 64) (a3 : BitVec 64) : Option (BitVec 64 × BitVec 8) := lt (F40 a0_0 a0_1) fun y36 => F192_1 N a0_0 a0_1 a1 a2 a3 (!y36)
theorem C192 (N : Nat) (a0_0 : BitVec 8) (a0_1 : BitVec 8) (a1 : BitVec 8) (a2 : BitVec 64) (a3 : BitVec 64) (r : BitVec 64 × BitVec 8) (hr : some r = F192 N a0_0 a0_1 a1 a2 a3) : Aw.Fn Hfaa.prog 192 [agg [is (U8 a0_0), is (U8 a0_1)], is (U8 a1), is (U64 a2), is (U64 a3)] (tup [is (U64 r.1), is (U8 r.2)]) := by
  refine fn_intro Hfaa.func192 rfl rfl rfl ?_
  intro bn0 w0 H0
  refine AW_seq1 ?_
  refine AW_region ?_
  refine AL_cons (LR_box (at_tmp 0 _) (cells_agg _) rfl) (sS (sT1 rfl) sB0 (sF1 rfl)) ?_
  refine AL_cons (LR_assign (at_c (v' := U64 (0#64)) rfl) rfl) (sS sT0 sB0 sF0) ?_
  refine AL_cons (LR_assign (at_c (v' := U8 (0#8)) rfl) rfl) (sS sT0 sB0 sF0) ?_
  refine AL_nil ?_
  refine thenN ?_
  refine AW_seq1 ?_
  refine AW_cut (σ := Bool) (fun v => ⟨[(1, .inl (is (U8 a1))), (2, .inl (is (U64 a2))), (3, .inl (is (U64 a3))), (4, .inr (.inl (4, 0))), (15, .inl (is (Bl v)))], [(4, pb 23 [is (U8 a0_0), is (U8 a0_1)])]⟩) (fun v => some r = F192_1 N a0_0 a0_1 a1 a2 a3 v) ?_ ?_
  · skip
    refine AW_region ?_
    refine AL_cons (LR_loads (at_tmp 4 _) ag23 sz23 rfl rfl rfl) (sS (sT1 rfl) (sB1 rfl) sF0) ?_
    obtain ⟨y36, hy36, hr⟩ := lt_some hr
    refine AL_cons (LR_call Hfaa.func40 rfl rfl (C40 a0_0 a0_1 y36 hy36) (all_cons (at_tmp 13 _) all_nil) rfl) (sS (sA (sT1 rfl) sT0) sB0 sF0) ?_
    refine AL_cons (LR_un (at_tmp 14 _) (not_Bl y36) rfl) (sS (sT1 rfl) sB0 sF0) ?_
    refine AL_nil ?_
    exact thenN (cutLeaf (v := !y36) hr (weak0 ((sT rfl (sT rfl (sT rfl (sT rfl (sT rfl sT0)))))) (sub_keep sub_nil)))
  · rintro x1 hr
    show AW Hfaa.prog _ _ _ ⟨[(1, .inl (is (U8 a1))), (2, .inl (is (U64 a2))), (3, .inl (is (U64 a3))), (4, .inr (.inl (4, 0))), (15, .inl (is (Bl x1)))], [(4, pb 23 [is (U8 a0_0), is (U8 a0_1)])]⟩
    have hr : some r = F192_1 N a0_0 a0_1 a1 a2 a3 x1 := hr
    refine AW_condT (b := x1) rfl (fun h => ?_) (fun h => ?_)
    · have hr := hr.trans (cond_t h)
      clear h
      refine AW_seq1 ?_
      refine AW_region ?_
      refine AL_cons (LR_assign (at_c (v' := U64 (0#64)) rfl) rfl) (sS sT0 sB0 sF0) ?_
      refine AL_cons (LR_assign (at_c (v' := U8 (0#8)) rfl) rfl) (sS sT0 sB0 sF0) ?_
      refine AL_nil ?_
      refine thenN ?_
      refine AW_ret ?_
      refine thenR ?_
      obtain rfl := Option.some.inj hr
      exact res2 rfl (rvT rfl) (rvT rfl)
    · have hr := hr.trans (cond_f h)
      clear h
      refine AW_skip ?_
      refine thenN ?_
      refine AW_cut (σ := BitVec 64 × Bool × Int × Bool × Nat × Nat × BitVec 64 × Bool × Int × Bool × Nat × Nat) (fun v => ⟨[(1, .inl (is (U8 a1))), (2, .inl (is (U64 a2))), (3, .inl (is (U64 a3))), (4, .inr (.inl (4, 0))), (10, .inr (.inl (10, 0))), (11, .inr (.inl (11, 0)))], [(4, pb 23 [is (U8 a0_0), is (U8 a0_1)]), (10, pb 175 [is (U64 v.1), is (Bl v.2.1), is (I8 v.2.2.1), is (Bl v.2.2.2.1), big v.2.2.2.2.1, big v.2.2.2.2.2.1]), (11, pb 175 [is (U64 v.2.2.2.2.2.2.1), is (Bl v.2.2.2.2.2.2.2.1), is (I8 v.2.2.2.2.2.2.2.2.1), is (Bl v.2.2.2.2.2.2.2.2.2.1), big v.2.2.2.2.2.2.2.2.2.2.1, big v.2.2.2.2.2.2.2.2.2.2.2])]⟩) (fun v => some r = F192_2 N a0_0 a0_1 a1 a2 a3 v.1 v.2.1 v.2.2.1 v.2.2.2.1 v.2.2.2.2.1 v.2.2.2.2.2.1 v.2.2.2.2.2.2.1 v.2.2.2.2.2.2.2.1 v.2.2.2.2.2.2.2.2.1 v.2.2.2.2.2.2.2.2.2.1 v.2.2.2.2.2.2.2.2.2.2.1 v.2.2.2.2.2.2.2.2.2.2.2) ?_ ?_
      · skip
        obtain ⟨y34, hy34, hr⟩ := bind_some hr
        obtain ⟨y35, hy35, hr⟩ := bind_some hr
        refine AW_draw mixed
          (lrC (LR_loads (at_tmp 4 _) ag23 sz23 rfl rfl rfl)
          (lrC (LR_move (at_tmp 2 _) rfl)
          (lrC (LR_call Hfaa.func144 rfl rfl (C144 N a0_0 a0_1 a2 y34 hy34) (all_cons (at_tmp 16 _) (all_cons (at_tmp 17 _) all_nil)) rfl)
          (lrC (LR_loads (at_tmp 4 _) ag23 sz23 rfl rfl rfl)
          (lrC (LR_move (at_tmp 3 _) rfl)
          (lrC (LR_call Hfaa.func144 rfl rfl (C144 N a0_0 a0_1 a3 y35 hy35) (all_cons (at_tmp 19 _) (all_cons (at_tmp 20 _) all_nil)) rfl)
          (lrC (zl175 rfl)
          (lrC (zl175 rfl)
          (lrC (LR_store (at_tmp 10 _) (at_tmp 18 _) (cells_agg _) (onC (one_is rfl) (onC (one_is rfl) (onC (one_is rfl) (onC (one_is rfl) (onC (one_big _) (onC (one_big _) onN)))))) sz175 rfl rfl)
          (lrC (LR_store (at_tmp 11 _) (at_tmp 21 _) (cells_agg _) (onC (one_is rfl) (onC (one_is rfl) (onC (one_is rfl) (onC (one_is rfl) (onC (one_big _) (onC (one_big _) onN)))))) sz175 rfl rfl)
          lrN))))))))))
          (by kernel_rfl)
          (saC (sS (sT1 rfl) (sB1 rfl) sF0) (saC (sS (sT1 rfl) sB0 sF0) (saC (sS (sA (sT1 rfl) (sA (sT1 rfl) sT0)) sB0 sF0) (saC (sS (sT1 rfl) (sB1 rfl) sF0) (saC (sS (sT1 rfl) sB0 sF0) (saC (sS (sA (sT1 rfl) (sA (sT1 rfl) sT0)) sB0 sF0) (saC (sS sT0 sB0 (sF1 rfl)) (saC (sS sT0 sB0 (sF1 rfl)) (saC (sS (sA (sT1 rfl) (sT1 rfl)) (sB1 rfl) sF0) (saC (sS (sA (sT1 rfl) (sT1 rfl)) (sB1 rfl) sF0) saN)))))))))) ?_
        exact thenN (cutLeaf (v := (y34.1, y34.2.1, y34.2.2.1, y34.2.2.2.1, y34.2.2.2.2.1, y34.2.2.2.2.2, y35.1, y35.2.1, y35.2.2.1, y35.2.2.2.1, y35.2.2.2.2.1, y35.2.2.2.2.2)) hr (weak0 ((sT rfl (sT rfl (sT rfl (sT rfl (sT rfl (sT rfl sT0))))))) (sub_keep (sub_keep (sub_keep sub_nil)))))
      · rintro ⟨x2, x3, x4, x5, x6, x7, x8, x9, x10, x11, x12, x13⟩ hr
        show AW Hfaa.prog _ _ _ ⟨[(1, .inl (is (U8 a1))), (2, .inl (is (U64 a2))), (3, .inl (is (U64 a3))), (4, .inr (.inl (4, 0))), (10, .inr (.inl (10, 0))), (11, .inr (.inl (11, 0)))], [(4, pb 23 [is (U8 a0_0), is (U8 a0_1)]), (10, pb 175 [is (U64 x2), is (Bl x3), is (I8 x4), is (Bl x5), big x6, big x7]), (11, pb 175 [is (U64 x8), is (Bl x9), is (I8 x10), is (Bl x11), big x12, big x13])]⟩
        have hr : some r = F192_2 N a0_0 a0_1 a1 a2 a3 x2 x3 x4 x5 x6 x7 x8 x9 x10 x11 x12 x13 := hr
        refine AW_seq1 ?_
        refine AW_block ?_
        refine AW_cut (σ := Bool) (fun v => ⟨[(1, .inl (is (U8 a1))), (2, .inl (is (U64 a2))), (3, .inl (is (U64 a3))), (4, .inr (.inl (4, 0))), (10, .inr (.inl (10, 0))), (11, .inr (.inl (11, 0))), (22, .inl (is (Bl v)))], [(4, pb 23 [is (U8 a0_0), is (U8 a0_1)]), (10, pb 175 [is (U64 x2), is (Bl x3), is (I8 x4), is (Bl x5), big x6, big x7]), (11, pb 175 [is (U64 x8), is (Bl x9), is (I8 x10), is (Bl x11), big x12, big x13])]⟩) (fun v => some r = F192_3 N a0_0 a0_1 a1 a2 a3 x2 x3 x4 x5 x6 x7 x8 x9 x10 x11 x12 x13 v) ?_ ?_
        · skip
          refine AW_region ?_
          refine AL_cons (LR_fieldAddr (off := 0) (o := 2) (at_tmp 10 _) (fun b w => fa175_2 b 0 w) rfl) (sS (sT1 rfl) sB0 sF0) ?_
          refine AL_cons (LR_load (at_tmp 23 _) na110 rfl rfl) (sS (sT1 rfl) (sB1 rfl) sF0) ?_
          refine AL_cons (LR_bin (at_tmp 24 _) (at_c (v' := I8 4) rfl) (eql_I8 x4 4) rfl) (sS (sA (sT1 rfl) sT0) sB0 sF0) ?_
          refine AL_cons (LR_move (at_tmp 25 _) rfl) (sS (sT1 rfl) sB0 sF0) ?_
          refine AL_cutAt 4 ⟨[(1, .inl (is (U8 a1))), (2, .inl (is (U64 a2))), (3, .inl (is (U64 a3))), (4, .inr (.inl (4, 0))), (10, .inr (.inl (10, 0))), (11, .inr (.inl (11, 0))), (23, .inr (.inl (10, 2))), (24, .inl (is (I8 x4))), (25, .inl (is (Bl (x4 == 4)))), (26, .inl (is (Bl (x4 == 4)))), (30, .inl (is (Bl ((x4 == 4) || (x10 == 4)))))], [(4, pb 23 [is (U8 a0_0), is (U8 a0_1)]), (10, pb 175 [is (U64 x2), is (Bl x3), is (I8 x4), is (Bl x5), big x6, big x7]), (11, pb 175 [is (U64 x8), is (Bl x9), is (I8 x10), is (Bl x11), big x12, big x13])]⟩ ?_ ?_
          · cases hb : x4 == 4
            · skip
              refine AL_cons (LR_on rfl rfl rfl (LR_fieldAddr (off := 0) (o := 2) (at_tmp 11 _) (fun b w => fa175_2 b 0 w) rfl)) (sS (sT rfl (sT1 rfl)) sB0 sF0) ?_
              refine AL_cons (LR_on rfl rfl rfl (LR_load (at_tmp 27 _) na110 rfl rfl)) (sS (sT rfl (sT1 rfl)) (sB1 rfl) sF0) ?_
              refine AL_cons (LR_on rfl rfl rfl (LR_bin (at_tmp 28 _) (at_c (v' := I8 4) rfl) (eql_I8 x10 4) rfl)) (sS (sT rfl (sA (sT1 rfl) sT0)) sB0 sF0) ?_
              refine AL_cons (LR_pick (b := false) (at_tmp 26 _) (at_c (v' := Bl true) rfl) (at_tmp 29 _) rfl) (sS (sA (sT1 rfl) (sA sT0 (sT1 rfl))) sB0 sF0) ?_
              exact AL_nil ⟨rfl, weak0 ((sT rfl (sT rfl (sT rfl (sT rfl (sT rfl (sT rfl (sT rfl (sT rfl (sT rfl (sT rfl (sT rfl sT0)))))))))))) (sub_keep (sub_keep (sub_keep sub_nil)))⟩
            · skip
              refine AL_cons (LR_off (b := true) rfl rfl rfl rfl) (sS (sT1 rfl) sB0 sF0) ?_
              refine AL_cons (LR_off (b := true) rfl rfl rfl rfl) (sS (sT1 rfl) sB0 sF0) ?_
              refine AL_cons (LR_off (b := true) rfl rfl rfl rfl) (sS (sT1 rfl) sB0 sF0) ?_
              refine AL_cons (LR_pick (b := true) (at_tmp 26 _) (at_c (v' := Bl true) rfl) (at_tmp 29 _) rfl) (sS (sA (sT1 rfl) (sA sT0 (sT1 rfl))) sB0 sF0) ?_
              exact AL_nil ⟨rfl, weak0 ((sT rfl (sT rfl (sT rfl (sT rfl (sT rfl (sT rfl (sT rfl (sT rfl (sT rfl (sT rfl (sT rfl sT0)))))))))))) (sub_keep (sub_keep (sub_keep sub_nil)))⟩
          refine AL_cons (LR_assign (at_tmp 30 _) rfl) (sS (sT1 rfl) sB0 sF0) ?_
          refine AL_nil ?_
          exact thenN (cutLeaf (v := (x4 == 4) || (x10 == 4)) hr (weak0 ((sT rfl (sT rfl (sT rfl (sT rfl (sT rfl (sT rfl (sT rfl sT0)))))))) (sub_keep (sub_keep (sub_keep sub_nil)))))
        · rintro x14 hr
          show AW Hfaa.prog _ _ _ ⟨[(1, .inl (is (U8 a1))), (2, .inl (is (U64 a2))), (3, .inl (is (U64 a3))), (4, .inr (.inl (4, 0))), (10, .inr (.inl (10, 0))), (11, .inr (.inl (11, 0))), (22, .inl (is (Bl x14)))], [(4, pb 23 [is (U8 a0_0), is (U8 a0_1)]), (10, pb 175 [is (U64 x2), is (Bl x3), is (I8 x4), is (Bl x5), big x6, big x7]), (11, pb 175 [is (U64 x8), is (Bl x9), is (I8 x10), is (Bl x11), big x12, big x13])]⟩
          have hr : some r = F192_3 N a0_0 a0_1 a1 a2 a3 x2 x3 x4 x5 x6 x7 x8 x9 x10 x11 x12 x13 x14 := hr
          refine AW_condT (b := x14) rfl (fun h => ?_) (fun h => ?_)
          · have hr := hr.trans (cond_t h)
            clear h
            refine AW_seq1 ?_
            obtain ⟨y14, hy14, hr⟩ := lt_some hr
            obtain ⟨y15, hy15, hr⟩ := lt_some hr
            refine AW_draw mixed
              (lrC (LR_loads (at_tmp 4 _) ag23 sz23 rfl rfl rfl)
              (lrC (LR_call Hfaa.func66 rfl rfl (C66 a0_0 a0_1 y14 hy14) (all_cons (at_tmp 31 _) all_nil) rfl)
              (lrC (LR_loads (at_tmp 4 _) ag23 sz23 rfl rfl rfl)
              (lrC (LR_move (at_tmp 2 _) rfl)
              (lrC (LR_move (at_tmp 3 _) rfl)
              (lrC (LR_call Hfaa.func216 rfl rfl (C216 a0_0 a0_1 a2 a3 y15 hy15) (all_cons (at_tmp 33 _) (all_cons (at_tmp 34 _) (all_cons (at_tmp 35 _) all_nil))) rfl)
              (lrC (LR_assign (at_tmp 32 _) rfl)
              (lrC (LR_assign (at_tmp 36 _) rfl)
              lrN))))))))
              (by kernel_rfl)
              (saC (sS (sT1 rfl) (sB1 rfl) sF0) (saC (sS (sA (sT1 rfl) sT0) sB0 sF0) (saC (sS (sT1 rfl) (sB1 rfl) sF0) (saC (sS (sT1 rfl) sB0 sF0) (saC (sS (sT1 rfl) sB0 sF0) (saC (sS (sA (sT1 rfl) (sA (sT1 rfl) (sA (sT1 rfl) sT0))) sB0 sF0) (saC (sS (sT1 rfl) sB0 sF0) (saC (sS (sT1 rfl) sB0 sF0) saN)))))))) ?_
            refine thenN ?_
            refine AW_ret ?_
            refine blR ?_
            refine thenR ?_
            obtain rfl := Option.some.inj hr
            exact res2 rfl (rvT rfl) (rvT rfl)
          · have hr := hr.trans (cond_f h)
            clear h
            refine AW_cut (σ := Bool) (fun v => ⟨[(1, .inl (is (U8 a1))), (4, .inr (.inl (4, 0))), (10, .inr (.inl (10, 0))), (11, .inr (.inl (11, 0))), (37, .inl (is (Bl v)))], [(4, pb 23 [is (U8 a0_0), is (U8 a0_1)]), (10, pb 175 [is (U64 x2), is (Bl x3), is (I8 x4), is (Bl x5), big x6, big x7]), (11, pb 175 [is (U64 x8), is (Bl x9), is (I8 x10), is (Bl x11), big x12, big x13])]⟩) (fun v => some r = F192_4 N a0_0 a0_1 a1 x2 x3 x4 x5 x6 x7 x8 x9 x10 x11 x12 x13 v) ?_ ?_
            · skip
              refine AW_region ?_
              refine AL_cons (LR_fieldAddr (off := 0) (o := 2) (at_tmp 10 _) (fun b w => fa175_2 b 0 w) rfl) (sS (sT1 rfl) sB0 sF0) ?_
              refine AL_cons (LR_load (at_tmp 38 _) na110 rfl rfl) (sS (sT1 rfl) (sB1 rfl) sF0) ?_
              refine AL_cons (LR_bin (at_tmp 39 _) (at_c (v' := I8 3) rfl) (eql_I8 x4 3) rfl) (sS (sA (sT1 rfl) sT0) sB0 sF0) ?_
              refine AL_cons (LR_move (at_tmp 40 _) rfl) (sS (sT1 rfl) sB0 sF0) ?_
              refine AL_cutAt 4 ⟨[(1, .inl (is (U8 a1))), (2, .inl (is (U64 a2))), (3, .inl (is (U64 a3))), (4, .inr (.inl (4, 0))), (10, .inr (.inl (10, 0))), (11, .inr (.inl (11, 0))), (22, .inl (is (Bl x14))), (38, .inr (.inl (10, 2))), (39, .inl (is (I8 x4))), (40, .inl (is (Bl (x4 == 3)))), (41, .inl (is (Bl (x4 == 3)))), (45, .inl (is (Bl ((x4 == 3) && (x10 == 3)))))], [(4, pb 23 [is (U8 a0_0), is (U8 a0_1)]), (10, pb 175 [is (U64 x2), is (Bl x3), is (I8 x4), is (Bl x5), big x6, big x7]), (11, pb 175 [is (U64 x8), is (Bl x9), is (I8 x10), is (Bl x11), big x12, big x13])]⟩ ?_ ?_
              · cases hb : x4 == 3
                · skip
                  refine AL_cons (LR_off (b := false) rfl rfl rfl rfl) (sS (sT1 rfl) sB0 sF0) ?_
                  refine AL_cons (LR_off (b := false) rfl rfl rfl rfl) (sS (sT1 rfl) sB0 sF0) ?_
                  refine AL_cons (LR_off (b := false) rfl rfl rfl rfl) (sS (sT1 rfl) sB0 sF0) ?_
                  refine AL_cons (LR_pick (b := false) (at_tmp 41 _) (at_tmp 44 _) (at_c (v' := Bl false) rfl) rfl) (sS (sA (sT1 rfl) (sA (sT1 rfl) sT0)) sB0 sF0) ?_
                  exact AL_nil ⟨rfl, weak0 ((sT rfl (sT rfl (sT rfl (sT rfl (sT rfl (sT rfl (sT rfl (sT rfl (sT rfl (sT rfl (sT rfl (sT rfl sT0))))))))))))) (sub_keep (sub_keep (sub_keep sub_nil)))⟩
                · skip
                  refine AL_cons (LR_on rfl rfl rfl (LR_fieldAddr (off := 0) (o := 2) (at_tmp 11 _) (fun b w => fa175_2 b 0 w) rfl)) (sS (sT rfl (sT1 rfl)) sB0 sF0) ?_
                  refine AL_cons (LR_on rfl rfl rfl (LR_load (at_tmp 42 _) na110 rfl rfl)) (sS (sT rfl (sT1 rfl)) (sB1 rfl) sF0) ?_
                  refine AL_cons (LR_on rfl rfl rfl (LR_bin (at_tmp 43 _) (at_c (v' := I8 3) rfl) (eql_I8 x10 3) rfl)) (sS (sT rfl (sA (sT1 rfl) sT0)) sB0 sF0) ?_
                  refine AL_cons (LR_pick (b := true) (at_tmp 41 _) (at_tmp 44 _) (at_c (v' := Bl false) rfl) rfl) (sS (sA (sT1 rfl) (sA (sT1 rfl) sT0)) sB0 sF0) ?_
                  exact AL_nil ⟨rfl, weak0 ((sT rfl (sT rfl (sT rfl (sT rfl (sT rfl (sT rfl (sT rfl (sT rfl (sT rfl (sT rfl (sT rfl (sT rfl sT0))))))))))))) (sub_keep (sub_keep (sub_keep sub_nil)))⟩
              refine AL_cons (LR_move (at_tmp 45 _) rfl) (sS (sT1 rfl) sB0 sF0) ?_
              refine AL_cutAt 6 ⟨[(1, .inl (is (U8 a1))), (2, .inl (is (U64 a2))), (3, .inl (is (U64 a3))), (4, .inr (.inl (4, 0))), (10, .inr (.inl (10, 0))), (11, .inr (.inl (11, 0))), (22, .inl (is (Bl x14))), (38, .inr (.inl (10, 2))), (39, .inl (is (I8 x4))), (40, .inl (is (Bl (x4 == 3)))), (41, .inl (is (Bl (x4 == 3)))), (45, .inl (is (Bl ((x4 == 3) && (x10 == 3))))), (46, .inl (is (Bl ((x4 == 3) && (x10 == 3))))), (52, .inl (is (Bl (((x4 == 3) && (x10 == 3)) && (x3 != x9)))))], [(4, pb 23 [is (U8 a0_0), is (U8 a0_1)]), (10, pb 175 [is (U64 x2), is (Bl x3), is (I8 x4), is (Bl x5), big x6, big x7]), (11, pb 175 [is (U64 x8), is (Bl x9), is (I8 x10), is (Bl x11), big x12, big x13])]⟩ ?_ ?_
              · cases hb : (x4 == 3) && (x10 == 3)
                · skip
                  refine AL_cons (LR_off (b := false) rfl rfl rfl rfl) (sS (sT1 rfl) sB0 sF0) ?_
                  refine AL_cons (LR_off (b := false) rfl rfl rfl rfl) (sS (sT1 rfl) sB0 sF0) ?_
                  refine AL_cons (LR_off (b := false) rfl rfl rfl rfl) (sS (sT1 rfl) sB0 sF0) ?_
                  refine AL_cons (LR_off (b := false) rfl rfl rfl rfl) (sS (sT1 rfl) sB0 sF0) ?_
                  refine AL_cons (LR_off (b := false) rfl rfl rfl rfl) (sS (sT1 rfl) sB0 sF0) ?_
                  refine AL_cons (LR_pick (b := false) (at_tmp 46 _) (at_tmp 51 _) (at_c (v' := Bl false) rfl) rfl) (sS (sA (sT1 rfl) (sA (sT1 rfl) sT0)) sB0 sF0) ?_
                  exact AL_nil ⟨rfl, weak0 ((sT rfl (sT rfl (sT rfl (sT rfl (sT rfl (sT rfl (sT rfl (sT rfl (sT rfl (sT rfl (sT rfl (sT rfl (sT rfl (sT rfl sT0))))))))))))))) (sub_keep (sub_keep (sub_keep sub_nil)))⟩
                · skip
                  refine AL_cons (LR_on rfl rfl rfl (LR_fieldAddr (off := 0) (o := 1) (at_tmp 10 _) (fun b w => fa175_1 b 0 w) rfl)) (sS (sT rfl (sT1 rfl)) sB0 sF0) ?_
                  refine AL_cons (LR_on rfl rfl rfl (LR_load (at_tmp 47 _) na4 rfl rfl)) (sS (sT rfl (sT1 rfl)) (sB1 rfl) sF0) ?_
                  refine AL_cons (LR_on rfl rfl rfl (LR_fieldAddr (off := 0) (o := 1) (at_tmp 11 _) (fun b w => fa175_1 b 0 w) rfl)) (sS (sT rfl (sT1 rfl)) sB0 sF0) ?_
                  refine AL_cons (LR_on rfl rfl rfl (LR_load (at_tmp 49 _) na4 rfl rfl)) (sS (sT rfl (sT1 rfl)) (sB1 rfl) sF0) ?_
                  refine AL_cons (LR_on rfl rfl rfl (LR_bin (at_tmp 48 _) (at_tmp 50 _) (neq_Bl Hfaa.underlying4 x3 x9) rfl)) (sS (sT rfl (sA (sT1 rfl) (sT1 rfl))) sB0 sF0) ?_
                  refine AL_cons (LR_pick (b := true) (at_tmp 46 _) (at_tmp 51 _) (at_c (v' := Bl false) rfl) rfl) (sS (sA (sT1 rfl) (sA (sT1 rfl) sT0)) sB0 sF0) ?_
                  exact AL_nil ⟨rfl, weak0 ((sT rfl (sT rfl (sT rfl (sT rfl (sT rfl (sT rfl (sT rfl (sT rfl (sT rfl (sT rfl (sT rfl (sT rfl (sT rfl (sT rfl sT0))))))))))))))) (sub_keep (sub_keep (sub_keep sub_nil)))⟩
              refine AL_cons (LR_assign (at_tmp 52 _) rfl) (sS (sT1 rfl) sB0 sF0) ?_
              refine AL_nil ?_
              exact thenN (cutLeaf (v := ((x4 == 3) && (x10 == 3)) && (x3 != x9)) hr (weak0 ((sT rfl (sT rfl (sT rfl (sT rfl (sT rfl sT0)))))) (sub_keep (sub_keep (sub_keep sub_nil)))))
            · rintro x15 hr
              show AW Hfaa.prog _ _ _ ⟨[(1, .inl (is (U8 a1))), (4, .inr (.inl (4, 0))), (10, .inr (.inl (10, 0))), (11, .inr (.inl (11, 0))), (37, .inl (is (Bl x15)))], [(4, pb 23 [is (U8 a0_0), is (U8 a0_1)]), (10, pb 175 [is (U64 x2), is (Bl x3), is (I8 x4), is (Bl x5), big x6, big x7]), (11, pb 175 [is (U64 x8), is (Bl x9), is (I8 x10), is (Bl x11), big x12, big x13])]⟩
              have hr : some r = F192_4 N a0_0 a0_1 a1 x2 x3 x4 x5 x6 x7 x8 x9 x10 x11 x12 x13 x15 := hr
              refine AW_condT (b := x15) rfl (fun h => ?_) (fun h => ?_)
              · have hr := hr.trans (cond_t h)
                clear h
                refine AW_seq1 ?_
                refine AW_region ?_
                refine AL_cons (LR_loads (at_tmp 4 _) ag23 sz23 rfl rfl rfl) (sS (sT1 rfl) (sB1 rfl) sF0) ?_
                obtain ⟨y17, hy17, hr⟩ := lt_some hr
                refine AL_cons (LR_call Hfaa.func66 rfl rfl (C66 a0_0 a0_1 y17 hy17) (all_cons (at_tmp 53 _) all_nil) rfl) (sS (sA (sT1 rfl) sT0) sB0 sF0) ?_
                refine AL_cons (LR_assign (at_tmp 54 _) rfl) (sS (sT1 rfl) sB0 sF0) ?_
                refine AL_cons (LR_assign (at_c (v' := U8 (1#8)) rfl) rfl) (sS sT0 sB0 sF0) ?_
                refine AL_nil ?_
                refine thenN ?_
                refine AW_ret ?_
                refine blR ?_
                refine thenR ?_
                obtain rfl := Option.some.inj hr
                exact res2 rfl (rvT rfl) (rvT rfl)
              · have hr := hr.trans (cond_f h)
                clear h
                refine AW_cut (σ := Bool) (fun v => ⟨[(1, .inl (is (U8 a1))), (4, .inr (.inl (4, 0))), (10, .inr (.inl (10, 0))), (11, .inr (.inl (11, 0))), (55, .inl (is (Bl v)))], [(4, pb 23 [is (U8 a0_0), is (U8 a0_1)]), (10, pb 175 [is (U64 x2), is (Bl x3), is (I8 x4), is (Bl x5), big x6, big x7]), (11, pb 175 [is (U64 x8), is (Bl x9), is (I8 x10), is (Bl x11), big x12, big x13])]⟩) (fun v => some r = F192_5 N a0_0 a0_1 a1 x2 x3 x4 x5 x6 x7 x8 x9 x10 x11 x12 x13 v) ?_ ?_
                · skip
                  refine AW_region ?_
                  refine AL_cons (LR_fieldAddr (off := 0) (o := 2) (at_tmp 10 _) (fun b w => fa175_2 b 0 w) rfl) (sS (sT1 rfl) sB0 sF0) ?_
                  refine AL_cons (LR_load (at_tmp 56 _) na110 rfl rfl) (sS (sT1 rfl) (sB1 rfl) sF0) ?_
                  refine AL_cons (LR_bin (at_tmp 57 _) (at_c (v' := I8 3) rfl) (eql_I8 x4 3) rfl) (sS (sA (sT1 rfl) sT0) sB0 sF0) ?_
                  refine AL_cons (LR_assign (at_tmp 58 _) rfl) (sS (sT1 rfl) sB0 sF0) ?_
                  refine AL_nil ?_
                  exact thenN (cutLeaf (v := x4 == 3) hr (weak0 ((sT rfl (sT rfl (sT rfl (sT rfl (sT rfl sT0)))))) (sub_keep (sub_keep (sub_keep sub_nil)))))
                · rintro x16 hr
                  show AW Hfaa.prog _ _ _ ⟨[(1, .inl (is (U8 a1))), (4, .inr (.inl (4, 0))), (10, .inr (.inl (10, 0))), (11, .inr (.inl (11, 0))), (55, .inl (is (Bl x16)))], [(4, pb 23 [is (U8 a0_0), is (U8 a0_1)]), (10, pb 175 [is (U64 x2), is (Bl x3), is (I8 x4), is (Bl x5), big x6, big x7]), (11, pb 175 [is (U64 x8), is (Bl x9), is (I8 x10), is (Bl x11), big x12, big x13])]⟩
                  have hr : some r = F192_5 N a0_0 a0_1 a1 x2 x3 x4 x5 x6 x7 x8 x9 x10 x11 x12 x13 x16 := hr
                  refine AW_condT (b := x16) rfl (fun h => ?_) (fun h => ?_)
                  · have hr := hr.trans (cond_t h)
                    clear h
                    refine AW_seq1 ?_
                    refine AW_region ?_
                    refine AL_cons (LR_fieldAddr (off := 0) (o := 0) (at_tmp 10 _) (fun b w => fa175_0 b 0 w) rfl) (sS (sT1 rfl) sB0 sF0) ?_
                    refine AL_cons (LR_load (at_tmp 59 _) na30 rfl rfl) (sS (sT1 rfl) (sB1 rfl) sF0) ?_
                    refine AL_cons (LR_assign (at_tmp 60 _) rfl) (sS (sT1 rfl) sB0 sF0) ?_
                    refine AL_cons (LR_assign (at_c (v' := U8 (0#8)) rfl) rfl) (sS sT0 sB0 sF0) ?_
                    refine AL_nil ?_
                    refine thenN ?_
                    refine AW_ret ?_
                    refine blR ?_
                    refine thenR ?_
                    obtain rfl := Option.some.inj hr
                    exact res2 rfl (rvT rfl) (rvT rfl)
                  · have hr := hr.trans (cond_f h)
                    clear h
                    refine AW_cut (σ := Bool) (fun v => ⟨[(1, .inl (is (U8 a1))), (4, .inr (.inl (4, 0))), (10, .inr (.inl (10, 0))), (11, .inr (.inl (11, 0))), (61, .inl (is (Bl v)))], [(4, pb 23 [is (U8 a0_0), is (U8 a0_1)]), (10, pb 175 [is (U64 x2), is (Bl x3), is (I8 x4), is (Bl x5), big x6, big x7]), (11, pb 175 [is (U64 x8), is (Bl x9), is (I8 x10), is (Bl x11), big x12, big x13])]⟩) (fun v => some r = F192_6 N a0_0 a0_1 a1 x2 x3 x4 x5 x6 x7 x8 x9 x10 x11 x12 x13 v) ?_ ?_
                    · skip
                      refine AW_region ?_
                      refine AL_cons (LR_fieldAddr (off := 0) (o := 2) (at_tmp 11 _) (fun b w => fa175_2 b 0 w) rfl) (sS (sT1 rfl) sB0 sF0) ?_
                      refine AL_cons (LR_load (at_tmp 62 _) na110 rfl rfl) (sS (sT1 rfl) (sB1 rfl) sF0) ?_
                      refine AL_cons (LR_bin (at_tmp 63 _) (at_c (v' := I8 3) rfl) (eql_I8 x10 3) rfl) (sS (sA (sT1 rfl) sT0) sB0 sF0) ?_
                      refine AL_cons (LR_assign (at_tmp 64 _) rfl) (sS (sT1 rfl) sB0 sF0) ?_
                      refine AL_nil ?_
                      exact thenN (cutLeaf (v := x10 == 3) hr (weak0 ((sT rfl (sT rfl (sT rfl (sT rfl (sT rfl sT0)))))) (sub_keep (sub_keep (sub_keep sub_nil)))))
                    · rintro x17 hr
                      show AW Hfaa.prog _ _ _ ⟨[(1, .inl (is (U8 a1))), (4, .inr (.inl (4, 0))), (10, .inr (.inl (10, 0))), (11, .inr (.inl (11, 0))), (61, .inl (is (Bl x17)))], [(4, pb 23 [is (U8 a0_0), is (U8 a0_1)]), (10, pb 175 [is (U64 x2), is (Bl x3), is (I8 x4), is (Bl x5), big x6, big x7]), (11, pb 175 [is (U64 x8), is (Bl x9), is (I8 x10), is (Bl x11), big x12, big x13])]⟩
                      have hr : some r = F192_6 N a0_0 a0_1 a1 x2 x3 x4 x5 x6 x7 x8 x9 x10 x11 x12 x13 x17 := hr
                      refine AW_condT (b := x17) rfl (fun h => ?_) (fun h => ?_)
                      · have hr := hr.trans (cond_t h)
                        clear h
                        refine AW_seq1 ?_
                        refine AW_region ?_
                        refine AL_cons (LR_fieldAddr (off := 0) (o := 0) (at_tmp 11 _) (fun b w => fa175_0 b 0 w) rfl) (sS (sT1 rfl) sB0 sF0) ?_
                        refine AL_cons (LR_load (at_tmp 65 _) na30 rfl rfl) (sS (sT1 rfl) (sB1 rfl) sF0) ?_
                        refine AL_cons (LR_assign (at_tmp 66 _) rfl) (sS (sT1 rfl) sB0 sF0) ?_
                        refine AL_cons (LR_assign (at_c (v' := U8 (0#8)) rfl) rfl) (sS sT0 sB0 sF0) ?_
                        refine AL_nil ?_
                        refine thenN ?_
                        refine AW_ret ?_
                        refine blR ?_
                        refine thenR ?_
                        obtain rfl := Option.some.inj hr
                        exact res2 rfl (rvT rfl) (rvT rfl)
                      · have hr := hr.trans (cond_f h)
                        clear h
                        refine AW_skip ?_
                        refine blN ?_
                        refine thenN ?_
                        refine AW_cut (σ := Bool × Nat × Nat) (fun v => ⟨[(1, .inl (is (U8 a1))), (4, .inr (.inl (4, 0))), (10, .inr (.inl (10, 0))), (11, .inr (.inl (11, 0))), (12, .inr (.inl (12, 0)))], [(4, pb 23 [is (U8 a0_0), is (U8 a0_1)]), (10, pb 175 [is (U64 x2), is (Bl x3), is (I8 x4), is (Bl x5), big x6, big x7]), (11, pb 175 [is (U64 x8), is (Bl x9), is (I8 x10), is (Bl x11), big x12, big x13]), (12, pb 119 [is (Bl v.1), big v.2.1, big v.2.2])]⟩) (fun v => some r = F192_7 N a0_0 a0_1 a1 x2 x3 x4 x5 x6 x7 x8 x9 x10 x11 x12 x13 v.1 v.2.1 v.2.2) ?_ ?_
                        · skip
                          refine AW_region ?_
                          refine AL_cons (LR_fieldAddr (off := 0) (o := 3) (at_tmp 10 _) (fun b w => fa175_3 b 0 w) rfl) (sS (sT1 rfl) sB0 sF0) ?_
                          refine AL_cons (LR_loads (at_tmp 67 _) ag119 sz119 rfl rfl rfl) (sS (sT1 rfl) (sB1 rfl) sF0) ?_
                          refine AL_cons (LR_fieldAddr (off := 0) (o := 3) (at_tmp 11 _) (fun b w => fa175_3 b 0 w) rfl) (sS (sT1 rfl) sB0 sF0) ?_
                          refine AL_cons (LR_loads (at_tmp 69 _) ag119 sz119 rfl rfl rfl) (sS (sT1 rfl) (sB1 rfl) sF0) ?_
                          obtain ⟨y33, hy33, hr⟩ := bind_some hr
                          refine AL_cons (LR_call Hfaa.func146 rfl rfl (C146 N x5 x6 x7 x11 x12 x13 y33 hy33) (all_cons (at_tmp 68 _) (all_cons (at_tmp 70 _) all_nil)) rfl) (sS (sA (sT1 rfl) (sA (sT1 rfl) sT0)) sB0 sF0) ?_
                          refine AL_cons (zl119 rfl) (sS sT0 sB0 (sF1 rfl)) ?_
                          refine AL_cons (LR_store (at_tmp 12 _) (at_tmp 71 _) (cells_agg _) (onC (one_is rfl) (onC (one_big _) (onC (one_big _) onN))) sz119 rfl rfl) (sS (sA (sT1 rfl) (sT1 rfl)) (sB1 rfl) sF0) ?_
                          refine AL_nil ?_
                          exact thenN (cutLeaf (v := (y33.1, y33.2.1, y33.2.2)) hr (weak0 ((sT rfl (sT rfl (sT rfl (sT rfl (sT rfl sT0)))))) (sub_keep (sub_keep (sub_keep (sub_keep sub_nil))))))
                        · rintro ⟨x18, x19, x20⟩ hr
                          show AW Hfaa.prog _ _ _ ⟨[(1, .inl (is (U8 a1))), (4, .inr (.inl (4, 0))), (10, .inr (.inl (10, 0))), (11, .inr (.inl (11, 0))), (12, .inr (.inl (12, 0)))], [(4, pb 23 [is (U8 a0_0), is (U8 a0_1)]), (10, pb 175 [is (U64 x2), is (Bl x3), is (I8 x4), is (Bl x5), big x6, big x7]), (11, pb 175 [is (U64 x8), is (Bl x9), is (I8 x10), is (Bl x11), big x12, big x13]), (12, pb 119 [is (Bl x18), big x19, big x20])]⟩
                          have hr : some r = F192_7 N a0_0 a0_1 a1 x2 x3 x4 x5 x6 x7 x8 x9 x10 x11 x12 x13 x18 x19 x20 := hr
                          refine AW_seq1 ?_
                          refine AW_cut (σ := Bool) (fun v => ⟨[(1, .inl (is (U8 a1))), (4, .inr (.inl (4, 0))), (10, .inr (.inl (10, 0))), (11, .inr (.inl (11, 0))), (12, .inr (.inl (12, 0))), (74, .inl (is (Bl v)))], [(4, pb 23 [is (U8 a0_0), is (U8 a0_1)]), (10, pb 175 [is (U64 x2), is (Bl x3), is (I8 x4), is (Bl x5), big x6, big x7]), (11, pb 175 [is (U64 x8), is (Bl x9), is (I8 x10), is (Bl x11), big x12, big x13]), (12, pb 119 [is (Bl x18), big x19, big x20])]⟩) (fun v => some r = F192_8 N a0_0 a0_1 a1 x2 x3 x4 x5 x6 x7 x8 x9 x10 x11 x12 x13 x18 x19 x20 v) ?_ ?_
                          · skip
                            refine AW_region ?_
                            refine AL_cons (LR_fieldAddr (off := 0) (o := 1) (at_tmp 12 _) (fun b w => fa119_1 b 0 w) rfl) (sS (sT1 rfl) sB0 sF0) ?_
                            refine AL_cons (LR_load (at_tmp 72 _) na49 rfl rfl) (sS (sT1 rfl) (sB1 rfl) sF0) ?_
                            refine AL_cons (LR_binA (at_tmp 73 _) at_nil (eqNil Hfaa.underlying49 x19) rfl) (sS (sA (sT1 rfl) sT0) sB0 sF0) ?_
                            refine AL_nil ?_
                            exact thenN (cutLeaf (v := x19 == 0) hr (weak0 ((sT rfl (sT rfl (sT rfl (sT rfl (sT rfl (sT rfl sT0))))))) (sub_keep (sub_keep (sub_keep (sub_keep sub_nil))))))
                          · rintro x21 hr
                            show AW Hfaa.prog _ _ _ ⟨[(1, .inl (is (U8 a1))), (4, .inr (.inl (4, 0))), (10, .inr (.inl (10, 0))), (11, .inr (.inl (11, 0))), (12, .inr (.inl (12, 0))), (74, .inl (is (Bl x21)))], [(4, pb 23 [is (U8 a0_0), is (U8 a0_1)]), (10, pb 175 [is (U64 x2), is (Bl x3), is (I8 x4), is (Bl x5), big x6, big x7]), (11, pb 175 [is (U64 x8), is (Bl x9), is (I8 x10), is (Bl x11), big x12, big x13]), (12, pb 119 [is (Bl x18), big x19, big x20])]⟩
                            have hr : some r = F192_8 N a0_0 a0_1 a1 x2 x3 x4 x5 x6 x7 x8 x9 x10 x11 x12 x13 x18 x19 x20 x21 := hr
                            refine AW_condT (b := x21) rfl (fun h => ?_) (fun h => ?_)
                            · have hr := hr.trans (cond_t h)
                              clear h
                              refine AW_seq1 ?_
                              refine AW_cut (σ := Bool) (fun v => ⟨[(1, .inl (is (U8 a1))), (4, .inr (.inl (4, 0))), (10, .inr (.inl (10, 0))), (79, .inl (is (Bl v)))], [(4, pb 23 [is (U8 a0_0), is (U8 a0_1)]), (10, pb 175 [is (U64 x2), is (Bl x3), is (I8 x4), is (Bl x5), big x6, big x7])]⟩) (fun v => some r = F192_9 N a0_0 a0_1 a1 x2 x3 x4 x5 x6 x7 v) ?_ ?_
                              · skip
                                refine AW_region ?_
                                refine AL_cons (LR_fieldAddr (off := 0) (o := 1) (at_tmp 10 _) (fun b w => fa175_1 b 0 w) rfl) (sS (sT1 rfl) sB0 sF0) ?_
                                refine AL_cons (LR_load (at_tmp 75 _) na4 rfl rfl) (sS (sT1 rfl) (sB1 rfl) sF0) ?_
                                refine AL_cons (LR_fieldAddr (off := 0) (o := 1) (at_tmp 11 _) (fun b w => fa175_1 b 0 w) rfl) (sS (sT1 rfl) sB0 sF0) ?_
                                refine AL_cons (LR_load (at_tmp 77 _) na4 rfl rfl) (sS (sT1 rfl) (sB1 rfl) sF0) ?_
                                refine AL_cons (LR_bin (at_tmp 76 _) (at_tmp 78 _) (eql_Bl Hfaa.underlying4 x3 x9) rfl) (sS (sA (sT1 rfl) (sT1 rfl)) sB0 sF0) ?_
                                refine AL_nil ?_
                                exact thenN (cutLeaf (v := x3 == x9) hr (weak0 ((sT rfl (sT rfl (sT rfl (sT rfl sT0))))) (sub_keep (sub_keep (sub_drop (sub_drop sub_nil))))))
                              · rintro x22 hr
                                show AW Hfaa.prog _ _ _ ⟨[(1, .inl (is (U8 a1))), (4, .inr (.inl (4, 0))), (10, .inr (.inl (10, 0))), (79, .inl (is (Bl x22)))], [(4, pb 23 [is (U8 a0_0), is (U8 a0_1)]), (10, pb 175 [is (U64 x2), is (Bl x3), is (I8 x4), is (Bl x5), big x6, big x7])]⟩
                                have hr : some r = F192_9 N a0_0 a0_1 a1 x2 x3 x4 x5 x6 x7 x22 := hr
                                refine AW_condT (b := x22) rfl (fun h => ?_) (fun h => ?_)
                                · have hr := hr.trans (cond_t h)
                                  clear h
                                  refine AW_seq1 ?_
                                  refine AW_region ?_
                                  refine AL_cons (LR_loads (at_tmp 4 _) ag23 sz23 rfl rfl rfl) (sS (sT1 rfl) (sB1 rfl) sF0) ?_
                                  refine AL_cons (LR_fieldAddr (off := 0) (o := 1) (at_tmp 10 _) (fun b w => fa175_1 b 0 w) rfl) (sS (sT1 rfl) sB0 sF0) ?_
                                  refine AL_cons (LR_load (at_tmp 81 _) na4 rfl rfl) (sS (sT1 rfl) (sB1 rfl) sF0) ?_
                                  obtain ⟨y28, hy28, hr⟩ := lt_some hr
                                  refine AL_cons (LR_call Hfaa.func251 rfl rfl (C251 a0_0 a0_1 x3 y28 hy28) (all_cons (at_tmp 80 _) (all_cons (at_tmp 82 _) all_nil)) rfl) (sS (sA (sT1 rfl) (sA (sT1 rfl) sT0)) sB0 sF0) ?_
                                  refine AL_cons (LR_assign (at_tmp 83 _) rfl) (sS (sT1 rfl) sB0 sF0) ?_
                                  refine AL_cons (LR_assign (at_c (v' := U8 (0#8)) rfl) rfl) (sS sT0 sB0 sF0) ?_
                                  refine AL_nil ?_
                                  refine thenN ?_
                                  refine AW_ret ?_
                                  refine thenR ?_
                                  refine thenR ?_
                                  obtain rfl := Option.some.inj hr
                                  exact res2 rfl (rvT rfl) (rvT rfl)
                                · have hr := hr.trans (cond_f h)
                                  clear h
                                  refine AW_skip ?_
                                  refine thenN ?_
                                  refine AW_seq1 ?_
                                  refine AW_region ?_
                                  refine AL_cons (LR_loads (at_tmp 4 _) ag23 sz23 rfl rfl rfl) (sS (sT1 rfl) (sB1 rfl) sF0) ?_
                                  refine AL_cons (LR_move (at_tmp 1 _) rfl) (sS (sT1 rfl) sB0 sF0) ?_
                                  refine AL_cons (LR_bin (at_tmp 85 _) (at_c (v' := U8 (4#8)) rfl) (eql_U8 a1 (4#8)) rfl) (sS (sA (sT1 rfl) sT0) sB0 sF0) ?_
                                  obtain ⟨y30, hy30, hr⟩ := lt_some hr
                                  refine AL_cons (LR_call Hfaa.func251 rfl rfl (C251 a0_0 a0_1 (a1 == (4#8)) y30 hy30) (all_cons (at_tmp 84 _) (all_cons (at_tmp 86 _) all_nil)) rfl) (sS (sA (sT1 rfl) (sA (sT1 rfl) sT0)) sB0 sF0) ?_
                                  refine AL_cons (LR_assign (at_tmp 87 _) rfl) (sS (sT1 rfl) sB0 sF0) ?_
                                  refine AL_cons (LR_assign (at_c (v' := U8 (0#8)) rfl) rfl) (sS sT0 sB0 sF0) ?_
                                  refine AL_nil ?_
                                  refine thenN ?_
                                  refine AW_ret ?_
                                  refine thenR ?_
                                  obtain rfl := Option.some.inj hr
                                  exact res2 rfl (rvT rfl) (rvT rfl)
                            · have hr := hr.trans (cond_f h)
                              clear h
                              refine AW_skip ?_
                              refine thenN ?_
                              refine AW_seq1 ?_
                              refine AW_region ?_
                              refine AL_cons (LR_loads (at_tmp 4 _) ag23 sz23 rfl rfl rfl) (sS (sT1 rfl) (sB1 rfl) sF0) ?_
                              refine AL_cons (LR_move (at_tmp 1 _) rfl) (sS (sT1 rfl) sB0 sF0) ?_
                              refine AL_cons (LR_loads (at_tmp 12 _) ag119 sz119 rfl rfl rfl) (sS (sT1 rfl) (sB1 rfl) sF0) ?_
                              obtain ⟨y32, hy32, hr⟩ := bind_some hr
                              refine AL_cons (LR_call Hfaa.func136 rfl rfl (C136 N a0_0 a0_1 a1 x18 x19 x20 y32 hy32) (all_cons (at_tmp 88 _) (all_cons (at_tmp 89 _) (all_cons (at_tmp 90 _) all_nil))) rfl) (sS (sA (sT1 rfl) (sA (sT1 rfl) (sA (sT1 rfl) sT0))) sB0 sF0) ?_
                              refine AL_cons (LR_extract (at_tmp 91 _) rfl rfl) (sS (sT1 rfl) sB0 sF0) ?_
                              refine AL_cons (LR_extract (at_tmp 91 _) rfl rfl) (sS (sT1 rfl) sB0 sF0) ?_
                              refine AL_cons (LR_assign (at_tmp 92 _) rfl) (sS (sT1 rfl) sB0 sF0) ?_
                              refine AL_cons (LR_assign (at_tmp 93 _) rfl) (sS (sT1 rfl) sB0 sF0) ?_
                              refine AL_nil ?_
                              refine thenN ?_
                              refine AW_ret ?_
                              obtain rfl := Option.some.inj hr
                              exact res2 rfl (rvT rfl) (rvT rfl)
end Go.Proofs.YfwaawGreat
