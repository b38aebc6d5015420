import Derived.Test.YfwaawGreatG1
import Derived.Test.YfwaawGreatG2
import Derived.Test.YfwaawGreatG3
import Derived.Test.YfwaawGreatG7
import Derived.Test.YfwaawGreatG8
import Derived.Test.YfwaawGreatG11
import Derived.Test.YfwaawGreatG13
import Derived.Test.YfwaawGreatG14
import Derived.Test.YfwaawGreatG15
import Derived.Test.YfwaawGreatG16
import Derived.Test.YfwaawGreatG18
import Derived.Test.YfwaawGreatG19
import Derived.Test.YfwaawGreatG21
import Derived.Test.YfwaawGreatG22
namespace Go.Proofs.YfwaawGreat
open Go.Aw
set_option linter.unusedVariables false
set_option maxRecDepth 100000
set_option maxHeartbeats 1000000
/-- exact.ScaleB -/
def F307_1 (N : Nat) (x1 : BitVec 64) : Option (BitVec 64) := some x1
def F307 (N : Nat) (a0_0 : BitVec 8) (a0_1 : BitVec 8) (a1 : BitVec 8) (a2 : BitVec 64) (a3 : Int) : Option (BitVec 64) := (F111 N a0_0 a0_1 a1 a2 a3).bind fun y2 => F307_1 N y2.1
theorem C307 (N : Nat) (a0_0 : BitVec 8) (a0_1 : BitVec 8) (a1 : BitVec 8) (a2 : BitVec 64) (a3 : Int) (r : BitVec 64) (hr : some r = F307 N a0_0 a0_1 a1 a2 a3) : Aw.Fn Hfaa.prog 307 [agg [is (U8 a0_0), is (U8 a0_1)], is (U8 a1), is (U64 a2), is (I64 a3)] (is (U64 r)) := by
  refine fn_intro Hfaa.func307 rfl rfl rfl ?_
  intro bn0 w0 H0
  refine AW_seq1 ?_
  refine AW_region ?_
  refine AL_cons (LR_box (at_tmp 0 _) (cells_agg _) rfl) (sS (sT1 rfl) sB0 (sF1 rfl)) ?_
  refine AL_cons (LR_assign (at_c (v' := U64 (0#64)) rfl) rfl) (sS sT0 sB0 sF0) ?_
  refine AL_nil ?_
  refine thenN ?_
  refine AW_cut (σ := BitVec 64) (fun v => ⟨[(9, .inl (is (U64 v)))], []⟩) (fun v => some r = F307_1 N v) ?_ ?_
  · skip
    refine AW_region ?_
    refine AL_cons (LR_loads (at_tmp 4 _) ag23 sz23 rfl rfl rfl) (sS (sT1 rfl) (sB1 rfl) sF0) ?_
    refine AL_cons (LR_move (at_tmp 1 _) rfl) (sS (sT1 rfl) sB0 sF0) ?_
    refine AL_cons (LR_move (at_tmp 2 _) rfl) (sS (sT1 rfl) sB0 sF0) ?_
    refine AL_cons (LR_move (at_tmp 3 _) rfl) (sS (sT1 rfl) sB0 sF0) ?_
    obtain ⟨y2, hy2, hr⟩ := bind_some hr
    refine AL_cons (LR_call Hfaa.func111 rfl rfl (C111 N a0_0 a0_1 a1 a2 a3 y2 hy2) (all_cons (at_tmp 12 _) (all_cons (at_tmp 13 _) (all_cons (at_tmp 14 _) (all_cons (at_tmp 15 _) all_nil)))) rfl) (sS (sA (sT1 rfl) (sA (sT1 rfl) (sA (sT1 rfl) (sA (sT1 rfl) sT0)))) sB0 sF0) ?_
    refine AL_cons (LR_move (at_tmp 16 _) rfl) (sS (sT1 rfl) sB0 sF0) ?_
    refine AL_cons (LR_extract (at_tmp 11 _) rfl rfl) (sS (sT1 rfl) sB0 sF0) ?_
    refine AL_cons (LR_extract (at_tmp 11 _) rfl rfl) (sS (sT1 rfl) sB0 sF0) ?_
    refine AL_cons (LR_assign (at_tmp 17 _) rfl) (sS (sT1 rfl) sB0 sF0) ?_
    refine AL_cons (LR_assign (at_tmp 18 _) rfl) (sS (sT1 rfl) sB0 sF0) ?_
    refine AL_nil ?_
    exact thenN (cutLeaf (v := y2.1) hr (weak0 ((sT rfl sT0)) (sub_drop sub_nil)))
  · rintro x1 hr
    show AW Hfaa.prog _ _ _ ⟨[(9, .inl (is (U64 x1)))], []⟩
    have hr : some r = F307_1 N x1 := hr
    refine AW_seq1 ?_
    refine AW_region ?_
    refine AL_cons (LR_move (at_tmp 9 _) rfl) (sS (sT1 rfl) sB0 sF0) ?_
    refine AL_cons (LR_assign (at_tmp 19 _) rfl) (sS (sT1 rfl) sB0 sF0) ?_
    refine AL_nil ?_
    refine thenN ?_
    refine AW_ret ?_
    obtain rfl := Option.some.inj hr
    exact res1 rfl (rvT rfl)
/-- exact.LogBFlags -/
def F113_4 (N : Nat) (x2 : BitVec 64) (x3 : Bool) (x4 : Int) (x5 : Bool) (x6 : Nat) (x7 : Nat) (x9 : Int) : Option (Int × Bool × BitVec 8) := (F207 N x6 x7 x9 (w64 (x9 + 1))).bind fun y6 => some (y6, true, 0#8)
def F113_3 (N : Nat) (x2 : BitVec 64) (x3 : Bool) (x4 : Int) (x5 : Bool) (x6 : Nat) (x7 : Nat) (x8 : Bool) : Option (Int × Bool × BitVec 8) := bif x8 then some (0, false, 1#8) else bif lim x6 then bif lim x7 then F113_4 N x2 x3 x4 x5 x6 x7 (w64 ((w64 ((blen x6 : Int) - (blen x7 : Int))) - 1)) else none else none
def F113_2 (N : Nat) (x2 : BitVec 64) (x3 : Bool) (x4 : Int) (x5 : Bool) (x6 : Nat) (x7 : Nat) : Option (Int × Bool × BitVec 8) := F113_3 N x2 x3 x4 x5 x6 x7 ((x4 != 1) && (x4 != 2))
def F113_1 (N : Nat) (a0_0 : BitVec 8) (a0_1 : BitVec 8) (a1 : BitVec 64) (x1 : Bool) : Option (Int × Bool × BitVec 8) := bif x1 then some (0, false, 0#8) else (F144 N a0_0 a0_1 a1).bind fun y7 => F113_2 N y7.1 y7.2.1 y7.2.2.1 y7.2.2.2.1 y7.2.2.2.2.1 y7.2.2.2.2.2
def F113 (N : Nat) (a0_0 : BitVec 8) (a0_1 : BitVec 8) (a1 : BitVec 64) : Option (Int × Bool × BitVec 8) := lt (F40 a0_0 a0_1) fun y8 => F113_1 N a0_0 a0_1 a1 (!y8)
theorem C113 (N : Nat) (a0_0 : BitVec 8) (a0_1 : BitVec 8) (a1 : BitVec 64) (r : Int × Bool × BitVec 8) (hr : some r = F113 N a0_0 a0_1 a1) : Aw.Fn Hfaa.prog 113 [agg [is (U8 a0_0), is (U8 a0_1)], is (U64 a1)] (tup [is (I64 r.1), is (Bl r.2.1), is (U8 r.2.2)]) := by
  refine fn_intro Hfaa.func113 rfl rfl rfl ?_
  intro bn0 w0 H0
  refine AW_seq1 ?_
  refine AW_region ?_
  refine AL_cons (LR_box (at_tmp 0 _) (cells_agg _) rfl) (sS (sT1 rfl) sB0 (sF1 rfl)) ?_
  refine AL_cons (LR_assign (at_c (v' := I64 0) rfl) rfl) (sS sT0 sB0 sF0) ?_
  refine AL_cons (LR_assign (at_c (v' := Bl false) rfl) rfl) (sS sT0 sB0 sF0) ?_
  refine AL_cons (LR_assign (at_c (v' := U8 (0#8)) rfl) rfl) (sS sT0 sB0 sF0) ?_
  refine AL_nil ?_
  refine thenN ?_
  refine AW_seq1 ?_
  refine AW_cut (σ := Bool) (fun v => ⟨[(1, .inl (is (U64 a1))), (2, .inr (.inl (2, 0))), (11, .inl (is (Bl v)))], [(2, pb 23 [is (U8 a0_0), is (U8 a0_1)])]⟩) (fun v => some r = F113_1 N a0_0 a0_1 a1 v) ?_ ?_
  · skip
    refine AW_region ?_
    refine AL_cons (LR_loads (at_tmp 2 _) ag23 sz23 rfl rfl rfl) (sS (sT1 rfl) (sB1 rfl) sF0) ?_
    obtain ⟨y8, hy8, hr⟩ := lt_some hr
    refine AL_cons (LR_call Hfaa.func40 rfl rfl (C40 a0_0 a0_1 y8 hy8) (all_cons (at_tmp 9 _) all_nil) rfl) (sS (sA (sT1 rfl) sT0) sB0 sF0) ?_
    refine AL_cons (LR_un (at_tmp 10 _) (not_Bl y8) rfl) (sS (sT1 rfl) sB0 sF0) ?_
    refine AL_nil ?_
    exact thenN (cutLeaf (v := !y8) hr (weak0 ((sT rfl (sT rfl (sT rfl sT0)))) (sub_keep sub_nil)))
  · rintro x1 hr
    show AW Hfaa.prog _ _ _ ⟨[(1, .inl (is (U64 a1))), (2, .inr (.inl (2, 0))), (11, .inl (is (Bl x1)))], [(2, pb 23 [is (U8 a0_0), is (U8 a0_1)])]⟩
    have hr : some r = F113_1 N a0_0 a0_1 a1 x1 := hr
    refine AW_condT (b := x1) rfl (fun h => ?_) (fun h => ?_)
    · have hr := hr.trans (cond_t h)
      clear h
      refine AW_seq1 ?_
      refine AW_region ?_
      refine AL_cons (LR_assign (at_c (v' := I64 0) rfl) rfl) (sS sT0 sB0 sF0) ?_
      refine AL_cons (LR_assign (at_c (v' := Bl false) rfl) rfl) (sS sT0 sB0 sF0) ?_
      refine AL_cons (LR_assign (at_c (v' := U8 (0#8)) rfl) rfl) (sS sT0 sB0 sF0) ?_
      refine AL_nil ?_
      refine thenN ?_
      refine AW_ret ?_
      refine thenR ?_
      obtain rfl := Option.some.inj hr
      exact res3 rfl (rvT rfl) (rvT rfl) (rvT rfl)
    · have hr := hr.trans (cond_f h)
      clear h
      refine AW_skip ?_
      refine thenN ?_
      refine AW_cut (σ := BitVec 64 × Bool × Int × Bool × Nat × Nat) (fun v => ⟨[(7, .inr (.inl (7, 0)))], [(7, pb 175 [is (U64 v.1), is (Bl v.2.1), is (I8 v.2.2.1), is (Bl v.2.2.2.1), big v.2.2.2.2.1, big v.2.2.2.2.2])]⟩) (fun v => some r = F113_2 N v.1 v.2.1 v.2.2.1 v.2.2.2.1 v.2.2.2.2.1 v.2.2.2.2.2) ?_ ?_
      · skip
        refine AW_region ?_
        refine AL_cons (LR_loads (at_tmp 2 _) ag23 sz23 rfl rfl rfl) (sS (sT1 rfl) (sB1 rfl) sF0) ?_
        refine AL_cons (LR_move (at_tmp 1 _) rfl) (sS (sT1 rfl) sB0 sF0) ?_
        obtain ⟨y7, hy7, hr⟩ := bind_some hr
        refine AL_cons (LR_call Hfaa.func144 rfl rfl (C144 N a0_0 a0_1 a1 y7 hy7) (all_cons (at_tmp 12 _) (all_cons (at_tmp 13 _) all_nil)) rfl) (sS (sA (sT1 rfl) (sA (sT1 rfl) sT0)) sB0 sF0) ?_
        refine AL_cons (zl175 rfl) (sS sT0 sB0 (sF1 rfl)) ?_
        refine AL_cons (LR_store (at_tmp 7 _) (at_tmp 14 _) (cells_agg _) (onC (one_is rfl) (onC (one_is rfl) (onC (one_is rfl) (onC (one_is rfl) (onC (one_big _) (onC (one_big _) onN)))))) sz175 rfl rfl) (sS (sA (sT1 rfl) (sT1 rfl)) (sB1 rfl) sF0) ?_
        refine AL_nil ?_
        exact thenN (cutLeaf (v := (y7.1, y7.2.1, y7.2.2.1, y7.2.2.2.1, y7.2.2.2.2.1, y7.2.2.2.2.2)) hr (weak0 ((sT rfl sT0)) (sub_drop (sub_keep sub_nil))))
      · rintro ⟨x2, x3, x4, x5, x6, x7⟩ hr
        show AW Hfaa.prog _ _ _ ⟨[(7, .inr (.inl (7, 0)))], [(7, pb 175 [is (U64 x2), is (Bl x3), is (I8 x4), is (Bl x5), big x6, big x7])]⟩
        have hr : some r = F113_2 N x2 x3 x4 x5 x6 x7 := hr
        refine AW_seq1 ?_
        refine AW_cut (σ := Bool) (fun v => ⟨[(7, .inr (.inl (7, 0))), (22, .inl (is (Bl v)))], [(7, pb 175 [is (U64 x2), is (Bl x3), is (I8 x4), is (Bl x5), big x6, big x7])]⟩) (fun v => some r = F113_3 N x2 x3 x4 x5 x6 x7 v) ?_ ?_
        · skip
          refine AW_region ?_
          refine AL_cons (LR_fieldAddr (off := 0) (o := 2) (at_tmp 7 _) (fun b w => fa175_2 b 0 w) rfl) (sS (sT1 rfl) sB0 sF0) ?_
          refine AL_cons (LR_load (at_tmp 15 _) na110 rfl rfl) (sS (sT1 rfl) (sB1 rfl) sF0) ?_
          refine AL_cons (LR_bin (at_tmp 16 _) (at_c (v' := I8 1) rfl) (neq_I8 x4 1) rfl) (sS (sA (sT1 rfl) sT0) sB0 sF0) ?_
          refine AL_cons (LR_move (at_tmp 17 _) rfl) (sS (sT1 rfl) sB0 sF0) ?_
          refine AL_cutAt 4 ⟨[(7, .inr (.inl (7, 0))), (15, .inr (.inl (7, 2))), (16, .inl (is (I8 x4))), (17, .inl (is (Bl (x4 != 1)))), (18, .inl (is (Bl (x4 != 1)))), (22, .inl (is (Bl ((x4 != 1) && (x4 != 2)))))], [(7, pb 175 [is (U64 x2), is (Bl x3), is (I8 x4), is (Bl x5), big x6, big x7])]⟩ ?_ ?_
          · cases hb : x4 != 1
            · skip
              refine AL_cons (LR_off (b := false) rfl rfl rfl rfl) (sS (sT1 rfl) sB0 sF0) ?_
              refine AL_cons (LR_off (b := false) rfl rfl rfl rfl) (sS (sT1 rfl) sB0 sF0) ?_
              refine AL_cons (LR_off (b := false) rfl rfl rfl rfl) (sS (sT1 rfl) sB0 sF0) ?_
              refine AL_cons (LR_pick (b := false) (at_tmp 18 _) (at_tmp 21 _) (at_c (v' := Bl false) rfl) rfl) (sS (sA (sT1 rfl) (sA (sT1 rfl) sT0)) sB0 sF0) ?_
              exact AL_nil ⟨rfl, weak0 ((sT rfl (sT rfl (sT rfl (sT rfl (sT rfl (sT rfl sT0))))))) (sub_keep sub_nil)⟩
            · skip
              refine AL_cons (LR_on rfl rfl rfl (LR_fieldAddr (off := 0) (o := 2) (at_tmp 7 _) (fun b w => fa175_2 b 0 w) rfl)) (sS (sT rfl (sT1 rfl)) sB0 sF0) ?_
              refine AL_cons (LR_on rfl rfl rfl (LR_load (at_tmp 19 _) na110 rfl rfl)) (sS (sT rfl (sT1 rfl)) (sB1 rfl) sF0) ?_
              refine AL_cons (LR_on rfl rfl rfl (LR_bin (at_tmp 20 _) (at_c (v' := I8 2) rfl) (neq_I8 x4 2) rfl)) (sS (sT rfl (sA (sT1 rfl) sT0)) sB0 sF0) ?_
              refine AL_cons (LR_pick (b := true) (at_tmp 18 _) (at_tmp 21 _) (at_c (v' := Bl false) rfl) rfl) (sS (sA (sT1 rfl) (sA (sT1 rfl) sT0)) sB0 sF0) ?_
              exact AL_nil ⟨rfl, weak0 ((sT rfl (sT rfl (sT rfl (sT rfl (sT rfl (sT rfl sT0))))))) (sub_keep sub_nil)⟩
          refine AL_nil ?_
          exact thenN (cutLeaf (v := (x4 != 1) && (x4 != 2)) hr (weak0 ((sT rfl (sT rfl sT0))) (sub_keep sub_nil)))
        · rintro x8 hr
          show AW Hfaa.prog _ _ _ ⟨[(7, .inr (.inl (7, 0))), (22, .inl (is (Bl x8)))], [(7, pb 175 [is (U64 x2), is (Bl x3), is (I8 x4), is (Bl x5), big x6, big x7])]⟩
          have hr : some r = F113_3 N x2 x3 x4 x5 x6 x7 x8 := hr
          refine AW_condT (b := x8) rfl (fun h => ?_) (fun h => ?_)
          · have hr := hr.trans (cond_t h)
            clear h
            refine AW_seq1 ?_
            refine AW_region ?_
            refine AL_cons (LR_assign (at_c (v' := I64 0) rfl) rfl) (sS sT0 sB0 sF0) ?_
            refine AL_cons (LR_assign (at_c (v' := Bl false) rfl) rfl) (sS sT0 sB0 sF0) ?_
            refine AL_cons (LR_assign (at_c (v' := U8 (1#8)) rfl) rfl) (sS sT0 sB0 sF0) ?_
            refine AL_nil ?_
            refine thenN ?_
            refine AW_ret ?_
            refine thenR ?_
            obtain rfl := Option.some.inj hr
            exact res3 rfl (rvT rfl) (rvT rfl) (rvT rfl)
          · have hr := hr.trans (cond_f h)
            clear h
            refine AW_skip ?_
            refine thenN ?_
            refine AW_cut (σ := Int) (fun v => ⟨[(7, .inr (.inl (7, 0))), (8, .inl (is (I64 v)))], [(7, pb 175 [is (U64 x2), is (Bl x3), is (I8 x4), is (Bl x5), big x6, big x7])]⟩) (fun v => some r = F113_4 N x2 x3 x4 x5 x6 x7 v) ?_ ?_
            · skip
              obtain ⟨hg3, hr⟩ := guard_some hr
              obtain ⟨hg4, hr⟩ := guard_some hr
              refine AW_draw mixed
                (lrC (LR_fieldAddr (off := 0) (o := 3) (at_tmp 7 _) (fun b w => fa175_3 b 0 w) rfl)
                (lrC (LR_fieldAddr (off := 3) (o := 4) (at_tmp 23 _) (fun b w => fa119_1 b 3 w) rfl)
                (lrC (LR_load (at_tmp 24 _) na49 rfl rfl)
                (lrC (LR_call Hfaa.func34 rfl rfl (B34 x6 hg3) (all_cons (at_tmp 25 _) all_nil) rfl)
                (lrC (LR_fieldAddr (off := 0) (o := 3) (at_tmp 7 _) (fun b w => fa175_3 b 0 w) rfl)
                (lrC (LR_fieldAddr (off := 3) (o := 5) (at_tmp 27 _) (fun b w => fa119_2 b 3 w) rfl)
                (lrC (LR_load (at_tmp 28 _) na49 rfl rfl)
                (lrC (LR_call Hfaa.func34 rfl rfl (B34 x7 hg4) (all_cons (at_tmp 29 _) all_nil) rfl)
                (lrC (LR_bin (at_tmp 26 _) (at_tmp 30 _) (sub_I64 (blen x6 : Int) (blen x7 : Int)) rfl)
                (lrC (LR_bin (at_tmp 31 _) (at_c (v' := I64 1) rfl) (sub_I64 (w64 ((blen x6 : Int) - (blen x7 : Int))) 1) rfl)
                (lrC (LR_assign (at_tmp 32 _) rfl)
                lrN)))))))))))
                (by kernel_rfl)
                (saC (sS (sT1 rfl) sB0 sF0) (saC (sS (sT1 rfl) sB0 sF0) (saC (sS (sT1 rfl) (sB1 rfl) sF0) (saC (sS (sA (sT1 rfl) sT0) sB0 sF0) (saC (sS (sT1 rfl) sB0 sF0) (saC (sS (sT1 rfl) sB0 sF0) (saC (sS (sT1 rfl) (sB1 rfl) sF0) (saC (sS (sA (sT1 rfl) sT0) sB0 sF0) (saC (sS (sA (sT1 rfl) (sT1 rfl)) sB0 sF0) (saC (sS (sA (sT1 rfl) sT0) sB0 sF0) (saC (sS (sT1 rfl) sB0 sF0) saN))))))))))) ?_
              exact thenN (cutLeaf (v := w64 ((w64 ((blen x6 : Int) - (blen x7 : Int))) - 1)) hr (weak0 ((sT rfl (sT rfl sT0))) (sub_keep sub_nil)))
            · rintro x9 hr
              show AW Hfaa.prog _ _ _ ⟨[(7, .inr (.inl (7, 0))), (8, .inl (is (I64 x9)))], [(7, pb 175 [is (U64 x2), is (Bl x3), is (I8 x4), is (Bl x5), big x6, big x7])]⟩
              have hr : some r = F113_4 N x2 x3 x4 x5 x6 x7 x9 := hr
              refine AW_seq1 ?_
              refine AW_region ?_
              refine AL_cons (LR_fieldAddr (off := 0) (o := 3) (at_tmp 7 _) (fun b w => fa175_3 b 0 w) rfl) (sS (sT1 rfl) sB0 sF0) ?_
              refine AL_cons (LR_fieldAddr (off := 3) (o := 4) (at_tmp 33 _) (fun b w => fa119_1 b 3 w) rfl) (sS (sT1 rfl) sB0 sF0) ?_
              refine AL_cons (LR_load (at_tmp 34 _) na49 rfl rfl) (sS (sT1 rfl) (sB1 rfl) sF0) ?_
              refine AL_cons (LR_fieldAddr (off := 0) (o := 3) (at_tmp 7 _) (fun b w => fa175_3 b 0 w) rfl) (sS (sT1 rfl) sB0 sF0) ?_
              refine AL_cons (LR_fieldAddr (off := 3) (o := 5) (at_tmp 36 _) (fun b w => fa119_2 b 3 w) rfl) (sS (sT1 rfl) sB0 sF0) ?_
              refine AL_cons (LR_load (at_tmp 37 _) na49 rfl rfl) (sS (sT1 rfl) (sB1 rfl) sF0) ?_
              refine AL_cons (LR_move (at_tmp 8 _) rfl) (sS (sT1 rfl) sB0 sF0) ?_
              refine AL_cons (LR_move (at_tmp 8 _) rfl) (sS (sT1 rfl) sB0 sF0) ?_
              refine AL_cons (LR_bin (at_tmp 40 _) (at_c (v' := I64 1) rfl) (add_I64 x9 1) rfl) (sS (sA (sT1 rfl) sT0) sB0 sF0) ?_
              obtain ⟨y6, hy6, hr⟩ := bind_some hr
              refine AL_cons (LR_call Hfaa.func207 rfl rfl (C207 N x6 x7 x9 (w64 (x9 + 1)) y6 hy6) (all_cons (at_tmp 35 _) (all_cons (at_tmp 38 _) (all_cons (at_tmp 39 _) (all_cons (at_tmp 41 _) all_nil)))) rfl) (sS (sA (sT1 rfl) (sA (sT1 rfl) (sA (sT1 rfl) (sA (sT1 rfl) sT0)))) sB0 sF0) ?_
              refine AL_cons (LR_assign (at_tmp 42 _) rfl) (sS (sT1 rfl) sB0 sF0) ?_
              refine AL_cons (LR_assign (at_c (v' := Bl true) rfl) rfl) (sS sT0 sB0 sF0) ?_
              refine AL_cons (LR_assign (at_c (v' := U8 (0#8)) rfl) rfl) (sS sT0 sB0 sF0) ?_
              refine AL_nil ?_
              refine thenN ?_
              refine AW_ret ?_
              obtain rfl := Option.some.inj hr
              exact res3 rfl (rvT rfl) (rvT rfl) (rvT rfl)
/-- exact.LogB -/
def F308_1 (N : Nat) (x1 : Int) (x2 : Bool) : Option (Int × Bool) := some (x1, x2)
def F308 (N : Nat) (a0_0 : BitVec 8) (a0_1 : BitVec 8) (a1 : BitVec 64) : Option (Int × Bool) := (F113 N a0_0 a0_1 a1).bind fun y2 => F308_1 N y2.1 y2.2.1
theorem C308 (N : Nat) (a0_0 : BitVec 8) (a0_1 : BitVec 8) (a1 : BitVec 64) (r : Int × Bool) (hr : some r = F308 N a0_0 a0_1 a1) : Aw.Fn Hfaa.prog 308 [agg [is (U8 a0_0), is (U8 a0_1)], is (U64 a1)] (tup [is (I64 r.1), is (Bl r.2)]) := by
  refine fn_intro Hfaa.func308 rfl rfl rfl ?_
  intro bn0 w0 H0
  refine AW_seq1 ?_
  refine AW_region ?_
  refine AL_cons (LR_box (at_tmp 0 _) (cells_agg _) rfl) (sS (sT1 rfl) sB0 (sF1 rfl)) ?_
  refine AL_cons (LR_assign (at_c (v' := I64 0) rfl) rfl) (sS sT0 sB0 sF0) ?_
  refine AL_cons (LR_assign (at_c (v' := Bl false) rfl) rfl) (sS sT0 sB0 sF0) ?_
  refine AL_nil ?_
  refine thenN ?_
  refine AW_cut (σ := Int × Bool) (fun v => ⟨[(6, .inl (is (I64 v.1))), (7, .inl (is (Bl v.2)))], []⟩) (fun v => some r = F308_1 N v.1 v.2) ?_ ?_
  · skip
    refine AW_region ?_
    refine AL_cons (LR_loads (at_tmp 2 _) ag23 sz23 rfl rfl rfl) (sS (sT1 rfl) (sB1 rfl) sF0) ?_
    refine AL_cons (LR_move (at_tmp 1 _) rfl) (sS (sT1 rfl) sB0 sF0) ?_
    obtain ⟨y2, hy2, hr⟩ := bind_some hr
    refine AL_cons (LR_call Hfaa.func113 rfl rfl (C113 N a0_0 a0_1 a1 y2 hy2) (all_cons (at_tmp 10 _) (all_cons (at_tmp 11 _) all_nil)) rfl) (sS (sA (sT1 rfl) (sA (sT1 rfl) sT0)) sB0 sF0) ?_
    refine AL_cons (LR_move (at_tmp 12 _) rfl) (sS (sT1 rfl) sB0 sF0) ?_
    refine AL_cons (LR_extract (at_tmp 9 _) rfl rfl) (sS (sT1 rfl) sB0 sF0) ?_
    refine AL_cons (LR_extract (at_tmp 9 _) rfl rfl) (sS (sT1 rfl) sB0 sF0) ?_
    refine AL_cons (LR_extract (at_tmp 9 _) rfl rfl) (sS (sT1 rfl) sB0 sF0) ?_
    refine AL_cons (LR_assign (at_tmp 13 _) rfl) (sS (sT1 rfl) sB0 sF0) ?_
    refine AL_cons (LR_assign (at_tmp 14 _) rfl) (sS (sT1 rfl) sB0 sF0) ?_
    refine AL_cons (LR_assign (at_tmp 15 _) rfl) (sS (sT1 rfl) sB0 sF0) ?_
    refine AL_nil ?_
    exact thenN (cutLeaf (v := (y2.1, y2.2.1)) hr (weak0 ((sT rfl (sT rfl sT0))) (sub_drop sub_nil)))
  · rintro ⟨x1, x2⟩ hr
    show AW Hfaa.prog _ _ _ ⟨[(6, .inl (is (I64 x1))), (7, .inl (is (Bl x2)))], []⟩
    have hr : some r = F308_1 N x1 x2 := hr
    refine AW_seq1 ?_
    refine AW_region ?_
    refine AL_cons (LR_move (at_tmp 6 _) rfl) (sS (sT1 rfl) sB0 sF0) ?_
    refine AL_cons (LR_move (at_tmp 7 _) rfl) (sS (sT1 rfl) sB0 sF0) ?_
    refine AL_cons (LR_assign (at_tmp 16 _) rfl) (sS (sT1 rfl) sB0 sF0) ?_
    refine AL_cons (LR_assign (at_tmp 17 _) rfl) (sS (sT1 rfl) sB0 sF0) ?_
    refine AL_nil ?_
    refine thenN ?_
    refine AW_ret ?_
    obtain rfl := Option.some.inj hr
    exact res2 rfl (rvT rfl) (rvT rfl)
/-- calc/ex.convFlags -/
def F309_1 (N : Nat) (x1 : BitVec 8) : Option (BitVec 8 × Bool) := some (x1, true)
def F309_5 (N : Nat) (x4 : BitVec 8) (x5 : BitVec 8) (x6 : BitVec 8) : Option (BitVec 8 × Bool) := lt (F40 x4 x5) fun y10 => some (x6, y10)
def F309_4 (N : Nat) (a0_0 : BitVec 8) (a0_1 : BitVec 8) (a1 : BitVec 8) (a3 : BitVec 64) (x4 : BitVec 8) (x5 : BitVec 8) : Option (BitVec 8 × Bool) := (F114 N a0_0 a0_1 x4 x5 a1 a3).bind fun y11 => F309_5 N x4 x5 y11.2
def F309_8 (N : Nat) (a0_0 : BitVec 8) (a0_1 : BitVec 8) (a1 : BitVec 8) (a2 : BitVec 64) (x9 : Bool) : Option (BitVec 8 × Bool) := bif x9 then (F134 N a0_0 a0_1 a1 (a2 >>> 2)).bind fun y14 => F309_1 N y14.2 else F309_1 N (0#8)
def F309_7 (N : Nat) (a0_0 : BitVec 8) (a0_1 : BitVec 8) (a1 : BitVec 8) (a2 : BitVec 64) (x2 : BitVec 64) (x8 : Bool) : Option (BitVec 8 × Bool) := bif x8 then (F133 N a0_0 a0_1 a1 ((w64 (a2.toNat : Int)) / 2 ^ 2)).bind fun y13 => F309_1 N y13.2 else F309_8 N a0_0 a0_1 a1 a2 (x2 == (3#64))
def F309_6 (N : Nat) (a0_0 : BitVec 8) (a0_1 : BitVec 8) (a1 : BitVec 8) (a2 : BitVec 64) (a3 : BitVec 64) (x2 : BitVec 64) (x7 : Bool) : Option (BitVec 8 × Bool) := bif x7 then (F131 N a0_0 a0_1 (2#8) a3).bind fun y12 => F309_1 N y12.2.2 else F309_7 N a0_0 a0_1 a1 a2 x2 (x2 == (2#64))
def F309_3 (N : Nat) (a0_0 : BitVec 8) (a0_1 : BitVec 8) (a1 : BitVec 8) (a2 : BitVec 64) (a3 : BitVec 64) (x2 : BitVec 64) (x3 : Bool) : Option (BitVec 8 × Bool) := bif x3 then F309_4 N a0_0 a0_1 a1 a3 (BitVec.ofInt 8 ((a2 >>> 8).toNat : Int)) (BitVec.ofInt 8 ((a2 >>> 16).toNat : Int)) else F309_6 N a0_0 a0_1 a1 a2 a3 x2 (x2 == (1#64))
def F309_2 (N : Nat) (a0_0 : BitVec 8) (a0_1 : BitVec 8) (a1 : BitVec 8) (a2 : BitVec 64) (a3 : BitVec 64) (x2 : BitVec 64) : Option (BitVec 8 × Bool) := F309_3 N a0_0 a0_1 a1 a2 a3 x2 (x2 == (0#64))
def F309 (N : Nat) (a0_0 : BitVec 8) (a0_1 : BitVec 8) (a1 : BitVec 8) (a2 : BitVec 64) (a3 : BitVec 64) : Option (BitVec 8 × Bool) := F309_2 N a0_0 a0_1 a1 a2 a3 (a2 &&& (3#64))
theorem C309 (N : Nat) (a0_0 : BitVec 8) (a0_1 : BitVec 8) (a1 : BitVec 8) (a2 : BitVec 64) (a3 : BitVec 64) (r : BitVec 8 × Bool) (hr : some r = F309 N a0_0 a0_1 a1 a2 a3) : Aw.Fn Hfaa.prog 309 [agg [is (U8 a0_0), is (U8 a0_1)], is (U8 a1), is (U64 a2), is (U64 a3)] (tup [is (U8 r.1), is (Bl r.2)]) := by
  refine fn_intro Hfaa.func309 rfl rfl rfl ?_
  intro bn0 w0 H0
  refine AW_seq1 ?_
  refine AW_region ?_
  refine AL_cons (LR_box (at_tmp 0 _) (cells_agg _) rfl) (sS (sT1 rfl) sB0 (sF1 rfl)) ?_
  refine AL_cons (LR_assign (at_c (v' := U8 (0#8)) rfl) rfl) (sS sT0 sB0 sF0) ?_
  refine AL_cons (LR_assign (at_c (v' := Bl false) rfl) rfl) (sS sT0 sB0 sF0) ?_
  refine AL_nil ?_
  refine thenN ?_
  refine AW_cut (σ := BitVec 8) (fun v => ⟨[(8, .inl (is (U8 v)))], []⟩) (fun v => some r = F309_1 N v) ?_ ?_
  · skip
    refine AW_cut (σ := BitVec 64) (fun v => ⟨[(1, .inl (is (U8 a1))), (2, .inl (is (U64 a2))), (3, .inl (is (U64 a3))), (4, .inr (.inl (4, 0))), (8, .inl (is (U8 (0#8)))), (12, .inl (is (U64 v)))], [(4, pb 23 [is (U8 a0_0), is (U8 a0_1)])]⟩) (fun v => some r = F309_2 N a0_0 a0_1 a1 a2 a3 v) ?_ ?_
    · skip
      refine AW_region ?_
      refine AL_cons (LR_move (at_tmp 2 _) rfl) (sS (sT1 rfl) sB0 sF0) ?_
      refine AL_cons (LR_bin (at_tmp 11 _) (at_c (v' := U64 (3#64)) rfl) (and_U64 a2 (3#64)) rfl) (sS (sA (sT1 rfl) sT0) sB0 sF0) ?_
      refine AL_nil ?_
      exact thenN (cutLeaf (v := a2 &&& (3#64)) hr (weak0 ((sT rfl (sT rfl (sT rfl (sT rfl (sT rfl (sT rfl sT0))))))) (sub_keep sub_nil)))
    · rintro x2 hr
      show AW Hfaa.prog _ _ _ ⟨[(1, .inl (is (U8 a1))), (2, .inl (is (U64 a2))), (3, .inl (is (U64 a3))), (4, .inr (.inl (4, 0))), (8, .inl (is (U8 (0#8)))), (12, .inl (is (U64 x2)))], [(4, pb 23 [is (U8 a0_0), is (U8 a0_1)])]⟩
      have hr : some r = F309_2 N a0_0 a0_1 a1 a2 a3 x2 := hr
      refine AW_block ?_
      refine AW_cut (σ := Bool) (fun v => ⟨[(1, .inl (is (U8 a1))), (2, .inl (is (U64 a2))), (3, .inl (is (U64 a3))), (4, .inr (.inl (4, 0))), (8, .inl (is (U8 (0#8)))), (12, .inl (is (U64 x2))), (13, .inl (is (Bl v)))], [(4, pb 23 [is (U8 a0_0), is (U8 a0_1)])]⟩) (fun v => some r = F309_3 N a0_0 a0_1 a1 a2 a3 x2 v) ?_ ?_
      · skip
        refine AW_region ?_
        refine AL_cons (LR_bin (at_tmp 12 _) (at_c (v' := U64 (0#64)) rfl) (eql_U64 x2 (0#64)) rfl) (sS (sA (sT1 rfl) sT0) sB0 sF0) ?_
        refine AL_cons (LR_assign (at_tmp 14 _) rfl) (sS (sT1 rfl) sB0 sF0) ?_
        refine AL_nil ?_
        exact thenN (cutLeaf (v := x2 == (0#64)) hr (weak0 ((sT rfl (sT rfl (sT rfl (sT rfl (sT rfl (sT rfl (sT rfl sT0)))))))) (sub_keep sub_nil)))
      · rintro x3 hr
        show AW Hfaa.prog _ _ _ ⟨[(1, .inl (is (U8 a1))), (2, .inl (is (U64 a2))), (3, .inl (is (U64 a3))), (4, .inr (.inl (4, 0))), (8, .inl (is (U8 (0#8)))), (12, .inl (is (U64 x2))), (13, .inl (is (Bl x3)))], [(4, pb 23 [is (U8 a0_0), is (U8 a0_1)])]⟩
        have hr : some r = F309_3 N a0_0 a0_1 a1 a2 a3 x2 x3 := hr
        refine AW_condT (b := x3) rfl (fun h => ?_) (fun h => ?_)
        · have hr := hr.trans (cond_t h)
          clear h
          refine AW_cut (σ := BitVec 8 × BitVec 8) (fun v => ⟨[(1, .inl (is (U8 a1))), (3, .inl (is (U64 a3))), (4, .inr (.inl (4, 0))), (10, .inr (.inl (10, 0)))], [(4, pb 23 [is (U8 a0_0), is (U8 a0_1)]), (10, pb 23 [is (U8 v.1), is (U8 v.2)])]⟩) (fun v => some r = F309_4 N a0_0 a0_1 a1 a3 v.1 v.2) ?_ ?_
          · skip
            refine AW_region ?_
            refine AL_cons (LR_move (at_tmp 2 _) rfl) (sS (sT1 rfl) sB0 sF0) ?_
            refine AL_cons (LR_bin (at_tmp 15 _) (at_c (v' := U64 (8#64)) rfl) (shr_U64 a2 ((8#64).toNat : Int) (Int.natCast_nonneg _)) rfl) (sS (sA (sT1 rfl) sT0) sB0 sF0) ?_
            refine AL_cons (LR_conv (vx := U64 (a2 >>> 8)) (at_tmp 16 _) (conv_U8 Hfaa.underlying30 Hfaa.underlying5 ((a2 >>> 8).toNat : Int)) rfl) (sS (sT1 rfl) sB0 sF0) ?_
            refine AL_cons (LR_move (at_tmp 2 _) rfl) (sS (sT1 rfl) sB0 sF0) ?_
            refine AL_cons (LR_bin (at_tmp 18 _) (at_c (v' := U64 (16#64)) rfl) (shr_U64 a2 ((16#64).toNat : Int) (Int.natCast_nonneg _)) rfl) (sS (sA (sT1 rfl) sT0) sB0 sF0) ?_
            refine AL_cons (LR_conv (vx := U64 (a2 >>> 16)) (at_tmp 19 _) (conv_U8 Hfaa.underlying30 Hfaa.underlying5 ((a2 >>> 16).toNat : Int)) rfl) (sS (sT1 rfl) sB0 sF0) ?_
            refine AL_cons (bl23 (parts_cons (i := 0) (off := 0) (at_tmp 17 _) (cells_one (one_is rfl)) rfl rfl (parts_cons (i := 1) (off := 1) (at_tmp 20 _) (cells_one (one_is rfl)) rfl rfl parts_nil)) rfl rfl) (sS (sA (sT1 rfl) (sA (sT1 rfl) sT0)) sB0 sF0) ?_
            refine AL_cons (zl23 rfl) (sS sT0 sB0 (sF1 rfl)) ?_
            refine AL_cons (LR_store (at_tmp 10 _) (at_tmp 21 _) (cells_agg _) (onC (one_is rfl) (onC (one_is rfl) onN)) sz23 rfl rfl) (sS (sA (sT1 rfl) (sT1 rfl)) (sB1 rfl) sF0) ?_
            refine AL_nil ?_
            exact thenN (cutLeaf (v := (BitVec.ofInt 8 ((a2 >>> 8).toNat : Int), BitVec.ofInt 8 ((a2 >>> 16).toNat : Int))) hr (weak0 ((sT rfl (sT rfl (sT rfl (sT rfl sT0))))) (sub_keep (sub_keep sub_nil))))
          · rintro ⟨x4, x5⟩ hr
            show AW Hfaa.prog _ _ _ ⟨[(1, .inl (is (U8 a1))), (3, .inl (is (U64 a3))), (4, .inr (.inl (4, 0))), (10, .inr (.inl (10, 0)))], [(4, pb 23 [is (U8 a0_0), is (U8 a0_1)]), (10, pb 23 [is (U8 x4), is (U8 x5)])]⟩
            have hr : some r = F309_4 N a0_0 a0_1 a1 a3 x4 x5 := hr
            refine AW_cut (σ := BitVec 8) (fun v => ⟨[(10, .inr (.inl (10, 0))), (8, .inl (is (U8 v)))], [(10, pb 23 [is (U8 x4), is (U8 x5)])]⟩) (fun v => some r = F309_5 N x4 x5 v) ?_ ?_
            · skip
              refine AW_region ?_
              refine AL_cons (LR_loads (at_tmp 4 _) ag23 sz23 rfl rfl rfl) (sS (sT1 rfl) (sB1 rfl) sF0) ?_
              refine AL_cons (LR_loads (at_tmp 10 _) ag23 sz23 rfl rfl rfl) (sS (sT1 rfl) (sB1 rfl) sF0) ?_
              refine AL_cons (LR_move (at_tmp 1 _) rfl) (sS (sT1 rfl) sB0 sF0) ?_
              refine AL_cons (LR_move (at_tmp 3 _) rfl) (sS (sT1 rfl) sB0 sF0) ?_
              obtain ⟨y11, hy11, hr⟩ := bind_some hr
              refine AL_cons (LR_call Hfaa.func114 rfl rfl (C114 N a0_0 a0_1 x4 x5 a1 a3 y11 hy11) (all_cons (at_tmp 23 _) (all_cons (at_tmp 24 _) (all_cons (at_tmp 25 _) (all_cons (at_tmp 26 _) all_nil)))) rfl) (sS (sA (sT1 rfl) (sA (sT1 rfl) (sA (sT1 rfl) (sA (sT1 rfl) sT0)))) sB0 sF0) ?_
              refine AL_cons (LR_move (at_tmp 27 _) rfl) (sS (sT1 rfl) sB0 sF0) ?_
              refine AL_cons (LR_extract (at_tmp 22 _) rfl rfl) (sS (sT1 rfl) sB0 sF0) ?_
              refine AL_cons (LR_extract (at_tmp 22 _) rfl rfl) (sS (sT1 rfl) sB0 sF0) ?_
              refine AL_cons (LR_assign (at_tmp 29 _) rfl) (sS (sT1 rfl) sB0 sF0) ?_
              refine AL_nil ?_
              exact thenN (cutLeaf (v := y11.2) hr (weak0 ((sT rfl (sT rfl sT0))) (sub_drop (sub_keep sub_nil))))
            · rintro x6 hr
              show AW Hfaa.prog _ _ _ ⟨[(10, .inr (.inl (10, 0))), (8, .inl (is (U8 x6)))], [(10, pb 23 [is (U8 x4), is (U8 x5)])]⟩
              have hr : some r = F309_5 N x4 x5 x6 := hr
              refine AW_seq1 ?_
              refine AW_region ?_
              refine AL_cons (LR_move (at_tmp 8 _) rfl) (sS (sT1 rfl) sB0 sF0) ?_
              refine AL_cons (LR_loads (at_tmp 10 _) ag23 sz23 rfl rfl rfl) (sS (sT1 rfl) (sB1 rfl) sF0) ?_
              obtain ⟨y10, hy10, hr⟩ := lt_some hr
              refine AL_cons (LR_call Hfaa.func40 rfl rfl (C40 x4 x5 y10 hy10) (all_cons (at_tmp 31 _) all_nil) rfl) (sS (sA (sT1 rfl) sT0) sB0 sF0) ?_
              refine AL_cons (LR_assign (at_tmp 30 _) rfl) (sS (sT1 rfl) sB0 sF0) ?_
              refine AL_cons (LR_assign (at_tmp 32 _) rfl) (sS (sT1 rfl) sB0 sF0) ?_
              refine AL_nil ?_
              refine thenN ?_
              refine AW_ret ?_
              refine blR ?_
              refine thenR ?_
              obtain rfl := Option.some.inj hr
              exact res2 rfl (rvT rfl) (rvT rfl)
        · have hr := hr.trans (cond_f h)
          clear h
          refine AW_cut (σ := Bool) (fun v => ⟨[(1, .inl (is (U8 a1))), (2, .inl (is (U64 a2))), (3, .inl (is (U64 a3))), (4, .inr (.inl (4, 0))), (8, .inl (is (U8 (0#8)))), (12, .inl (is (U64 x2))), (33, .inl (is (Bl v)))], [(4, pb 23 [is (U8 a0_0), is (U8 a0_1)])]⟩) (fun v => some r = F309_6 N a0_0 a0_1 a1 a2 a3 x2 v) ?_ ?_
          · skip
            refine AW_region ?_
            refine AL_cons (LR_bin (at_tmp 12 _) (at_c (v' := U64 (1#64)) rfl) (eql_U64 x2 (1#64)) rfl) (sS (sA (sT1 rfl) sT0) sB0 sF0) ?_
            refine AL_cons (LR_assign (at_tmp 34 _) rfl) (sS (sT1 rfl) sB0 sF0) ?_
            refine AL_nil ?_
            exact thenN (cutLeaf (v := x2 == (1#64)) hr (weak0 ((sT rfl (sT rfl (sT rfl (sT rfl (sT rfl (sT rfl (sT rfl sT0)))))))) (sub_keep sub_nil)))
          · rintro x7 hr
            show AW Hfaa.prog _ _ _ ⟨[(1, .inl (is (U8 a1))), (2, .inl (is (U64 a2))), (3, .inl (is (U64 a3))), (4, .inr (.inl (4, 0))), (8, .inl (is (U8 (0#8)))), (12, .inl (is (U64 x2))), (33, .inl (is (Bl x7)))], [(4, pb 23 [is (U8 a0_0), is (U8 a0_1)])]⟩
            have hr : some r = F309_6 N a0_0 a0_1 a1 a2 a3 x2 x7 := hr
            refine AW_condT (b := x7) rfl (fun h => ?_) (fun h => ?_)
            · have hr := hr.trans (cond_t h)
              clear h
              refine AW_region ?_
              refine AL_cons (LR_loads (at_tmp 4 _) ag23 sz23 rfl rfl rfl) (sS (sT1 rfl) (sB1 rfl) sF0) ?_
              refine AL_cons (LR_move (at_tmp 3 _) rfl) (sS (sT1 rfl) sB0 sF0) ?_
              obtain ⟨y12, hy12, hr⟩ := bind_some hr
              refine AL_cons (LR_call Hfaa.func131 rfl rfl (C131 N a0_0 a0_1 (2#8) a3 y12 hy12) (all_cons (at_tmp 36 _) (all_cons (at_c (v' := U8 (2#8)) rfl) (all_cons (at_tmp 37 _) all_nil))) rfl) (sS (sA (sT1 rfl) (sA sT0 (sA (sT1 rfl) sT0))) sB0 sF0) ?_
              refine AL_cons (LR_move (at_tmp 38 _) rfl) (sS (sT1 rfl) sB0 sF0) ?_
              refine AL_cons (LR_extract (at_tmp 35 _) rfl rfl) (sS (sT1 rfl) sB0 sF0) ?_
              refine AL_cons (LR_extract (at_tmp 35 _) rfl rfl) (sS (sT1 rfl) sB0 sF0) ?_
              refine AL_cons (LR_extract (at_tmp 35 _) rfl rfl) (sS (sT1 rfl) sB0 sF0) ?_
              refine AL_cons (LR_assign (at_tmp 41 _) rfl) (sS (sT1 rfl) sB0 sF0) ?_
              refine AL_nil ?_
              refine blN ?_
              exact thenN (cutLeaf (v := y12.2.2) hr (weak0 ((sT rfl sT0)) (sub_drop sub_nil)))
            · have hr := hr.trans (cond_f h)
              clear h
              refine AW_cut (σ := Bool) (fun v => ⟨[(1, .inl (is (U8 a1))), (2, .inl (is (U64 a2))), (4, .inr (.inl (4, 0))), (8, .inl (is (U8 (0#8)))), (12, .inl (is (U64 x2))), (42, .inl (is (Bl v)))], [(4, pb 23 [is (U8 a0_0), is (U8 a0_1)])]⟩) (fun v => some r = F309_7 N a0_0 a0_1 a1 a2 x2 v) ?_ ?_
              · skip
                refine AW_region ?_
                refine AL_cons (LR_bin (at_tmp 12 _) (at_c (v' := U64 (2#64)) rfl) (eql_U64 x2 (2#64)) rfl) (sS (sA (sT1 rfl) sT0) sB0 sF0) ?_
                refine AL_cons (LR_assign (at_tmp 43 _) rfl) (sS (sT1 rfl) sB0 sF0) ?_
                refine AL_nil ?_
                exact thenN (cutLeaf (v := x2 == (2#64)) hr (weak0 ((sT rfl (sT rfl (sT rfl (sT rfl (sT rfl (sT rfl sT0))))))) (sub_keep sub_nil)))
              · rintro x8 hr
                show AW Hfaa.prog _ _ _ ⟨[(1, .inl (is (U8 a1))), (2, .inl (is (U64 a2))), (4, .inr (.inl (4, 0))), (8, .inl (is (U8 (0#8)))), (12, .inl (is (U64 x2))), (42, .inl (is (Bl x8)))], [(4, pb 23 [is (U8 a0_0), is (U8 a0_1)])]⟩
                have hr : some r = F309_7 N a0_0 a0_1 a1 a2 x2 x8 := hr
                refine AW_condT (b := x8) rfl (fun h => ?_) (fun h => ?_)
                · have hr := hr.trans (cond_t h)
                  clear h
                  refine AW_region ?_
                  refine AL_cons (LR_loads (at_tmp 4 _) ag23 sz23 rfl rfl rfl) (sS (sT1 rfl) (sB1 rfl) sF0) ?_
                  refine AL_cons (LR_move (at_tmp 1 _) rfl) (sS (sT1 rfl) sB0 sF0) ?_
                  refine AL_cons (LR_move (at_tmp 2 _) rfl) (sS (sT1 rfl) sB0 sF0) ?_
                  refine AL_cons (LR_conv (vx := U64 a2) (at_tmp 47 _) (conv_I64 Hfaa.underlying30 Hfaa.underlying2 (a2.toNat : Int)) rfl) (sS (sT1 rfl) sB0 sF0) ?_
                  refine AL_cons (LR_bin (at_tmp 48 _) (at_c (v' := U64 (2#64)) rfl) (shr_I64 (w64 (a2.toNat : Int)) ((2#64).toNat : Int) (Int.natCast_nonneg _) (by decide)) rfl) (sS (sA (sT1 rfl) sT0) sB0 sF0) ?_
                  obtain ⟨y13, hy13, hr⟩ := bind_some hr
                  refine AL_cons (LR_call Hfaa.func133 rfl rfl (C133 N a0_0 a0_1 a1 ((w64 (a2.toNat : Int)) / 2 ^ 2) y13 hy13) (all_cons (at_tmp 45 _) (all_cons (at_tmp 46 _) (all_cons (at_tmp 49 _) all_nil))) rfl) (sS (sA (sT1 rfl) (sA (sT1 rfl) (sA (sT1 rfl) sT0))) sB0 sF0) ?_
                  refine AL_cons (LR_move (at_tmp 50 _) rfl) (sS (sT1 rfl) sB0 sF0) ?_
                  refine AL_cons (LR_extract (at_tmp 44 _) rfl rfl) (sS (sT1 rfl) sB0 sF0) ?_
                  refine AL_cons (LR_extract (at_tmp 44 _) rfl rfl) (sS (sT1 rfl) sB0 sF0) ?_
                  refine AL_cons (LR_assign (at_tmp 52 _) rfl) (sS (sT1 rfl) sB0 sF0) ?_
                  refine AL_nil ?_
                  refine blN ?_
                  exact thenN (cutLeaf (v := y13.2) hr (weak0 ((sT rfl sT0)) (sub_drop sub_nil)))
                · have hr := hr.trans (cond_f h)
                  clear h
                  refine AW_cut (σ := Bool) (fun v => ⟨[(1, .inl (is (U8 a1))), (2, .inl (is (U64 a2))), (4, .inr (.inl (4, 0))), (8, .inl (is (U8 (0#8)))), (53, .inl (is (Bl v)))], [(4, pb 23 [is (U8 a0_0), is (U8 a0_1)])]⟩) (fun v => some r = F309_8 N a0_0 a0_1 a1 a2 v) ?_ ?_
                  · skip
                    refine AW_region ?_
                    refine AL_cons (LR_bin (at_tmp 12 _) (at_c (v' := U64 (3#64)) rfl) (eql_U64 x2 (3#64)) rfl) (sS (sA (sT1 rfl) sT0) sB0 sF0) ?_
                    refine AL_cons (LR_assign (at_tmp 54 _) rfl) (sS (sT1 rfl) sB0 sF0) ?_
                    refine AL_nil ?_
                    exact thenN (cutLeaf (v := x2 == (3#64)) hr (weak0 ((sT rfl (sT rfl (sT rfl (sT rfl (sT rfl sT0)))))) (sub_keep sub_nil)))
                  · rintro x9 hr
                    show AW Hfaa.prog _ _ _ ⟨[(1, .inl (is (U8 a1))), (2, .inl (is (U64 a2))), (4, .inr (.inl (4, 0))), (8, .inl (is (U8 (0#8)))), (53, .inl (is (Bl x9)))], [(4, pb 23 [is (U8 a0_0), is (U8 a0_1)])]⟩
                    have hr : some r = F309_8 N a0_0 a0_1 a1 a2 x9 := hr
                    refine AW_condT (b := x9) rfl (fun h => ?_) (fun h => ?_)
                    · have hr := hr.trans (cond_t h)
                      clear h
                      refine AW_region ?_
                      refine AL_cons (LR_loads (at_tmp 4 _) ag23 sz23 rfl rfl rfl) (sS (sT1 rfl) (sB1 rfl) sF0) ?_
                      refine AL_cons (LR_move (at_tmp 1 _) rfl) (sS (sT1 rfl) sB0 sF0) ?_
                      refine AL_cons (LR_move (at_tmp 2 _) rfl) (sS (sT1 rfl) sB0 sF0) ?_
                      refine AL_cons (LR_bin (at_tmp 58 _) (at_c (v' := U64 (2#64)) rfl) (shr_U64 a2 ((2#64).toNat : Int) (Int.natCast_nonneg _)) rfl) (sS (sA (sT1 rfl) sT0) sB0 sF0) ?_
                      obtain ⟨y14, hy14, hr⟩ := bind_some hr
                      refine AL_cons (LR_call Hfaa.func134 rfl rfl (C134 N a0_0 a0_1 a1 (a2 >>> 2) y14 hy14) (all_cons (at_tmp 56 _) (all_cons (at_tmp 57 _) (all_cons (at_tmp 59 _) all_nil))) rfl) (sS (sA (sT1 rfl) (sA (sT1 rfl) (sA (sT1 rfl) sT0))) sB0 sF0) ?_
                      refine AL_cons (LR_move (at_tmp 60 _) rfl) (sS (sT1 rfl) sB0 sF0) ?_
                      refine AL_cons (LR_extract (at_tmp 55 _) rfl rfl) (sS (sT1 rfl) sB0 sF0) ?_
                      refine AL_cons (LR_extract (at_tmp 55 _) rfl rfl) (sS (sT1 rfl) sB0 sF0) ?_
                      refine AL_cons (LR_assign (at_tmp 62 _) rfl) (sS (sT1 rfl) sB0 sF0) ?_
                      refine AL_nil ?_
                      refine blN ?_
                      exact thenN (cutLeaf (v := y14.2) hr (weak0 ((sT rfl sT0)) (sub_drop sub_nil)))
                    · have hr := hr.trans (cond_f h)
                      clear h
                      refine AW_skip ?_
                      refine blN ?_
                      exact thenN (cutLeaf (v := 0#8) hr (weak0 ((sT rfl sT0)) (sub_drop sub_nil)))
  · rintro x1 hr
    show AW Hfaa.prog _ _ _ ⟨[(8, .inl (is (U8 x1)))], []⟩
    have hr : some r = F309_1 N x1 := hr
    refine AW_seq1 ?_
    refine AW_region ?_
    refine AL_cons (LR_move (at_tmp 8 _) rfl) (sS (sT1 rfl) sB0 sF0) ?_
    refine AL_cons (LR_assign (at_tmp 63 _) rfl) (sS (sT1 rfl) sB0 sF0) ?_
    refine AL_cons (LR_assign (at_c (v' := Bl true) rfl) rfl) (sS sT0 sB0 sF0) ?_
    refine AL_nil ?_
    refine thenN ?_
    refine AW_ret ?_
    obtain rfl := Option.some.inj hr
    exact res2 rfl (rvT rfl) (rvT rfl)
/-- calc/ex.more -/
def F227_15 (N : Nat) (b2_0 : Nat → BitVec 64) (b2_1 : NS (List UInt8)) (x21 : Bool) : Option ((Nat → BitVec 64) × NS (List UInt8)) := bif x21 then bif decide (b2_1.2.1 < 4294967296) then some ((b2_0, app b2_1 ([116, 111, 111, 32, 98, 105, 103] : List UInt8))) else none else bif decide (b2_1.2.1 < 4294967296) then some ((b2_0, app b2_1 ([119, 114, 111, 110, 103] : List UInt8))) else none
def F227_14 (N : Nat) (a0_0 : BitVec 8) (a0_1 : BitVec 8) (a1 : BitVec 8) (b2_0 : Nat → BitVec 64) (b2_1 : NS (List UInt8)) (a3_1 : BitVec 8) (x14 : BitVec 8) (x15 : Bool) (x16 : List UInt8) (x17 : Int) (x18 : Int) (x19 : Int) (x20 : Bool) : Option ((Nat → BitVec 64) × NS (List UInt8)) := bif x20 then (F108 N a0_0 a0_1 a1 x15 x16 x17).bind fun y17 => some ((upd b2_0 ((a3_1 &&& (7#8)).toNat) y17, b2_1)) else F227_15 N b2_0 b2_1 (x14 == (4#8))
def F227_13 (N : Nat) (a0_0 : BitVec 8) (a0_1 : BitVec 8) (a1 : BitVec 8) (b2_0 : Nat → BitVec 64) (b2_1 : NS (List UInt8)) (a3_1 : BitVec 8) (x14 : BitVec 8) (x15 : Bool) (x16 : List UInt8) (x17 : Int) (x18 : Int) (x19 : Int) : Option ((Nat → BitVec 64) × NS (List UInt8)) := F227_14 N a0_0 a0_1 a1 b2_0 b2_1 a3_1 x14 x15 x16 x17 x18 x19 (x14 == (0#8))
def F227_22 (N : Nat) (b2_0 : Nat → BitVec 64) (b2_1 : NS (List UInt8)) (x28 : BitVec 8) : Option ((Nat → BitVec 64) × NS (List UInt8)) := (F301 N x28).bind fun y27 => bif decide (b2_1.2.1 < 4294967296) then some (b2_0, app b2_1 y27) else none
def F227_24 (N : Nat) (b2_0 : Nat → BitVec 64) (b2_1 : NS (List UInt8)) (x30 : BitVec 8) (x31 : Bool) : Option ((Nat → BitVec 64) × NS (List UInt8)) := bif x31 then (F301 N x30).bind fun y32 => bif decide (b2_1.2.1 < 4294967296) then some (b2_0, app b2_1 y32) else none else some (b2_0, b2_1)
def F227_23 (N : Nat) (a0_0 : BitVec 8) (a0_1 : BitVec 8) (a1 : BitVec 8) (b2_0 : Nat → BitVec 64) (b2_1 : NS (List UInt8)) (a3_0 : BitVec 8) (a3_1 : BitVec 8) (a3_2 : BitVec 8) (a3_3 : BitVec 8) (a3_4 : BitVec 64) (a3_5 : List UInt8) (x1 : BitVec 64) (x29 : Bool) : Option ((Nat → BitVec 64) × NS (List UInt8)) := bif x29 then lt (F222 a0_0 a0_1 x1) fun y33 => (F309 N a0_0 a0_1 a1 a3_4 y33).bind fun y34 => F227_24 N b2_0 b2_1 y34.1 y34.2 else some (b2_0, b2_1)
def F227_21 (N : Nat) (a0_0 : BitVec 8) (a0_1 : BitVec 8) (a1 : BitVec 8) (b2_0 : Nat → BitVec 64) (b2_1 : NS (List UInt8)) (a3_0 : BitVec 8) (a3_1 : BitVec 8) (a3_2 : BitVec 8) (a3_3 : BitVec 8) (a3_4 : BitVec 64) (a3_5 : List UInt8) (x1 : BitVec 64) (x27 : Bool) : Option ((Nat → BitVec 64) × NS (List UInt8)) := bif x27 then lt (F222 a0_0 a0_1 x1) fun y28 => (F111 N a0_0 a0_1 a1 y28 (w64 (a3_4.toNat : Int))).bind fun y29 => F227_22 N b2_0 b2_1 y29.2 else F227_23 N a0_0 a0_1 a1 b2_0 b2_1 a3_0 a3_1 a3_2 a3_3 a3_4 a3_5 x1 (a3_0 == (28#8))
def F227_20 (N : Nat) (a0_0 : BitVec 8) (a0_1 : BitVec 8) (a1 : BitVec 8) (b2_0 : Nat → BitVec 64) (b2_1 : NS (List UInt8)) (a3_0 : BitVec 8) (a3_1 : BitVec 8) (a3_2 : BitVec 8) (a3_3 : BitVec 8) (a3_4 : BitVec 64) (a3_5 : List UInt8) (x1 : BitVec 64) (x26 : Bool) : Option ((Nat → BitVec 64) × NS (List UInt8)) := bif x26 then (F308 N a0_0 a0_1 x1).bind fun y23 => (F290 N y23.1 y23.2).bind fun y24 => bif decide (b2_1.2.1 < 4294967296) then some (b2_0, app b2_1 y24) else none else F227_21 N a0_0 a0_1 a1 b2_0 b2_1 a3_0 a3_1 a3_2 a3_3 a3_4 a3_5 x1 (a3_0 == (33#8))
def F227_19 (N : Nat) (a0_0 : BitVec 8) (a0_1 : BitVec 8) (a1 : BitVec 8) (b2_0 : Nat → BitVec 64) (b2_1 : NS (List UInt8)) (a3_0 : BitVec 8) (a3_1 : BitVec 8) (a3_2 : BitVec 8) (a3_3 : BitVec 8) (a3_4 : BitVec 64) (a3_5 : List UInt8) (x1 : BitVec 64) (x25 : Bool) : Option ((Nat → BitVec 64) × NS (List UInt8)) := bif x25 then (F307 N a0_0 a0_1 a1 x1 (w64 (a3_4.toNat : Int))).bind fun y22 => some ((upd b2_0 ((a3_1 &&& (7#8)).toNat) y22, b2_1)) else F227_20 N a0_0 a0_1 a1 b2_0 b2_1 a3_0 a3_1 a3_2 a3_3 a3_4 a3_5 x1 (a3_0 == (32#8))
def F227_18 (N : Nat) (a0_0 : BitVec 8) (a0_1 : BitVec 8) (a1 : BitVec 8) (b2_0 : Nat → BitVec 64) (b2_1 : NS (List UInt8)) (a3_0 : BitVec 8) (a3_1 : BitVec 8) (a3_2 : BitVec 8) (a3_3 : BitVec 8) (a3_4 : BitVec 64) (a3_5 : List UInt8) (x1 : BitVec 64) (x24 : Bool) : Option ((Nat → BitVec 64) × NS (List UInt8)) := bif x24 then (F306 N a0_0 a0_1 a1 a3_5).bind fun y21 => bif decide (b2_1.2.1 < 4294967296) then some (b2_0, app b2_1 y21) else none else F227_19 N a0_0 a0_1 a1 b2_0 b2_1 a3_0 a3_1 a3_2 a3_3 a3_4 a3_5 x1 (a3_0 == (31#8))
def F227_17 (N : Nat) (a0_0 : BitVec 8) (a0_1 : BitVec 8) (a1 : BitVec 8) (b2_0 : Nat → BitVec 64) (b2_1 : NS (List UInt8)) (a3_0 : BitVec 8) (a3_1 : BitVec 8) (a3_2 : BitVec 8) (a3_3 : BitVec 8) (a3_4 : BitVec 64) (a3_5 : List UInt8) (x1 : BitVec 64) (x23 : Bool) : Option ((Nat → BitVec 64) × NS (List UInt8)) := bif x23 then (F305 N a0_0 a0_1 a1 a3_5).bind fun y20 => bif decide (b2_1.2.1 < 4294967296) then some (b2_0, app b2_1 y20) else none else F227_18 N a0_0 a0_1 a1 b2_0 b2_1 a3_0 a3_1 a3_2 a3_3 a3_4 a3_5 x1 (a3_0 == (30#8))
def F227_16 (N : Nat) (a0_0 : BitVec 8) (a0_1 : BitVec 8) (a1 : BitVec 8) (b2_0 : Nat → BitVec 64) (b2_1 : NS (List UInt8)) (a3_0 : BitVec 8) (a3_1 : BitVec 8) (a3_2 : BitVec 8) (a3_3 : BitVec 8) (a3_4 : BitVec 64) (a3_5 : List UInt8) (x1 : BitVec 64) (x22 : Bool) : Option ((Nat → BitVec 64) × NS (List UInt8)) := bif x22 then (F225 N a0_0 a0_1 a1 b2_0 b2_1 a3_0 a3_1 a3_2 a3_3 a3_4 a3_5).bind fun y19 => some (y19.1, y19.2) else F227_17 N a0_0 a0_1 a1 b2_0 b2_1 a3_0 a3_1 a3_2 a3_3 a3_4 a3_5 x1 (a3_0 == (29#8))
def F227_12 (N : Nat) (a0_0 : BitVec 8) (a0_1 : BitVec 8) (a1 : BitVec 8) (b2_0 : Nat → BitVec 64) (b2_1 : NS (List UInt8)) (a3_0 : BitVec 8) (a3_1 : BitVec 8) (a3_2 : BitVec 8) (a3_3 : BitVec 8) (a3_4 : BitVec 64) (a3_5 : List UInt8) (x1 : BitVec 64) (x13 : Bool) : Option ((Nat → BitVec 64) × NS (List UInt8)) := bif x13 then (F304 N a3_5).bind fun y18 => F227_13 N a0_0 a0_1 a1 b2_0 b2_1 a3_1 y18.1 y18.2.1 y18.2.2.1 y18.2.2.2.1 y18.2.2.2.2.1 y18.2.2.2.2.2 else F227_16 N a0_0 a0_1 a1 b2_0 b2_1 a3_0 a3_1 a3_2 a3_3 a3_4 a3_5 x1 (a3_0 == (27#8))
def F227_11 (N : Nat) (a0_0 : BitVec 8) (a0_1 : BitVec 8) (a1 : BitVec 8) (b2_0 : Nat → BitVec 64) (b2_1 : NS (List UInt8)) (a3_0 : BitVec 8) (a3_1 : BitVec 8) (a3_2 : BitVec 8) (a3_3 : BitVec 8) (a3_4 : BitVec 64) (a3_5 : List UInt8) (x1 : BitVec 64) (x12 : Bool) : Option ((Nat → BitVec 64) × NS (List UInt8)) := bif x12 then (F105 N a0_0 a0_1 x1).bind fun y14 => lt (F292 a0_0 a0_1 x1 y14) fun y15 => bif decide (b2_1.2.1 < 4294967296) then some (b2_0, app b2_1 y15) else none else F227_12 N a0_0 a0_1 a1 b2_0 b2_1 a3_0 a3_1 a3_2 a3_3 a3_4 a3_5 x1 (a3_0 == (26#8))
def F227_10 (N : Nat) (a0_0 : BitVec 8) (a0_1 : BitVec 8) (a1 : BitVec 8) (b2_0 : Nat → BitVec 64) (b2_1 : NS (List UInt8)) (a3_0 : BitVec 8) (a3_1 : BitVec 8) (a3_2 : BitVec 8) (a3_3 : BitVec 8) (a3_4 : BitVec 64) (a3_5 : List UInt8) (x1 : BitVec 64) (x11 : Bool) : Option ((Nat → BitVec 64) × NS (List UInt8)) := bif x11 then (F303 N a0_0 a0_1 x1 a3_0 a3_1 a3_2 a3_3 a3_4 a3_5).bind fun y13 => bif decide (b2_1.2.1 < 4294967296) then some (b2_0, app b2_1 y13) else none else F227_11 N a0_0 a0_1 a1 b2_0 b2_1 a3_0 a3_1 a3_2 a3_3 a3_4 a3_5 x1 (a3_0 == (25#8))
def F227_25 (N : Nat) (a0_0 : BitVec 8) (a0_1 : BitVec 8) (a1 : BitVec 8) (b2_0 : Nat → BitVec 64) (b2_1 : NS (List UInt8)) (a3_0 : BitVec 8) (a3_1 : BitVec 8) (a3_2 : BitVec 8) (a3_3 : BitVec 8) (a3_4 : BitVec 64) (a3_5 : List UInt8) (x1 : BitVec 64) (x32 : Bool) : Option ((Nat → BitVec 64) × NS (List UInt8)) := bif x32 then F227_10 N a0_0 a0_1 a1 b2_0 b2_1 a3_0 a3_1 a3_2 a3_3 a3_4 a3_5 x1 x32 else F227_10 N a0_0 a0_1 a1 b2_0 b2_1 a3_0 a3_1 a3_2 a3_3 a3_4 a3_5 x1 (a3_0 == (24#8))
def F227_9 (N : Nat) (a0_0 : BitVec 8) (a0_1 : BitVec 8) (a1 : BitVec 8) (b2_0 : Nat → BitVec 64) (b2_1 : NS (List UInt8)) (a3_0 : BitVec 8) (a3_1 : BitVec 8) (a3_2 : BitVec 8) (a3_3 : BitVec 8) (a3_4 : BitVec 64) (a3_5 : List UInt8) (x1 : BitVec 64) (x2 : BitVec 64) (x10 : Bool) : Option ((Nat → BitVec 64) × NS (List UInt8)) := bif x10 then lt (F222 a0_0 a0_1 x1) fun y8 => lt (F222 a0_0 a0_1 x2) fun y9 => lt (F222 a0_0 a0_1 (b2_0 (((a3_4 >>> 3) &&& (7#64)).toNat))) fun y10 => (F302 N a0_0 a0_1 a1 a3_4 y8 y9 y10).bind fun y11 => (F301 N y11).bind fun y12 => bif decide (b2_1.2.1 < 4294967296) then some (b2_0, app b2_1 y12) else none else F227_25 N a0_0 a0_1 a1 b2_0 b2_1 a3_0 a3_1 a3_2 a3_3 a3_4 a3_5 x1 (a3_0 == (23#8))
def F227_8 (N : Nat) (a0_0 : BitVec 8) (a0_1 : BitVec 8) (a1 : BitVec 8) (b2_0 : Nat → BitVec 64) (b2_1 : NS (List UInt8)) (a3_0 : BitVec 8) (a3_1 : BitVec 8) (a3_2 : BitVec 8) (a3_3 : BitVec 8) (a3_4 : BitVec 64) (a3_5 : List UInt8) (x1 : BitVec 64) (x2 : BitVec 64) (x9 : Bool) : Option ((Nat → BitVec 64) × NS (List UInt8)) := bif x9 then (F300 N a0_0 a0_1 x1).bind fun y7 => some ((upd b2_0 ((a3_1 &&& (7#8)).toNat) y7, b2_1)) else F227_9 N a0_0 a0_1 a1 b2_0 b2_1 a3_0 a3_1 a3_2 a3_3 a3_4 a3_5 x1 x2 (a3_0 == (22#8))
def F227_7 (N : Nat) (a0_0 : BitVec 8) (a0_1 : BitVec 8) (a1 : BitVec 8) (b2_0 : Nat → BitVec 64) (b2_1 : NS (List UInt8)) (a3_0 : BitVec 8) (a3_1 : BitVec 8) (a3_2 : BitVec 8) (a3_3 : BitVec 8) (a3_4 : BitVec 64) (a3_5 : List UInt8) (x1 : BitVec 64) (x2 : BitVec 64) (x8 : Bool) : Option ((Nat → BitVec 64) × NS (List UInt8)) := bif x8 then (F299 N a0_0 a0_1 x1).bind fun y6 => some ((upd b2_0 ((a3_1 &&& (7#8)).toNat) y6, b2_1)) else F227_8 N a0_0 a0_1 a1 b2_0 b2_1 a3_0 a3_1 a3_2 a3_3 a3_4 a3_5 x1 x2 (a3_0 == (21#8))
def F227_6 (N : Nat) (a0_0 : BitVec 8) (a0_1 : BitVec 8) (a1 : BitVec 8) (b2_0 : Nat → BitVec 64) (b2_1 : NS (List UInt8)) (a3_0 : BitVec 8) (a3_1 : BitVec 8) (a3_2 : BitVec 8) (a3_3 : BitVec 8) (a3_4 : BitVec 64) (a3_5 : List UInt8) (x1 : BitVec 64) (x2 : BitVec 64) (x7 : Bool) : Option ((Nat → BitVec 64) × NS (List UInt8)) := bif x7 then (F298 N a0_0 a0_1 x1 x2).bind fun y5 => some ((upd b2_0 ((a3_1 &&& (7#8)).toNat) y5, b2_1)) else F227_7 N a0_0 a0_1 a1 b2_0 b2_1 a3_0 a3_1 a3_2 a3_3 a3_4 a3_5 x1 x2 (a3_0 == (20#8))
def F227_5 (N : Nat) (a0_0 : BitVec 8) (a0_1 : BitVec 8) (a1 : BitVec 8) (b2_0 : Nat → BitVec 64) (b2_1 : NS (List UInt8)) (a3_0 : BitVec 8) (a3_1 : BitVec 8) (a3_2 : BitVec 8) (a3_3 : BitVec 8) (a3_4 : BitVec 64) (a3_5 : List UInt8) (x1 : BitVec 64) (x2 : BitVec 64) (x6 : Bool) : Option ((Nat → BitVec 64) × NS (List UInt8)) := bif x6 then (F297 N a0_0 a0_1 x1 x2).bind fun y4 => some ((upd b2_0 ((a3_1 &&& (7#8)).toNat) y4, b2_1)) else F227_6 N a0_0 a0_1 a1 b2_0 b2_1 a3_0 a3_1 a3_2 a3_3 a3_4 a3_5 x1 x2 (a3_0 == (19#8))
def F227_4 (N : Nat) (a0_0 : BitVec 8) (a0_1 : BitVec 8) (a1 : BitVec 8) (b2_0 : Nat → BitVec 64) (b2_1 : NS (List UInt8)) (a3_0 : BitVec 8) (a3_1 : BitVec 8) (a3_2 : BitVec 8) (a3_3 : BitVec 8) (a3_4 : BitVec 64) (a3_5 : List UInt8) (x1 : BitVec 64) (x2 : BitVec 64) (x5 : Bool) : Option ((Nat → BitVec 64) × NS (List UInt8)) := bif x5 then (F296 N a0_0 a0_1 (BitVec.ofInt 8 (a3_4.toNat : Int)) x1).bind fun y3 => some ((upd b2_0 ((a3_1 &&& (7#8)).toNat) y3, b2_1)) else F227_5 N a0_0 a0_1 a1 b2_0 b2_1 a3_0 a3_1 a3_2 a3_3 a3_4 a3_5 x1 x2 (a3_0 == (18#8))
def F227_3 (N : Nat) (a0_0 : BitVec 8) (a0_1 : BitVec 8) (a1 : BitVec 8) (b2_0 : Nat → BitVec 64) (b2_1 : NS (List UInt8)) (a3_0 : BitVec 8) (a3_1 : BitVec 8) (a3_2 : BitVec 8) (a3_3 : BitVec 8) (a3_4 : BitVec 64) (a3_5 : List UInt8) (x1 : BitVec 64) (x2 : BitVec 64) (x4 : Bool) : Option ((Nat → BitVec 64) × NS (List UInt8)) := bif x4 then (F295 N a0_0 a0_1 x1 x2).bind fun y2 => some ((upd b2_0 ((a3_1 &&& (7#8)).toNat) y2, b2_1)) else F227_4 N a0_0 a0_1 a1 b2_0 b2_1 a3_0 a3_1 a3_2 a3_3 a3_4 a3_5 x1 x2 (a3_0 == (17#8))
def F227_2 (N : Nat) (a0_0 : BitVec 8) (a0_1 : BitVec 8) (a1 : BitVec 8) (b2_0 : Nat → BitVec 64) (b2_1 : NS (List UInt8)) (a3_0 : BitVec 8) (a3_1 : BitVec 8) (a3_2 : BitVec 8) (a3_3 : BitVec 8) (a3_4 : BitVec 64) (a3_5 : List UInt8) (x1 : BitVec 64) (x2 : BitVec 64) (x3 : Bool) : Option ((Nat → BitVec 64) × NS (List UInt8)) := bif x3 then (F294 N a0_0 a0_1 a1 x1 x2 (b2_0 ((a3_4 &&& (7#64)).toNat))).bind fun y1 => some ((upd b2_0 ((a3_1 &&& (7#8)).toNat) y1, b2_1)) else F227_3 N a0_0 a0_1 a1 b2_0 b2_1 a3_0 a3_1 a3_2 a3_3 a3_4 a3_5 x1 x2 (a3_0 == (16#8))
def F227_1 (N : Nat) (a0_0 : BitVec 8) (a0_1 : BitVec 8) (a1 : BitVec 8) (b2_0 : Nat → BitVec 64) (b2_1 : NS (List UInt8)) (a3_0 : BitVec 8) (a3_1 : BitVec 8) (a3_2 : BitVec 8) (a3_3 : BitVec 8) (a3_4 : BitVec 64) (a3_5 : List UInt8) (x1 : BitVec 64) (x2 : BitVec 64) : Option ((Nat → BitVec 64) × NS (List UInt8)) := F227_2 N a0_0 a0_1 a1 b2_0 b2_1 a3_0 a3_1 a3_2 a3_3 a3_4 a3_5 x1 x2 (a3_0 == (15#8))
def F227 (N : Nat) (a0_0 : BitVec 8) (a0_1 : BitVec 8) (a1 : BitVec 8) (b2_0 : Nat → BitVec 64) (b2_1 : NS (List UInt8)) (a3_0 : BitVec 8) (a3_1 : BitVec 8) (a3_2 : BitVec 8) (a3_3 : BitVec 8) (a3_4 : BitVec 64) (a3_5 : List UInt8) : Option ((Nat → BitVec 64) × NS (List UInt8)) := F227_1 N a0_0 a0_1 a1 b2_0 b2_1 a3_0 a3_1 a3_2 a3_3 a3_4 a3_5 (b2_0 ((a3_2 &&& (7#8)).toNat)) (b2_0 ((a3_3 &&& (7#8)).toNat))
theorem C227 (N : Nat) (a0_0 : BitVec 8) (a0_1 : BitVec 8) (a1 : BitVec 8) (b2_0 : Nat → BitVec 64) (b2_1 : NS (List UInt8)) (a3_0 : BitVec 8) (a3_1 : BitVec 8) (a3_2 : BitVec 8) (a3_3 : BitVec 8) (a3_4 : BitVec 64) (a3_5 : List UInt8) (r : (Nat → BitVec 64) × NS (List UInt8)) (hr : some r = F227 N a0_0 a0_1 a1 b2_0 b2_1 a3_0 a3_1 a3_2 a3_3 a3_4 a3_5) : FnB Hfaa.prog 227 [.inl (agg [is (U8 a0_0), is (U8 a0_1)]), .inl (is (U8 a1)), .inr (.inl (2, 0)), .inl (agg [is (U8 a3_0), is (U8 a3_1), is (U8 a3_2), is (U8 a3_3), is (U64 a3_4), is (Sv a3_5)])] [(2, gc 90 (ar U64 8 b2_0 ++ []) ([]) (k1 Sv) 1 b2_1)] (tup []) [(2, gc 90 (ar U64 8 r.1 ++ []) ([]) (k1 Sv) 1 r.2)] := by
  refine fnB_intro Hfaa.func227 rfl rfl rfl rfl rfl ⟨hf_gc _ _ _ _ _ _, trivial⟩ ?_
  intro bn0 w0 H0
  refine AW_seq1 ?_
  refine AW_region ?_
  refine AL_cons (LR_box (at_tmp 0 _) (cells_agg _) rfl) (sS (sT1 rfl) sB0 (sF1 rfl)) ?_
  refine AL_cons (LR_box (at_tmp 3 _) (cells_agg _) rfl) (sS (sT1 rfl) sB0 (sF1 rfl)) ?_
  refine AL_nil ?_
  refine thenN ?_
  refine AW_cut (σ := BitVec 64 × BitVec 64) (fun v => ⟨[(1, .inl (is (U8 a1))), (2, .inr (.inl (2, 0))), (4, .inr (.inl (4, 0))), (7, .inr (.inl (7, 0))), (8, .inr (.inl (2, (a3_1 &&& (7#8)).toNat))), (9, .inl (is (U64 v.1))), (10, .inl (is (U64 v.2)))], [(2, gc 90 (ar U64 8 b2_0 ++ []) ([]) (k1 Sv) 1 b2_1), (4, pb 23 [is (U8 a0_0), is (U8 a0_1)]), (7, pb 96 [is (U8 a3_0), is (U8 a3_1), is (U8 a3_2), is (U8 a3_3), is (U64 a3_4), is (Sv a3_5)])]⟩) (fun v => some r = F227_1 N a0_0 a0_1 a1 b2_0 b2_1 a3_0 a3_1 a3_2 a3_3 a3_4 a3_5 v.1 v.2) ?_ ?_
  · skip
    refine AW_opn 2 1020 (fun sv => (ar U64 8 b2_0 ++ (is ( sv) :: []))) rfl rfl (fun _ => by first | rfl | simp) ?_
    intro sv30 hsv30
    refine AW_post ?_
    refine AW_draw mixed
      (lrC (LR_move (at_tmp 2 _) rfl)
      (lrC (LR_fieldAddr (off := 0) (o := 1) (at_tmp 7 _) (fun b w => fa96_1 b 0 w) rfl)
      (lrC (LR_load (at_tmp 17 _) na5 rfl rfl)
      (lrC (LR_bin (at_tmp 18 _) (at_c (v' := U8 (7#8)) rfl) (and_U8 a3_1 (7#8)) rfl)
      (lrC (LR_nilCheck (at_tmp 16 _) rfl)
      (lrC (LR_fieldAddr (off := 0) (o := 0) (at_tmp 20 _) (fun b w => fa90_0 b 0 w) rfl)
      (lrC (LR_indexAddr (o := (a3_1 &&& (7#8)).toNat) Hfaa.underlying35 sz30 (at_tmp 21 _) (at_tmp 19 _) (natIx (and7 a3_1)) (by first | rfl | omega) rfl)
      (lrC (LR_move (at_tmp 2 _) rfl)
      (lrC (LR_fieldAddr (off := 0) (o := 2) (at_tmp 7 _) (fun b w => fa96_2 b 0 w) rfl)
      (lrC (LR_load (at_tmp 24 _) na5 rfl rfl)
      (lrC (LR_bin (at_tmp 25 _) (at_c (v' := U8 (7#8)) rfl) (and_U8 a3_2 (7#8)) rfl)
      (lrC (LR_nilCheck (at_tmp 23 _) rfl)
      (lrC (LR_fieldAddr (off := 0) (o := 0) (at_tmp 27 _) (fun b w => fa90_0 b 0 w) rfl)
      (lrC (LR_indexAddr (o := (a3_2 &&& (7#8)).toNat) Hfaa.underlying35 sz30 (at_tmp 28 _) (at_tmp 26 _) (natIx (and7 a3_2)) (by first | rfl | omega) rfl)
      (lrC (LR_load (at_tmp 29 _) na30 (gA (and7 a3_2)) rfl)
      (lrC (LR_move (at_tmp 2 _) rfl)
      (lrC (LR_fieldAddr (off := 0) (o := 3) (at_tmp 7 _) (fun b w => fa96_3 b 0 w) rfl)
      (lrC (LR_load (at_tmp 32 _) na5 rfl rfl)
      (lrC (LR_bin (at_tmp 33 _) (at_c (v' := U8 (7#8)) rfl) (and_U8 a3_3 (7#8)) rfl)
      (lrC (LR_nilCheck (at_tmp 31 _) rfl)
      (lrC (LR_fieldAddr (off := 0) (o := 0) (at_tmp 35 _) (fun b w => fa90_0 b 0 w) rfl)
      (lrC (LR_indexAddr (o := (a3_3 &&& (7#8)).toNat) Hfaa.underlying35 sz30 (at_tmp 36 _) (at_tmp 34 _) (natIx (and7 a3_3)) (by first | rfl | omega) rfl)
      (lrC (LR_load (at_tmp 37 _) na30 (gA (and7 a3_3)) rfl)
      (lrC (LR_assign (at_tmp 22 _) rfl)
      (lrC (LR_assign (at_tmp 30 _) rfl)
      (lrC (LR_assign (at_tmp 38 _) rfl)
      lrN))))))))))))))))))))))))))
      (by kernel_rfl)
      (saC (sS (sT1 rfl) sB0 sF0) (saC (sS (sT1 rfl) sB0 sF0) (saC (sS (sT1 rfl) (sB1 rfl) sF0) (saC (sS (sA (sT1 rfl) sT0) sB0 sF0) (saC (sS (sT1 rfl) sB0 sF0) (saC (sS (sT1 rfl) sB0 sF0) (saC (sS (sA (sT1 rfl) (sT1 rfl)) sB0 sF0) (saC (sS (sT1 rfl) sB0 sF0) (saC (sS (sT1 rfl) sB0 sF0) (saC (sS (sT1 rfl) (sB1 rfl) sF0) (saC (sS (sA (sT1 rfl) sT0) sB0 sF0) (saC (sS (sT1 rfl) sB0 sF0) (saC (sS (sT1 rfl) sB0 sF0) (saC (sS (sA (sT1 rfl) (sT1 rfl)) sB0 sF0) (saC (sS (sT1 rfl) (sB1 rfl) sF0) (saC (sS (sT1 rfl) sB0 sF0) (saC (sS (sT1 rfl) sB0 sF0) (saC (sS (sT1 rfl) (sB1 rfl) sF0) (saC (sS (sA (sT1 rfl) sT0) sB0 sF0) (saC (sS (sT1 rfl) sB0 sF0) (saC (sS (sT1 rfl) sB0 sF0) (saC (sS (sA (sT1 rfl) (sT1 rfl)) sB0 sF0) (saC (sS (sT1 rfl) (sB1 rfl) sF0) (saC (sS (sT1 rfl) sB0 sF0) (saC (sS (sT1 rfl) sB0 sF0) (saC (sS (sT1 rfl) sB0 sF0) saN)))))))))))))))))))))))))) ?_
    refine ⟨_, (imp_close (k := 2) (r := 1020) (ar U64 8 b2_0 ++ []) ([]) rfl (by first | rfl | simp) rfl rfl rfl rfl), ?_⟩
    exact thenN (cutLeaf (v := (b2_0 ((a3_2 &&& (7#8)).toNat), b2_0 ((a3_3 &&& (7#8)).toNat))) hr (weakB ((sT rfl (sT rfl (sT rfl (sT rfl (sT rfl (sT rfl (sT rfl sT0)))))))) (sub_keep (sub_keep (sub_keep (sub_drop sub_nil)))) rfl))
  · rintro ⟨x1, x2⟩ hr
    show AW Hfaa.prog _ _ _ ⟨[(1, .inl (is (U8 a1))), (2, .inr (.inl (2, 0))), (4, .inr (.inl (4, 0))), (7, .inr (.inl (7, 0))), (8, .inr (.inl (2, (a3_1 &&& (7#8)).toNat))), (9, .inl (is (U64 x1))), (10, .inl (is (U64 x2)))], [(2, gc 90 (ar U64 8 b2_0 ++ []) ([]) (k1 Sv) 1 b2_1), (4, pb 23 [is (U8 a0_0), is (U8 a0_1)]), (7, pb 96 [is (U8 a3_0), is (U8 a3_1), is (U8 a3_2), is (U8 a3_3), is (U64 a3_4), is (Sv a3_5)])]⟩
    have hr : some r = F227_1 N a0_0 a0_1 a1 b2_0 b2_1 a3_0 a3_1 a3_2 a3_3 a3_4 a3_5 x1 x2 := hr
    refine AW_seq1 ?_
    refine AW_region ?_
    refine AL_cons (LR_fieldAddr (off := 0) (o := 0) (at_tmp 7 _) (fun b w => fa96_0 b 0 w) rfl) (sS (sT1 rfl) sB0 sF0) ?_
    refine AL_cons (LR_load (at_tmp 39 _) na5 rfl rfl) (sS (sT1 rfl) (sB1 rfl) sF0) ?_
    refine AL_nil ?_
    refine thenN ?_
    refine AW_block ?_
    refine AW_cut (σ := Bool) (fun v => ⟨[(1, .inl (is (U8 a1))), (2, .inr (.inl (2, 0))), (4, .inr (.inl (4, 0))), (7, .inr (.inl (7, 0))), (8, .inr (.inl (2, (a3_1 &&& (7#8)).toNat))), (9, .inl (is (U64 x1))), (10, .inl (is (U64 x2))), (40, .inl (is (U8 a3_0))), (41, .inl (is (Bl v)))], [(2, gc 90 (ar U64 8 b2_0 ++ []) ([]) (k1 Sv) 1 b2_1), (4, pb 23 [is (U8 a0_0), is (U8 a0_1)]), (7, pb 96 [is (U8 a3_0), is (U8 a3_1), is (U8 a3_2), is (U8 a3_3), is (U64 a3_4), is (Sv a3_5)])]⟩) (fun v => some r = F227_2 N a0_0 a0_1 a1 b2_0 b2_1 a3_0 a3_1 a3_2 a3_3 a3_4 a3_5 x1 x2 v) ?_ ?_
    · skip
      refine AW_region ?_
      refine AL_cons (LR_bin (at_tmp 40 _) (at_c (v' := U8 (15#8)) rfl) (eql_U8 a3_0 (15#8)) rfl) (sS (sA (sT1 rfl) sT0) sB0 sF0) ?_
      refine AL_cons (LR_assign (at_tmp 42 _) rfl) (sS (sT1 rfl) sB0 sF0) ?_
      refine AL_nil ?_
      exact thenN (cutLeaf (v := a3_0 == (15#8)) hr (weakB ((sT rfl (sT rfl (sT rfl (sT rfl (sT rfl (sT rfl (sT rfl (sT rfl (sT rfl sT0)))))))))) (sub_keep (sub_keep (sub_keep sub_nil))) rfl))
    · rintro x3 hr
      show AW Hfaa.prog _ _ _ ⟨[(1, .inl (is (U8 a1))), (2, .inr (.inl (2, 0))), (4, .inr (.inl (4, 0))), (7, .inr (.inl (7, 0))), (8, .inr (.inl (2, (a3_1 &&& (7#8)).toNat))), (9, .inl (is (U64 x1))), (10, .inl (is (U64 x2))), (40, .inl (is (U8 a3_0))), (41, .inl (is (Bl x3)))], [(2, gc 90 (ar U64 8 b2_0 ++ []) ([]) (k1 Sv) 1 b2_1), (4, pb 23 [is (U8 a0_0), is (U8 a0_1)]), (7, pb 96 [is (U8 a3_0), is (U8 a3_1), is (U8 a3_2), is (U8 a3_3), is (U64 a3_4), is (Sv a3_5)])]⟩
      have hr : some r = F227_2 N a0_0 a0_1 a1 b2_0 b2_1 a3_0 a3_1 a3_2 a3_3 a3_4 a3_5 x1 x2 x3 := hr
      refine AW_condT (b := x3) rfl (fun h => ?_) (fun h => ?_)
      · have hr := hr.trans (cond_t h)
        clear h
        refine AW_opn 2 1001 (fun sv => (ar U64 8 b2_0 ++ (is ( sv) :: []))) rfl rfl (fun _ => by first | rfl | simp) ?_
        intro sv1 hsv1
        obtain ⟨y1, hy1, hr⟩ := bind_some hr
        refine AW_post ?_
        refine AW_draw mixed
          (lrC (LR_move (at_tmp 8 _) rfl)
          (lrC (LR_loads (at_tmp 4 _) ag23 sz23 rfl rfl rfl)
          (lrC (LR_move (at_tmp 1 _) rfl)
          (lrC (LR_move (at_tmp 9 _) rfl)
          (lrC (LR_move (at_tmp 10 _) rfl)
          (lrC (LR_move (at_tmp 2 _) rfl)
          (lrC (LR_fieldAddr (off := 0) (o := 4) (at_tmp 7 _) (fun b w => fa96_4 b 0 w) rfl)
          (lrC (LR_load (at_tmp 49 _) na30 rfl rfl)
          (lrC (LR_bin (at_tmp 50 _) (at_c (v' := U64 (7#64)) rfl) (and_U64 a3_4 (7#64)) rfl)
          (lrC (LR_nilCheck (at_tmp 48 _) rfl)
          (lrC (LR_fieldAddr (off := 0) (o := 0) (at_tmp 52 _) (fun b w => fa90_0 b 0 w) rfl)
          (lrC (LR_indexAddr (o := (a3_4 &&& (7#64)).toNat) Hfaa.underlying35 sz30 (at_tmp 53 _) (at_tmp 51 _) (natIx (and7q a3_4)) (by first | rfl | omega) rfl)
          (lrC (LR_load (at_tmp 54 _) na30 (gA (and7q a3_4)) rfl)
          (lrC (LR_call Hfaa.func294 rfl rfl (C294 N a0_0 a0_1 a1 x1 x2 (b2_0 ((a3_4 &&& (7#64)).toNat)) y1 hy1) (all_cons (at_tmp 44 _) (all_cons (at_tmp 45 _) (all_cons (at_tmp 46 _) (all_cons (at_tmp 47 _) (all_cons (at_tmp 55 _) all_nil))))) rfl)
          (lrC (LR_nilCheck (at_tmp 43 _) rfl)
          (lrC (LR_storeA (at_tmp 57 _) (at_tmp 56 _) (cells_one (one_is rfl)) (onC (one_is rfl) onN) sz30 rfl (ble_dyn (lnA (lnC ln0)) (by have := (and7 a3_1); omega)) (stA (and7 a3_1)))
          lrN))))))))))))))))
          (by kernel_rfl)
          (saC (sS (sT1 rfl) sB0 sF0) (saC (sS (sT1 rfl) (sB1 rfl) sF0) (saC (sS (sT1 rfl) sB0 sF0) (saC (sS (sT1 rfl) sB0 sF0) (saC (sS (sT1 rfl) sB0 sF0) (saC (sS (sT1 rfl) sB0 sF0) (saC (sS (sT1 rfl) sB0 sF0) (saC (sS (sT1 rfl) (sB1 rfl) sF0) (saC (sS (sA (sT1 rfl) sT0) sB0 sF0) (saC (sS (sT1 rfl) sB0 sF0) (saC (sS (sT1 rfl) sB0 sF0) (saC (sS (sA (sT1 rfl) (sT1 rfl)) sB0 sF0) (saC (sS (sT1 rfl) (sB1 rfl) sF0) (saC (sS (sA (sT1 rfl) (sA (sT1 rfl) (sA (sT1 rfl) (sA (sT1 rfl) (sA (sT1 rfl) sT0))))) sB0 sF0) (saC (sS (sT1 rfl) sB0 sF0) (saC (sS (sA (sT1 rfl) (sT1 rfl)) (sB1 rfl) sF0) saN)))))))))))))))) ?_
        refine ⟨_, (imp_close (k := 2) (r := 1001) ((ar U64 8 (upd b2_0 ((a3_1 &&& (7#8)).toNat) y1) ++ [])) ([]) rfl (by first | rfl | simp) rfl rfl rfl rfl), ?_⟩
        refine blN ?_
        obtain rfl := Option.some.inj hr
        exact ⟨res0 rfl , (sub_keep (sub_drop (sub_drop (sub_drop sub_nil))))⟩
      · have hr := hr.trans (cond_f h)
        clear h
        refine AW_cut (σ := Bool) (fun v => ⟨[(1, .inl (is (U8 a1))), (2, .inr (.inl (2, 0))), (4, .inr (.inl (4, 0))), (7, .inr (.inl (7, 0))), (8, .inr (.inl (2, (a3_1 &&& (7#8)).toNat))), (9, .inl (is (U64 x1))), (10, .inl (is (U64 x2))), (40, .inl (is (U8 a3_0))), (58, .inl (is (Bl v)))], [(2, gc 90 (ar U64 8 b2_0 ++ []) ([]) (k1 Sv) 1 b2_1), (4, pb 23 [is (U8 a0_0), is (U8 a0_1)]), (7, pb 96 [is (U8 a3_0), is (U8 a3_1), is (U8 a3_2), is (U8 a3_3), is (U64 a3_4), is (Sv a3_5)])]⟩) (fun v => some r = F227_3 N a0_0 a0_1 a1 b2_0 b2_1 a3_0 a3_1 a3_2 a3_3 a3_4 a3_5 x1 x2 v) ?_ ?_
        · skip
          refine AW_region ?_
          refine AL_cons (LR_bin (at_tmp 40 _) (at_c (v' := U8 (16#8)) rfl) (eql_U8 a3_0 (16#8)) rfl) (sS (sA (sT1 rfl) sT0) sB0 sF0) ?_
          refine AL_cons (LR_assign (at_tmp 59 _) rfl) (sS (sT1 rfl) sB0 sF0) ?_
          refine AL_nil ?_
          exact thenN (cutLeaf (v := a3_0 == (16#8)) hr (weakB ((sT rfl (sT rfl (sT rfl (sT rfl (sT rfl (sT rfl (sT rfl (sT rfl (sT rfl sT0)))))))))) (sub_keep (sub_keep (sub_keep sub_nil))) rfl))
        · rintro x4 hr
          show AW Hfaa.prog _ _ _ ⟨[(1, .inl (is (U8 a1))), (2, .inr (.inl (2, 0))), (4, .inr (.inl (4, 0))), (7, .inr (.inl (7, 0))), (8, .inr (.inl (2, (a3_1 &&& (7#8)).toNat))), (9, .inl (is (U64 x1))), (10, .inl (is (U64 x2))), (40, .inl (is (U8 a3_0))), (58, .inl (is (Bl x4)))], [(2, gc 90 (ar U64 8 b2_0 ++ []) ([]) (k1 Sv) 1 b2_1), (4, pb 23 [is (U8 a0_0), is (U8 a0_1)]), (7, pb 96 [is (U8 a3_0), is (U8 a3_1), is (U8 a3_2), is (U8 a3_3), is (U64 a3_4), is (Sv a3_5)])]⟩
          have hr : some r = F227_3 N a0_0 a0_1 a1 b2_0 b2_1 a3_0 a3_1 a3_2 a3_3 a3_4 a3_5 x1 x2 x4 := hr
          refine AW_condT (b := x4) rfl (fun h => ?_) (fun h => ?_)
          · have hr := hr.trans (cond_t h)
            clear h
            refine AW_region ?_
            refine AL_cons (LR_move (at_tmp 8 _) rfl) (sS (sT1 rfl) sB0 sF0) ?_
            refine AL_cons (LR_loads (at_tmp 4 _) ag23 sz23 rfl rfl rfl) (sS (sT1 rfl) (sB1 rfl) sF0) ?_
            refine AL_cons (LR_move (at_tmp 9 _) rfl) (sS (sT1 rfl) sB0 sF0) ?_
            refine AL_cons (LR_move (at_tmp 10 _) rfl) (sS (sT1 rfl) sB0 sF0) ?_
            obtain ⟨y2, hy2, hr⟩ := bind_some hr
            refine AL_cons (LR_call Hfaa.func295 rfl rfl (C295 N a0_0 a0_1 x1 x2 y2 hy2) (all_cons (at_tmp 61 _) (all_cons (at_tmp 62 _) (all_cons (at_tmp 63 _) all_nil))) rfl) (sS (sA (sT1 rfl) (sA (sT1 rfl) (sA (sT1 rfl) sT0))) sB0 sF0) ?_
            refine AL_cons (LR_nilCheck (at_tmp 60 _) rfl) (sS (sT1 rfl) sB0 sF0) ?_
            refine AL_opn 2 1002 (fun sv => (ar U64 8 b2_0 ++ (is ( sv) :: []))) rfl rfl (fun _ => by first | rfl | simp) ?_
            intro sv2 hsv2
            refine AL_cons (LR_storeA (at_tmp 65 _) (at_tmp 64 _) (cells_one (one_is rfl)) (onC (one_is rfl) onN) sz30 rfl (ble_dyn (lnA (lnC ln0)) (by have := (and7 a3_1); omega)) (stA (and7 a3_1))) (sS (sA (sT1 rfl) (sT1 rfl)) (sB1 rfl) sF0) ?_
            refine AL_imp (imp_close (k := 2) (r := 1002) ((ar U64 8 (upd b2_0 ((a3_1 &&& (7#8)).toNat) y2) ++ [])) ([]) rfl (by first | rfl | simp) rfl rfl rfl rfl) ?_
            refine AL_nil ?_
            refine blN ?_
            obtain rfl := Option.some.inj hr
            exact ⟨res0 rfl , (sub_keep (sub_drop (sub_drop (sub_drop sub_nil))))⟩
          · have hr := hr.trans (cond_f h)
            clear h
            refine AW_cut (σ := Bool) (fun v => ⟨[(1, .inl (is (U8 a1))), (2, .inr (.inl (2, 0))), (4, .inr (.inl (4, 0))), (7, .inr (.inl (7, 0))), (8, .inr (.inl (2, (a3_1 &&& (7#8)).toNat))), (9, .inl (is (U64 x1))), (10, .inl (is (U64 x2))), (40, .inl (is (U8 a3_0))), (66, .inl (is (Bl v)))], [(2, gc 90 (ar U64 8 b2_0 ++ []) ([]) (k1 Sv) 1 b2_1), (4, pb 23 [is (U8 a0_0), is (U8 a0_1)]), (7, pb 96 [is (U8 a3_0), is (U8 a3_1), is (U8 a3_2), is (U8 a3_3), is (U64 a3_4), is (Sv a3_5)])]⟩) (fun v => some r = F227_4 N a0_0 a0_1 a1 b2_0 b2_1 a3_0 a3_1 a3_2 a3_3 a3_4 a3_5 x1 x2 v) ?_ ?_
            · skip
              refine AW_region ?_
              refine AL_cons (LR_bin (at_tmp 40 _) (at_c (v' := U8 (17#8)) rfl) (eql_U8 a3_0 (17#8)) rfl) (sS (sA (sT1 rfl) sT0) sB0 sF0) ?_
              refine AL_cons (LR_assign (at_tmp 67 _) rfl) (sS (sT1 rfl) sB0 sF0) ?_
              refine AL_nil ?_
              exact thenN (cutLeaf (v := a3_0 == (17#8)) hr (weakB ((sT rfl (sT rfl (sT rfl (sT rfl (sT rfl (sT rfl (sT rfl (sT rfl (sT rfl sT0)))))))))) (sub_keep (sub_keep (sub_keep sub_nil))) rfl))
            · rintro x5 hr
              show AW Hfaa.prog _ _ _ ⟨[(1, .inl (is (U8 a1))), (2, .inr (.inl (2, 0))), (4, .inr (.inl (4, 0))), (7, .inr (.inl (7, 0))), (8, .inr (.inl (2, (a3_1 &&& (7#8)).toNat))), (9, .inl (is (U64 x1))), (10, .inl (is (U64 x2))), (40, .inl (is (U8 a3_0))), (66, .inl (is (Bl x5)))], [(2, gc 90 (ar U64 8 b2_0 ++ []) ([]) (k1 Sv) 1 b2_1), (4, pb 23 [is (U8 a0_0), is (U8 a0_1)]), (7, pb 96 [is (U8 a3_0), is (U8 a3_1), is (U8 a3_2), is (U8 a3_3), is (U64 a3_4), is (Sv a3_5)])]⟩
              have hr : some r = F227_4 N a0_0 a0_1 a1 b2_0 b2_1 a3_0 a3_1 a3_2 a3_3 a3_4 a3_5 x1 x2 x5 := hr
              refine AW_condT (b := x5) rfl (fun h => ?_) (fun h => ?_)
              · have hr := hr.trans (cond_t h)
                clear h
                refine AW_region ?_
                refine AL_cons (LR_move (at_tmp 8 _) rfl) (sS (sT1 rfl) sB0 sF0) ?_
                refine AL_cons (LR_loads (at_tmp 4 _) ag23 sz23 rfl rfl rfl) (sS (sT1 rfl) (sB1 rfl) sF0) ?_
                refine AL_cons (LR_fieldAddr (off := 0) (o := 4) (at_tmp 7 _) (fun b w => fa96_4 b 0 w) rfl) (sS (sT1 rfl) sB0 sF0) ?_
                refine AL_cons (LR_load (at_tmp 70 _) na30 rfl rfl) (sS (sT1 rfl) (sB1 rfl) sF0) ?_
                refine AL_cons (LR_conv (vx := U64 a3_4) (at_tmp 71 _) (conv_U8 Hfaa.underlying30 Hfaa.underlying24 (a3_4.toNat : Int)) rfl) (sS (sT1 rfl) sB0 sF0) ?_
                refine AL_cons (LR_move (at_tmp 9 _) rfl) (sS (sT1 rfl) sB0 sF0) ?_
                obtain ⟨y3, hy3, hr⟩ := bind_some hr
                refine AL_cons (LR_call Hfaa.func296 rfl rfl (C296 N a0_0 a0_1 (BitVec.ofInt 8 (a3_4.toNat : Int)) x1 y3 hy3) (all_cons (at_tmp 69 _) (all_cons (at_tmp 72 _) (all_cons (at_tmp 73 _) all_nil))) rfl) (sS (sA (sT1 rfl) (sA (sT1 rfl) (sA (sT1 rfl) sT0))) sB0 sF0) ?_
                refine AL_cons (LR_nilCheck (at_tmp 68 _) rfl) (sS (sT1 rfl) sB0 sF0) ?_
                refine AL_opn 2 1003 (fun sv => (ar U64 8 b2_0 ++ (is ( sv) :: []))) rfl rfl (fun _ => by first | rfl | simp) ?_
                intro sv3 hsv3
                refine AL_cons (LR_storeA (at_tmp 75 _) (at_tmp 74 _) (cells_one (one_is rfl)) (onC (one_is rfl) onN) sz30 rfl (ble_dyn (lnA (lnC ln0)) (by have := (and7 a3_1); omega)) (stA (and7 a3_1))) (sS (sA (sT1 rfl) (sT1 rfl)) (sB1 rfl) sF0) ?_
                refine AL_imp (imp_close (k := 2) (r := 1003) ((ar U64 8 (upd b2_0 ((a3_1 &&& (7#8)).toNat) y3) ++ [])) ([]) rfl (by first | rfl | simp) rfl rfl rfl rfl) ?_
                refine AL_nil ?_
                refine blN ?_
                obtain rfl := Option.some.inj hr
                exact ⟨res0 rfl , (sub_keep (sub_drop (sub_drop (sub_drop sub_nil))))⟩
              · have hr := hr.trans (cond_f h)
                clear h
                refine AW_cut (σ := Bool) (fun v => ⟨[(1, .inl (is (U8 a1))), (2, .inr (.inl (2, 0))), (4, .inr (.inl (4, 0))), (7, .inr (.inl (7, 0))), (8, .inr (.inl (2, (a3_1 &&& (7#8)).toNat))), (9, .inl (is (U64 x1))), (10, .inl (is (U64 x2))), (40, .inl (is (U8 a3_0))), (76, .inl (is (Bl v)))], [(2, gc 90 (ar U64 8 b2_0 ++ []) ([]) (k1 Sv) 1 b2_1), (4, pb 23 [is (U8 a0_0), is (U8 a0_1)]), (7, pb 96 [is (U8 a3_0), is (U8 a3_1), is (U8 a3_2), is (U8 a3_3), is (U64 a3_4), is (Sv a3_5)])]⟩) (fun v => some r = F227_5 N a0_0 a0_1 a1 b2_0 b2_1 a3_0 a3_1 a3_2 a3_3 a3_4 a3_5 x1 x2 v) ?_ ?_
                · skip
                  refine AW_region ?_
                  refine AL_cons (LR_bin (at_tmp 40 _) (at_c (v' := U8 (18#8)) rfl) (eql_U8 a3_0 (18#8)) rfl) (sS (sA (sT1 rfl) sT0) sB0 sF0) ?_
                  refine AL_cons (LR_assign (at_tmp 77 _) rfl) (sS (sT1 rfl) sB0 sF0) ?_
                  refine AL_nil ?_
                  exact thenN (cutLeaf (v := a3_0 == (18#8)) hr (weakB ((sT rfl (sT rfl (sT rfl (sT rfl (sT rfl (sT rfl (sT rfl (sT rfl (sT rfl sT0)))))))))) (sub_keep (sub_keep (sub_keep sub_nil))) rfl))
                · rintro x6 hr
                  show AW Hfaa.prog _ _ _ ⟨[(1, .inl (is (U8 a1))), (2, .inr (.inl (2, 0))), (4, .inr (.inl (4, 0))), (7, .inr (.inl (7, 0))), (8, .inr (.inl (2, (a3_1 &&& (7#8)).toNat))), (9, .inl (is (U64 x1))), (10, .inl (is (U64 x2))), (40, .inl (is (U8 a3_0))), (76, .inl (is (Bl x6)))], [(2, gc 90 (ar U64 8 b2_0 ++ []) ([]) (k1 Sv) 1 b2_1), (4, pb 23 [is (U8 a0_0), is (U8 a0_1)]), (7, pb 96 [is (U8 a3_0), is (U8 a3_1), is (U8 a3_2), is (U8 a3_3), is (U64 a3_4), is (Sv a3_5)])]⟩
                  have hr : some r = F227_5 N a0_0 a0_1 a1 b2_0 b2_1 a3_0 a3_1 a3_2 a3_3 a3_4 a3_5 x1 x2 x6 := hr
                  refine AW_condT (b := x6) rfl (fun h => ?_) (fun h => ?_)
                  · have hr := hr.trans (cond_t h)
                    clear h
                    refine AW_region ?_
                    refine AL_cons (LR_move (at_tmp 8 _) rfl) (sS (sT1 rfl) sB0 sF0) ?_
                    refine AL_cons (LR_loads (at_tmp 4 _) ag23 sz23 rfl rfl rfl) (sS (sT1 rfl) (sB1 rfl) sF0) ?_
                    refine AL_cons (LR_move (at_tmp 9 _) rfl) (sS (sT1 rfl) sB0 sF0) ?_
                    refine AL_cons (LR_move (at_tmp 10 _) rfl) (sS (sT1 rfl) sB0 sF0) ?_
                    obtain ⟨y4, hy4, hr⟩ := bind_some hr
                    refine AL_cons (LR_call Hfaa.func297 rfl rfl (C297 N a0_0 a0_1 x1 x2 y4 hy4) (all_cons (at_tmp 79 _) (all_cons (at_tmp 80 _) (all_cons (at_tmp 81 _) all_nil))) rfl) (sS (sA (sT1 rfl) (sA (sT1 rfl) (sA (sT1 rfl) sT0))) sB0 sF0) ?_
                    refine AL_cons (LR_nilCheck (at_tmp 78 _) rfl) (sS (sT1 rfl) sB0 sF0) ?_
                    refine AL_opn 2 1004 (fun sv => (ar U64 8 b2_0 ++ (is ( sv) :: []))) rfl rfl (fun _ => by first | rfl | simp) ?_
                    intro sv4 hsv4
                    refine AL_cons (LR_storeA (at_tmp 83 _) (at_tmp 82 _) (cells_one (one_is rfl)) (onC (one_is rfl) onN) sz30 rfl (ble_dyn (lnA (lnC ln0)) (by have := (and7 a3_1); omega)) (stA (and7 a3_1))) (sS (sA (sT1 rfl) (sT1 rfl)) (sB1 rfl) sF0) ?_
                    refine AL_imp (imp_close (k := 2) (r := 1004) ((ar U64 8 (upd b2_0 ((a3_1 &&& (7#8)).toNat) y4) ++ [])) ([]) rfl (by first | rfl | simp) rfl rfl rfl rfl) ?_
                    refine AL_nil ?_
                    refine blN ?_
                    obtain rfl := Option.some.inj hr
                    exact ⟨res0 rfl , (sub_keep (sub_drop (sub_drop (sub_drop sub_nil))))⟩
                  · have hr := hr.trans (cond_f h)
                    clear h
                    refine AW_cut (σ := Bool) (fun v => ⟨[(1, .inl (is (U8 a1))), (2, .inr (.inl (2, 0))), (4, .inr (.inl (4, 0))), (7, .inr (.inl (7, 0))), (8, .inr (.inl (2, (a3_1 &&& (7#8)).toNat))), (9, .inl (is (U64 x1))), (10, .inl (is (U64 x2))), (40, .inl (is (U8 a3_0))), (84, .inl (is (Bl v)))], [(2, gc 90 (ar U64 8 b2_0 ++ []) ([]) (k1 Sv) 1 b2_1), (4, pb 23 [is (U8 a0_0), is (U8 a0_1)]), (7, pb 96 [is (U8 a3_0), is (U8 a3_1), is (U8 a3_2), is (U8 a3_3), is (U64 a3_4), is (Sv a3_5)])]⟩) (fun v => some r = F227_6 N a0_0 a0_1 a1 b2_0 b2_1 a3_0 a3_1 a3_2 a3_3 a3_4 a3_5 x1 x2 v) ?_ ?_
                    · skip
                      refine AW_region ?_
                      refine AL_cons (LR_bin (at_tmp 40 _) (at_c (v' := U8 (19#8)) rfl) (eql_U8 a3_0 (19#8)) rfl) (sS (sA (sT1 rfl) sT0) sB0 sF0) ?_
                      refine AL_cons (LR_assign (at_tmp 85 _) rfl) (sS (sT1 rfl) sB0 sF0) ?_
                      refine AL_nil ?_
                      exact thenN (cutLeaf (v := a3_0 == (19#8)) hr (weakB ((sT rfl (sT rfl (sT rfl (sT rfl (sT rfl (sT rfl (sT rfl (sT rfl (sT rfl sT0)))))))))) (sub_keep (sub_keep (sub_keep sub_nil))) rfl))
                    · rintro x7 hr
                      show AW Hfaa.prog _ _ _ ⟨[(1, .inl (is (U8 a1))), (2, .inr (.inl (2, 0))), (4, .inr (.inl (4, 0))), (7, .inr (.inl (7, 0))), (8, .inr (.inl (2, (a3_1 &&& (7#8)).toNat))), (9, .inl (is (U64 x1))), (10, .inl (is (U64 x2))), (40, .inl (is (U8 a3_0))), (84, .inl (is (Bl x7)))], [(2, gc 90 (ar U64 8 b2_0 ++ []) ([]) (k1 Sv) 1 b2_1), (4, pb 23 [is (U8 a0_0), is (U8 a0_1)]), (7, pb 96 [is (U8 a3_0), is (U8 a3_1), is (U8 a3_2), is (U8 a3_3), is (U64 a3_4), is (Sv a3_5)])]⟩
                      have hr : some r = F227_6 N a0_0 a0_1 a1 b2_0 b2_1 a3_0 a3_1 a3_2 a3_3 a3_4 a3_5 x1 x2 x7 := hr
                      refine AW_condT (b := x7) rfl (fun h => ?_) (fun h => ?_)
                      · have hr := hr.trans (cond_t h)
                        clear h
                        refine AW_region ?_
                        refine AL_cons (LR_move (at_tmp 8 _) rfl) (sS (sT1 rfl) sB0 sF0) ?_
                        refine AL_cons (LR_loads (at_tmp 4 _) ag23 sz23 rfl rfl rfl) (sS (sT1 rfl) (sB1 rfl) sF0) ?_
                        refine AL_cons (LR_move (at_tmp 9 _) rfl) (sS (sT1 rfl) sB0 sF0) ?_
                        refine AL_cons (LR_move (at_tmp 10 _) rfl) (sS (sT1 rfl) sB0 sF0) ?_
                        obtain ⟨y5, hy5, hr⟩ := bind_some hr
                        refine AL_cons (LR_call Hfaa.func298 rfl rfl (C298 N a0_0 a0_1 x1 x2 y5 hy5) (all_cons (at_tmp 87 _) (all_cons (at_tmp 88 _) (all_cons (at_tmp 89 _) all_nil))) rfl) (sS (sA (sT1 rfl) (sA (sT1 rfl) (sA (sT1 rfl) sT0))) sB0 sF0) ?_
                        refine AL_cons (LR_nilCheck (at_tmp 86 _) rfl) (sS (sT1 rfl) sB0 sF0) ?_
                        refine AL_opn 2 1005 (fun sv => (ar U64 8 b2_0 ++ (is ( sv) :: []))) rfl rfl (fun _ => by first | rfl | simp) ?_
                        intro sv5 hsv5
                        refine AL_cons (LR_storeA (at_tmp 91 _) (at_tmp 90 _) (cells_one (one_is rfl)) (onC (one_is rfl) onN) sz30 rfl (ble_dyn (lnA (lnC ln0)) (by have := (and7 a3_1); omega)) (stA (and7 a3_1))) (sS (sA (sT1 rfl) (sT1 rfl)) (sB1 rfl) sF0) ?_
                        refine AL_imp (imp_close (k := 2) (r := 1005) ((ar U64 8 (upd b2_0 ((a3_1 &&& (7#8)).toNat) y5) ++ [])) ([]) rfl (by first | rfl | simp) rfl rfl rfl rfl) ?_
                        refine AL_nil ?_
                        refine blN ?_
                        obtain rfl := Option.some.inj hr
                        exact ⟨res0 rfl , (sub_keep (sub_drop (sub_drop (sub_drop sub_nil))))⟩
                      · have hr := hr.trans (cond_f h)
                        clear h
                        refine AW_cut (σ := Bool) (fun v => ⟨[(1, .inl (is (U8 a1))), (2, .inr (.inl (2, 0))), (4, .inr (.inl (4, 0))), (7, .inr (.inl (7, 0))), (8, .inr (.inl (2, (a3_1 &&& (7#8)).toNat))), (9, .inl (is (U64 x1))), (10, .inl (is (U64 x2))), (40, .inl (is (U8 a3_0))), (92, .inl (is (Bl v)))], [(2, gc 90 (ar U64 8 b2_0 ++ []) ([]) (k1 Sv) 1 b2_1), (4, pb 23 [is (U8 a0_0), is (U8 a0_1)]), (7, pb 96 [is (U8 a3_0), is (U8 a3_1), is (U8 a3_2), is (U8 a3_3), is (U64 a3_4), is (Sv a3_5)])]⟩) (fun v => some r = F227_7 N a0_0 a0_1 a1 b2_0 b2_1 a3_0 a3_1 a3_2 a3_3 a3_4 a3_5 x1 x2 v) ?_ ?_
                        · skip
                          refine AW_region ?_
                          refine AL_cons (LR_bin (at_tmp 40 _) (at_c (v' := U8 (20#8)) rfl) (eql_U8 a3_0 (20#8)) rfl) (sS (sA (sT1 rfl) sT0) sB0 sF0) ?_
                          refine AL_cons (LR_assign (at_tmp 93 _) rfl) (sS (sT1 rfl) sB0 sF0) ?_
                          refine AL_nil ?_
                          exact thenN (cutLeaf (v := a3_0 == (20#8)) hr (weakB ((sT rfl (sT rfl (sT rfl (sT rfl (sT rfl (sT rfl (sT rfl (sT rfl (sT rfl sT0)))))))))) (sub_keep (sub_keep (sub_keep sub_nil))) rfl))
                        · rintro x8 hr
                          show AW Hfaa.prog _ _ _ ⟨[(1, .inl (is (U8 a1))), (2, .inr (.inl (2, 0))), (4, .inr (.inl (4, 0))), (7, .inr (.inl (7, 0))), (8, .inr (.inl (2, (a3_1 &&& (7#8)).toNat))), (9, .inl (is (U64 x1))), (10, .inl (is (U64 x2))), (40, .inl (is (U8 a3_0))), (92, .inl (is (Bl x8)))], [(2, gc 90 (ar U64 8 b2_0 ++ []) ([]) (k1 Sv) 1 b2_1), (4, pb 23 [is (U8 a0_0), is (U8 a0_1)]), (7, pb 96 [is (U8 a3_0), is (U8 a3_1), is (U8 a3_2), is (U8 a3_3), is (U64 a3_4), is (Sv a3_5)])]⟩
                          have hr : some r = F227_7 N a0_0 a0_1 a1 b2_0 b2_1 a3_0 a3_1 a3_2 a3_3 a3_4 a3_5 x1 x2 x8 := hr
                          refine AW_condT (b := x8) rfl (fun h => ?_) (fun h => ?_)
                          · have hr := hr.trans (cond_t h)
                            clear h
                            refine AW_region ?_
                            refine AL_cons (LR_move (at_tmp 8 _) rfl) (sS (sT1 rfl) sB0 sF0) ?_
                            refine AL_cons (LR_loads (at_tmp 4 _) ag23 sz23 rfl rfl rfl) (sS (sT1 rfl) (sB1 rfl) sF0) ?_
                            refine AL_cons (LR_move (at_tmp 9 _) rfl) (sS (sT1 rfl) sB0 sF0) ?_
                            obtain ⟨y6, hy6, hr⟩ := bind_some hr
                            refine AL_cons (LR_call Hfaa.func299 rfl rfl (C299 N a0_0 a0_1 x1 y6 hy6) (all_cons (at_tmp 95 _) (all_cons (at_tmp 96 _) all_nil)) rfl) (sS (sA (sT1 rfl) (sA (sT1 rfl) sT0)) sB0 sF0) ?_
                            refine AL_cons (LR_nilCheck (at_tmp 94 _) rfl) (sS (sT1 rfl) sB0 sF0) ?_
                            refine AL_opn 2 1006 (fun sv => (ar U64 8 b2_0 ++ (is ( sv) :: []))) rfl rfl (fun _ => by first | rfl | simp) ?_
                            intro sv6 hsv6
                            refine AL_cons (LR_storeA (at_tmp 98 _) (at_tmp 97 _) (cells_one (one_is rfl)) (onC (one_is rfl) onN) sz30 rfl (ble_dyn (lnA (lnC ln0)) (by have := (and7 a3_1); omega)) (stA (and7 a3_1))) (sS (sA (sT1 rfl) (sT1 rfl)) (sB1 rfl) sF0) ?_
                            refine AL_imp (imp_close (k := 2) (r := 1006) ((ar U64 8 (upd b2_0 ((a3_1 &&& (7#8)).toNat) y6) ++ [])) ([]) rfl (by first | rfl | simp) rfl rfl rfl rfl) ?_
                            refine AL_nil ?_
                            refine blN ?_
                            obtain rfl := Option.some.inj hr
                            exact ⟨res0 rfl , (sub_keep (sub_drop (sub_drop (sub_drop sub_nil))))⟩
                          · have hr := hr.trans (cond_f h)
                            clear h
                            refine AW_cut (σ := Bool) (fun v => ⟨[(1, .inl (is (U8 a1))), (2, .inr (.inl (2, 0))), (4, .inr (.inl (4, 0))), (7, .inr (.inl (7, 0))), (8, .inr (.inl (2, (a3_1 &&& (7#8)).toNat))), (9, .inl (is (U64 x1))), (10, .inl (is (U64 x2))), (40, .inl (is (U8 a3_0))), (99, .inl (is (Bl v)))], [(2, gc 90 (ar U64 8 b2_0 ++ []) ([]) (k1 Sv) 1 b2_1), (4, pb 23 [is (U8 a0_0), is (U8 a0_1)]), (7, pb 96 [is (U8 a3_0), is (U8 a3_1), is (U8 a3_2), is (U8 a3_3), is (U64 a3_4), is (Sv a3_5)])]⟩) (fun v => some r = F227_8 N a0_0 a0_1 a1 b2_0 b2_1 a3_0 a3_1 a3_2 a3_3 a3_4 a3_5 x1 x2 v) ?_ ?_
                            · skip
                              refine AW_region ?_
                              refine AL_cons (LR_bin (at_tmp 40 _) (at_c (v' := U8 (21#8)) rfl) (eql_U8 a3_0 (21#8)) rfl) (sS (sA (sT1 rfl) sT0) sB0 sF0) ?_
                              refine AL_cons (LR_assign (at_tmp 100 _) rfl) (sS (sT1 rfl) sB0 sF0) ?_
                              refine AL_nil ?_
                              exact thenN (cutLeaf (v := a3_0 == (21#8)) hr (weakB ((sT rfl (sT rfl (sT rfl (sT rfl (sT rfl (sT rfl (sT rfl (sT rfl (sT rfl sT0)))))))))) (sub_keep (sub_keep (sub_keep sub_nil))) rfl))
                            · rintro x9 hr
                              show AW Hfaa.prog _ _ _ ⟨[(1, .inl (is (U8 a1))), (2, .inr (.inl (2, 0))), (4, .inr (.inl (4, 0))), (7, .inr (.inl (7, 0))), (8, .inr (.inl (2, (a3_1 &&& (7#8)).toNat))), (9, .inl (is (U64 x1))), (10, .inl (is (U64 x2))), (40, .inl (is (U8 a3_0))), (99, .inl (is (Bl x9)))], [(2, gc 90 (ar U64 8 b2_0 ++ []) ([]) (k1 Sv) 1 b2_1), (4, pb 23 [is (U8 a0_0), is (U8 a0_1)]), (7, pb 96 [is (U8 a3_0), is (U8 a3_1), is (U8 a3_2), is (U8 a3_3), is (U64 a3_4), is (Sv a3_5)])]⟩
                              have hr : some r = F227_8 N a0_0 a0_1 a1 b2_0 b2_1 a3_0 a3_1 a3_2 a3_3 a3_4 a3_5 x1 x2 x9 := hr
                              refine AW_condT (b := x9) rfl (fun h => ?_) (fun h => ?_)
                              · have hr := hr.trans (cond_t h)
                                clear h
                                refine AW_region ?_
                                refine AL_cons (LR_move (at_tmp 8 _) rfl) (sS (sT1 rfl) sB0 sF0) ?_
                                refine AL_cons (LR_loads (at_tmp 4 _) ag23 sz23 rfl rfl rfl) (sS (sT1 rfl) (sB1 rfl) sF0) ?_
                                refine AL_cons (LR_move (at_tmp 9 _) rfl) (sS (sT1 rfl) sB0 sF0) ?_
                                obtain ⟨y7, hy7, hr⟩ := bind_some hr
                                refine AL_cons (LR_call Hfaa.func300 rfl rfl (C300 N a0_0 a0_1 x1 y7 hy7) (all_cons (at_tmp 102 _) (all_cons (at_tmp 103 _) all_nil)) rfl) (sS (sA (sT1 rfl) (sA (sT1 rfl) sT0)) sB0 sF0) ?_
                                refine AL_cons (LR_nilCheck (at_tmp 101 _) rfl) (sS (sT1 rfl) sB0 sF0) ?_
                                refine AL_opn 2 1007 (fun sv => (ar U64 8 b2_0 ++ (is ( sv) :: []))) rfl rfl (fun _ => by first | rfl | simp) ?_
                                intro sv7 hsv7
                                refine AL_cons (LR_storeA (at_tmp 105 _) (at_tmp 104 _) (cells_one (one_is rfl)) (onC (one_is rfl) onN) sz30 rfl (ble_dyn (lnA (lnC ln0)) (by have := (and7 a3_1); omega)) (stA (and7 a3_1))) (sS (sA (sT1 rfl) (sT1 rfl)) (sB1 rfl) sF0) ?_
                                refine AL_imp (imp_close (k := 2) (r := 1007) ((ar U64 8 (upd b2_0 ((a3_1 &&& (7#8)).toNat) y7) ++ [])) ([]) rfl (by first | rfl | simp) rfl rfl rfl rfl) ?_
                                refine AL_nil ?_
                                refine blN ?_
                                obtain rfl := Option.some.inj hr
                                exact ⟨res0 rfl , (sub_keep (sub_drop (sub_drop (sub_drop sub_nil))))⟩
                              · have hr := hr.trans (cond_f h)
                                clear h
                                refine AW_cut (σ := Bool) (fun v => ⟨[(1, .inl (is (U8 a1))), (2, .inr (.inl (2, 0))), (4, .inr (.inl (4, 0))), (7, .inr (.inl (7, 0))), (8, .inr (.inl (2, (a3_1 &&& (7#8)).toNat))), (9, .inl (is (U64 x1))), (10, .inl (is (U64 x2))), (40, .inl (is (U8 a3_0))), (106, .inl (is (Bl v)))], [(2, gc 90 (ar U64 8 b2_0 ++ []) ([]) (k1 Sv) 1 b2_1), (4, pb 23 [is (U8 a0_0), is (U8 a0_1)]), (7, pb 96 [is (U8 a3_0), is (U8 a3_1), is (U8 a3_2), is (U8 a3_3), is (U64 a3_4), is (Sv a3_5)])]⟩) (fun v => some r = F227_9 N a0_0 a0_1 a1 b2_0 b2_1 a3_0 a3_1 a3_2 a3_3 a3_4 a3_5 x1 x2 v) ?_ ?_
                                · skip
                                  refine AW_region ?_
                                  refine AL_cons (LR_bin (at_tmp 40 _) (at_c (v' := U8 (22#8)) rfl) (eql_U8 a3_0 (22#8)) rfl) (sS (sA (sT1 rfl) sT0) sB0 sF0) ?_
                                  refine AL_cons (LR_assign (at_tmp 107 _) rfl) (sS (sT1 rfl) sB0 sF0) ?_
                                  refine AL_nil ?_
                                  exact thenN (cutLeaf (v := a3_0 == (22#8)) hr (weakB ((sT rfl (sT rfl (sT rfl (sT rfl (sT rfl (sT rfl (sT rfl (sT rfl (sT rfl sT0)))))))))) (sub_keep (sub_keep (sub_keep sub_nil))) rfl))
                                · rintro x10 hr
                                  show AW Hfaa.prog _ _ _ ⟨[(1, .inl (is (U8 a1))), (2, .inr (.inl (2, 0))), (4, .inr (.inl (4, 0))), (7, .inr (.inl (7, 0))), (8, .inr (.inl (2, (a3_1 &&& (7#8)).toNat))), (9, .inl (is (U64 x1))), (10, .inl (is (U64 x2))), (40, .inl (is (U8 a3_0))), (106, .inl (is (Bl x10)))], [(2, gc 90 (ar U64 8 b2_0 ++ []) ([]) (k1 Sv) 1 b2_1), (4, pb 23 [is (U8 a0_0), is (U8 a0_1)]), (7, pb 96 [is (U8 a3_0), is (U8 a3_1), is (U8 a3_2), is (U8 a3_3), is (U64 a3_4), is (Sv a3_5)])]⟩
                                  have hr : some r = F227_9 N a0_0 a0_1 a1 b2_0 b2_1 a3_0 a3_1 a3_2 a3_3 a3_4 a3_5 x1 x2 x10 := hr
                                  refine AW_condT (b := x10) rfl (fun h => ?_) (fun h => ?_)
                                  · have hr := hr.trans (cond_t h)
                                    clear h
                                    refine AW_opn 2 1008 (fun sv => (ar U64 8 b2_0 ++ (is ( sv) :: []))) rfl rfl (fun _ => by first | rfl | simp) ?_
                                    intro sv8 hsv8
                                    obtain ⟨y8, hy8, hr⟩ := lt_some hr
                                    obtain ⟨y9, hy9, hr⟩ := lt_some hr
                                    obtain ⟨y10, hy10, hr⟩ := lt_some hr
                                    obtain ⟨y11, hy11, hr⟩ := bind_some hr
                                    obtain ⟨y12, hy12, hr⟩ := bind_some hr
                                    obtain ⟨hg1, hr⟩ := guard_some hr
                                    refine AW_post ?_
                                    refine AW_drawV 29 1008 mixed (fun sv9 => [(⟨[(108, .inr (.inl (2, 0)))], [], []⟩, ⟨[(138, .inr (.inl (2, 0)))], []⟩), (⟨[(138, .inr (.inl (2, 0)))], [], []⟩, ⟨[(139, .inr (.inl (2, 8)))], []⟩), (⟨[(139, .inr (.inl (2, 8))), (137, .inl (is ( sv9)))], [(2, pb 90 (ar U64 8 b2_0 ++ (is ( sv8) :: [])))], []⟩, ⟨[], [(2, pb 90 (ar U64 8 b2_0 ++ (is ( sv9) :: [])))]⟩)])
                                      (lrC (LR_move (at_tmp 2 _) rfl)
                                      (lrC (LR_move (at_tmp 2 _) rfl)
                                      (lrC (LR_nilCheck (at_tmp 109 _) rfl)
                                      (lrC (LR_fieldAddr (off := 0) (o := 8) (at_tmp 110 _) (fun b w => fa90_1 b 0 w) rfl)
                                      (lrC (LR_load (at_tmp 111 _) na57 (gP g0) rfl)
                                      (lrC (LR_loads (at_tmp 4 _) ag23 sz23 rfl rfl rfl)
                                      (lrC (LR_move (at_tmp 1 _) rfl)
                                      (lrC (LR_fieldAddr (off := 0) (o := 4) (at_tmp 7 _) (fun b w => fa96_4 b 0 w) rfl)
                                      (lrC (LR_load (at_tmp 115 _) na30 rfl rfl)
                                      (lrC (LR_loads (at_tmp 4 _) ag23 sz23 rfl rfl rfl)
                                      (lrC (LR_move (at_tmp 9 _) rfl)
                                      (lrC (LR_call Hfaa.func222 rfl rfl (C222 a0_0 a0_1 x1 y8 hy8) (all_cons (at_tmp 117 _) (all_cons (at_tmp 118 _) all_nil)) rfl)
                                      (lrC (LR_loads (at_tmp 4 _) ag23 sz23 rfl rfl rfl)
                                      (lrC (LR_move (at_tmp 10 _) rfl)
                                      (lrC (LR_call Hfaa.func222 rfl rfl (C222 a0_0 a0_1 x2 y9 hy9) (all_cons (at_tmp 120 _) (all_cons (at_tmp 121 _) all_nil)) rfl)
                                      (lrC (LR_loads (at_tmp 4 _) ag23 sz23 rfl rfl rfl)
                                      (lrC (LR_move (at_tmp 2 _) rfl)
                                      (lrC (LR_fieldAddr (off := 0) (o := 4) (at_tmp 7 _) (fun b w => fa96_4 b 0 w) rfl)
                                      (lrC (LR_load (at_tmp 125 _) na30 rfl rfl)
                                      (lrC (LR_bin (at_tmp 126 _) (at_c (v' := U64 (3#64)) rfl) (shr_U64 a3_4 ((3#64).toNat : Int) (Int.natCast_nonneg _)) rfl)
                                      (lrC (LR_bin (at_tmp 127 _) (at_c (v' := U64 (7#64)) rfl) (and_U64 (a3_4 >>> 3) (7#64)) rfl)
                                      (lrC (LR_nilCheck (at_tmp 124 _) rfl)
                                      (lrC (LR_fieldAddr (off := 0) (o := 0) (at_tmp 129 _) (fun b w => fa90_0 b 0 w) rfl)
                                      (lrC (LR_indexAddr (o := ((a3_4 >>> 3) &&& (7#64)).toNat) Hfaa.underlying35 sz30 (at_tmp 130 _) (at_tmp 128 _) (natIx (and7q (a3_4 >>> 3))) (by first | rfl | omega) rfl)
                                      (lrC (LR_load (at_tmp 131 _) na30 (gA (and7q (a3_4 >>> 3))) rfl)
                                      (lrC (LR_call Hfaa.func222 rfl rfl (C222 a0_0 a0_1 (b2_0 (((a3_4 >>> 3) &&& (7#64)).toNat)) y10 hy10) (all_cons (at_tmp 123 _) (all_cons (at_tmp 132 _) all_nil)) rfl)
                                      (lrC (LR_call Hfaa.func302 rfl rfl (C302 N a0_0 a0_1 a1 a3_4 y8 y9 y10 y11 hy11) (all_cons (at_tmp 113 _) (all_cons (at_tmp 114 _) (all_cons (at_tmp 116 _) (all_cons (at_tmp 119 _) (all_cons (at_tmp 122 _) (all_cons (at_tmp 133 _) all_nil)))))) rfl)
                                      (lrC (LR_call Hfaa.func301 rfl rfl (C301 N y11 y12 hy12) (all_cons (at_tmp 134 _) all_nil) rfl)
                                      (lrC (LR_bs1 Hfaa.underlying57 el9 (fun _ => rfl) (at_tmp 135 _) rfl)
                                      lrN)))))))))))))))))))))))))))))
                                      rfl
                                      (app_opk (K := (k1 Sv)) (r := 1008) (z := b2_1) (u := y12) Hfaa.underlying57 eN9 k1_len (k1_cell fun _ => rfl) (at_tmp 112 _) (at_tmp 136 _) (oneAt_k1 rfl) (of_decide_eq_true hg1) rfl rfl)
                                      (fun sv9 hsv9 => (lrC (LR_nilCheck (at_tmp 108 _) rfl)
                                      (lrC (LR_fieldAddr (off := 0) (o := 8) (at_tmp 138 _) (fun b w => fa90_1 b 0 w) rfl)
                                      (lrC (LR_storeA (at_tmp 139 _) (at_tmp 137 _) (cells_one (one_is hsv9)) (onC (one_is hsv9) onN) sz57 rfl (bleLen (lnA (lnC ln0)) rfl) (stP st0))
                                      lrN))))
                                      (fun sv9 hsv9 => by kernel_rfl)
                                      (fun sv9 hsv9 => (saC (sS (sT1 rfl) sB0 sF0) (saC (sS (sT1 rfl) sB0 sF0) (saC (sS (sT1 rfl) sB0 sF0) (saC (sS (sT1 rfl) sB0 sF0) (saC (sS (sT1 rfl) (sB1 rfl) sF0) (saC (sS (sT1 rfl) (sB1 rfl) sF0) (saC (sS (sT1 rfl) sB0 sF0) (saC (sS (sT1 rfl) sB0 sF0) (saC (sS (sT1 rfl) (sB1 rfl) sF0) (saC (sS (sT1 rfl) (sB1 rfl) sF0) (saC (sS (sT1 rfl) sB0 sF0) (saC (sS (sA (sT1 rfl) (sA (sT1 rfl) sT0)) sB0 sF0) (saC (sS (sT1 rfl) (sB1 rfl) sF0) (saC (sS (sT1 rfl) sB0 sF0) (saC (sS (sA (sT1 rfl) (sA (sT1 rfl) sT0)) sB0 sF0) (saC (sS (sT1 rfl) (sB1 rfl) sF0) (saC (sS (sT1 rfl) sB0 sF0) (saC (sS (sT1 rfl) sB0 sF0) (saC (sS (sT1 rfl) (sB1 rfl) sF0) (saC (sS (sA (sT1 rfl) sT0) sB0 sF0) (saC (sS (sA (sT1 rfl) sT0) sB0 sF0) (saC (sS (sT1 rfl) sB0 sF0) (saC (sS (sT1 rfl) sB0 sF0) (saC (sS (sA (sT1 rfl) (sT1 rfl)) sB0 sF0) (saC (sS (sT1 rfl) (sB1 rfl) sF0) (saC (sS (sA (sT1 rfl) (sA (sT1 rfl) sT0)) sB0 sF0) (saC (sS (sA (sT1 rfl) (sA (sT1 rfl) (sA (sT1 rfl) (sA (sT1 rfl) (sA (sT1 rfl) (sA (sT1 rfl) sT0)))))) sB0 sF0) (saC (sS (sA (sT1 rfl) sT0) sB0 sF0) (saC (sS (sT1 rfl) sB0 sF0) (saC (sS (sA (sT1 rfl) (sT1 rfl)) (sB1 rfl) sF0) (saC (sS (sT1 rfl) sB0 sF0) (saC (sS (sT1 rfl) sB0 sF0) (saC (sS (sA (sT1 rfl) (sT1 rfl)) (sB1 rfl) sF0) saN))))))))))))))))))))))))))))))))))
                                      (by kernel_rfl) rfl (fun sv9 hsv9 => by kernel_rfl) ?_
                                    intro sv9 hsv9
                                    refine ⟨_, (imp_close (k := 2) (r := 1008) (ar U64 8 b2_0 ++ []) ([]) rfl (by first | rfl | simp) rfl rfl rfl rfl), ?_⟩
                                    refine blN ?_
                                    obtain rfl := Option.some.inj hr
                                    exact ⟨res0 rfl , (sub_keep (sub_drop (sub_drop (sub_drop sub_nil))))⟩
                                  · have hr := hr.trans (cond_f h)
                                    clear h
                                    refine AW_cut (σ := Bool) (fun v => ⟨[(1, .inl (is (U8 a1))), (2, .inr (.inl (2, 0))), (4, .inr (.inl (4, 0))), (7, .inr (.inl (7, 0))), (8, .inr (.inl (2, (a3_1 &&& (7#8)).toNat))), (9, .inl (is (U64 x1))), (40, .inl (is (U8 a3_0))), (140, .inl (is (Bl v)))], [(2, gc 90 (ar U64 8 b2_0 ++ []) ([]) (k1 Sv) 1 b2_1), (4, pb 23 [is (U8 a0_0), is (U8 a0_1)]), (7, pb 96 [is (U8 a3_0), is (U8 a3_1), is (U8 a3_2), is (U8 a3_3), is (U64 a3_4), is (Sv a3_5)])]⟩) (fun v => some r = F227_10 N a0_0 a0_1 a1 b2_0 b2_1 a3_0 a3_1 a3_2 a3_3 a3_4 a3_5 x1 v) ?_ ?_
                                    · skip
                                      refine AW_cut (σ := Bool) (fun v => ⟨[(1, .inl (is (U8 a1))), (2, .inr (.inl (2, 0))), (4, .inr (.inl (4, 0))), (7, .inr (.inl (7, 0))), (8, .inr (.inl (2, (a3_1 &&& (7#8)).toNat))), (9, .inl (is (U64 x1))), (40, .inl (is (U8 a3_0))), (140, .inl (is (Bl v)))], [(2, gc 90 (ar U64 8 b2_0 ++ []) ([]) (k1 Sv) 1 b2_1), (4, pb 23 [is (U8 a0_0), is (U8 a0_1)]), (7, pb 96 [is (U8 a3_0), is (U8 a3_1), is (U8 a3_2), is (U8 a3_3), is (U64 a3_4), is (Sv a3_5)])]⟩) (fun v => some r = F227_25 N a0_0 a0_1 a1 b2_0 b2_1 a3_0 a3_1 a3_2 a3_3 a3_4 a3_5 x1 v) ?_ ?_
                                      · skip
                                        refine AW_region ?_
                                        refine AL_cons (LR_bin (at_tmp 40 _) (at_c (v' := U8 (23#8)) rfl) (eql_U8 a3_0 (23#8)) rfl) (sS (sA (sT1 rfl) sT0) sB0 sF0) ?_
                                        refine AL_cons (LR_assign (at_tmp 141 _) rfl) (sS (sT1 rfl) sB0 sF0) ?_
                                        refine AL_nil ?_
                                        exact thenN (cutLeaf (v := a3_0 == (23#8)) hr (weakB ((sT rfl (sT rfl (sT rfl (sT rfl (sT rfl (sT rfl (sT rfl (sT rfl sT0))))))))) (sub_keep (sub_keep (sub_keep sub_nil))) rfl))
                                      · rintro x32 hr
                                        show AW Hfaa.prog _ _ _ ⟨[(1, .inl (is (U8 a1))), (2, .inr (.inl (2, 0))), (4, .inr (.inl (4, 0))), (7, .inr (.inl (7, 0))), (8, .inr (.inl (2, (a3_1 &&& (7#8)).toNat))), (9, .inl (is (U64 x1))), (40, .inl (is (U8 a3_0))), (140, .inl (is (Bl x32)))], [(2, gc 90 (ar U64 8 b2_0 ++ []) ([]) (k1 Sv) 1 b2_1), (4, pb 23 [is (U8 a0_0), is (U8 a0_1)]), (7, pb 96 [is (U8 a3_0), is (U8 a3_1), is (U8 a3_2), is (U8 a3_3), is (U64 a3_4), is (Sv a3_5)])]⟩
                                        have hr : some r = F227_25 N a0_0 a0_1 a1 b2_0 b2_1 a3_0 a3_1 a3_2 a3_3 a3_4 a3_5 x1 x32 := hr
                                        refine AW_condT (b := x32) rfl (fun h => ?_) (fun h => ?_)
                                        · have hr := hr.trans (cond_t h)
                                          clear h
                                          refine AW_skip ?_
                                          exact thenN (cutLeaf (v := x32) hr (weakB ((sT rfl (sT rfl (sT rfl (sT rfl (sT rfl (sT rfl (sT rfl (sT rfl sT0))))))))) (sub_keep (sub_keep (sub_keep sub_nil))) rfl))
                                        · have hr := hr.trans (cond_f h)
                                          clear h
                                          refine AW_region ?_
                                          refine AL_cons (LR_bin (at_tmp 40 _) (at_c (v' := U8 (24#8)) rfl) (eql_U8 a3_0 (24#8)) rfl) (sS (sA (sT1 rfl) sT0) sB0 sF0) ?_
                                          refine AL_cons (LR_assign (at_tmp 142 _) rfl) (sS (sT1 rfl) sB0 sF0) ?_
                                          refine AL_nil ?_
                                          exact thenN (cutLeaf (v := a3_0 == (24#8)) hr (weakB ((sT rfl (sT rfl (sT rfl (sT rfl (sT rfl (sT rfl (sT rfl (sT rfl sT0))))))))) (sub_keep (sub_keep (sub_keep sub_nil))) rfl))
                                    · rintro x11 hr
                                      show AW Hfaa.prog _ _ _ ⟨[(1, .inl (is (U8 a1))), (2, .inr (.inl (2, 0))), (4, .inr (.inl (4, 0))), (7, .inr (.inl (7, 0))), (8, .inr (.inl (2, (a3_1 &&& (7#8)).toNat))), (9, .inl (is (U64 x1))), (40, .inl (is (U8 a3_0))), (140, .inl (is (Bl x11)))], [(2, gc 90 (ar U64 8 b2_0 ++ []) ([]) (k1 Sv) 1 b2_1), (4, pb 23 [is (U8 a0_0), is (U8 a0_1)]), (7, pb 96 [is (U8 a3_0), is (U8 a3_1), is (U8 a3_2), is (U8 a3_3), is (U64 a3_4), is (Sv a3_5)])]⟩
                                      have hr : some r = F227_10 N a0_0 a0_1 a1 b2_0 b2_1 a3_0 a3_1 a3_2 a3_3 a3_4 a3_5 x1 x11 := hr
                                      refine AW_condT (b := x11) rfl (fun h => ?_) (fun h => ?_)
                                      · have hr := hr.trans (cond_t h)
                                        clear h
                                        refine AW_opn 2 1009 (fun sv => (ar U64 8 b2_0 ++ (is ( sv) :: []))) rfl rfl (fun _ => by first | rfl | simp) ?_
                                        intro sv10 hsv10
                                        obtain ⟨y13, hy13, hr⟩ := bind_some hr
                                        obtain ⟨hg2, hr⟩ := guard_some hr
                                        refine AW_post ?_
                                        refine AW_drawV 10 1009 mixed (fun sv11 => [(⟨[(143, .inr (.inl (2, 0)))], [], []⟩, ⟨[(154, .inr (.inl (2, 0)))], []⟩), (⟨[(154, .inr (.inl (2, 0)))], [], []⟩, ⟨[(155, .inr (.inl (2, 8)))], []⟩), (⟨[(155, .inr (.inl (2, 8))), (153, .inl (is ( sv11)))], [(2, pb 90 (ar U64 8 b2_0 ++ (is ( sv10) :: [])))], []⟩, ⟨[], [(2, pb 90 (ar U64 8 b2_0 ++ (is ( sv11) :: [])))]⟩)])
                                          (lrC (LR_move (at_tmp 2 _) rfl)
                                          (lrC (LR_move (at_tmp 2 _) rfl)
                                          (lrC (LR_nilCheck (at_tmp 144 _) rfl)
                                          (lrC (LR_fieldAddr (off := 0) (o := 8) (at_tmp 145 _) (fun b w => fa90_1 b 0 w) rfl)
                                          (lrC (LR_load (at_tmp 146 _) na57 (gP g0) rfl)
                                          (lrC (LR_loads (at_tmp 4 _) ag23 sz23 rfl rfl rfl)
                                          (lrC (LR_move (at_tmp 9 _) rfl)
                                          (lrC (LR_loads (at_tmp 7 _) ag96 sz96 rfl rfl rfl)
                                          (lrC (LR_call Hfaa.func303 rfl rfl (C303 N a0_0 a0_1 x1 a3_0 a3_1 a3_2 a3_3 a3_4 a3_5 y13 hy13) (all_cons (at_tmp 148 _) (all_cons (at_tmp 149 _) (all_cons (at_tmp 150 _) all_nil))) rfl)
                                          (lrC (LR_bs1 Hfaa.underlying57 el9 (fun _ => rfl) (at_tmp 151 _) rfl)
                                          lrN))))))))))
                                          rfl
                                          (app_opk (K := (k1 Sv)) (r := 1009) (z := b2_1) (u := y13) Hfaa.underlying57 eN9 k1_len (k1_cell fun _ => rfl) (at_tmp 147 _) (at_tmp 152 _) (oneAt_k1 rfl) (of_decide_eq_true hg2) rfl rfl)
                                          (fun sv11 hsv11 => (lrC (LR_nilCheck (at_tmp 143 _) rfl)
                                          (lrC (LR_fieldAddr (off := 0) (o := 8) (at_tmp 154 _) (fun b w => fa90_1 b 0 w) rfl)
                                          (lrC (LR_storeA (at_tmp 155 _) (at_tmp 153 _) (cells_one (one_is hsv11)) (onC (one_is hsv11) onN) sz57 rfl (bleLen (lnA (lnC ln0)) rfl) (stP st0))
                                          lrN))))
                                          (fun sv11 hsv11 => by kernel_rfl)
                                          (fun sv11 hsv11 => (saC (sS (sT1 rfl) sB0 sF0) (saC (sS (sT1 rfl) sB0 sF0) (saC (sS (sT1 rfl) sB0 sF0) (saC (sS (sT1 rfl) sB0 sF0) (saC (sS (sT1 rfl) (sB1 rfl) sF0) (saC (sS (sT1 rfl) (sB1 rfl) sF0) (saC (sS (sT1 rfl) sB0 sF0) (saC (sS (sT1 rfl) (sB1 rfl) sF0) (saC (sS (sA (sT1 rfl) (sA (sT1 rfl) (sA (sT1 rfl) sT0))) sB0 sF0) (saC (sS (sT1 rfl) sB0 sF0) (saC (sS (sA (sT1 rfl) (sT1 rfl)) (sB1 rfl) sF0) (saC (sS (sT1 rfl) sB0 sF0) (saC (sS (sT1 rfl) sB0 sF0) (saC (sS (sA (sT1 rfl) (sT1 rfl)) (sB1 rfl) sF0) saN)))))))))))))))
                                          (by kernel_rfl) rfl (fun sv11 hsv11 => by kernel_rfl) ?_
                                        intro sv11 hsv11
                                        refine ⟨_, (imp_close (k := 2) (r := 1009) (ar U64 8 b2_0 ++ []) ([]) rfl (by first | rfl | simp) rfl rfl rfl rfl), ?_⟩
                                        refine blN ?_
                                        obtain rfl := Option.some.inj hr
                                        exact ⟨res0 rfl , (sub_keep (sub_drop (sub_drop (sub_drop sub_nil))))⟩
                                      · have hr := hr.trans (cond_f h)
                                        clear h
                                        refine AW_cut (σ := Bool) (fun v => ⟨[(1, .inl (is (U8 a1))), (2, .inr (.inl (2, 0))), (4, .inr (.inl (4, 0))), (7, .inr (.inl (7, 0))), (8, .inr (.inl (2, (a3_1 &&& (7#8)).toNat))), (9, .inl (is (U64 x1))), (40, .inl (is (U8 a3_0))), (156, .inl (is (Bl v)))], [(2, gc 90 (ar U64 8 b2_0 ++ []) ([]) (k1 Sv) 1 b2_1), (4, pb 23 [is (U8 a0_0), is (U8 a0_1)]), (7, pb 96 [is (U8 a3_0), is (U8 a3_1), is (U8 a3_2), is (U8 a3_3), is (U64 a3_4), is (Sv a3_5)])]⟩) (fun v => some r = F227_11 N a0_0 a0_1 a1 b2_0 b2_1 a3_0 a3_1 a3_2 a3_3 a3_4 a3_5 x1 v) ?_ ?_
                                        · skip
                                          refine AW_region ?_
                                          refine AL_cons (LR_bin (at_tmp 40 _) (at_c (v' := U8 (25#8)) rfl) (eql_U8 a3_0 (25#8)) rfl) (sS (sA (sT1 rfl) sT0) sB0 sF0) ?_
                                          refine AL_cons (LR_assign (at_tmp 157 _) rfl) (sS (sT1 rfl) sB0 sF0) ?_
                                          refine AL_nil ?_
                                          exact thenN (cutLeaf (v := a3_0 == (25#8)) hr (weakB ((sT rfl (sT rfl (sT rfl (sT rfl (sT rfl (sT rfl (sT rfl (sT rfl sT0))))))))) (sub_keep (sub_keep (sub_keep sub_nil))) rfl))
                                        · rintro x12 hr
                                          show AW Hfaa.prog _ _ _ ⟨[(1, .inl (is (U8 a1))), (2, .inr (.inl (2, 0))), (4, .inr (.inl (4, 0))), (7, .inr (.inl (7, 0))), (8, .inr (.inl (2, (a3_1 &&& (7#8)).toNat))), (9, .inl (is (U64 x1))), (40, .inl (is (U8 a3_0))), (156, .inl (is (Bl x12)))], [(2, gc 90 (ar U64 8 b2_0 ++ []) ([]) (k1 Sv) 1 b2_1), (4, pb 23 [is (U8 a0_0), is (U8 a0_1)]), (7, pb 96 [is (U8 a3_0), is (U8 a3_1), is (U8 a3_2), is (U8 a3_3), is (U64 a3_4), is (Sv a3_5)])]⟩
                                          have hr : some r = F227_11 N a0_0 a0_1 a1 b2_0 b2_1 a3_0 a3_1 a3_2 a3_3 a3_4 a3_5 x1 x12 := hr
                                          refine AW_condT (b := x12) rfl (fun h => ?_) (fun h => ?_)
                                          · have hr := hr.trans (cond_t h)
                                            clear h
                                            refine AW_opn 2 1010 (fun sv => (ar U64 8 b2_0 ++ (is ( sv) :: []))) rfl rfl (fun _ => by first | rfl | simp) ?_
                                            intro sv12 hsv12
                                            obtain ⟨y14, hy14, hr⟩ := bind_some hr
                                            obtain ⟨y15, hy15, hr⟩ := lt_some hr
                                            obtain ⟨hg3, hr⟩ := guard_some hr
                                            refine AW_post ?_
                                            refine AW_drawV 12 1010 mixed (fun sv13 => [(⟨[(158, .inr (.inl (2, 0)))], [], []⟩, ⟨[(171, .inr (.inl (2, 0)))], []⟩), (⟨[(171, .inr (.inl (2, 0)))], [], []⟩, ⟨[(172, .inr (.inl (2, 8)))], []⟩), (⟨[(172, .inr (.inl (2, 8))), (170, .inl (is ( sv13)))], [(2, pb 90 (ar U64 8 b2_0 ++ (is ( sv12) :: [])))], []⟩, ⟨[], [(2, pb 90 (ar U64 8 b2_0 ++ (is ( sv13) :: [])))]⟩)])
                                              (lrC (LR_move (at_tmp 2 _) rfl)
                                              (lrC (LR_move (at_tmp 2 _) rfl)
                                              (lrC (LR_nilCheck (at_tmp 159 _) rfl)
                                              (lrC (LR_fieldAddr (off := 0) (o := 8) (at_tmp 160 _) (fun b w => fa90_1 b 0 w) rfl)
                                              (lrC (LR_load (at_tmp 161 _) na57 (gP g0) rfl)
                                              (lrC (LR_loads (at_tmp 4 _) ag23 sz23 rfl rfl rfl)
                                              (lrC (LR_move (at_tmp 9 _) rfl)
                                              (lrC (LR_loads (at_tmp 4 _) ag23 sz23 rfl rfl rfl)
                                              (lrC (LR_move (at_tmp 9 _) rfl)
                                              (lrC (LR_call Hfaa.func105 rfl rfl (C105 N a0_0 a0_1 x1 y14 hy14) (all_cons (at_tmp 165 _) (all_cons (at_tmp 166 _) all_nil)) rfl)
                                              (lrC (LR_call Hfaa.func292 rfl rfl (C292 a0_0 a0_1 x1 y14 y15 hy15) (all_cons (at_tmp 163 _) (all_cons (at_tmp 164 _) (all_cons (at_tmp 167 _) all_nil))) rfl)
                                              (lrC (LR_bs1 Hfaa.underlying57 el9 (fun _ => rfl) (at_tmp 168 _) rfl)
                                              lrN))))))))))))
                                              rfl
                                              (app_opk (K := (k1 Sv)) (r := 1010) (z := b2_1) (u := y15) Hfaa.underlying57 eN9 k1_len (k1_cell fun _ => rfl) (at_tmp 162 _) (at_tmp 169 _) (oneAt_k1 rfl) (of_decide_eq_true hg3) rfl rfl)
                                              (fun sv13 hsv13 => (lrC (LR_nilCheck (at_tmp 158 _) rfl)
                                              (lrC (LR_fieldAddr (off := 0) (o := 8) (at_tmp 171 _) (fun b w => fa90_1 b 0 w) rfl)
                                              (lrC (LR_storeA (at_tmp 172 _) (at_tmp 170 _) (cells_one (one_is hsv13)) (onC (one_is hsv13) onN) sz57 rfl (bleLen (lnA (lnC ln0)) rfl) (stP st0))
                                              lrN))))
                                              (fun sv13 hsv13 => by kernel_rfl)
                                              (fun sv13 hsv13 => (saC (sS (sT1 rfl) sB0 sF0) (saC (sS (sT1 rfl) sB0 sF0) (saC (sS (sT1 rfl) sB0 sF0) (saC (sS (sT1 rfl) sB0 sF0) (saC (sS (sT1 rfl) (sB1 rfl) sF0) (saC (sS (sT1 rfl) (sB1 rfl) sF0) (saC (sS (sT1 rfl) sB0 sF0) (saC (sS (sT1 rfl) (sB1 rfl) sF0) (saC (sS (sT1 rfl) sB0 sF0) (saC (sS (sA (sT1 rfl) (sA (sT1 rfl) sT0)) sB0 sF0) (saC (sS (sA (sT1 rfl) (sA (sT1 rfl) (sA (sT1 rfl) sT0))) sB0 sF0) (saC (sS (sT1 rfl) sB0 sF0) (saC (sS (sA (sT1 rfl) (sT1 rfl)) (sB1 rfl) sF0) (saC (sS (sT1 rfl) sB0 sF0) (saC (sS (sT1 rfl) sB0 sF0) (saC (sS (sA (sT1 rfl) (sT1 rfl)) (sB1 rfl) sF0) saN)))))))))))))))))
                                              (by kernel_rfl) rfl (fun sv13 hsv13 => by kernel_rfl) ?_
                                            intro sv13 hsv13
                                            refine ⟨_, (imp_close (k := 2) (r := 1010) (ar U64 8 b2_0 ++ []) ([]) rfl (by first | rfl | simp) rfl rfl rfl rfl), ?_⟩
                                            refine blN ?_
                                            obtain rfl := Option.some.inj hr
                                            exact ⟨res0 rfl , (sub_keep (sub_drop (sub_drop (sub_drop sub_nil))))⟩
                                          · have hr := hr.trans (cond_f h)
                                            clear h
                                            refine AW_cut (σ := Bool) (fun v => ⟨[(1, .inl (is (U8 a1))), (2, .inr (.inl (2, 0))), (4, .inr (.inl (4, 0))), (7, .inr (.inl (7, 0))), (8, .inr (.inl (2, (a3_1 &&& (7#8)).toNat))), (9, .inl (is (U64 x1))), (40, .inl (is (U8 a3_0))), (173, .inl (is (Bl v)))], [(2, gc 90 (ar U64 8 b2_0 ++ []) ([]) (k1 Sv) 1 b2_1), (4, pb 23 [is (U8 a0_0), is (U8 a0_1)]), (7, pb 96 [is (U8 a3_0), is (U8 a3_1), is (U8 a3_2), is (U8 a3_3), is (U64 a3_4), is (Sv a3_5)])]⟩) (fun v => some r = F227_12 N a0_0 a0_1 a1 b2_0 b2_1 a3_0 a3_1 a3_2 a3_3 a3_4 a3_5 x1 v) ?_ ?_
                                            · skip
                                              refine AW_region ?_
                                              refine AL_cons (LR_bin (at_tmp 40 _) (at_c (v' := U8 (26#8)) rfl) (eql_U8 a3_0 (26#8)) rfl) (sS (sA (sT1 rfl) sT0) sB0 sF0) ?_
                                              refine AL_cons (LR_assign (at_tmp 174 _) rfl) (sS (sT1 rfl) sB0 sF0) ?_
                                              refine AL_nil ?_
                                              exact thenN (cutLeaf (v := a3_0 == (26#8)) hr (weakB ((sT rfl (sT rfl (sT rfl (sT rfl (sT rfl (sT rfl (sT rfl (sT rfl sT0))))))))) (sub_keep (sub_keep (sub_keep sub_nil))) rfl))
                                            · rintro x13 hr
                                              show AW Hfaa.prog _ _ _ ⟨[(1, .inl (is (U8 a1))), (2, .inr (.inl (2, 0))), (4, .inr (.inl (4, 0))), (7, .inr (.inl (7, 0))), (8, .inr (.inl (2, (a3_1 &&& (7#8)).toNat))), (9, .inl (is (U64 x1))), (40, .inl (is (U8 a3_0))), (173, .inl (is (Bl x13)))], [(2, gc 90 (ar U64 8 b2_0 ++ []) ([]) (k1 Sv) 1 b2_1), (4, pb 23 [is (U8 a0_0), is (U8 a0_1)]), (7, pb 96 [is (U8 a3_0), is (U8 a3_1), is (U8 a3_2), is (U8 a3_3), is (U64 a3_4), is (Sv a3_5)])]⟩
                                              have hr : some r = F227_12 N a0_0 a0_1 a1 b2_0 b2_1 a3_0 a3_1 a3_2 a3_3 a3_4 a3_5 x1 x13 := hr
                                              refine AW_condT (b := x13) rfl (fun h => ?_) (fun h => ?_)
                                              · have hr := hr.trans (cond_t h)
                                                clear h
                                                refine AW_cut (σ := BitVec 8 × Bool × List UInt8 × Int × Int × Int) (fun v => ⟨[(1, .inl (is (U8 a1))), (2, .inr (.inl (2, 0))), (4, .inr (.inl (4, 0))), (8, .inr (.inl (2, (a3_1 &&& (7#8)).toNat))), (11, .inr (.inl (11, 0)))], [(2, gc 90 (ar U64 8 b2_0 ++ []) ([]) (k1 Sv) 1 b2_1), (4, pb 23 [is (U8 a0_0), is (U8 a0_1)]), (11, pb 307 [is (U8 v.1), is (Bl v.2.1), is (Sv v.2.2.1), is (I16 v.2.2.2.1), is (I64 v.2.2.2.2.1), is (I32 v.2.2.2.2.2)])]⟩) (fun v => some r = F227_13 N a0_0 a0_1 a1 b2_0 b2_1 a3_1 v.1 v.2.1 v.2.2.1 v.2.2.2.1 v.2.2.2.2.1 v.2.2.2.2.2) ?_ ?_
                                                · skip
                                                  refine AW_region ?_
                                                  refine AL_cons (LR_fieldAddr (off := 0) (o := 5) (at_tmp 7 _) (fun b w => fa96_5 b 0 w) rfl) (sS (sT1 rfl) sB0 sF0) ?_
                                                  refine AL_cons (LR_load (at_tmp 175 _) na9 rfl rfl) (sS (sT1 rfl) (sB1 rfl) sF0) ?_
                                                  obtain ⟨y18, hy18, hr⟩ := bind_some hr
                                                  refine AL_cons (LR_call Hfaa.func304 rfl rfl (C304 N a3_5 y18 hy18) (all_cons (at_tmp 176 _) all_nil) rfl) (sS (sA (sT1 rfl) sT0) sB0 sF0) ?_
                                                  refine AL_cons (zl307 rfl) (sS sT0 sB0 (sF1 rfl)) ?_
                                                  refine AL_cons (LR_store (at_tmp 11 _) (at_tmp 177 _) (cells_agg _) (onC (one_is rfl) (onC (one_is rfl) (onC (one_is rfl) (onC (one_is rfl) (onC (one_is rfl) (onC (one_is rfl) onN)))))) sz307 rfl rfl) (sS (sA (sT1 rfl) (sT1 rfl)) (sB1 rfl) sF0) ?_
                                                  refine AL_nil ?_
                                                  exact thenN (cutLeaf (v := (y18.1, y18.2.1, y18.2.2.1, y18.2.2.2.1, y18.2.2.2.2.1, y18.2.2.2.2.2)) hr (weakB ((sT rfl (sT rfl (sT rfl (sT rfl (sT rfl sT0)))))) (sub_keep (sub_keep (sub_drop (sub_keep sub_nil)))) rfl))
                                                · rintro ⟨x14, x15, x16, x17, x18, x19⟩ hr
                                                  show AW Hfaa.prog _ _ _ ⟨[(1, .inl (is (U8 a1))), (2, .inr (.inl (2, 0))), (4, .inr (.inl (4, 0))), (8, .inr (.inl (2, (a3_1 &&& (7#8)).toNat))), (11, .inr (.inl (11, 0)))], [(2, gc 90 (ar U64 8 b2_0 ++ []) ([]) (k1 Sv) 1 b2_1), (4, pb 23 [is (U8 a0_0), is (U8 a0_1)]), (11, pb 307 [is (U8 x14), is (Bl x15), is (Sv x16), is (I16 x17), is (I64 x18), is (I32 x19)])]⟩
                                                  have hr : some r = F227_13 N a0_0 a0_1 a1 b2_0 b2_1 a3_1 x14 x15 x16 x17 x18 x19 := hr
                                                  refine AW_seq1 ?_
                                                  refine AW_region ?_
                                                  refine AL_cons (LR_fieldAddr (off := 0) (o := 0) (at_tmp 11 _) (fun b w => fa307_0 b 0 w) rfl) (sS (sT1 rfl) sB0 sF0) ?_
                                                  refine AL_cons (LR_load (at_tmp 178 _) na295 rfl rfl) (sS (sT1 rfl) (sB1 rfl) sF0) ?_
                                                  refine AL_nil ?_
                                                  refine thenN ?_
                                                  refine AW_block ?_
                                                  refine AW_cut (σ := Bool) (fun v => ⟨[(1, .inl (is (U8 a1))), (2, .inr (.inl (2, 0))), (4, .inr (.inl (4, 0))), (8, .inr (.inl (2, (a3_1 &&& (7#8)).toNat))), (11, .inr (.inl (11, 0))), (179, .inl (is (U8 x14))), (189, .inl (is (Bl v)))], [(2, gc 90 (ar U64 8 b2_0 ++ []) ([]) (k1 Sv) 1 b2_1), (4, pb 23 [is (U8 a0_0), is (U8 a0_1)]), (11, pb 307 [is (U8 x14), is (Bl x15), is (Sv x16), is (I16 x17), is (I64 x18), is (I32 x19)])]⟩) (fun v => some r = F227_14 N a0_0 a0_1 a1 b2_0 b2_1 a3_1 x14 x15 x16 x17 x18 x19 v) ?_ ?_
                                                  · skip
                                                    refine AW_region ?_
                                                    refine AL_cons (LR_bin (at_tmp 179 _) (at_c (v' := U8 (0#8)) rfl) (eql_U8 x14 (0#8)) rfl) (sS (sA (sT1 rfl) sT0) sB0 sF0) ?_
                                                    refine AL_cons (LR_assign (at_tmp 190 _) rfl) (sS (sT1 rfl) sB0 sF0) ?_
                                                    refine AL_nil ?_
                                                    exact thenN (cutLeaf (v := x14 == (0#8)) hr (weakB ((sT rfl (sT rfl (sT rfl (sT rfl (sT rfl (sT rfl (sT rfl sT0)))))))) (sub_keep (sub_keep (sub_keep sub_nil))) rfl))
                                                  · rintro x20 hr
                                                    show AW Hfaa.prog _ _ _ ⟨[(1, .inl (is (U8 a1))), (2, .inr (.inl (2, 0))), (4, .inr (.inl (4, 0))), (8, .inr (.inl (2, (a3_1 &&& (7#8)).toNat))), (11, .inr (.inl (11, 0))), (179, .inl (is (U8 x14))), (189, .inl (is (Bl x20)))], [(2, gc 90 (ar U64 8 b2_0 ++ []) ([]) (k1 Sv) 1 b2_1), (4, pb 23 [is (U8 a0_0), is (U8 a0_1)]), (11, pb 307 [is (U8 x14), is (Bl x15), is (Sv x16), is (I16 x17), is (I64 x18), is (I32 x19)])]⟩
                                                    have hr : some r = F227_14 N a0_0 a0_1 a1 b2_0 b2_1 a3_1 x14 x15 x16 x17 x18 x19 x20 := hr
                                                    refine AW_condT (b := x20) rfl (fun h => ?_) (fun h => ?_)
                                                    · have hr := hr.trans (cond_t h)
                                                      clear h
                                                      refine AW_region ?_
                                                      refine AL_cons (LR_move (at_tmp 8 _) rfl) (sS (sT1 rfl) sB0 sF0) ?_
                                                      refine AL_cons (LR_loads (at_tmp 4 _) ag23 sz23 rfl rfl rfl) (sS (sT1 rfl) (sB1 rfl) sF0) ?_
                                                      refine AL_cons (LR_move (at_tmp 1 _) rfl) (sS (sT1 rfl) sB0 sF0) ?_
                                                      refine AL_cons (LR_fieldAddr (off := 0) (o := 1) (at_tmp 11 _) (fun b w => fa307_1 b 0 w) rfl) (sS (sT1 rfl) sB0 sF0) ?_
                                                      refine AL_cons (LR_fieldAddr (off := 1) (o := 1) (at_tmp 194 _) (fun b w => fa151_0 b 1 w) rfl) (sS (sT1 rfl) sB0 sF0) ?_
                                                      refine AL_cons (LR_load (at_tmp 195 _) na4 rfl rfl) (sS (sT1 rfl) (sB1 rfl) sF0) ?_
                                                      refine AL_cons (LR_fieldAddr (off := 0) (o := 1) (at_tmp 11 _) (fun b w => fa307_1 b 0 w) rfl) (sS (sT1 rfl) sB0 sF0) ?_
                                                      refine AL_cons (LR_fieldAddr (off := 1) (o := 2) (at_tmp 197 _) (fun b w => fa151_1 b 1 w) rfl) (sS (sT1 rfl) sB0 sF0) ?_
                                                      refine AL_cons (LR_load (at_tmp 198 _) na9 rfl rfl) (sS (sT1 rfl) (sB1 rfl) sF0) ?_
                                                      refine AL_cons (LR_fieldAddr (off := 0) (o := 1) (at_tmp 11 _) (fun b w => fa307_1 b 0 w) rfl) (sS (sT1 rfl) sB0 sF0) ?_
                                                      refine AL_cons (LR_fieldAddr (off := 1) (o := 3) (at_tmp 200 _) (fun b w => fa151_2 b 1 w) rfl) (sS (sT1 rfl) sB0 sF0) ?_
                                                      refine AL_cons (LR_load (at_tmp 201 _) na44 rfl rfl) (sS (sT1 rfl) (sB1 rfl) sF0) ?_
                                                      obtain ⟨y17, hy17, hr⟩ := bind_some hr
                                                      refine AL_cons (LR_call Hfaa.func108 rfl rfl (C108 N a0_0 a0_1 a1 x15 x16 x17 y17 hy17) (all_cons (at_tmp 192 _) (all_cons (at_tmp 193 _) (all_cons (at_tmp 196 _) (all_cons (at_tmp 199 _) (all_cons (at_tmp 202 _) all_nil))))) rfl) (sS (sA (sT1 rfl) (sA (sT1 rfl) (sA (sT1 rfl) (sA (sT1 rfl) (sA (sT1 rfl) sT0))))) sB0 sF0) ?_
                                                      refine AL_cons (LR_nilCheck (at_tmp 191 _) rfl) (sS (sT1 rfl) sB0 sF0) ?_
                                                      refine AL_opn 2 1011 (fun sv => (ar U64 8 b2_0 ++ (is ( sv) :: []))) rfl rfl (fun _ => by first | rfl | simp) ?_
                                                      intro sv14 hsv14
                                                      refine AL_cons (LR_storeA (at_tmp 204 _) (at_tmp 203 _) (cells_one (one_is rfl)) (onC (one_is rfl) onN) sz30 rfl (ble_dyn (lnA (lnC ln0)) (by have := (and7 a3_1); omega)) (stA (and7 a3_1))) (sS (sA (sT1 rfl) (sT1 rfl)) (sB1 rfl) sF0) ?_
                                                      refine AL_imp (imp_close (k := 2) (r := 1011) ((ar U64 8 (upd b2_0 ((a3_1 &&& (7#8)).toNat) y17) ++ [])) ([]) rfl (by first | rfl | simp) rfl rfl rfl rfl) ?_
                                                      refine AL_nil ?_
                                                      refine blN ?_
                                                      refine blN ?_
                                                      obtain rfl := Option.some.inj hr
                                                      exact ⟨res0 rfl , (sub_keep (sub_drop (sub_drop (sub_drop sub_nil))))⟩
                                                    · have hr := hr.trans (cond_f h)
                                                      clear h
                                                      refine AW_cut (σ := Bool) (fun v => ⟨[(2, .inr (.inl (2, 0))), (205, .inl (is (Bl v)))], [(2, gc 90 (ar U64 8 b2_0 ++ []) ([]) (k1 Sv) 1 b2_1)]⟩) (fun v => some r = F227_15 N b2_0 b2_1 v) ?_ ?_
                                                      · skip
                                                        refine AW_region ?_
                                                        refine AL_cons (LR_bin (at_tmp 179 _) (at_c (v' := U8 (4#8)) rfl) (eql_U8 x14 (4#8)) rfl) (sS (sA (sT1 rfl) sT0) sB0 sF0) ?_
                                                        refine AL_cons (LR_assign (at_tmp 206 _) rfl) (sS (sT1 rfl) sB0 sF0) ?_
                                                        refine AL_nil ?_
                                                        exact thenN (cutLeaf (v := x14 == (4#8)) hr (weakB ((sT rfl (sT rfl sT0))) (sub_keep (sub_drop (sub_drop sub_nil))) rfl))
                                                      · rintro x21 hr
                                                        show AW Hfaa.prog _ _ _ ⟨[(2, .inr (.inl (2, 0))), (205, .inl (is (Bl x21)))], [(2, gc 90 (ar U64 8 b2_0 ++ []) ([]) (k1 Sv) 1 b2_1)]⟩
                                                        have hr : some r = F227_15 N b2_0 b2_1 x21 := hr
                                                        refine AW_condT (b := x21) rfl (fun h => ?_) (fun h => ?_)
                                                        · have hr := hr.trans (cond_t h)
                                                          clear h
                                                          refine AW_region ?_
                                                          refine AL_cons (LR_move (at_tmp 2 _) rfl) (sS (sT1 rfl) sB0 sF0) ?_
                                                          refine AL_cons (LR_move (at_tmp 2 _) rfl) (sS (sT1 rfl) sB0 sF0) ?_
                                                          refine AL_cons (LR_nilCheck (at_tmp 208 _) rfl) (sS (sT1 rfl) sB0 sF0) ?_
                                                          refine AL_cons (LR_fieldAddr (off := 0) (o := 8) (at_tmp 209 _) (fun b w => fa90_1 b 0 w) rfl) (sS (sT1 rfl) sB0 sF0) ?_
                                                          refine AL_opn 2 1012 (fun sv => (ar U64 8 b2_0 ++ (is ( sv) :: []))) rfl rfl (fun _ => by first | rfl | simp) ?_
                                                          intro sv15 hsv15
                                                          refine AL_cons (LR_load (at_tmp 210 _) na57 (gP g0) rfl) (sS (sT1 rfl) (sB1 rfl) sF0) ?_
                                                          refine AL_cons (LR_bs1 Hfaa.underlying57 el9 (fun _ => rfl) (at_c (v' := Sv ([116, 111, 111, 32, 98, 105, 103] : List UInt8)) rfl) rfl) (sS sT0 sB0 sF0) ?_
                                                          obtain ⟨hg4, hr⟩ := guard_some hr
                                                          refine AL_consV (app_opk (K := (k1 Sv)) (r := 1012) (z := b2_1) (u := ([116, 111, 111, 32, 98, 105, 103] : List UInt8)) Hfaa.underlying57 eN9 k1_len (k1_cell fun _ => rfl) (at_tmp 211 _) (at_tmp 212 _) (oneAt_k1 rfl) (of_decide_eq_true hg4) rfl rfl) (sS (sA (sT1 rfl) (sT1 rfl)) (sB1 rfl) sF0) rfl ?_
                                                          intro sv16 hsv16
                                                          refine AL_cons (LR_nilCheck (at_tmp 207 _) rfl) (sS (sT1 rfl) sB0 sF0) ?_
                                                          refine AL_cons (LR_fieldAddr (off := 0) (o := 8) (at_tmp 214 _) (fun b w => fa90_1 b 0 w) rfl) (sS (sT1 rfl) sB0 sF0) ?_
                                                          refine AL_cons (LR_storeA (at_tmp 215 _) (at_tmp 213 _) (cells_one (one_is hsv16)) (onC (one_is hsv16) onN) sz57 rfl (bleLen (lnA (lnC ln0)) rfl) (stP st0)) (sS (sA (sT1 rfl) (sT1 rfl)) (sB1 rfl) sF0) ?_
                                                          refine AL_imp (imp_close (k := 2) (r := 1012) (ar U64 8 b2_0 ++ []) ([]) rfl (by first | rfl | simp) rfl rfl rfl rfl) ?_
                                                          refine AL_nil ?_
                                                          refine blN ?_
                                                          refine blN ?_
                                                          obtain rfl := Option.some.inj hr
                                                          exact ⟨res0 rfl , (sub_keep (sub_drop sub_nil))⟩
                                                        · have hr := hr.trans (cond_f h)
                                                          clear h
                                                          refine AW_region ?_
                                                          refine AL_cons (LR_move (at_tmp 2 _) rfl) (sS (sT1 rfl) sB0 sF0) ?_
                                                          refine AL_cons (LR_move (at_tmp 2 _) rfl) (sS (sT1 rfl) sB0 sF0) ?_
                                                          refine AL_cons (LR_nilCheck (at_tmp 181 _) rfl) (sS (sT1 rfl) sB0 sF0) ?_
                                                          refine AL_cons (LR_fieldAddr (off := 0) (o := 8) (at_tmp 182 _) (fun b w => fa90_1 b 0 w) rfl) (sS (sT1 rfl) sB0 sF0) ?_
                                                          refine AL_opn 2 1013 (fun sv => (ar U64 8 b2_0 ++ (is ( sv) :: []))) rfl rfl (fun _ => by first | rfl | simp) ?_
                                                          intro sv17 hsv17
                                                          refine AL_cons (LR_load (at_tmp 183 _) na57 (gP g0) rfl) (sS (sT1 rfl) (sB1 rfl) sF0) ?_
                                                          refine AL_cons (LR_bs1 Hfaa.underlying57 el9 (fun _ => rfl) (at_c (v' := Sv ([119, 114, 111, 110, 103] : List UInt8)) rfl) rfl) (sS sT0 sB0 sF0) ?_
                                                          obtain ⟨hg5, hr⟩ := guard_some hr
                                                          refine AL_consV (app_opk (K := (k1 Sv)) (r := 1013) (z := b2_1) (u := ([119, 114, 111, 110, 103] : List UInt8)) Hfaa.underlying57 eN9 k1_len (k1_cell fun _ => rfl) (at_tmp 184 _) (at_tmp 185 _) (oneAt_k1 rfl) (of_decide_eq_true hg5) rfl rfl) (sS (sA (sT1 rfl) (sT1 rfl)) (sB1 rfl) sF0) rfl ?_
                                                          intro sv18 hsv18
                                                          refine AL_cons (LR_nilCheck (at_tmp 180 _) rfl) (sS (sT1 rfl) sB0 sF0) ?_
                                                          refine AL_cons (LR_fieldAddr (off := 0) (o := 8) (at_tmp 187 _) (fun b w => fa90_1 b 0 w) rfl) (sS (sT1 rfl) sB0 sF0) ?_
                                                          refine AL_cons (LR_storeA (at_tmp 188 _) (at_tmp 186 _) (cells_one (one_is hsv18)) (onC (one_is hsv18) onN) sz57 rfl (bleLen (lnA (lnC ln0)) rfl) (stP st0)) (sS (sA (sT1 rfl) (sT1 rfl)) (sB1 rfl) sF0) ?_
                                                          refine AL_imp (imp_close (k := 2) (r := 1013) (ar U64 8 b2_0 ++ []) ([]) rfl (by first | rfl | simp) rfl rfl rfl rfl) ?_
                                                          refine AL_nil ?_
                                                          refine blN ?_
                                                          refine blN ?_
                                                          obtain rfl := Option.some.inj hr
                                                          exact ⟨res0 rfl , (sub_keep (sub_drop sub_nil))⟩
                                              · have hr := hr.trans (cond_f h)
                                                clear h
                                                refine AW_cut (σ := Bool) (fun v => ⟨[(1, .inl (is (U8 a1))), (2, .inr (.inl (2, 0))), (4, .inr (.inl (4, 0))), (7, .inr (.inl (7, 0))), (8, .inr (.inl (2, (a3_1 &&& (7#8)).toNat))), (9, .inl (is (U64 x1))), (40, .inl (is (U8 a3_0))), (216, .inl (is (Bl v)))], [(2, gc 90 (ar U64 8 b2_0 ++ []) ([]) (k1 Sv) 1 b2_1), (4, pb 23 [is (U8 a0_0), is (U8 a0_1)]), (7, pb 96 [is (U8 a3_0), is (U8 a3_1), is (U8 a3_2), is (U8 a3_3), is (U64 a3_4), is (Sv a3_5)])]⟩) (fun v => some r = F227_16 N a0_0 a0_1 a1 b2_0 b2_1 a3_0 a3_1 a3_2 a3_3 a3_4 a3_5 x1 v) ?_ ?_
                                                · skip
                                                  refine AW_region ?_
                                                  refine AL_cons (LR_bin (at_tmp 40 _) (at_c (v' := U8 (27#8)) rfl) (eql_U8 a3_0 (27#8)) rfl) (sS (sA (sT1 rfl) sT0) sB0 sF0) ?_
                                                  refine AL_cons (LR_assign (at_tmp 217 _) rfl) (sS (sT1 rfl) sB0 sF0) ?_
                                                  refine AL_nil ?_
                                                  exact thenN (cutLeaf (v := a3_0 == (27#8)) hr (weakB ((sT rfl (sT rfl (sT rfl (sT rfl (sT rfl (sT rfl (sT rfl (sT rfl sT0))))))))) (sub_keep (sub_keep (sub_keep sub_nil))) rfl))
                                                · rintro x22 hr
                                                  show AW Hfaa.prog _ _ _ ⟨[(1, .inl (is (U8 a1))), (2, .inr (.inl (2, 0))), (4, .inr (.inl (4, 0))), (7, .inr (.inl (7, 0))), (8, .inr (.inl (2, (a3_1 &&& (7#8)).toNat))), (9, .inl (is (U64 x1))), (40, .inl (is (U8 a3_0))), (216, .inl (is (Bl x22)))], [(2, gc 90 (ar U64 8 b2_0 ++ []) ([]) (k1 Sv) 1 b2_1), (4, pb 23 [is (U8 a0_0), is (U8 a0_1)]), (7, pb 96 [is (U8 a3_0), is (U8 a3_1), is (U8 a3_2), is (U8 a3_3), is (U64 a3_4), is (Sv a3_5)])]⟩
                                                  have hr : some r = F227_16 N a0_0 a0_1 a1 b2_0 b2_1 a3_0 a3_1 a3_2 a3_3 a3_4 a3_5 x1 x22 := hr
                                                  refine AW_condT (b := x22) rfl (fun h => ?_) (fun h => ?_)
                                                  · have hr := hr.trans (cond_t h)
                                                    clear h
                                                    refine AW_region ?_
                                                    refine AL_cons (LR_loads (at_tmp 4 _) ag23 sz23 rfl rfl rfl) (sS (sT1 rfl) (sB1 rfl) sF0) ?_
                                                    refine AL_cons (LR_move (at_tmp 1 _) rfl) (sS (sT1 rfl) sB0 sF0) ?_
                                                    refine AL_cons (LR_move (at_tmp 2 _) rfl) (sS (sT1 rfl) sB0 sF0) ?_
                                                    refine AL_cons (LR_loads (at_tmp 7 _) ag96 sz96 rfl rfl rfl) (sS (sT1 rfl) (sB1 rfl) sF0) ?_
                                                    obtain ⟨y19, hy19, hr⟩ := bind_some hr
                                                    refine AL_cons (LR_callB [(2, 2)] [(2, 2)] Hfaa.func225 rfl rfl (C225 N a0_0 a0_1 a1 b2_0 b2_1 a3_0 a3_1 a3_2 a3_3 a3_4 a3_5 y19 hy19) (aTC (at_tmp 218 _) (aTC (at_tmp 219 _) (aTC (at_tmp 220 _) (aTC (at_tmp 221 _) aT0)))) rfl rfl rfl rfl rfl) (sS (sA (sT1 rfl) (sA (sT1 rfl) (sA (sT1 rfl) (sA (sT1 rfl) sT0)))) (sB1 rfl) sF0) ?_
                                                    refine AL_nil ?_
                                                    refine blN ?_
                                                    obtain rfl := Option.some.inj hr
                                                    exact ⟨res0 rfl , (sub_keep (sub_drop (sub_drop sub_nil)))⟩
                                                  · have hr := hr.trans (cond_f h)
                                                    clear h
                                                    refine AW_cut (σ := Bool) (fun v => ⟨[(1, .inl (is (U8 a1))), (2, .inr (.inl (2, 0))), (4, .inr (.inl (4, 0))), (7, .inr (.inl (7, 0))), (8, .inr (.inl (2, (a3_1 &&& (7#8)).toNat))), (9, .inl (is (U64 x1))), (40, .inl (is (U8 a3_0))), (223, .inl (is (Bl v)))], [(2, gc 90 (ar U64 8 b2_0 ++ []) ([]) (k1 Sv) 1 b2_1), (4, pb 23 [is (U8 a0_0), is (U8 a0_1)]), (7, pb 96 [is (U8 a3_0), is (U8 a3_1), is (U8 a3_2), is (U8 a3_3), is (U64 a3_4), is (Sv a3_5)])]⟩) (fun v => some r = F227_17 N a0_0 a0_1 a1 b2_0 b2_1 a3_0 a3_1 a3_2 a3_3 a3_4 a3_5 x1 v) ?_ ?_
                                                    · skip
                                                      refine AW_region ?_
                                                      refine AL_cons (LR_bin (at_tmp 40 _) (at_c (v' := U8 (29#8)) rfl) (eql_U8 a3_0 (29#8)) rfl) (sS (sA (sT1 rfl) sT0) sB0 sF0) ?_
                                                      refine AL_cons (LR_assign (at_tmp 224 _) rfl) (sS (sT1 rfl) sB0 sF0) ?_
                                                      refine AL_nil ?_
                                                      exact thenN (cutLeaf (v := a3_0 == (29#8)) hr (weakB ((sT rfl (sT rfl (sT rfl (sT rfl (sT rfl (sT rfl (sT rfl (sT rfl sT0))))))))) (sub_keep (sub_keep (sub_keep sub_nil))) rfl))
                                                    · rintro x23 hr
                                                      show AW Hfaa.prog _ _ _ ⟨[(1, .inl (is (U8 a1))), (2, .inr (.inl (2, 0))), (4, .inr (.inl (4, 0))), (7, .inr (.inl (7, 0))), (8, .inr (.inl (2, (a3_1 &&& (7#8)).toNat))), (9, .inl (is (U64 x1))), (40, .inl (is (U8 a3_0))), (223, .inl (is (Bl x23)))], [(2, gc 90 (ar U64 8 b2_0 ++ []) ([]) (k1 Sv) 1 b2_1), (4, pb 23 [is (U8 a0_0), is (U8 a0_1)]), (7, pb 96 [is (U8 a3_0), is (U8 a3_1), is (U8 a3_2), is (U8 a3_3), is (U64 a3_4), is (Sv a3_5)])]⟩
                                                      have hr : some r = F227_17 N a0_0 a0_1 a1 b2_0 b2_1 a3_0 a3_1 a3_2 a3_3 a3_4 a3_5 x1 x23 := hr
                                                      refine AW_condT (b := x23) rfl (fun h => ?_) (fun h => ?_)
                                                      · have hr := hr.trans (cond_t h)
                                                        clear h
                                                        refine AW_opn 2 1014 (fun sv => (ar U64 8 b2_0 ++ (is ( sv) :: []))) rfl rfl (fun _ => by first | rfl | simp) ?_
                                                        intro sv19 hsv19
                                                        obtain ⟨y20, hy20, hr⟩ := bind_some hr
                                                        obtain ⟨hg6, hr⟩ := guard_some hr
                                                        refine AW_post ?_
                                                        refine AW_drawV 11 1014 mixed (fun sv20 => [(⟨[(225, .inr (.inl (2, 0)))], [], []⟩, ⟨[(237, .inr (.inl (2, 0)))], []⟩), (⟨[(237, .inr (.inl (2, 0)))], [], []⟩, ⟨[(238, .inr (.inl (2, 8)))], []⟩), (⟨[(238, .inr (.inl (2, 8))), (236, .inl (is ( sv20)))], [(2, pb 90 (ar U64 8 b2_0 ++ (is ( sv19) :: [])))], []⟩, ⟨[], [(2, pb 90 (ar U64 8 b2_0 ++ (is ( sv20) :: [])))]⟩)])
                                                          (lrC (LR_move (at_tmp 2 _) rfl)
                                                          (lrC (LR_move (at_tmp 2 _) rfl)
                                                          (lrC (LR_nilCheck (at_tmp 226 _) rfl)
                                                          (lrC (LR_fieldAddr (off := 0) (o := 8) (at_tmp 227 _) (fun b w => fa90_1 b 0 w) rfl)
                                                          (lrC (LR_load (at_tmp 228 _) na57 (gP g0) rfl)
                                                          (lrC (LR_loads (at_tmp 4 _) ag23 sz23 rfl rfl rfl)
                                                          (lrC (LR_move (at_tmp 1 _) rfl)
                                                          (lrC (LR_fieldAddr (off := 0) (o := 5) (at_tmp 7 _) (fun b w => fa96_5 b 0 w) rfl)
                                                          (lrC (LR_load (at_tmp 232 _) na9 rfl rfl)
                                                          (lrC (LR_call Hfaa.func305 rfl rfl (C305 N a0_0 a0_1 a1 a3_5 y20 hy20) (all_cons (at_tmp 230 _) (all_cons (at_tmp 231 _) (all_cons (at_tmp 233 _) all_nil))) rfl)
                                                          (lrC (LR_bs1 Hfaa.underlying57 el9 (fun _ => rfl) (at_tmp 234 _) rfl)
                                                          lrN)))))))))))
                                                          rfl
                                                          (app_opk (K := (k1 Sv)) (r := 1014) (z := b2_1) (u := y20) Hfaa.underlying57 eN9 k1_len (k1_cell fun _ => rfl) (at_tmp 229 _) (at_tmp 235 _) (oneAt_k1 rfl) (of_decide_eq_true hg6) rfl rfl)
                                                          (fun sv20 hsv20 => (lrC (LR_nilCheck (at_tmp 225 _) rfl)
                                                          (lrC (LR_fieldAddr (off := 0) (o := 8) (at_tmp 237 _) (fun b w => fa90_1 b 0 w) rfl)
                                                          (lrC (LR_storeA (at_tmp 238 _) (at_tmp 236 _) (cells_one (one_is hsv20)) (onC (one_is hsv20) onN) sz57 rfl (bleLen (lnA (lnC ln0)) rfl) (stP st0))
                                                          lrN))))
                                                          (fun sv20 hsv20 => by kernel_rfl)
                                                          (fun sv20 hsv20 => (saC (sS (sT1 rfl) sB0 sF0) (saC (sS (sT1 rfl) sB0 sF0) (saC (sS (sT1 rfl) sB0 sF0) (saC (sS (sT1 rfl) sB0 sF0) (saC (sS (sT1 rfl) (sB1 rfl) sF0) (saC (sS (sT1 rfl) (sB1 rfl) sF0) (saC (sS (sT1 rfl) sB0 sF0) (saC (sS (sT1 rfl) sB0 sF0) (saC (sS (sT1 rfl) (sB1 rfl) sF0) (saC (sS (sA (sT1 rfl) (sA (sT1 rfl) (sA (sT1 rfl) sT0))) sB0 sF0) (saC (sS (sT1 rfl) sB0 sF0) (saC (sS (sA (sT1 rfl) (sT1 rfl)) (sB1 rfl) sF0) (saC (sS (sT1 rfl) sB0 sF0) (saC (sS (sT1 rfl) sB0 sF0) (saC (sS (sA (sT1 rfl) (sT1 rfl)) (sB1 rfl) sF0) saN))))))))))))))))
                                                          (by kernel_rfl) rfl (fun sv20 hsv20 => by kernel_rfl) ?_
                                                        intro sv20 hsv20
                                                        refine ⟨_, (imp_close (k := 2) (r := 1014) (ar U64 8 b2_0 ++ []) ([]) rfl (by first | rfl | simp) rfl rfl rfl rfl), ?_⟩
                                                        refine blN ?_
                                                        obtain rfl := Option.some.inj hr
                                                        exact ⟨res0 rfl , (sub_keep (sub_drop (sub_drop (sub_drop sub_nil))))⟩
                                                      · have hr := hr.trans (cond_f h)
                                                        clear h
                                                        refine AW_cut (σ := Bool) (fun v => ⟨[(1, .inl (is (U8 a1))), (2, .inr (.inl (2, 0))), (4, .inr (.inl (4, 0))), (7, .inr (.inl (7, 0))), (8, .inr (.inl (2, (a3_1 &&& (7#8)).toNat))), (9, .inl (is (U64 x1))), (40, .inl (is (U8 a3_0))), (239, .inl (is (Bl v)))], [(2, gc 90 (ar U64 8 b2_0 ++ []) ([]) (k1 Sv) 1 b2_1), (4, pb 23 [is (U8 a0_0), is (U8 a0_1)]), (7, pb 96 [is (U8 a3_0), is (U8 a3_1), is (U8 a3_2), is (U8 a3_3), is (U64 a3_4), is (Sv a3_5)])]⟩) (fun v => some r = F227_18 N a0_0 a0_1 a1 b2_0 b2_1 a3_0 a3_1 a3_2 a3_3 a3_4 a3_5 x1 v) ?_ ?_
                                                        · skip
                                                          refine AW_region ?_
                                                          refine AL_cons (LR_bin (at_tmp 40 _) (at_c (v' := U8 (30#8)) rfl) (eql_U8 a3_0 (30#8)) rfl) (sS (sA (sT1 rfl) sT0) sB0 sF0) ?_
                                                          refine AL_cons (LR_assign (at_tmp 240 _) rfl) (sS (sT1 rfl) sB0 sF0) ?_
                                                          refine AL_nil ?_
                                                          exact thenN (cutLeaf (v := a3_0 == (30#8)) hr (weakB ((sT rfl (sT rfl (sT rfl (sT rfl (sT rfl (sT rfl (sT rfl (sT rfl sT0))))))))) (sub_keep (sub_keep (sub_keep sub_nil))) rfl))
                                                        · rintro x24 hr
                                                          show AW Hfaa.prog _ _ _ ⟨[(1, .inl (is (U8 a1))), (2, .inr (.inl (2, 0))), (4, .inr (.inl (4, 0))), (7, .inr (.inl (7, 0))), (8, .inr (.inl (2, (a3_1 &&& (7#8)).toNat))), (9, .inl (is (U64 x1))), (40, .inl (is (U8 a3_0))), (239, .inl (is (Bl x24)))], [(2, gc 90 (ar U64 8 b2_0 ++ []) ([]) (k1 Sv) 1 b2_1), (4, pb 23 [is (U8 a0_0), is (U8 a0_1)]), (7, pb 96 [is (U8 a3_0), is (U8 a3_1), is (U8 a3_2), is (U8 a3_3), is (U64 a3_4), is (Sv a3_5)])]⟩
                                                          have hr : some r = F227_18 N a0_0 a0_1 a1 b2_0 b2_1 a3_0 a3_1 a3_2 a3_3 a3_4 a3_5 x1 x24 := hr
                                                          refine AW_condT (b := x24) rfl (fun h => ?_) (fun h => ?_)
                                                          · have hr := hr.trans (cond_t h)
                                                            clear h
                                                            refine AW_opn 2 1015 (fun sv => (ar U64 8 b2_0 ++ (is ( sv) :: []))) rfl rfl (fun _ => by first | rfl | simp) ?_
                                                            intro sv21 hsv21
                                                            obtain ⟨y21, hy21, hr⟩ := bind_some hr
                                                            obtain ⟨hg7, hr⟩ := guard_some hr
                                                            refine AW_post ?_
                                                            refine AW_drawV 11 1015 mixed (fun sv22 => [(⟨[(241, .inr (.inl (2, 0)))], [], []⟩, ⟨[(253, .inr (.inl (2, 0)))], []⟩), (⟨[(253, .inr (.inl (2, 0)))], [], []⟩, ⟨[(254, .inr (.inl (2, 8)))], []⟩), (⟨[(254, .inr (.inl (2, 8))), (252, .inl (is ( sv22)))], [(2, pb 90 (ar U64 8 b2_0 ++ (is ( sv21) :: [])))], []⟩, ⟨[], [(2, pb 90 (ar U64 8 b2_0 ++ (is ( sv22) :: [])))]⟩)])
                                                              (lrC (LR_move (at_tmp 2 _) rfl)
                                                              (lrC (LR_move (at_tmp 2 _) rfl)
                                                              (lrC (LR_nilCheck (at_tmp 242 _) rfl)
                                                              (lrC (LR_fieldAddr (off := 0) (o := 8) (at_tmp 243 _) (fun b w => fa90_1 b 0 w) rfl)
                                                              (lrC (LR_load (at_tmp 244 _) na57 (gP g0) rfl)
                                                              (lrC (LR_loads (at_tmp 4 _) ag23 sz23 rfl rfl rfl)
                                                              (lrC (LR_move (at_tmp 1 _) rfl)
                                                              (lrC (LR_fieldAddr (off := 0) (o := 5) (at_tmp 7 _) (fun b w => fa96_5 b 0 w) rfl)
                                                              (lrC (LR_load (at_tmp 248 _) na9 rfl rfl)
                                                              (lrC (LR_call Hfaa.func306 rfl rfl (C306 N a0_0 a0_1 a1 a3_5 y21 hy21) (all_cons (at_tmp 246 _) (all_cons (at_tmp 247 _) (all_cons (at_tmp 249 _) all_nil))) rfl)
                                                              (lrC (LR_bs1 Hfaa.underlying57 el9 (fun _ => rfl) (at_tmp 250 _) rfl)
                                                              lrN)))))))))))
                                                              rfl
                                                              (app_opk (K := (k1 Sv)) (r := 1015) (z := b2_1) (u := y21) Hfaa.underlying57 eN9 k1_len (k1_cell fun _ => rfl) (at_tmp 245 _) (at_tmp 251 _) (oneAt_k1 rfl) (of_decide_eq_true hg7) rfl rfl)
                                                              (fun sv22 hsv22 => (lrC (LR_nilCheck (at_tmp 241 _) rfl)
                                                              (lrC (LR_fieldAddr (off := 0) (o := 8) (at_tmp 253 _) (fun b w => fa90_1 b 0 w) rfl)
                                                              (lrC (LR_storeA (at_tmp 254 _) (at_tmp 252 _) (cells_one (one_is hsv22)) (onC (one_is hsv22) onN) sz57 rfl (bleLen (lnA (lnC ln0)) rfl) (stP st0))
                                                              lrN))))
                                                              (fun sv22 hsv22 => by kernel_rfl)
                                                              (fun sv22 hsv22 => (saC (sS (sT1 rfl) sB0 sF0) (saC (sS (sT1 rfl) sB0 sF0) (saC (sS (sT1 rfl) sB0 sF0) (saC (sS (sT1 rfl) sB0 sF0) (saC (sS (sT1 rfl) (sB1 rfl) sF0) (saC (sS (sT1 rfl) (sB1 rfl) sF0) (saC (sS (sT1 rfl) sB0 sF0) (saC (sS (sT1 rfl) sB0 sF0) (saC (sS (sT1 rfl) (sB1 rfl) sF0) (saC (sS (sA (sT1 rfl) (sA (sT1 rfl) (sA (sT1 rfl) sT0))) sB0 sF0) (saC (sS (sT1 rfl) sB0 sF0) (saC (sS (sA (sT1 rfl) (sT1 rfl)) (sB1 rfl) sF0) (saC (sS (sT1 rfl) sB0 sF0) (saC (sS (sT1 rfl) sB0 sF0) (saC (sS (sA (sT1 rfl) (sT1 rfl)) (sB1 rfl) sF0) saN))))))))))))))))
                                                              (by kernel_rfl) rfl (fun sv22 hsv22 => by kernel_rfl) ?_
                                                            intro sv22 hsv22
                                                            refine ⟨_, (imp_close (k := 2) (r := 1015) (ar U64 8 b2_0 ++ []) ([]) rfl (by first | rfl | simp) rfl rfl rfl rfl), ?_⟩
                                                            refine blN ?_
                                                            obtain rfl := Option.some.inj hr
                                                            exact ⟨res0 rfl , (sub_keep (sub_drop (sub_drop (sub_drop sub_nil))))⟩
                                                          · have hr := hr.trans (cond_f h)
                                                            clear h
                                                            refine AW_cut (σ := Bool) (fun v => ⟨[(1, .inl (is (U8 a1))), (2, .inr (.inl (2, 0))), (4, .inr (.inl (4, 0))), (7, .inr (.inl (7, 0))), (8, .inr (.inl (2, (a3_1 &&& (7#8)).toNat))), (9, .inl (is (U64 x1))), (40, .inl (is (U8 a3_0))), (255, .inl (is (Bl v)))], [(2, gc 90 (ar U64 8 b2_0 ++ []) ([]) (k1 Sv) 1 b2_1), (4, pb 23 [is (U8 a0_0), is (U8 a0_1)]), (7, pb 96 [is (U8 a3_0), is (U8 a3_1), is (U8 a3_2), is (U8 a3_3), is (U64 a3_4), is (Sv a3_5)])]⟩) (fun v => some r = F227_19 N a0_0 a0_1 a1 b2_0 b2_1 a3_0 a3_1 a3_2 a3_3 a3_4 a3_5 x1 v) ?_ ?_
                                                            · skip
                                                              refine AW_region ?_
                                                              refine AL_cons (LR_bin (at_tmp 40 _) (at_c (v' := U8 (31#8)) rfl) (eql_U8 a3_0 (31#8)) rfl) (sS (sA (sT1 rfl) sT0) sB0 sF0) ?_
                                                              refine AL_cons (LR_assign (at_tmp 256 _) rfl) (sS (sT1 rfl) sB0 sF0) ?_
                                                              refine AL_nil ?_
                                                              exact thenN (cutLeaf (v := a3_0 == (31#8)) hr (weakB ((sT rfl (sT rfl (sT rfl (sT rfl (sT rfl (sT rfl (sT rfl (sT rfl sT0))))))))) (sub_keep (sub_keep (sub_keep sub_nil))) rfl))
                                                            · rintro x25 hr
                                                              show AW Hfaa.prog _ _ _ ⟨[(1, .inl (is (U8 a1))), (2, .inr (.inl (2, 0))), (4, .inr (.inl (4, 0))), (7, .inr (.inl (7, 0))), (8, .inr (.inl (2, (a3_1 &&& (7#8)).toNat))), (9, .inl (is (U64 x1))), (40, .inl (is (U8 a3_0))), (255, .inl (is (Bl x25)))], [(2, gc 90 (ar U64 8 b2_0 ++ []) ([]) (k1 Sv) 1 b2_1), (4, pb 23 [is (U8 a0_0), is (U8 a0_1)]), (7, pb 96 [is (U8 a3_0), is (U8 a3_1), is (U8 a3_2), is (U8 a3_3), is (U64 a3_4), is (Sv a3_5)])]⟩
                                                              have hr : some r = F227_19 N a0_0 a0_1 a1 b2_0 b2_1 a3_0 a3_1 a3_2 a3_3 a3_4 a3_5 x1 x25 := hr
                                                              refine AW_condT (b := x25) rfl (fun h => ?_) (fun h => ?_)
                                                              · have hr := hr.trans (cond_t h)
                                                                clear h
                                                                refine AW_region ?_
                                                                refine AL_cons (LR_move (at_tmp 8 _) rfl) (sS (sT1 rfl) sB0 sF0) ?_
                                                                refine AL_cons (LR_loads (at_tmp 4 _) ag23 sz23 rfl rfl rfl) (sS (sT1 rfl) (sB1 rfl) sF0) ?_
                                                                refine AL_cons (LR_move (at_tmp 1 _) rfl) (sS (sT1 rfl) sB0 sF0) ?_
                                                                refine AL_cons (LR_move (at_tmp 9 _) rfl) (sS (sT1 rfl) sB0 sF0) ?_
                                                                refine AL_cons (LR_fieldAddr (off := 0) (o := 4) (at_tmp 7 _) (fun b w => fa96_4 b 0 w) rfl) (sS (sT1 rfl) sB0 sF0) ?_
                                                                refine AL_cons (LR_load (at_tmp 261 _) na30 rfl rfl) (sS (sT1 rfl) (sB1 rfl) sF0) ?_
                                                                refine AL_cons (LR_conv (vx := U64 a3_4) (at_tmp 262 _) (conv_I64 Hfaa.underlying30 Hfaa.underlying2 (a3_4.toNat : Int)) rfl) (sS (sT1 rfl) sB0 sF0) ?_
                                                                obtain ⟨y22, hy22, hr⟩ := bind_some hr
                                                                refine AL_cons (LR_call Hfaa.func307 rfl rfl (C307 N a0_0 a0_1 a1 x1 (w64 (a3_4.toNat : Int)) y22 hy22) (all_cons (at_tmp 258 _) (all_cons (at_tmp 259 _) (all_cons (at_tmp 260 _) (all_cons (at_tmp 263 _) all_nil)))) rfl) (sS (sA (sT1 rfl) (sA (sT1 rfl) (sA (sT1 rfl) (sA (sT1 rfl) sT0)))) sB0 sF0) ?_
                                                                refine AL_cons (LR_nilCheck (at_tmp 257 _) rfl) (sS (sT1 rfl) sB0 sF0) ?_
                                                                refine AL_opn 2 1016 (fun sv => (ar U64 8 b2_0 ++ (is ( sv) :: []))) rfl rfl (fun _ => by first | rfl | simp) ?_
                                                                intro sv23 hsv23
                                                                refine AL_cons (LR_storeA (at_tmp 265 _) (at_tmp 264 _) (cells_one (one_is rfl)) (onC (one_is rfl) onN) sz30 rfl (ble_dyn (lnA (lnC ln0)) (by have := (and7 a3_1); omega)) (stA (and7 a3_1))) (sS (sA (sT1 rfl) (sT1 rfl)) (sB1 rfl) sF0) ?_
                                                                refine AL_imp (imp_close (k := 2) (r := 1016) ((ar U64 8 (upd b2_0 ((a3_1 &&& (7#8)).toNat) y22) ++ [])) ([]) rfl (by first | rfl | simp) rfl rfl rfl rfl) ?_
                                                                refine AL_nil ?_
                                                                refine blN ?_
                                                                obtain rfl := Option.some.inj hr
                                                                exact ⟨res0 rfl , (sub_keep (sub_drop (sub_drop (sub_drop sub_nil))))⟩
                                                              · have hr := hr.trans (cond_f h)
                                                                clear h
                                                                refine AW_cut (σ := Bool) (fun v => ⟨[(1, .inl (is (U8 a1))), (2, .inr (.inl (2, 0))), (4, .inr (.inl (4, 0))), (7, .inr (.inl (7, 0))), (9, .inl (is (U64 x1))), (40, .inl (is (U8 a3_0))), (266, .inl (is (Bl v)))], [(2, gc 90 (ar U64 8 b2_0 ++ []) ([]) (k1 Sv) 1 b2_1), (4, pb 23 [is (U8 a0_0), is (U8 a0_1)]), (7, pb 96 [is (U8 a3_0), is (U8 a3_1), is (U8 a3_2), is (U8 a3_3), is (U64 a3_4), is (Sv a3_5)])]⟩) (fun v => some r = F227_20 N a0_0 a0_1 a1 b2_0 b2_1 a3_0 a3_1 a3_2 a3_3 a3_4 a3_5 x1 v) ?_ ?_
                                                                · skip
                                                                  refine AW_region ?_
                                                                  refine AL_cons (LR_bin (at_tmp 40 _) (at_c (v' := U8 (32#8)) rfl) (eql_U8 a3_0 (32#8)) rfl) (sS (sA (sT1 rfl) sT0) sB0 sF0) ?_
                                                                  refine AL_cons (LR_assign (at_tmp 267 _) rfl) (sS (sT1 rfl) sB0 sF0) ?_
                                                                  refine AL_nil ?_
                                                                  exact thenN (cutLeaf (v := a3_0 == (32#8)) hr (weakB ((sT rfl (sT rfl (sT rfl (sT rfl (sT rfl (sT rfl (sT rfl sT0)))))))) (sub_keep (sub_keep (sub_keep sub_nil))) rfl))
                                                                · rintro x26 hr
                                                                  show AW Hfaa.prog _ _ _ ⟨[(1, .inl (is (U8 a1))), (2, .inr (.inl (2, 0))), (4, .inr (.inl (4, 0))), (7, .inr (.inl (7, 0))), (9, .inl (is (U64 x1))), (40, .inl (is (U8 a3_0))), (266, .inl (is (Bl x26)))], [(2, gc 90 (ar U64 8 b2_0 ++ []) ([]) (k1 Sv) 1 b2_1), (4, pb 23 [is (U8 a0_0), is (U8 a0_1)]), (7, pb 96 [is (U8 a3_0), is (U8 a3_1), is (U8 a3_2), is (U8 a3_3), is (U64 a3_4), is (Sv a3_5)])]⟩
                                                                  have hr : some r = F227_20 N a0_0 a0_1 a1 b2_0 b2_1 a3_0 a3_1 a3_2 a3_3 a3_4 a3_5 x1 x26 := hr
                                                                  refine AW_condT (b := x26) rfl (fun h => ?_) (fun h => ?_)
                                                                  · have hr := hr.trans (cond_t h)
                                                                    clear h
                                                                    refine AW_opn 2 1017 (fun sv => (ar U64 8 b2_0 ++ (is ( sv) :: []))) rfl rfl (fun _ => by first | rfl | simp) ?_
                                                                    intro sv24 hsv24
                                                                    obtain ⟨y23, hy23, hr⟩ := bind_some hr
                                                                    obtain ⟨y24, hy24, hr⟩ := bind_some hr
                                                                    obtain ⟨hg8, hr⟩ := guard_some hr
                                                                    refine AW_post ?_
                                                                    refine AW_drawV 12 1017 mixed (fun sv25 => [(⟨[(268, .inr (.inl (2, 0)))], [], []⟩, ⟨[(281, .inr (.inl (2, 0)))], []⟩), (⟨[(281, .inr (.inl (2, 0)))], [], []⟩, ⟨[(282, .inr (.inl (2, 8)))], []⟩), (⟨[(282, .inr (.inl (2, 8))), (280, .inl (is ( sv25)))], [(2, pb 90 (ar U64 8 b2_0 ++ (is ( sv24) :: [])))], []⟩, ⟨[], [(2, pb 90 (ar U64 8 b2_0 ++ (is ( sv25) :: [])))]⟩)])
                                                                      (lrC (LR_move (at_tmp 2 _) rfl)
                                                                      (lrC (LR_move (at_tmp 2 _) rfl)
                                                                      (lrC (LR_nilCheck (at_tmp 269 _) rfl)
                                                                      (lrC (LR_fieldAddr (off := 0) (o := 8) (at_tmp 270 _) (fun b w => fa90_1 b 0 w) rfl)
                                                                      (lrC (LR_load (at_tmp 271 _) na57 (gP g0) rfl)
                                                                      (lrC (LR_loads (at_tmp 4 _) ag23 sz23 rfl rfl rfl)
                                                                      (lrC (LR_move (at_tmp 9 _) rfl)
                                                                      (lrC (LR_call Hfaa.func308 rfl rfl (C308 N a0_0 a0_1 x1 y23 hy23) (all_cons (at_tmp 273 _) (all_cons (at_tmp 274 _) all_nil)) rfl)
                                                                      (lrC (LR_extract (at_tmp 275 _) rfl rfl)
                                                                      (lrC (LR_extract (at_tmp 275 _) rfl rfl)
                                                                      (lrC (LR_call Hfaa.func290 rfl rfl (C290 N y23.1 y23.2 y24 hy24) (all_cons (at_tmp 276 _) (all_cons (at_tmp 277 _) all_nil)) rfl)
                                                                      (lrC (LR_bs1 Hfaa.underlying57 el9 (fun _ => rfl) (at_tmp 278 _) rfl)
                                                                      lrN))))))))))))
                                                                      rfl
                                                                      (app_opk (K := (k1 Sv)) (r := 1017) (z := b2_1) (u := y24) Hfaa.underlying57 eN9 k1_len (k1_cell fun _ => rfl) (at_tmp 272 _) (at_tmp 279 _) (oneAt_k1 rfl) (of_decide_eq_true hg8) rfl rfl)
                                                                      (fun sv25 hsv25 => (lrC (LR_nilCheck (at_tmp 268 _) rfl)
                                                                      (lrC (LR_fieldAddr (off := 0) (o := 8) (at_tmp 281 _) (fun b w => fa90_1 b 0 w) rfl)
                                                                      (lrC (LR_storeA (at_tmp 282 _) (at_tmp 280 _) (cells_one (one_is hsv25)) (onC (one_is hsv25) onN) sz57 rfl (bleLen (lnA (lnC ln0)) rfl) (stP st0))
                                                                      lrN))))
                                                                      (fun sv25 hsv25 => by kernel_rfl)
                                                                      (fun sv25 hsv25 => (saC (sS (sT1 rfl) sB0 sF0) (saC (sS (sT1 rfl) sB0 sF0) (saC (sS (sT1 rfl) sB0 sF0) (saC (sS (sT1 rfl) sB0 sF0) (saC (sS (sT1 rfl) (sB1 rfl) sF0) (saC (sS (sT1 rfl) (sB1 rfl) sF0) (saC (sS (sT1 rfl) sB0 sF0) (saC (sS (sA (sT1 rfl) (sA (sT1 rfl) sT0)) sB0 sF0) (saC (sS (sT1 rfl) sB0 sF0) (saC (sS (sT1 rfl) sB0 sF0) (saC (sS (sA (sT1 rfl) (sA (sT1 rfl) sT0)) sB0 sF0) (saC (sS (sT1 rfl) sB0 sF0) (saC (sS (sA (sT1 rfl) (sT1 rfl)) (sB1 rfl) sF0) (saC (sS (sT1 rfl) sB0 sF0) (saC (sS (sT1 rfl) sB0 sF0) (saC (sS (sA (sT1 rfl) (sT1 rfl)) (sB1 rfl) sF0) saN)))))))))))))))))
                                                                      (by kernel_rfl) rfl (fun sv25 hsv25 => by kernel_rfl) ?_
                                                                    intro sv25 hsv25
                                                                    refine ⟨_, (imp_close (k := 2) (r := 1017) (ar U64 8 b2_0 ++ []) ([]) rfl (by first | rfl | simp) rfl rfl rfl rfl), ?_⟩
                                                                    refine blN ?_
                                                                    obtain rfl := Option.some.inj hr
                                                                    exact ⟨res0 rfl , (sub_keep (sub_drop (sub_drop (sub_drop sub_nil))))⟩
                                                                  · have hr := hr.trans (cond_f h)
                                                                    clear h
                                                                    refine AW_cut (σ := Bool) (fun v => ⟨[(1, .inl (is (U8 a1))), (2, .inr (.inl (2, 0))), (4, .inr (.inl (4, 0))), (7, .inr (.inl (7, 0))), (9, .inl (is (U64 x1))), (40, .inl (is (U8 a3_0))), (283, .inl (is (Bl v)))], [(2, gc 90 (ar U64 8 b2_0 ++ []) ([]) (k1 Sv) 1 b2_1), (4, pb 23 [is (U8 a0_0), is (U8 a0_1)]), (7, pb 96 [is (U8 a3_0), is (U8 a3_1), is (U8 a3_2), is (U8 a3_3), is (U64 a3_4), is (Sv a3_5)])]⟩) (fun v => some r = F227_21 N a0_0 a0_1 a1 b2_0 b2_1 a3_0 a3_1 a3_2 a3_3 a3_4 a3_5 x1 v) ?_ ?_
                                                                    · skip
                                                                      refine AW_region ?_
                                                                      refine AL_cons (LR_bin (at_tmp 40 _) (at_c (v' := U8 (33#8)) rfl) (eql_U8 a3_0 (33#8)) rfl) (sS (sA (sT1 rfl) sT0) sB0 sF0) ?_
                                                                      refine AL_cons (LR_assign (at_tmp 284 _) rfl) (sS (sT1 rfl) sB0 sF0) ?_
                                                                      refine AL_nil ?_
                                                                      exact thenN (cutLeaf (v := a3_0 == (33#8)) hr (weakB ((sT rfl (sT rfl (sT rfl (sT rfl (sT rfl (sT rfl (sT rfl sT0)))))))) (sub_keep (sub_keep (sub_keep sub_nil))) rfl))
                                                                    · rintro x27 hr
                                                                      show AW Hfaa.prog _ _ _ ⟨[(1, .inl (is (U8 a1))), (2, .inr (.inl (2, 0))), (4, .inr (.inl (4, 0))), (7, .inr (.inl (7, 0))), (9, .inl (is (U64 x1))), (40, .inl (is (U8 a3_0))), (283, .inl (is (Bl x27)))], [(2, gc 90 (ar U64 8 b2_0 ++ []) ([]) (k1 Sv) 1 b2_1), (4, pb 23 [is (U8 a0_0), is (U8 a0_1)]), (7, pb 96 [is (U8 a3_0), is (U8 a3_1), is (U8 a3_2), is (U8 a3_3), is (U64 a3_4), is (Sv a3_5)])]⟩
                                                                      have hr : some r = F227_21 N a0_0 a0_1 a1 b2_0 b2_1 a3_0 a3_1 a3_2 a3_3 a3_4 a3_5 x1 x27 := hr
                                                                      refine AW_condT (b := x27) rfl (fun h => ?_) (fun h => ?_)
                                                                      · have hr := hr.trans (cond_t h)
                                                                        clear h
                                                                        refine AW_cut (σ := BitVec 8) (fun v => ⟨[(2, .inr (.inl (2, 0))), (13, .inl (is (U8 v)))], [(2, gc 90 (ar U64 8 b2_0 ++ []) ([]) (k1 Sv) 1 b2_1)]⟩) (fun v => some r = F227_22 N b2_0 b2_1 v) ?_ ?_
                                                                        · skip
                                                                          obtain ⟨y28, hy28, hr⟩ := lt_some hr
                                                                          obtain ⟨y29, hy29, hr⟩ := bind_some hr
                                                                          refine AW_draw mixed
                                                                            (lrC (LR_loads (at_tmp 4 _) ag23 sz23 rfl rfl rfl)
                                                                            (lrC (LR_move (at_tmp 1 _) rfl)
                                                                            (lrC (LR_loads (at_tmp 4 _) ag23 sz23 rfl rfl rfl)
                                                                            (lrC (LR_move (at_tmp 9 _) rfl)
                                                                            (lrC (LR_call Hfaa.func222 rfl rfl (C222 a0_0 a0_1 x1 y28 hy28) (all_cons (at_tmp 288 _) (all_cons (at_tmp 289 _) all_nil)) rfl)
                                                                            (lrC (LR_fieldAddr (off := 0) (o := 4) (at_tmp 7 _) (fun b w => fa96_4 b 0 w) rfl)
                                                                            (lrC (LR_load (at_tmp 291 _) na30 rfl rfl)
                                                                            (lrC (LR_conv (vx := U64 a3_4) (at_tmp 292 _) (conv_I64 Hfaa.underlying30 Hfaa.underlying2 (a3_4.toNat : Int)) rfl)
                                                                            (lrC (LR_call Hfaa.func111 rfl rfl (C111 N a0_0 a0_1 a1 y28 (w64 (a3_4.toNat : Int)) y29 hy29) (all_cons (at_tmp 286 _) (all_cons (at_tmp 287 _) (all_cons (at_tmp 290 _) (all_cons (at_tmp 293 _) all_nil)))) rfl)
                                                                            (lrC (LR_move (at_tmp 294 _) rfl)
                                                                            (lrC (LR_extract (at_tmp 285 _) rfl rfl)
                                                                            (lrC (LR_extract (at_tmp 285 _) rfl rfl)
                                                                            (lrC (LR_assign (at_tmp 295 _) rfl)
                                                                            (lrC (LR_assign (at_tmp 296 _) rfl)
                                                                            lrN))))))))))))))
                                                                            (by kernel_rfl)
                                                                            (saC (sS (sT1 rfl) (sB1 rfl) sF0) (saC (sS (sT1 rfl) sB0 sF0) (saC (sS (sT1 rfl) (sB1 rfl) sF0) (saC (sS (sT1 rfl) sB0 sF0) (saC (sS (sA (sT1 rfl) (sA (sT1 rfl) sT0)) sB0 sF0) (saC (sS (sT1 rfl) sB0 sF0) (saC (sS (sT1 rfl) (sB1 rfl) sF0) (saC (sS (sT1 rfl) sB0 sF0) (saC (sS (sA (sT1 rfl) (sA (sT1 rfl) (sA (sT1 rfl) (sA (sT1 rfl) sT0)))) sB0 sF0) (saC (sS (sT1 rfl) sB0 sF0) (saC (sS (sT1 rfl) sB0 sF0) (saC (sS (sT1 rfl) sB0 sF0) (saC (sS (sT1 rfl) sB0 sF0) (saC (sS (sT1 rfl) sB0 sF0) saN)))))))))))))) ?_
                                                                          exact thenN (cutLeaf (v := y29.2) hr (weakB ((sT rfl (sT rfl sT0))) (sub_keep (sub_drop (sub_drop sub_nil))) rfl))
                                                                        · rintro x28 hr
                                                                          show AW Hfaa.prog _ _ _ ⟨[(2, .inr (.inl (2, 0))), (13, .inl (is (U8 x28)))], [(2, gc 90 (ar U64 8 b2_0 ++ []) ([]) (k1 Sv) 1 b2_1)]⟩
                                                                          have hr : some r = F227_22 N b2_0 b2_1 x28 := hr
                                                                          refine AW_opn 2 1018 (fun sv => (ar U64 8 b2_0 ++ (is ( sv) :: []))) rfl rfl (fun _ => by first | rfl | simp) ?_
                                                                          intro sv26 hsv26
                                                                          obtain ⟨y27, hy27, hr⟩ := bind_some hr
                                                                          obtain ⟨hg9, hr⟩ := guard_some hr
                                                                          refine AW_post ?_
                                                                          refine AW_drawV 8 1018 mixed (fun sv27 => [(⟨[(297, .inr (.inl (2, 0)))], [], []⟩, ⟨[(306, .inr (.inl (2, 0)))], []⟩), (⟨[(306, .inr (.inl (2, 0)))], [], []⟩, ⟨[(307, .inr (.inl (2, 8)))], []⟩), (⟨[(307, .inr (.inl (2, 8))), (305, .inl (is ( sv27)))], [(2, pb 90 (ar U64 8 b2_0 ++ (is ( sv26) :: [])))], []⟩, ⟨[], [(2, pb 90 (ar U64 8 b2_0 ++ (is ( sv27) :: [])))]⟩)])
                                                                            (lrC (LR_move (at_tmp 2 _) rfl)
                                                                            (lrC (LR_move (at_tmp 2 _) rfl)
                                                                            (lrC (LR_nilCheck (at_tmp 298 _) rfl)
                                                                            (lrC (LR_fieldAddr (off := 0) (o := 8) (at_tmp 299 _) (fun b w => fa90_1 b 0 w) rfl)
                                                                            (lrC (LR_load (at_tmp 300 _) na57 (gP g0) rfl)
                                                                            (lrC (LR_move (at_tmp 13 _) rfl)
                                                                            (lrC (LR_call Hfaa.func301 rfl rfl (C301 N x28 y27 hy27) (all_cons (at_tmp 302 _) all_nil) rfl)
                                                                            (lrC (LR_bs1 Hfaa.underlying57 el9 (fun _ => rfl) (at_tmp 303 _) rfl)
                                                                            lrN))))))))
                                                                            rfl
                                                                            (app_opk (K := (k1 Sv)) (r := 1018) (z := b2_1) (u := y27) Hfaa.underlying57 eN9 k1_len (k1_cell fun _ => rfl) (at_tmp 301 _) (at_tmp 304 _) (oneAt_k1 rfl) (of_decide_eq_true hg9) rfl rfl)
                                                                            (fun sv27 hsv27 => (lrC (LR_nilCheck (at_tmp 297 _) rfl)
                                                                            (lrC (LR_fieldAddr (off := 0) (o := 8) (at_tmp 306 _) (fun b w => fa90_1 b 0 w) rfl)
                                                                            (lrC (LR_storeA (at_tmp 307 _) (at_tmp 305 _) (cells_one (one_is hsv27)) (onC (one_is hsv27) onN) sz57 rfl (bleLen (lnA (lnC ln0)) rfl) (stP st0))
                                                                            lrN))))
                                                                            (fun sv27 hsv27 => by kernel_rfl)
                                                                            (fun sv27 hsv27 => (saC (sS (sT1 rfl) sB0 sF0) (saC (sS (sT1 rfl) sB0 sF0) (saC (sS (sT1 rfl) sB0 sF0) (saC (sS (sT1 rfl) sB0 sF0) (saC (sS (sT1 rfl) (sB1 rfl) sF0) (saC (sS (sT1 rfl) sB0 sF0) (saC (sS (sA (sT1 rfl) sT0) sB0 sF0) (saC (sS (sT1 rfl) sB0 sF0) (saC (sS (sA (sT1 rfl) (sT1 rfl)) (sB1 rfl) sF0) (saC (sS (sT1 rfl) sB0 sF0) (saC (sS (sT1 rfl) sB0 sF0) (saC (sS (sA (sT1 rfl) (sT1 rfl)) (sB1 rfl) sF0) saN)))))))))))))
                                                                            (by kernel_rfl) rfl (fun sv27 hsv27 => by kernel_rfl) ?_
                                                                          intro sv27 hsv27
                                                                          refine ⟨_, (imp_close (k := 2) (r := 1018) (ar U64 8 b2_0 ++ []) ([]) rfl (by first | rfl | simp) rfl rfl rfl rfl), ?_⟩
                                                                          refine blN ?_
                                                                          obtain rfl := Option.some.inj hr
                                                                          exact ⟨res0 rfl , (sub_keep (sub_drop sub_nil))⟩
                                                                      · have hr := hr.trans (cond_f h)
                                                                        clear h
                                                                        refine AW_cut (σ := Bool) (fun v => ⟨[(1, .inl (is (U8 a1))), (2, .inr (.inl (2, 0))), (4, .inr (.inl (4, 0))), (7, .inr (.inl (7, 0))), (9, .inl (is (U64 x1))), (308, .inl (is (Bl v)))], [(2, gc 90 (ar U64 8 b2_0 ++ []) ([]) (k1 Sv) 1 b2_1), (4, pb 23 [is (U8 a0_0), is (U8 a0_1)]), (7, pb 96 [is (U8 a3_0), is (U8 a3_1), is (U8 a3_2), is (U8 a3_3), is (U64 a3_4), is (Sv a3_5)])]⟩) (fun v => some r = F227_23 N a0_0 a0_1 a1 b2_0 b2_1 a3_0 a3_1 a3_2 a3_3 a3_4 a3_5 x1 v) ?_ ?_
                                                                        · skip
                                                                          refine AW_region ?_
                                                                          refine AL_cons (LR_bin (at_tmp 40 _) (at_c (v' := U8 (28#8)) rfl) (eql_U8 a3_0 (28#8)) rfl) (sS (sA (sT1 rfl) sT0) sB0 sF0) ?_
                                                                          refine AL_cons (LR_assign (at_tmp 309 _) rfl) (sS (sT1 rfl) sB0 sF0) ?_
                                                                          refine AL_nil ?_
                                                                          exact thenN (cutLeaf (v := a3_0 == (28#8)) hr (weakB ((sT rfl (sT rfl (sT rfl (sT rfl (sT rfl (sT rfl sT0))))))) (sub_keep (sub_keep (sub_keep sub_nil))) rfl))
                                                                        · rintro x29 hr
                                                                          show AW Hfaa.prog _ _ _ ⟨[(1, .inl (is (U8 a1))), (2, .inr (.inl (2, 0))), (4, .inr (.inl (4, 0))), (7, .inr (.inl (7, 0))), (9, .inl (is (U64 x1))), (308, .inl (is (Bl x29)))], [(2, gc 90 (ar U64 8 b2_0 ++ []) ([]) (k1 Sv) 1 b2_1), (4, pb 23 [is (U8 a0_0), is (U8 a0_1)]), (7, pb 96 [is (U8 a3_0), is (U8 a3_1), is (U8 a3_2), is (U8 a3_3), is (U64 a3_4), is (Sv a3_5)])]⟩
                                                                          have hr : some r = F227_23 N a0_0 a0_1 a1 b2_0 b2_1 a3_0 a3_1 a3_2 a3_3 a3_4 a3_5 x1 x29 := hr
                                                                          refine AW_condT (b := x29) rfl (fun h => ?_) (fun h => ?_)
                                                                          · have hr := hr.trans (cond_t h)
                                                                            clear h
                                                                            refine AW_cut (σ := BitVec 8 × Bool) (fun v => ⟨[(2, .inr (.inl (2, 0))), (14, .inl (is (U8 v.1))), (15, .inl (is (Bl v.2)))], [(2, gc 90 (ar U64 8 b2_0 ++ []) ([]) (k1 Sv) 1 b2_1)]⟩) (fun v => some r = F227_24 N b2_0 b2_1 v.1 v.2) ?_ ?_
                                                                            · skip
                                                                              obtain ⟨y33, hy33, hr⟩ := lt_some hr
                                                                              obtain ⟨y34, hy34, hr⟩ := bind_some hr
                                                                              refine AW_draw mixed
                                                                                (lrC (LR_loads (at_tmp 4 _) ag23 sz23 rfl rfl rfl)
                                                                                (lrC (LR_move (at_tmp 1 _) rfl)
                                                                                (lrC (LR_fieldAddr (off := 0) (o := 4) (at_tmp 7 _) (fun b w => fa96_4 b 0 w) rfl)
                                                                                (lrC (LR_load (at_tmp 313 _) na30 rfl rfl)
                                                                                (lrC (LR_loads (at_tmp 4 _) ag23 sz23 rfl rfl rfl)
                                                                                (lrC (LR_move (at_tmp 9 _) rfl)
                                                                                (lrC (LR_call Hfaa.func222 rfl rfl (C222 a0_0 a0_1 x1 y33 hy33) (all_cons (at_tmp 315 _) (all_cons (at_tmp 316 _) all_nil)) rfl)
                                                                                (lrC (LR_call Hfaa.func309 rfl rfl (C309 N a0_0 a0_1 a1 a3_4 y33 y34 hy34) (all_cons (at_tmp 311 _) (all_cons (at_tmp 312 _) (all_cons (at_tmp 314 _) (all_cons (at_tmp 317 _) all_nil)))) rfl)
                                                                                (lrC (LR_move (at_tmp 318 _) rfl)
                                                                                (lrC (LR_extract (at_tmp 310 _) rfl rfl)
                                                                                (lrC (LR_extract (at_tmp 310 _) rfl rfl)
                                                                                (lrC (LR_assign (at_tmp 319 _) rfl)
                                                                                (lrC (LR_assign (at_tmp 320 _) rfl)
                                                                                lrN)))))))))))))
                                                                                (by kernel_rfl)
                                                                                (saC (sS (sT1 rfl) (sB1 rfl) sF0) (saC (sS (sT1 rfl) sB0 sF0) (saC (sS (sT1 rfl) sB0 sF0) (saC (sS (sT1 rfl) (sB1 rfl) sF0) (saC (sS (sT1 rfl) (sB1 rfl) sF0) (saC (sS (sT1 rfl) sB0 sF0) (saC (sS (sA (sT1 rfl) (sA (sT1 rfl) sT0)) sB0 sF0) (saC (sS (sA (sT1 rfl) (sA (sT1 rfl) (sA (sT1 rfl) (sA (sT1 rfl) sT0)))) sB0 sF0) (saC (sS (sT1 rfl) sB0 sF0) (saC (sS (sT1 rfl) sB0 sF0) (saC (sS (sT1 rfl) sB0 sF0) (saC (sS (sT1 rfl) sB0 sF0) (saC (sS (sT1 rfl) sB0 sF0) saN))))))))))))) ?_
                                                                              exact thenN (cutLeaf (v := (y34.1, y34.2)) hr (weakB ((sT rfl (sT rfl (sT rfl sT0)))) (sub_keep (sub_drop (sub_drop sub_nil))) rfl))
                                                                            · rintro ⟨x30, x31⟩ hr
                                                                              show AW Hfaa.prog _ _ _ ⟨[(2, .inr (.inl (2, 0))), (14, .inl (is (U8 x30))), (15, .inl (is (Bl x31)))], [(2, gc 90 (ar U64 8 b2_0 ++ []) ([]) (k1 Sv) 1 b2_1)]⟩
                                                                              have hr : some r = F227_24 N b2_0 b2_1 x30 x31 := hr
                                                                              refine AW_seq1 ?_
                                                                              refine AW_region ?_
                                                                              refine AL_cons (LR_move (at_tmp 15 _) rfl) (sS (sT1 rfl) sB0 sF0) ?_
                                                                              refine AL_nil ?_
                                                                              refine thenN ?_
                                                                              refine AW_condT (b := x31) rfl (fun h => ?_) (fun h => ?_)
                                                                              · have hr := hr.trans (cond_t h)
                                                                                clear h
                                                                                refine AW_opn 2 1019 (fun sv => (ar U64 8 b2_0 ++ (is ( sv) :: []))) rfl rfl (fun _ => by first | rfl | simp) ?_
                                                                                intro sv28 hsv28
                                                                                obtain ⟨y32, hy32, hr⟩ := bind_some hr
                                                                                obtain ⟨hg10, hr⟩ := guard_some hr
                                                                                refine AW_post ?_
                                                                                refine AW_drawV 8 1019 mixed (fun sv29 => [(⟨[(322, .inr (.inl (2, 0)))], [], []⟩, ⟨[(331, .inr (.inl (2, 0)))], []⟩), (⟨[(331, .inr (.inl (2, 0)))], [], []⟩, ⟨[(332, .inr (.inl (2, 8)))], []⟩), (⟨[(332, .inr (.inl (2, 8))), (330, .inl (is ( sv29)))], [(2, pb 90 (ar U64 8 b2_0 ++ (is ( sv28) :: [])))], []⟩, ⟨[], [(2, pb 90 (ar U64 8 b2_0 ++ (is ( sv29) :: [])))]⟩)])
                                                                                  (lrC (LR_move (at_tmp 2 _) rfl)
                                                                                  (lrC (LR_move (at_tmp 2 _) rfl)
                                                                                  (lrC (LR_nilCheck (at_tmp 323 _) rfl)
                                                                                  (lrC (LR_fieldAddr (off := 0) (o := 8) (at_tmp 324 _) (fun b w => fa90_1 b 0 w) rfl)
                                                                                  (lrC (LR_load (at_tmp 325 _) na57 (gP g0) rfl)
                                                                                  (lrC (LR_move (at_tmp 14 _) rfl)
                                                                                  (lrC (LR_call Hfaa.func301 rfl rfl (C301 N x30 y32 hy32) (all_cons (at_tmp 327 _) all_nil) rfl)
                                                                                  (lrC (LR_bs1 Hfaa.underlying57 el9 (fun _ => rfl) (at_tmp 328 _) rfl)
                                                                                  lrN))))))))
                                                                                  rfl
                                                                                  (app_opk (K := (k1 Sv)) (r := 1019) (z := b2_1) (u := y32) Hfaa.underlying57 eN9 k1_len (k1_cell fun _ => rfl) (at_tmp 326 _) (at_tmp 329 _) (oneAt_k1 rfl) (of_decide_eq_true hg10) rfl rfl)
                                                                                  (fun sv29 hsv29 => (lrC (LR_nilCheck (at_tmp 322 _) rfl)
                                                                                  (lrC (LR_fieldAddr (off := 0) (o := 8) (at_tmp 331 _) (fun b w => fa90_1 b 0 w) rfl)
                                                                                  (lrC (LR_storeA (at_tmp 332 _) (at_tmp 330 _) (cells_one (one_is hsv29)) (onC (one_is hsv29) onN) sz57 rfl (bleLen (lnA (lnC ln0)) rfl) (stP st0))
                                                                                  lrN))))
                                                                                  (fun sv29 hsv29 => by kernel_rfl)
                                                                                  (fun sv29 hsv29 => (saC (sS (sT1 rfl) sB0 sF0) (saC (sS (sT1 rfl) sB0 sF0) (saC (sS (sT1 rfl) sB0 sF0) (saC (sS (sT1 rfl) sB0 sF0) (saC (sS (sT1 rfl) (sB1 rfl) sF0) (saC (sS (sT1 rfl) sB0 sF0) (saC (sS (sA (sT1 rfl) sT0) sB0 sF0) (saC (sS (sT1 rfl) sB0 sF0) (saC (sS (sA (sT1 rfl) (sT1 rfl)) (sB1 rfl) sF0) (saC (sS (sT1 rfl) sB0 sF0) (saC (sS (sT1 rfl) sB0 sF0) (saC (sS (sA (sT1 rfl) (sT1 rfl)) (sB1 rfl) sF0) saN)))))))))))))
                                                                                  (by kernel_rfl) rfl (fun sv29 hsv29 => by kernel_rfl) ?_
                                                                                intro sv29 hsv29
                                                                                refine ⟨_, (imp_close (k := 2) (r := 1019) (ar U64 8 b2_0 ++ []) ([]) rfl (by first | rfl | simp) rfl rfl rfl rfl), ?_⟩
                                                                                refine blN ?_
                                                                                obtain rfl := Option.some.inj hr
                                                                                exact ⟨res0 rfl , (sub_keep (sub_drop sub_nil))⟩
                                                                              · have hr := hr.trans (cond_f h)
                                                                                clear h
                                                                                refine AW_skip ?_
                                                                                refine blN ?_
                                                                                obtain rfl := Option.some.inj hr
                                                                                exact ⟨res0 rfl , (sub_keep sub_nil)⟩
                                                                          · have hr := hr.trans (cond_f h)
                                                                            clear h
                                                                            refine AW_skip ?_
                                                                            refine blN ?_
                                                                            obtain rfl := Option.some.inj hr
                                                                            exact ⟨res0 rfl , (sub_keep (sub_drop (sub_drop sub_nil)))⟩
end Go.Proofs.YfwaawGreat
