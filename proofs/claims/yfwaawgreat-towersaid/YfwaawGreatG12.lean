import Derived.Test.YfwaawGreatG1
import Derived.Test.YfwaawGreatG2
import Derived.Test.YfwaawGreatG3
import Derived.Test.YfwaawGreatG8
import Derived.Test.YfwaawGreatG9
import Derived.Test.YfwaawGreatG11
namespace Go.Proofs.YfwaawGreat
open Go.Aw
set_option linter.unusedVariables false
set_option maxRecDepth 100000
set_option maxHeartbeats 1000000
/-- exact.cmpRat -/
def F255 (N : Nat) (a0_0 : Bool) (a0_1 : Nat) (a0_2 : Nat) (a1_0 : Bool) (a1_1 : Nat) (a1_2 : Nat) : Option (Int) := bif lim a0_1 && lim a1_2 then bif lim a1_1 && lim a0_2 then bif lim (a0_1 * a1_2) && lim (a1_1 * a0_2) then some (ncmp (a0_1 * a1_2) (a1_1 * a0_2)) else none else none else none
theorem C255 (N : Nat) (a0_0 : Bool) (a0_1 : Nat) (a0_2 : Nat) (a1_0 : Bool) (a1_1 : Nat) (a1_2 : Nat) (r : Int) (hr : some r = F255 N a0_0 a0_1 a0_2 a1_0 a1_1 a1_2) : Aw.Fn Hfaa.prog 255 [agg [is (Bl a0_0), big a0_1, big a0_2], agg [is (Bl a1_0), big a1_1, big a1_2]] (is (I8 r)) := by
  refine fn_intro Hfaa.func255 rfl rfl rfl ?_
  intro bn0 w0 H0
  refine AW_seq1 ?_
  refine AW_region ?_
  refine AL_cons (LR_box (at_tmp 0 _) (cells_agg _) rfl) (sS (sT1 rfl) sB0 (sF1 rfl)) ?_
  refine AL_cons (LR_box (at_tmp 1 _) (cells_agg _) rfl) (sS (sT1 rfl) sB0 (sF1 rfl)) ?_
  refine AL_cons (LR_assign (at_c (v' := I8 0) rfl) rfl) (sS sT0 sB0 sF0) ?_
  refine AL_nil ?_
  refine thenN ?_
  refine AW_seq1 ?_
  obtain ⟨hg4, hr⟩ := guard_some hr
  obtain ⟨hg5, hr⟩ := guard_some hr
  obtain ⟨hg6, hr⟩ := guard_some hr
  refine AW_draw mixed
    (lrC (LR_fieldAddr (off := 0) (o := 1) (at_tmp 2 _) (fun b w => fa119_1 b 0 w) rfl)
    (lrC (LR_load (at_tmp 5 _) na49 rfl rfl)
    (lrC (LR_fieldAddr (off := 0) (o := 2) (at_tmp 3 _) (fun b w => fa119_2 b 0 w) rfl)
    (lrC (LR_load (at_tmp 7 _) na49 rfl rfl)
    (lrC (LR_call Hfaa.func22 rfl rfl (B22 a0_1 a1_2 hg4) (all_cons (at_tmp 6 _) (all_cons (at_tmp 8 _) all_nil)) rfl)
    (lrC (LR_fieldAddr (off := 0) (o := 1) (at_tmp 3 _) (fun b w => fa119_1 b 0 w) rfl)
    (lrC (LR_load (at_tmp 10 _) na49 rfl rfl)
    (lrC (LR_fieldAddr (off := 0) (o := 2) (at_tmp 2 _) (fun b w => fa119_2 b 0 w) rfl)
    (lrC (LR_load (at_tmp 12 _) na49 rfl rfl)
    (lrC (LR_call Hfaa.func22 rfl rfl (B22 a1_1 a0_2 hg5) (all_cons (at_tmp 11 _) (all_cons (at_tmp 13 _) all_nil)) rfl)
    (lrC (LR_call Hfaa.func60 rfl rfl (B60 (a0_1 * a1_2) (a1_1 * a0_2) hg6) (all_cons (at_tmp 9 _) (all_cons (at_tmp 14 _) all_nil)) rfl)
    (lrC (LR_assign (at_tmp 15 _) rfl)
    lrN))))))))))))
    (by kernel_rfl)
    (saC (sS (sT1 rfl) sB0 sF0) (saC (sS (sT1 rfl) (sB1 rfl) sF0) (saC (sS (sT1 rfl) sB0 sF0) (saC (sS (sT1 rfl) (sB1 rfl) sF0) (saC (sS (sA (sT1 rfl) (sA (sT1 rfl) sT0)) sB0 sF0) (saC (sS (sT1 rfl) sB0 sF0) (saC (sS (sT1 rfl) (sB1 rfl) sF0) (saC (sS (sT1 rfl) sB0 sF0) (saC (sS (sT1 rfl) (sB1 rfl) sF0) (saC (sS (sA (sT1 rfl) (sA (sT1 rfl) sT0)) sB0 sF0) (saC (sS (sA (sT1 rfl) (sA (sT1 rfl) sT0)) sB0 sF0) (saC (sS (sT1 rfl) sB0 sF0) saN)))))))))))) ?_
  refine thenN ?_
  refine AW_ret ?_
  obtain rfl := Option.some.inj hr
  exact res1 rfl (rvT rfl)
/-- exact.log10 -/
def F147_3 (N : Nat) (x3 : Int) : Option (Int) := some x3
def F147_5 (N : Nat) (a0_0 : Bool) (a0_1 : Nat) (a0_2 : Nat) (x4 : Int) (x5 : Bool) : Option ((Int) ⊕ (Int)) := bif x5 then some (.inl (w64 (x4 + 1))) else (F147_3 N x4).map Sum.inr
def F147_L4b (N : Nat) (a0_0 : Bool) (a0_1 : Nat) (a0_2 : Nat) (x4 : Int) : Option ((Int) ⊕ (Int)) := (F256 N (w64 (x4 + 1))).bind fun y31 => (F255 N y31.1 y31.2.1 y31.2.2 a0_0 a0_1 a0_2).bind fun y32 => F147_5 N a0_0 a0_1 a0_2 x4 (decide (y32 ≤ 0))
def F147_L4 (N : Nat) (a0_0 : Bool) (a0_1 : Nat) (a0_2 : Nat) : (Int) → Option ((Int) ⊕ (Int)) := fun v => F147_L4b N a0_0 a0_1 a0_2 v
def F147_2 (N : Nat) (a0_0 : Bool) (a0_1 : Nat) (a0_2 : Nat) (x2 : Int) : Option (Int) := iterL (F147_L4 N a0_0 a0_1 a0_2) N x2
def F147_1 (N : Nat) (a0_0 : Bool) (a0_1 : Nat) (a0_2 : Nat) (x1 : Int) : Option (Int) := F147_2 N a0_0 a0_1 a0_2 (w64 (x1 - 1))
def F147 (N : Nat) (a0_0 : Bool) (a0_1 : Nat) (a0_2 : Nat) : Option (Int) := bif lim a0_1 then bif lim a0_2 then F147_1 N a0_0 a0_1 a0_2 ((w64 ((w64 ((blen a0_1 : Int) - (blen a0_2 : Int))) * 1233)) / 2 ^ 12) else none else none
theorem C147 (N : Nat) (a0_0 : Bool) (a0_1 : Nat) (a0_2 : Nat) (r : Int) (hr : some r = F147 N a0_0 a0_1 a0_2) : Aw.Fn Hfaa.prog 147 [agg [is (Bl a0_0), big a0_1, big a0_2]] (is (I64 r)) := by
  refine fn_intro Hfaa.func147 rfl rfl rfl ?_
  intro bn0 w0 H0
  refine AW_seq1 ?_
  refine AW_region ?_
  refine AL_cons (LR_box (at_tmp 0 _) (cells_agg _) rfl) (sS (sT1 rfl) sB0 (sF1 rfl)) ?_
  refine AL_cons (LR_assign (at_c (v' := I64 0) rfl) rfl) (sS sT0 sB0 sF0) ?_
  refine AL_nil ?_
  refine thenN ?_
  refine AW_cut (σ := Int) (fun v => ⟨[(1, .inr (.inl (1, 0))), (3, .inl (is (I64 v)))], [(1, pb 119 [is (Bl a0_0), big a0_1, big a0_2])]⟩) (fun v => some r = F147_1 N a0_0 a0_1 a0_2 v) ?_ ?_
  · skip
    obtain ⟨hg3, hr⟩ := guard_some hr
    obtain ⟨hg4, hr⟩ := guard_some hr
    refine AW_draw mixed
      (lrC (LR_fieldAddr (off := 0) (o := 1) (at_tmp 1 _) (fun b w => fa119_1 b 0 w) rfl)
      (lrC (LR_load (at_tmp 4 _) na49 rfl rfl)
      (lrC (LR_call Hfaa.func34 rfl rfl (B34 a0_1 hg3) (all_cons (at_tmp 5 _) all_nil) rfl)
      (lrC (LR_fieldAddr (off := 0) (o := 2) (at_tmp 1 _) (fun b w => fa119_2 b 0 w) rfl)
      (lrC (LR_load (at_tmp 7 _) na49 rfl rfl)
      (lrC (LR_call Hfaa.func34 rfl rfl (B34 a0_2 hg4) (all_cons (at_tmp 8 _) all_nil) rfl)
      (lrC (LR_bin (at_tmp 6 _) (at_tmp 9 _) (sub_I64 (blen a0_1 : Int) (blen a0_2 : Int)) rfl)
      (lrC (LR_bin (at_tmp 10 _) (at_c (v' := I64 1233) rfl) (mul_I64 (w64 ((blen a0_1 : Int) - (blen a0_2 : Int))) 1233) rfl)
      (lrC (LR_bin (at_tmp 11 _) (at_c (v' := U64 (12#64)) rfl) (shr_I64 (w64 ((w64 ((blen a0_1 : Int) - (blen a0_2 : Int))) * 1233)) ((12#64).toNat : Int) (Int.natCast_nonneg _) (by decide)) rfl)
      (lrC (LR_assign (at_tmp 12 _) rfl)
      lrN))))))))))
      (by kernel_rfl)
      (saC (sS (sT1 rfl) sB0 sF0) (saC (sS (sT1 rfl) (sB1 rfl) sF0) (saC (sS (sA (sT1 rfl) sT0) sB0 sF0) (saC (sS (sT1 rfl) sB0 sF0) (saC (sS (sT1 rfl) (sB1 rfl) sF0) (saC (sS (sA (sT1 rfl) sT0) sB0 sF0) (saC (sS (sA (sT1 rfl) (sT1 rfl)) sB0 sF0) (saC (sS (sA (sT1 rfl) sT0) sB0 sF0) (saC (sS (sA (sT1 rfl) sT0) sB0 sF0) (saC (sS (sT1 rfl) sB0 sF0) saN)))))))))) ?_
    exact thenN (cutLeaf (v := (w64 ((w64 ((blen a0_1 : Int) - (blen a0_2 : Int))) * 1233)) / 2 ^ 12) hr (weak0 ((sT rfl (sT rfl sT0))) (sub_keep sub_nil)))
  · rintro x1 hr
    show AW Hfaa.prog _ _ _ ⟨[(1, .inr (.inl (1, 0))), (3, .inl (is (I64 x1)))], [(1, pb 119 [is (Bl a0_0), big a0_1, big a0_2])]⟩
    have hr : some r = F147_1 N a0_0 a0_1 a0_2 x1 := hr
    refine AW_cut (σ := Int) (fun v => ⟨[(1, .inr (.inl (1, 0))), (3, .inl (is (I64 v)))], [(1, pb 119 [is (Bl a0_0), big a0_1, big a0_2])]⟩) (fun v => some r = F147_2 N a0_0 a0_1 a0_2 v) ?_ ?_
    · skip
      refine AW_region ?_
      refine AL_cons (LR_move (at_tmp 3 _) rfl) (sS (sT1 rfl) sB0 sF0) ?_
      refine AL_cons (LR_bin (at_tmp 13 _) (at_c (v' := I64 1) rfl) (sub_I64 x1 1) rfl) (sS (sA (sT1 rfl) sT0) sB0 sF0) ?_
      refine AL_cons (LR_assign (at_tmp 14 _) rfl) (sS (sT1 rfl) sB0 sF0) ?_
      refine AL_nil ?_
      exact thenN (cutLeaf (v := w64 (x1 - 1)) hr (weak0 ((sT rfl (sT rfl sT0))) (sub_keep sub_nil)))
    · rintro x2 hr
      show AW Hfaa.prog _ _ _ ⟨[(1, .inr (.inl (1, 0))), (3, .inl (is (I64 x2)))], [(1, pb 119 [is (Bl a0_0), big a0_1, big a0_2])]⟩
      have hr : some r = F147_2 N a0_0 a0_1 a0_2 x2 := hr
      refine AW_cut (σ := Int) (fun v => ⟨[(3, .inl (is (I64 v)))], []⟩) (fun v => some r = F147_3 N v) ?_ ?_
      · skip
        refine AW_block ?_
        refine AW_iterR (σ := Int) (r := r) (x0 := x2) (emb := fun v => ⟨[(1, .inr (.inl (1, 0))), (3, .inl (is (I64 v)))], [(1, pb 119 [is (Bl a0_0), big a0_1, big a0_2])]⟩) ?_ hr ?_
        · exact weak0 ((sT rfl (sT rfl sT0))) (sub_keep sub_nil)
        rintro x4 out2 hr
        show AW Hfaa.prog _ _ _ ⟨[(1, .inr (.inl (1, 0))), (3, .inl (is (I64 x4)))], [(1, pb 119 [is (Bl a0_0), big a0_1, big a0_2])]⟩
        have hr : some out2 = F147_L4b N a0_0 a0_1 a0_2 x4 := hr
        refine AW_seq1 ?_
        refine AW_cut (σ := Bool) (fun v => ⟨[(1, .inr (.inl (1, 0))), (3, .inl (is (I64 x4))), (20, .inl (is (Bl v)))], [(1, pb 119 [is (Bl a0_0), big a0_1, big a0_2])]⟩) (fun v => some out2 = F147_5 N a0_0 a0_1 a0_2 x4 v) ?_ ?_
        · skip
          obtain ⟨y31, hy31, hr⟩ := bind_some hr
          obtain ⟨y32, hy32, hr⟩ := bind_some hr
          refine AW_draw mixed
            (lrC (LR_move (at_tmp 3 _) rfl)
            (lrC (LR_bin (at_tmp 15 _) (at_c (v' := I64 1) rfl) (add_I64 x4 1) rfl)
            (lrC (LR_call Hfaa.func256 rfl rfl (C256 N (w64 (x4 + 1)) y31 hy31) (all_cons (at_tmp 16 _) all_nil) rfl)
            (lrC (LR_loads (at_tmp 1 _) ag119 sz119 rfl rfl rfl)
            (lrC (LR_call Hfaa.func255 rfl rfl (C255 N y31.1 y31.2.1 y31.2.2 a0_0 a0_1 a0_2 y32 hy32) (all_cons (at_tmp 17 _) (all_cons (at_tmp 18 _) all_nil)) rfl)
            (lrC (LR_bin (at_tmp 19 _) (at_c (v' := I8 0) rfl) (leq_I8 y32 0) rfl)
            lrN))))))
            (by kernel_rfl)
            (saC (sS (sT1 rfl) sB0 sF0) (saC (sS (sA (sT1 rfl) sT0) sB0 sF0) (saC (sS (sA (sT1 rfl) sT0) sB0 sF0) (saC (sS (sT1 rfl) (sB1 rfl) sF0) (saC (sS (sA (sT1 rfl) (sA (sT1 rfl) sT0)) sB0 sF0) (saC (sS (sA (sT1 rfl) sT0) sB0 sF0) saN)))))) ?_
          exact thenN (cutLeaf (v := decide (y32 ≤ 0)) hr (weak0 ((sT rfl (sT rfl (sT rfl sT0)))) (sub_keep sub_nil)))
        · rintro x5 hr
          show AW Hfaa.prog _ _ _ ⟨[(1, .inr (.inl (1, 0))), (3, .inl (is (I64 x4))), (20, .inl (is (Bl x5)))], [(1, pb 119 [is (Bl a0_0), big a0_1, big a0_2])]⟩
          have hr : some out2 = F147_5 N a0_0 a0_1 a0_2 x4 x5 := hr
          refine AW_condT (b := x5) rfl (fun h => ?_) (fun h => ?_)
          · have hr := hr.trans (cond_t h)
            clear h
            refine AW_skip ?_
            refine thenN ?_
            refine AW_block ?_
            refine AW_region ?_
            refine AL_cons (LR_move (at_tmp 3 _) rfl) (sS (sT1 rfl) sB0 sF0) ?_
            refine AL_cons (LR_bin (at_tmp 21 _) (at_c (v' := I64 1) rfl) (add_I64 x4 1) rfl) (sS (sA (sT1 rfl) sT0) sB0 sF0) ?_
            refine AL_cons (LR_assign (at_tmp 22 _) rfl) (sS (sT1 rfl) sB0 sF0) ?_
            refine AL_nil ?_
            refine blN ?_
            exact thenN (loopNext (x' := w64 (x4 + 1)) hr (weak0 ((sT rfl (sT rfl sT0))) (sub_keep sub_nil)))
          · have hr := hr.trans (cond_f h)
            clear h
            refine AW_exit ?_
            refine thenX ?_
            obtain ⟨r', hro, hr⟩ := map_inr hr
            refine thenX (loopOut hro (fun he => ?_))
            rw [he] at hr
            refine blH ?_
            exact thenN (cutLeaf (v := x4) hr (weak0 ((sT rfl sT0)) (sub_drop sub_nil)))
      · rintro x3 hr
        show AW Hfaa.prog _ _ _ ⟨[(3, .inl (is (I64 x3)))], []⟩
        have hr : some r = F147_3 N x3 := hr
        refine AW_seq1 ?_
        refine AW_region ?_
        refine AL_cons (LR_move (at_tmp 3 _) rfl) (sS (sT1 rfl) sB0 sF0) ?_
        refine AL_cons (LR_assign (at_tmp 23 _) rfl) (sS (sT1 rfl) sB0 sF0) ?_
        refine AL_nil ?_
        refine thenN ?_
        refine AW_ret ?_
        obtain rfl := Option.some.inj hr
        exact res1 rfl (rvT rfl)
/-- exact.floorAt -/
def F148_2 (N : Nat) (x4 : Nat) (x5 : Int) (x6 : Bool) : Option (Int × Int × Bool) := bif lim x4 then some ((w64 ((BitVec.ofNat 64 x4).toNat : Int), x5, x6)) else none
def F148_1 (N : Nat) (a0_0 : Bool) (a0_1 : Nat) (a0_2 : Nat) (x1 : Bool) (x2 : Nat) (x3 : Nat) : Option (Int × Int × Bool) := bif lim a0_1 && lim x3 then bif lim a0_2 && lim x2 then (F209 N (a0_1 * x3) (a0_2 * x2)).bind fun y3 => F148_2 N y3.1 y3.2.1 y3.2.2 else none else none
def F148 (N : Nat) (a0_0 : Bool) (a0_1 : Nat) (a0_2 : Nat) (a1 : Int) : Option (Int × Int × Bool) := (F256 N a1).bind fun y4 => F148_1 N a0_0 a0_1 a0_2 y4.1 y4.2.1 y4.2.2
theorem C148 (N : Nat) (a0_0 : Bool) (a0_1 : Nat) (a0_2 : Nat) (a1 : Int) (r : Int × Int × Bool) (hr : some r = F148 N a0_0 a0_1 a0_2 a1) : Aw.Fn Hfaa.prog 148 [agg [is (Bl a0_0), big a0_1, big a0_2], is (I64 a1)] (tup [is (I64 r.1), agg [is (I8 r.2.1), is (Bl r.2.2)]]) := by
  refine fn_intro Hfaa.func148 rfl rfl rfl ?_
  intro bn0 w0 H0
  refine AW_seq1 ?_
  refine AW_region ?_
  refine AL_cons (LR_box (at_tmp 0 _) (cells_agg _) rfl) (sS (sT1 rfl) sB0 (sF1 rfl)) ?_
  refine AL_cons (LR_assign (at_c (v' := I64 0) rfl) rfl) (sS sT0 sB0 sF0) ?_
  refine AL_cons (zl181 rfl) (sS sT0 sB0 (sF1 rfl)) ?_
  refine AL_nil ?_
  refine thenN ?_
  refine AW_cut (σ := Bool × Nat × Nat) (fun v => ⟨[(2, .inr (.inl (2, 0))), (5, .inr (.inl (5, 0))), (6, .inr (.inl (6, 0)))], [(2, pb 119 [is (Bl a0_0), big a0_1, big a0_2]), (5, pb 181 [is (I8 0), is (Bl false)]), (6, pb 119 [is (Bl v.1), big v.2.1, big v.2.2])]⟩) (fun v => some r = F148_1 N a0_0 a0_1 a0_2 v.1 v.2.1 v.2.2) ?_ ?_
  · skip
    refine AW_region ?_
    refine AL_cons (LR_move (at_tmp 1 _) rfl) (sS (sT1 rfl) sB0 sF0) ?_
    obtain ⟨y4, hy4, hr⟩ := bind_some hr
    refine AL_cons (LR_call Hfaa.func256 rfl rfl (C256 N a1 y4 hy4) (all_cons (at_tmp 9 _) all_nil) rfl) (sS (sA (sT1 rfl) sT0) sB0 sF0) ?_
    refine AL_cons (zl119 rfl) (sS sT0 sB0 (sF1 rfl)) ?_
    refine AL_cons (LR_store (at_tmp 6 _) (at_tmp 10 _) (cells_agg _) (onC (one_is rfl) (onC (one_big _) (onC (one_big _) onN))) sz119 rfl rfl) (sS (sA (sT1 rfl) (sT1 rfl)) (sB1 rfl) sF0) ?_
    refine AL_nil ?_
    exact thenN (cutLeaf (v := (y4.1, y4.2.1, y4.2.2)) hr (weak0 ((sT rfl (sT rfl (sT rfl sT0)))) (sub_keep (sub_keep (sub_keep sub_nil)))))
  · rintro ⟨x1, x2, x3⟩ hr
    show AW Hfaa.prog _ _ _ ⟨[(2, .inr (.inl (2, 0))), (5, .inr (.inl (5, 0))), (6, .inr (.inl (6, 0)))], [(2, pb 119 [is (Bl a0_0), big a0_1, big a0_2]), (5, pb 181 [is (I8 0), is (Bl false)]), (6, pb 119 [is (Bl x1), big x2, big x3])]⟩
    have hr : some r = F148_1 N a0_0 a0_1 a0_2 x1 x2 x3 := hr
    refine AW_cut (σ := Nat × Int × Bool) (fun v => ⟨[(5, .inr (.inl (5, 0))), (8, .inr (.inl (8, 0))), (7, .inl (big v.1))], [(5, pb 181 [is (I8 0), is (Bl false)]), (8, pb 181 [is (I8 v.2.1), is (Bl v.2.2)])]⟩) (fun v => some r = F148_2 N v.1 v.2.1 v.2.2) ?_ ?_
    · skip
      obtain ⟨hg5, hr⟩ := guard_some hr
      obtain ⟨hg6, hr⟩ := guard_some hr
      obtain ⟨y3, hy3, hr⟩ := bind_some hr
      refine AW_draw mixed
        (lrC (LR_fieldAddr (off := 0) (o := 1) (at_tmp 2 _) (fun b w => fa119_1 b 0 w) rfl)
        (lrC (LR_load (at_tmp 12 _) na49 rfl rfl)
        (lrC (LR_fieldAddr (off := 0) (o := 2) (at_tmp 6 _) (fun b w => fa119_2 b 0 w) rfl)
        (lrC (LR_load (at_tmp 14 _) na49 rfl rfl)
        (lrC (LR_call Hfaa.func22 rfl rfl (B22 a0_1 x3 hg5) (all_cons (at_tmp 13 _) (all_cons (at_tmp 15 _) all_nil)) rfl)
        (lrC (LR_fieldAddr (off := 0) (o := 2) (at_tmp 2 _) (fun b w => fa119_2 b 0 w) rfl)
        (lrC (LR_load (at_tmp 17 _) na49 rfl rfl)
        (lrC (LR_fieldAddr (off := 0) (o := 1) (at_tmp 6 _) (fun b w => fa119_1 b 0 w) rfl)
        (lrC (LR_load (at_tmp 19 _) na49 rfl rfl)
        (lrC (LR_call Hfaa.func22 rfl rfl (B22 a0_2 x2 hg6) (all_cons (at_tmp 18 _) (all_cons (at_tmp 20 _) all_nil)) rfl)
        (lrC (LR_call Hfaa.func209 rfl rfl (C209 N (a0_1 * x3) (a0_2 * x2) y3 hy3) (all_cons (at_tmp 16 _) (all_cons (at_tmp 21 _) all_nil)) rfl)
        (lrC (LR_move (at_tmp 22 _) rfl)
        (lrC (LR_extract (at_tmp 11 _) rfl rfl)
        (lrC (LR_extract (at_tmp 11 _) rfl rfl)
        (lrC (zl181 rfl)
        (lrC (LR_assign (at_tmp 23 _) rfl)
        (lrC (LR_store (at_tmp 8 _) (at_tmp 24 _) (cells_agg _) (onC (one_is rfl) (onC (one_is rfl) onN)) sz181 rfl rfl)
        lrN)))))))))))))))))
        (by kernel_rfl)
        (saC (sS (sT1 rfl) sB0 sF0) (saC (sS (sT1 rfl) (sB1 rfl) sF0) (saC (sS (sT1 rfl) sB0 sF0) (saC (sS (sT1 rfl) (sB1 rfl) sF0) (saC (sS (sA (sT1 rfl) (sA (sT1 rfl) sT0)) sB0 sF0) (saC (sS (sT1 rfl) sB0 sF0) (saC (sS (sT1 rfl) (sB1 rfl) sF0) (saC (sS (sT1 rfl) sB0 sF0) (saC (sS (sT1 rfl) (sB1 rfl) sF0) (saC (sS (sA (sT1 rfl) (sA (sT1 rfl) sT0)) sB0 sF0) (saC (sS (sA (sT1 rfl) (sA (sT1 rfl) sT0)) sB0 sF0) (saC (sS (sT1 rfl) sB0 sF0) (saC (sS (sT1 rfl) sB0 sF0) (saC (sS (sT1 rfl) sB0 sF0) (saC (sS sT0 sB0 (sF1 rfl)) (saC (sS (sT1 rfl) sB0 sF0) (saC (sS (sA (sT1 rfl) (sT1 rfl)) (sB1 rfl) sF0) saN))))))))))))))))) ?_
      exact thenN (cutLeaf (v := (y3.1, y3.2.1, y3.2.2)) hr (weak0 ((sT rfl (sT rfl (sT rfl sT0)))) (sub_drop (sub_keep (sub_drop (sub_keep sub_nil))))))
    · rintro ⟨x4, x5, x6⟩ hr
      show AW Hfaa.prog _ _ _ ⟨[(5, .inr (.inl (5, 0))), (8, .inr (.inl (8, 0))), (7, .inl (big x4))], [(5, pb 181 [is (I8 0), is (Bl false)]), (8, pb 181 [is (I8 x5), is (Bl x6)])]⟩
      have hr : some r = F148_2 N x4 x5 x6 := hr
      refine AW_seq1 ?_
      obtain ⟨hg4, hr⟩ := guard_some hr
      refine AW_draw mixed
        (lrC (LR_move (at_tmp 7 _) rfl)
        (lrC (LR_call Hfaa.func210 rfl rfl (B210 x4 hg4) (all_cons (at_tmp 25 _) all_nil) rfl)
        (lrC (LR_conv (vx := U64 (BitVec.ofNat 64 x4)) (at_tmp 26 _) (conv_I64 Hfaa.underlying30 Hfaa.underlying2 ((BitVec.ofNat 64 x4).toNat : Int)) rfl)
        (lrC (LR_loads (at_tmp 8 _) ag181 sz181 rfl rfl rfl)
        (lrC (LR_assign (at_tmp 27 _) rfl)
        (lrC (LR_store (at_tmp 5 _) (at_tmp 28 _) (cells_agg _) (onC (one_is rfl) (onC (one_is rfl) onN)) sz181 rfl rfl)
        lrN))))))
        (by kernel_rfl)
        (saC (sS (sT1 rfl) sB0 sF0) (saC (sS (sA (sT1 rfl) sT0) sB0 sF0) (saC (sS (sT1 rfl) sB0 sF0) (saC (sS (sT1 rfl) (sB1 rfl) sF0) (saC (sS (sT1 rfl) sB0 sF0) (saC (sS (sA (sT1 rfl) (sT1 rfl)) (sB1 rfl) sF0) saN)))))) ?_
      refine thenN ?_
      refine AW_ret ?_
      obtain rfl := Option.some.inj hr
      exact res2 rfl (rvT rfl) (rvC rfl rfl ag181 sz181 rfl)
/-- exact.cutRest -/
def F149_3 (a0 : Int) (a2_0 : Int) (a2_1 : Bool) (x3 : Bool) : Int × Bool := bif x3 then (0, true) else ((-1), (a0 != 0) || a2_1)
def F149_2 (a0 : Int) (a1 : Int) (a2_0 : Int) (a2_1 : Bool) (x2 : Bool) : Int × Bool := bif x2 then (1, true) else F149_3 a0 a2_0 a2_1 ((w64 (2 * a0)) == a1)
def F149_4 (a0 : Int) (a1 : Int) (a2_0 : Int) (a2_1 : Bool) (x4 : Bool) : Int × Bool := bif x4 then F149_2 a0 a1 a2_0 a2_1 x4 else F149_2 a0 a1 a2_0 a2_1 (((w64 (2 * a0)) == a1) && a2_1)
def F149_1 (a0 : Int) (a1 : Int) (a2_0 : Int) (a2_1 : Bool) (x1 : Bool) : Int × Bool := bif x1 then (a2_0, a2_1) else F149_4 a0 a1 a2_0 a2_1 (decide ((w64 (2 * a0)) > a1))
def F149 (a0 : Int) (a1 : Int) (a2_0 : Int) (a2_1 : Bool) : Int × Bool := F149_1 a0 a1 a2_0 a2_1 (a1 == 1)
theorem C149 (a0 : Int) (a1 : Int) (a2_0 : Int) (a2_1 : Bool) (r : Int × Bool) (hr : r = F149 a0 a1 a2_0 a2_1) : Aw.Fn Hfaa.prog 149 [is (I64 a0), is (I64 a1), agg [is (I8 a2_0), is (Bl a2_1)]] (agg [is (I8 r.1), is (Bl r.2)]) := by
  refine fn_intro Hfaa.func149 rfl rfl rfl ?_
  intro bn0 w0 H0
  refine AW_seq1 ?_
  refine AW_region ?_
  refine AL_cons (LR_box (at_tmp 2 _) (cells_agg _) rfl) (sS (sT1 rfl) sB0 (sF1 rfl)) ?_
  refine AL_cons (zl181 rfl) (sS sT0 sB0 (sF1 rfl)) ?_
  refine AL_nil ?_
  refine thenN ?_
  refine AW_seq1 ?_
  refine AW_block ?_
  refine AW_cut (σ := Bool) (fun v => ⟨[(0, .inl (is (I64 a0))), (1, .inl (is (I64 a1))), (5, .inr (.inl (5, 0))), (6, .inr (.inl (6, 0))), (7, .inl (is (Bl v)))], [(5, pb 181 [is (I8 a2_0), is (Bl a2_1)]), (6, pb 181 [is (I8 0), is (Bl false)])]⟩) (fun v => r = F149_1 a0 a1 a2_0 a2_1 v) ?_ ?_
  · skip
    refine AW_region ?_
    refine AL_cons (LR_move (at_tmp 1 _) rfl) (sS (sT1 rfl) sB0 sF0) ?_
    refine AL_cons (LR_bin (at_tmp 8 _) (at_c (v' := I64 1) rfl) (eql_I64 a1 1) rfl) (sS (sA (sT1 rfl) sT0) sB0 sF0) ?_
    refine AL_cons (LR_assign (at_tmp 9 _) rfl) (sS (sT1 rfl) sB0 sF0) ?_
    refine AL_nil ?_
    exact thenN (cutLeaf (v := a1 == 1) hr (weak0 ((sT rfl (sT rfl (sT rfl (sT rfl (sT rfl sT0)))))) (sub_keep (sub_keep sub_nil))))
  · rintro x1 hr
    show AW Hfaa.prog _ _ _ ⟨[(0, .inl (is (I64 a0))), (1, .inl (is (I64 a1))), (5, .inr (.inl (5, 0))), (6, .inr (.inl (6, 0))), (7, .inl (is (Bl x1)))], [(5, pb 181 [is (I8 a2_0), is (Bl a2_1)]), (6, pb 181 [is (I8 0), is (Bl false)])]⟩
    have hr : r = F149_1 a0 a1 a2_0 a2_1 x1 := hr
    refine AW_condT (b := x1) rfl (fun h => ?_) (fun h => ?_)
    · have hr := hr.trans (cond_t h)
      clear h
      refine AW_seq1 ?_
      refine AW_region ?_
      refine AL_cons (LR_loads (at_tmp 5 _) ag181 sz181 rfl rfl rfl) (sS (sT1 rfl) (sB1 rfl) sF0) ?_
      refine AL_cons (LR_store (at_tmp 6 _) (at_tmp 10 _) (cells_agg _) (onC (one_is rfl) (onC (one_is rfl) onN)) sz181 rfl rfl) (sS (sA (sT1 rfl) (sT1 rfl)) (sB1 rfl) sF0) ?_
      refine AL_nil ?_
      refine thenN ?_
      refine AW_ret ?_
      refine blR ?_
      refine thenR ?_
      subst hr
      exact res1 rfl (rvC rfl rfl ag181 sz181 rfl)
    · have hr := hr.trans (cond_f h)
      clear h
      refine AW_cut (σ := Bool) (fun v => ⟨[(0, .inl (is (I64 a0))), (1, .inl (is (I64 a1))), (5, .inr (.inl (5, 0))), (6, .inr (.inl (6, 0))), (11, .inl (is (Bl v)))], [(5, pb 181 [is (I8 a2_0), is (Bl a2_1)]), (6, pb 181 [is (I8 0), is (Bl false)])]⟩) (fun v => r = F149_2 a0 a1 a2_0 a2_1 v) ?_ ?_
      · skip
        refine AW_cut (σ := Bool) (fun v => ⟨[(0, .inl (is (I64 a0))), (1, .inl (is (I64 a1))), (5, .inr (.inl (5, 0))), (6, .inr (.inl (6, 0))), (11, .inl (is (Bl v)))], [(5, pb 181 [is (I8 a2_0), is (Bl a2_1)]), (6, pb 181 [is (I8 0), is (Bl false)])]⟩) (fun v => r = F149_4 a0 a1 a2_0 a2_1 v) ?_ ?_
        · skip
          refine AW_region ?_
          refine AL_cons (LR_move (at_tmp 0 _) rfl) (sS (sT1 rfl) sB0 sF0) ?_
          refine AL_cons (LR_bin (at_c (v' := I64 2) rfl) (at_tmp 12 _) (mul_I64 2 a0) rfl) (sS (sA sT0 (sT1 rfl)) sB0 sF0) ?_
          refine AL_cons (LR_move (at_tmp 1 _) rfl) (sS (sT1 rfl) sB0 sF0) ?_
          refine AL_cons (LR_bin (at_tmp 13 _) (at_tmp 14 _) (gtr_I64 (w64 (2 * a0)) a1) rfl) (sS (sA (sT1 rfl) (sT1 rfl)) sB0 sF0) ?_
          refine AL_cons (LR_assign (at_tmp 15 _) rfl) (sS (sT1 rfl) sB0 sF0) ?_
          refine AL_nil ?_
          exact thenN (cutLeaf (v := decide ((w64 (2 * a0)) > a1)) hr (weak0 ((sT rfl (sT rfl (sT rfl (sT rfl (sT rfl sT0)))))) (sub_keep (sub_keep sub_nil))))
        · rintro x4 hr
          show AW Hfaa.prog _ _ _ ⟨[(0, .inl (is (I64 a0))), (1, .inl (is (I64 a1))), (5, .inr (.inl (5, 0))), (6, .inr (.inl (6, 0))), (11, .inl (is (Bl x4)))], [(5, pb 181 [is (I8 a2_0), is (Bl a2_1)]), (6, pb 181 [is (I8 0), is (Bl false)])]⟩
          have hr : r = F149_4 a0 a1 a2_0 a2_1 x4 := hr
          refine AW_condT (b := x4) rfl (fun h => ?_) (fun h => ?_)
          · have hr := hr.trans (cond_t h)
            clear h
            refine AW_skip ?_
            exact thenN (cutLeaf (v := x4) hr (weak0 ((sT rfl (sT rfl (sT rfl (sT rfl (sT rfl sT0)))))) (sub_keep (sub_keep sub_nil))))
          · have hr := hr.trans (cond_f h)
            clear h
            refine AW_region ?_
            refine AL_cons (LR_move (at_tmp 0 _) rfl) (sS (sT1 rfl) sB0 sF0) ?_
            refine AL_cons (LR_bin (at_c (v' := I64 2) rfl) (at_tmp 16 _) (mul_I64 2 a0) rfl) (sS (sA sT0 (sT1 rfl)) sB0 sF0) ?_
            refine AL_cons (LR_move (at_tmp 1 _) rfl) (sS (sT1 rfl) sB0 sF0) ?_
            refine AL_cons (LR_bin (at_tmp 17 _) (at_tmp 18 _) (eql_I64 (w64 (2 * a0)) a1) rfl) (sS (sA (sT1 rfl) (sT1 rfl)) sB0 sF0) ?_
            refine AL_cons (LR_move (at_tmp 19 _) rfl) (sS (sT1 rfl) sB0 sF0) ?_
            refine AL_cutAt 3 ⟨[(0, .inl (is (I64 a0))), (1, .inl (is (I64 a1))), (5, .inr (.inl (5, 0))), (6, .inr (.inl (6, 0))), (11, .inl (is (Bl x4))), (16, .inl (is (I64 a0))), (17, .inl (is (I64 (w64 (2 * a0))))), (18, .inl (is (I64 a1))), (19, .inl (is (Bl ((w64 (2 * a0)) == a1)))), (20, .inl (is (Bl ((w64 (2 * a0)) == a1)))), (23, .inl (is (Bl (((w64 (2 * a0)) == a1) && a2_1))))], [(5, pb 181 [is (I8 a2_0), is (Bl a2_1)]), (6, pb 181 [is (I8 0), is (Bl false)])]⟩ ?_ ?_
            · cases hb : (w64 (2 * a0)) == a1
              · skip
                refine AL_cons (LR_off (b := false) rfl rfl rfl rfl) (sS (sT1 rfl) sB0 sF0) ?_
                refine AL_cons (LR_off (b := false) rfl rfl rfl rfl) (sS (sT1 rfl) sB0 sF0) ?_
                refine AL_cons (LR_pick (b := false) (at_tmp 20 _) (at_tmp 22 _) (at_c (v' := Bl false) rfl) rfl) (sS (sA (sT1 rfl) (sA (sT1 rfl) sT0)) sB0 sF0) ?_
                exact AL_nil ⟨rfl, weak0 ((sT rfl (sT rfl (sT rfl (sT rfl (sT rfl (sT rfl (sT rfl (sT rfl (sT rfl (sT rfl (sT rfl sT0)))))))))))) (sub_keep (sub_keep sub_nil))⟩
              · skip
                refine AL_cons (LR_on rfl rfl rfl (LR_fieldAddr (off := 0) (o := 1) (at_tmp 5 _) (fun b w => fa181_1 b 0 w) rfl)) (sS (sT rfl (sT1 rfl)) sB0 sF0) ?_
                refine AL_cons (LR_on rfl rfl rfl (LR_load (at_tmp 21 _) na4 rfl rfl)) (sS (sT rfl (sT1 rfl)) (sB1 rfl) sF0) ?_
                refine AL_cons (LR_pick (b := true) (at_tmp 20 _) (at_tmp 22 _) (at_c (v' := Bl false) rfl) rfl) (sS (sA (sT1 rfl) (sA (sT1 rfl) sT0)) sB0 sF0) ?_
                exact AL_nil ⟨rfl, weak0 ((sT rfl (sT rfl (sT rfl (sT rfl (sT rfl (sT rfl (sT rfl (sT rfl (sT rfl (sT rfl (sT rfl sT0)))))))))))) (sub_keep (sub_keep sub_nil))⟩
            refine AL_cons (LR_assign (at_tmp 23 _) rfl) (sS (sT1 rfl) sB0 sF0) ?_
            refine AL_nil ?_
            exact thenN (cutLeaf (v := ((w64 (2 * a0)) == a1) && a2_1) hr (weak0 ((sT rfl (sT rfl (sT rfl (sT rfl (sT rfl sT0)))))) (sub_keep (sub_keep sub_nil))))
      · rintro x2 hr
        show AW Hfaa.prog _ _ _ ⟨[(0, .inl (is (I64 a0))), (1, .inl (is (I64 a1))), (5, .inr (.inl (5, 0))), (6, .inr (.inl (6, 0))), (11, .inl (is (Bl x2)))], [(5, pb 181 [is (I8 a2_0), is (Bl a2_1)]), (6, pb 181 [is (I8 0), is (Bl false)])]⟩
        have hr : r = F149_2 a0 a1 a2_0 a2_1 x2 := hr
        refine AW_condT (b := x2) rfl (fun h => ?_) (fun h => ?_)
        · have hr := hr.trans (cond_t h)
          clear h
          refine AW_seq1 ?_
          refine AW_region ?_
          refine AL_cons (bl181 (parts_cons (i := 0) (off := 0) (at_c (v' := I8 1) rfl) (cells_one (one_is rfl)) rfl rfl (parts_cons (i := 1) (off := 1) (at_c (v' := Bl true) rfl) (cells_one (one_is rfl)) rfl rfl parts_nil)) rfl rfl) (sS (sA sT0 (sA sT0 sT0)) sB0 sF0) ?_
          refine AL_cons (LR_store (at_tmp 6 _) (at_tmp 24 _) (cells_agg _) (onC (one_is rfl) (onC (one_is rfl) onN)) sz181 rfl rfl) (sS (sA (sT1 rfl) (sT1 rfl)) (sB1 rfl) sF0) ?_
          refine AL_nil ?_
          refine thenN ?_
          refine AW_ret ?_
          refine blR ?_
          refine thenR ?_
          subst hr
          exact res1 rfl (rvC rfl rfl ag181 sz181 rfl)
        · have hr := hr.trans (cond_f h)
          clear h
          refine AW_cut (σ := Bool) (fun v => ⟨[(0, .inl (is (I64 a0))), (5, .inr (.inl (5, 0))), (6, .inr (.inl (6, 0))), (25, .inl (is (Bl v)))], [(5, pb 181 [is (I8 a2_0), is (Bl a2_1)]), (6, pb 181 [is (I8 0), is (Bl false)])]⟩) (fun v => r = F149_3 a0 a2_0 a2_1 v) ?_ ?_
          · skip
            refine AW_region ?_
            refine AL_cons (LR_move (at_tmp 0 _) rfl) (sS (sT1 rfl) sB0 sF0) ?_
            refine AL_cons (LR_bin (at_c (v' := I64 2) rfl) (at_tmp 26 _) (mul_I64 2 a0) rfl) (sS (sA sT0 (sT1 rfl)) sB0 sF0) ?_
            refine AL_cons (LR_move (at_tmp 1 _) rfl) (sS (sT1 rfl) sB0 sF0) ?_
            refine AL_cons (LR_bin (at_tmp 27 _) (at_tmp 28 _) (eql_I64 (w64 (2 * a0)) a1) rfl) (sS (sA (sT1 rfl) (sT1 rfl)) sB0 sF0) ?_
            refine AL_cons (LR_assign (at_tmp 29 _) rfl) (sS (sT1 rfl) sB0 sF0) ?_
            refine AL_nil ?_
            exact thenN (cutLeaf (v := (w64 (2 * a0)) == a1) hr (weak0 ((sT rfl (sT rfl (sT rfl (sT rfl sT0))))) (sub_keep (sub_keep sub_nil))))
          · rintro x3 hr
            show AW Hfaa.prog _ _ _ ⟨[(0, .inl (is (I64 a0))), (5, .inr (.inl (5, 0))), (6, .inr (.inl (6, 0))), (25, .inl (is (Bl x3)))], [(5, pb 181 [is (I8 a2_0), is (Bl a2_1)]), (6, pb 181 [is (I8 0), is (Bl false)])]⟩
            have hr : r = F149_3 a0 a2_0 a2_1 x3 := hr
            refine AW_condT (b := x3) rfl (fun h => ?_) (fun h => ?_)
            · have hr := hr.trans (cond_t h)
              clear h
              refine AW_seq1 ?_
              refine AW_region ?_
              refine AL_cons (bl181 (parts_cons (i := 0) (off := 0) (at_c (v' := I8 0) rfl) (cells_one (one_is rfl)) rfl rfl (parts_cons (i := 1) (off := 1) (at_c (v' := Bl true) rfl) (cells_one (one_is rfl)) rfl rfl parts_nil)) rfl rfl) (sS (sA sT0 (sA sT0 sT0)) sB0 sF0) ?_
              refine AL_cons (LR_store (at_tmp 6 _) (at_tmp 30 _) (cells_agg _) (onC (one_is rfl) (onC (one_is rfl) onN)) sz181 rfl rfl) (sS (sA (sT1 rfl) (sT1 rfl)) (sB1 rfl) sF0) ?_
              refine AL_nil ?_
              refine thenN ?_
              refine AW_ret ?_
              refine blR ?_
              refine thenR ?_
              subst hr
              exact res1 rfl (rvC rfl rfl ag181 sz181 rfl)
            · have hr := hr.trans (cond_f h)
              clear h
              refine AW_skip ?_
              refine blN ?_
              refine thenN ?_
              refine AW_seq1 ?_
              refine AW_region ?_
              refine AL_cons (LR_move (at_tmp 0 _) rfl) (sS (sT1 rfl) sB0 sF0) ?_
              refine AL_cons (LR_bin (at_tmp 31 _) (at_c (v' := I64 0) rfl) (neq_I64 a0 0) rfl) (sS (sA (sT1 rfl) sT0) sB0 sF0) ?_
              refine AL_cons (LR_move (at_tmp 32 _) rfl) (sS (sT1 rfl) sB0 sF0) ?_
              refine AL_cutAt 3 ⟨[(0, .inl (is (I64 a0))), (5, .inr (.inl (5, 0))), (6, .inr (.inl (6, 0))), (25, .inl (is (Bl x3))), (31, .inl (is (I64 a0))), (32, .inl (is (Bl (a0 != 0)))), (33, .inl (is (Bl (a0 != 0)))), (36, .inl (is (Bl ((a0 != 0) || a2_1))))], [(5, pb 181 [is (I8 a2_0), is (Bl a2_1)]), (6, pb 181 [is (I8 0), is (Bl false)])]⟩ ?_ ?_
              · cases hb : a0 != 0
                · skip
                  refine AL_cons (LR_on rfl rfl rfl (LR_fieldAddr (off := 0) (o := 1) (at_tmp 5 _) (fun b w => fa181_1 b 0 w) rfl)) (sS (sT rfl (sT1 rfl)) sB0 sF0) ?_
                  refine AL_cons (LR_on rfl rfl rfl (LR_load (at_tmp 34 _) na4 rfl rfl)) (sS (sT rfl (sT1 rfl)) (sB1 rfl) sF0) ?_
                  refine AL_cons (LR_pick (b := false) (at_tmp 33 _) (at_c (v' := Bl true) rfl) (at_tmp 35 _) rfl) (sS (sA (sT1 rfl) (sA sT0 (sT1 rfl))) sB0 sF0) ?_
                  exact AL_nil ⟨rfl, weak0 ((sT rfl (sT rfl (sT rfl (sT rfl (sT rfl (sT rfl (sT rfl (sT rfl sT0))))))))) (sub_keep (sub_keep sub_nil))⟩
                · skip
                  refine AL_cons (LR_off (b := true) rfl rfl rfl rfl) (sS (sT1 rfl) sB0 sF0) ?_
                  refine AL_cons (LR_off (b := true) rfl rfl rfl rfl) (sS (sT1 rfl) sB0 sF0) ?_
                  refine AL_cons (LR_pick (b := true) (at_tmp 33 _) (at_c (v' := Bl true) rfl) (at_tmp 35 _) rfl) (sS (sA (sT1 rfl) (sA sT0 (sT1 rfl))) sB0 sF0) ?_
                  exact AL_nil ⟨rfl, weak0 ((sT rfl (sT rfl (sT rfl (sT rfl (sT rfl (sT rfl (sT rfl (sT rfl sT0))))))))) (sub_keep (sub_keep sub_nil))⟩
              refine AL_cons (bl181 (parts_cons (i := 0) (off := 0) (at_c (v' := I8 (-1)) rfl) (cells_one (one_is rfl)) rfl rfl (parts_cons (i := 1) (off := 1) (at_tmp 36 _) (cells_one (one_is rfl)) rfl rfl parts_nil)) rfl rfl) (sS (sA sT0 (sA (sT1 rfl) sT0)) sB0 sF0) ?_
              refine AL_cons (LR_store (at_tmp 6 _) (at_tmp 37 _) (cells_agg _) (onC (one_is rfl) (onC (one_is rfl) onN)) sz181 rfl rfl) (sS (sA (sT1 rfl) (sT1 rfl)) (sB1 rfl) sF0) ?_
              refine AL_nil ?_
              refine thenN ?_
              refine AW_ret ?_
              subst hr
              exact res1 rfl (rvC rfl rfl ag181 sz181 rfl)
/-- exact.candidate -/
def F150_2 (N : Nat) (x2 : Bool) (x3 : List UInt8) (x4 : Int) (x5 : Bool) : Option (Bool × List UInt8 × Int × Bool) := some (x2, x3, x4, x5)
def F150_1 (N : Nat) (a0_0 : BitVec 8) (a0_1 : BitVec 8) (a1_0 : BitVec 64) (a1_1 : Bool) (a1_2 : Int) (a1_3 : Bool) (a1_4 : Nat) (a1_5 : Nat) (x1 : Bool) (x2 : Bool) (x3 : List UInt8) (x4 : Int) : Option (Bool × List UInt8 × Int × Bool) := bif x1 then (F77 N a0_0 a0_1 (0#8) x2 x3 x4).bind fun y4 => F150_2 N x2 x3 x4 (y4 == a1_0) else F150_2 N x2 x3 x4 false
def F150 (N : Nat) (a0_0 : BitVec 8) (a0_1 : BitVec 8) (a1_0 : BitVec 64) (a1_1 : Bool) (a1_2 : Int) (a1_3 : Bool) (a1_4 : Nat) (a1_5 : Nat) (a2 : Int) (a3 : Int) : Option (Bool × List UInt8 × Int × Bool) := (F170 N a2).bind fun y5 => (F39 N a1_1 y5 a3).bind fun y6 => F150_1 N a0_0 a0_1 a1_0 a1_1 a1_2 a1_3 a1_4 a1_5 y6.2.2.2 y6.1 y6.2.1 y6.2.2.1
theorem C150 (N : Nat) (a0_0 : BitVec 8) (a0_1 : BitVec 8) (a1_0 : BitVec 64) (a1_1 : Bool) (a1_2 : Int) (a1_3 : Bool) (a1_4 : Nat) (a1_5 : Nat) (a2 : Int) (a3 : Int) (r : Bool × List UInt8 × Int × Bool) (hr : some r = F150 N a0_0 a0_1 a1_0 a1_1 a1_2 a1_3 a1_4 a1_5 a2 a3) : Aw.Fn Hfaa.prog 150 [agg [is (U8 a0_0), is (U8 a0_1)], agg [is (U64 a1_0), is (Bl a1_1), is (I8 a1_2), is (Bl a1_3), big a1_4, big a1_5], is (I64 a2), is (I64 a3)] (tup [agg [is (Bl r.1), is (Sv r.2.1), is (I16 r.2.2.1)], is (Bl r.2.2.2)]) := by
  refine fn_intro Hfaa.func150 rfl rfl rfl ?_
  intro bn0 w0 H0
  refine AW_seq1 ?_
  refine AW_region ?_
  refine AL_cons (LR_box (at_tmp 0 _) (cells_agg _) rfl) (sS (sT1 rfl) sB0 (sF1 rfl)) ?_
  refine AL_cons (LR_box (at_tmp 1 _) (cells_agg _) rfl) (sS (sT1 rfl) sB0 (sF1 rfl)) ?_
  refine AL_cons (zl76 rfl) (sS sT0 sB0 (sF1 rfl)) ?_
  refine AL_cons (LR_assign (at_c (v' := Bl false) rfl) rfl) (sS sT0 sB0 sF0) ?_
  refine AL_nil ?_
  refine thenN ?_
  refine AW_cut (σ := Bool × Bool × List UInt8 × Int) (fun v => ⟨[(4, .inr (.inl (4, 0))), (5, .inr (.inl (5, 0))), (8, .inr (.inl (8, 0))), (10, .inr (.inl (10, 0))), (11, .inl (is (Bl v.1)))], [(4, pb 23 [is (U8 a0_0), is (U8 a0_1)]), (5, pb 175 [is (U64 a1_0), is (Bl a1_1), is (I8 a1_2), is (Bl a1_3), big a1_4, big a1_5]), (8, pb 76 [is (Bl false), is (Sv ([] : List UInt8)), is (I16 0)]), (10, pb 76 [is (Bl v.2.1), is (Sv v.2.2.1), is (I16 v.2.2.2)])]⟩) (fun v => some r = F150_1 N a0_0 a0_1 a1_0 a1_1 a1_2 a1_3 a1_4 a1_5 v.1 v.2.1 v.2.2.1 v.2.2.2) ?_ ?_
  · skip
    obtain ⟨y5, hy5, hr⟩ := bind_some hr
    obtain ⟨y6, hy6, hr⟩ := bind_some hr
    refine AW_draw mixed
      (lrC (LR_fieldAddr (off := 0) (o := 1) (at_tmp 5 _) (fun b w => fa175_1 b 0 w) rfl)
      (lrC (LR_load (at_tmp 13 _) na4 rfl rfl)
      (lrC (LR_move (at_tmp 2 _) rfl)
      (lrC (LR_call Hfaa.func170 rfl rfl (C170 N a2 y5 hy5) (all_cons (at_tmp 15 _) all_nil) rfl)
      (lrC (LR_move (at_tmp 3 _) rfl)
      (lrC (LR_call Hfaa.func39 rfl rfl (C39 N a1_1 y5 a3 y6 hy6) (all_cons (at_tmp 14 _) (all_cons (at_tmp 16 _) (all_cons (at_tmp 17 _) all_nil))) rfl)
      (lrC (LR_move (at_tmp 18 _) rfl)
      (lrC (LR_extract (at_tmp 12 _) rfl rfl)
      (lrC (LR_extract (at_tmp 12 _) rfl rfl)
      (lrC (zl76 rfl)
      (lrC (LR_store (at_tmp 10 _) (at_tmp 19 _) (cells_agg _) (onC (one_is rfl) (onC (one_is rfl) (onC (one_is rfl) onN))) sz76 rfl rfl)
      (lrC (LR_assign (at_tmp 20 _) rfl)
      lrN))))))))))))
      (by kernel_rfl)
      (saC (sS (sT1 rfl) sB0 sF0) (saC (sS (sT1 rfl) (sB1 rfl) sF0) (saC (sS (sT1 rfl) sB0 sF0) (saC (sS (sA (sT1 rfl) sT0) sB0 sF0) (saC (sS (sT1 rfl) sB0 sF0) (saC (sS (sA (sT1 rfl) (sA (sT1 rfl) (sA (sT1 rfl) sT0))) sB0 sF0) (saC (sS (sT1 rfl) sB0 sF0) (saC (sS (sT1 rfl) sB0 sF0) (saC (sS (sT1 rfl) sB0 sF0) (saC (sS sT0 sB0 (sF1 rfl)) (saC (sS (sA (sT1 rfl) (sT1 rfl)) (sB1 rfl) sF0) (saC (sS (sT1 rfl) sB0 sF0) saN)))))))))))) ?_
    exact thenN (cutLeaf (v := (y6.2.2.2, y6.1, y6.2.1, y6.2.2.1)) hr (weak0 ((sT rfl (sT rfl (sT rfl (sT rfl (sT rfl sT0)))))) (sub_keep (sub_keep (sub_keep (sub_keep sub_nil))))))
  · rintro ⟨x1, x2, x3, x4⟩ hr
    show AW Hfaa.prog _ _ _ ⟨[(4, .inr (.inl (4, 0))), (5, .inr (.inl (5, 0))), (8, .inr (.inl (8, 0))), (10, .inr (.inl (10, 0))), (11, .inl (is (Bl x1)))], [(4, pb 23 [is (U8 a0_0), is (U8 a0_1)]), (5, pb 175 [is (U64 a1_0), is (Bl a1_1), is (I8 a1_2), is (Bl a1_3), big a1_4, big a1_5]), (8, pb 76 [is (Bl false), is (Sv ([] : List UInt8)), is (I16 0)]), (10, pb 76 [is (Bl x2), is (Sv x3), is (I16 x4)])]⟩
    have hr : some r = F150_1 N a0_0 a0_1 a1_0 a1_1 a1_2 a1_3 a1_4 a1_5 x1 x2 x3 x4 := hr
    refine AW_cut (σ := Bool) (fun v => ⟨[(8, .inr (.inl (8, 0))), (9, .inl (is (Bl v)))], [(8, pb 76 [is (Bl x2), is (Sv x3), is (I16 x4)])]⟩) (fun v => some r = F150_2 N x2 x3 x4 v) ?_ ?_
    · skip
      rcases bool_em x1 with hb2 | hb2
      · have hr := hr.trans (cond_f hb2)
        refine AW_draw mixed
          (lrC (LR_loads (at_tmp 10 _) ag76 sz76 rfl rfl rfl)
          (lrC (LR_asB (LR_move (at_tmp 11 _) rfl) hb2)
          (lrC (LR_move (at_tmp 22 _) rfl)
          (lrC (LR_off (b := false) rfl rfl rfl rfl)
          (lrC (LR_off (b := false) rfl rfl rfl rfl)
          (lrC (LR_off (b := false) rfl rfl rfl rfl)
          (lrC (LR_off (b := false) rfl rfl rfl rfl)
          (lrC (LR_off (b := false) rfl rfl rfl rfl)
          (lrC (LR_off (b := false) rfl rfl rfl rfl)
          (lrC (LR_pick (b := false) (at_tmp 23 _) (at_tmp 29 _) (at_c (v' := Bl false) rfl) rfl)
          (lrC (LR_store (at_tmp 8 _) (at_tmp 21 _) (cells_agg _) (onC (one_is rfl) (onC (one_is rfl) (onC (one_is rfl) onN))) sz76 rfl rfl)
          (lrC (LR_assign (at_tmp 30 _) rfl)
          lrN))))))))))))
          (by kernel_rfl)
          (saC (sS (sT1 rfl) (sB1 rfl) sF0) (saC (sS (sT1 rfl) sB0 sF0) (saC (sS (sT1 rfl) sB0 sF0) (saC (sS (sT1 rfl) sB0 sF0) (saC (sS (sT1 rfl) sB0 sF0) (saC (sS (sT1 rfl) sB0 sF0) (saC (sS (sT1 rfl) sB0 sF0) (saC (sS (sT1 rfl) sB0 sF0) (saC (sS (sT1 rfl) sB0 sF0) (saC (sS (sA (sT1 rfl) (sA (sT1 rfl) sT0)) sB0 sF0) (saC (sS (sA (sT1 rfl) (sT1 rfl)) (sB1 rfl) sF0) (saC (sS (sT1 rfl) sB0 sF0) saN)))))))))))) ?_
        exact thenN (cutLeaf (v := false) hr (weak0 ((sT rfl (sT rfl sT0))) (sub_drop (sub_drop (sub_keep (sub_drop sub_nil))))))
      · have hr := hr.trans (cond_t hb2)
        obtain ⟨y4, hy4, hr⟩ := bind_some hr
        refine AW_draw mixed
          (lrC (LR_loads (at_tmp 10 _) ag76 sz76 rfl rfl rfl)
          (lrC (LR_asB (LR_move (at_tmp 11 _) rfl) hb2)
          (lrC (LR_move (at_tmp 22 _) rfl)
          (lrC (LR_on rfl rfl rfl (LR_loads (at_tmp 4 _) ag23 sz23 rfl rfl rfl))
          (lrC (LR_on rfl rfl rfl (LR_loads (at_tmp 10 _) ag76 sz76 rfl rfl rfl))
          (lrC (LR_on rfl rfl rfl (LR_call Hfaa.func77 rfl rfl (C77 N a0_0 a0_1 (0#8) x2 x3 x4 y4 hy4) (all_cons (at_tmp 24 _) (all_cons (at_c (v' := U8 (0#8)) rfl) (all_cons (at_tmp 25 _) all_nil))) rfl))
          (lrC (LR_on rfl rfl rfl (LR_fieldAddr (off := 0) (o := 0) (at_tmp 5 _) (fun b w => fa175_0 b 0 w) rfl))
          (lrC (LR_on rfl rfl rfl (LR_load (at_tmp 27 _) na30 rfl rfl))
          (lrC (LR_on rfl rfl rfl (LR_bin (at_tmp 26 _) (at_tmp 28 _) (eql_U64 y4 a1_0) rfl))
          (lrC (LR_pick (b := true) (at_tmp 23 _) (at_tmp 29 _) (at_c (v' := Bl false) rfl) rfl)
          (lrC (LR_store (at_tmp 8 _) (at_tmp 21 _) (cells_agg _) (onC (one_is rfl) (onC (one_is rfl) (onC (one_is rfl) onN))) sz76 rfl rfl)
          (lrC (LR_assign (at_tmp 30 _) rfl)
          lrN))))))))))))
          (by kernel_rfl)
          (saC (sS (sT1 rfl) (sB1 rfl) sF0) (saC (sS (sT1 rfl) sB0 sF0) (saC (sS (sT1 rfl) sB0 sF0) (saC (sS (sT rfl (sT1 rfl)) (sB1 rfl) sF0) (saC (sS (sT rfl (sT1 rfl)) (sB1 rfl) sF0) (saC (sS (sT rfl (sA (sT1 rfl) (sA sT0 (sA (sT1 rfl) sT0)))) sB0 sF0) (saC (sS (sT rfl (sT1 rfl)) sB0 sF0) (saC (sS (sT rfl (sT1 rfl)) (sB1 rfl) sF0) (saC (sS (sT rfl (sA (sT1 rfl) (sT1 rfl))) sB0 sF0) (saC (sS (sA (sT1 rfl) (sA (sT1 rfl) sT0)) sB0 sF0) (saC (sS (sA (sT1 rfl) (sT1 rfl)) (sB1 rfl) sF0) (saC (sS (sT1 rfl) sB0 sF0) saN)))))))))))) ?_
        exact thenN (cutLeaf (v := y4 == a1_0) hr (weak0 ((sT rfl (sT rfl sT0))) (sub_drop (sub_drop (sub_keep (sub_drop sub_nil))))))
    · rintro x5 hr
      show AW Hfaa.prog _ _ _ ⟨[(8, .inr (.inl (8, 0))), (9, .inl (is (Bl x5)))], [(8, pb 76 [is (Bl x2), is (Sv x3), is (I16 x4)])]⟩
      have hr : some r = F150_2 N x2 x3 x4 x5 := hr
      refine AW_ret ?_
      obtain rfl := Option.some.inj hr
      exact res2 rfl (rvC rfl rfl ag76 sz76 rfl) (rvT rfl)
/-- exact.Shortest -/
def F82_9 (N : Nat) (a0_0 : BitVec 8) (a0_1 : BitVec 8) (x2 : BitVec 64) (x3 : Bool) (x4 : Int) (x5 : Bool) (x6 : Nat) (x7 : Nat) (x10 : Int) (x11 : Int) (x12 : Int) (x13 : Bool) (x15 : Int) (x17 : Int) : Option ((Int × Int) ⊕ (Bool × List UInt8 × Int)) := some (.inl ((x17, w64 (x15 + 1))))
def F82_16 (N : Nat) (x24 : Bool) (x25 : List UInt8) (x26 : Int) (x28 : Bool) (x29 : List UInt8) (x30 : Int) (x32 : Bool) : Option ((Int × Int) ⊕ (Bool × List UInt8 × Int)) := bif x32 then (some (x24, x25, x26)).map Sum.inr else (some (x28, x29, x30)).map Sum.inr
def F82_15 (N : Nat) (a0_0 : BitVec 8) (a0_1 : BitVec 8) (x2 : BitVec 64) (x3 : Bool) (x4 : Int) (x5 : Bool) (x6 : Nat) (x7 : Nat) (x10 : Int) (x11 : Int) (x12 : Int) (x13 : Bool) (x15 : Int) (x19 : Int) (x20 : Int) (x21 : Bool) (x22 : Int) (x23 : Bool) (x24 : Bool) (x25 : List UInt8) (x26 : Int) (x27 : Bool) (x28 : Bool) (x29 : List UInt8) (x30 : Int) (x31 : Bool) : Option ((Int × Int) ⊕ (Bool × List UInt8 × Int)) := bif x31 then F82_16 N x24 x25 x26 x28 x29 x30 ((decide (x20 < 0)) || ((x20 == 0) && ((x19.tmod 2) == 0))) else bif x23 then (some (x24, x25, x26)).map Sum.inr else bif x27 then (some (x28, x29, x30)).map Sum.inr else F82_9 N a0_0 a0_1 x2 x3 x4 x5 x6 x7 x10 x11 x12 x13 x15 x22
def F82_14 (N : Nat) (a0_0 : BitVec 8) (a0_1 : BitVec 8) (x2 : BitVec 64) (x3 : Bool) (x4 : Int) (x5 : Bool) (x6 : Nat) (x7 : Nat) (x10 : Int) (x11 : Int) (x12 : Int) (x13 : Bool) (x15 : Int) (x19 : Int) (x20 : Int) (x21 : Bool) (x22 : Int) (x23 : Bool) (x24 : Bool) (x25 : List UInt8) (x26 : Int) (x27 : Bool) (x28 : Bool) (x29 : List UInt8) (x30 : Int) : Option ((Int × Int) ⊕ (Bool × List UInt8 × Int)) := F82_15 N a0_0 a0_1 x2 x3 x4 x5 x6 x7 x10 x11 x12 x13 x15 x19 x20 x21 x22 x23 x24 x25 x26 x27 x28 x29 x30 (x23 && x27)
def F82_13 (N : Nat) (a0_0 : BitVec 8) (a0_1 : BitVec 8) (x2 : BitVec 64) (x3 : Bool) (x4 : Int) (x5 : Bool) (x6 : Nat) (x7 : Nat) (x10 : Int) (x11 : Int) (x12 : Int) (x13 : Bool) (x15 : Int) (x18 : Int) (x19 : Int) (x20 : Int) (x21 : Bool) (x22 : Int) (x23 : Bool) (x24 : Bool) (x25 : List UInt8) (x26 : Int) : Option ((Int × Int) ⊕ (Bool × List UInt8 × Int)) := (F150 N a0_0 a0_1 x2 x3 x4 x5 x6 x7 (w64 (x19 + 1)) x18).bind fun y52 => F82_14 N a0_0 a0_1 x2 x3 x4 x5 x6 x7 x10 x11 x12 x13 x15 x19 x20 x21 x22 x23 x24 x25 x26 y52.2.2.2 y52.1 y52.2.1 y52.2.2.1
def F82_12 (N : Nat) (a0_0 : BitVec 8) (a0_1 : BitVec 8) (x2 : BitVec 64) (x3 : Bool) (x4 : Int) (x5 : Bool) (x6 : Nat) (x7 : Nat) (x10 : Int) (x11 : Int) (x12 : Int) (x13 : Bool) (x15 : Int) (x18 : Int) (x19 : Int) (x20 : Int) (x21 : Bool) (x22 : Int) : Option ((Int × Int) ⊕ (Bool × List UInt8 × Int)) := (F150 N a0_0 a0_1 x2 x3 x4 x5 x6 x7 x19 x18).bind fun y53 => F82_13 N a0_0 a0_1 x2 x3 x4 x5 x6 x7 x10 x11 x12 x13 x15 x18 x19 x20 x21 x22 y53.2.2.2 y53.1 y53.2.1 y53.2.2.1
def F82_11 (N : Nat) (a0_0 : BitVec 8) (a0_1 : BitVec 8) (x2 : BitVec 64) (x3 : Bool) (x4 : Int) (x5 : Bool) (x6 : Nat) (x7 : Nat) (x10 : Int) (x11 : Int) (x12 : Int) (x13 : Bool) (x14 : Int) (x15 : Int) (x18 : Int) (x19 : Int) (x20 : Int) (x21 : Bool) : Option ((Int × Int) ⊕ (Bool × List UInt8 × Int)) := F82_12 N a0_0 a0_1 x2 x3 x4 x5 x6 x7 x10 x11 x12 x13 x15 x18 x19 x20 x21 (w64 (x14.tdiv 10))
def F82_10 (N : Nat) (a0_0 : BitVec 8) (a0_1 : BitVec 8) (x2 : BitVec 64) (x3 : Bool) (x4 : Int) (x5 : Bool) (x6 : Nat) (x7 : Nat) (x10 : Int) (x11 : Int) (x12 : Int) (x13 : Bool) (x14 : Int) (x15 : Int) (x18 : Int) : Option ((Int × Int) ⊕ (Bool × List UInt8 × Int)) := bif decide (0 < x14) then bif decide (0 < x14) then lt (F149 (x11.tmod x14) x14 x12 x13) fun y54 => F82_11 N a0_0 a0_1 x2 x3 x4 x5 x6 x7 x10 x11 x12 x13 x14 x15 x18 (w64 (x11.tdiv x14)) y54.1 y54.2 else none else none
def F82_8 (N : Nat) (a0_0 : BitVec 8) (a0_1 : BitVec 8) (x2 : BitVec 64) (x3 : Bool) (x4 : Int) (x5 : Bool) (x6 : Nat) (x7 : Nat) (x10 : Int) (x11 : Int) (x12 : Int) (x13 : Bool) (x14 : Int) (x15 : Int) (x16 : Bool) : Option ((Int × Int) ⊕ (Bool × List UInt8 × Int)) := bif x16 then F82_10 N a0_0 a0_1 x2 x3 x4 x5 x6 x7 x10 x11 x12 x13 x14 x15 (w64 ((w64 (x10 - x15)) + 1)) else (some ((false, ([] : List UInt8), 0))).map Sum.inr
def F82_L7b (N : Nat) (a0_0 : BitVec 8) (a0_1 : BitVec 8) (x2 : BitVec 64) (x3 : Bool) (x4 : Int) (x5 : Bool) (x6 : Nat) (x7 : Nat) (x10 : Int) (x11 : Int) (x12 : Int) (x13 : Bool) (x14 : Int) (x15 : Int) : Option ((Int × Int) ⊕ (Bool × List UInt8 × Int)) := F82_8 N a0_0 a0_1 x2 x3 x4 x5 x6 x7 x10 x11 x12 x13 x14 x15 (decide (x15 ≤ 17))
def F82_L7 (N : Nat) (a0_0 : BitVec 8) (a0_1 : BitVec 8) (x2 : BitVec 64) (x3 : Bool) (x4 : Int) (x5 : Bool) (x6 : Nat) (x7 : Nat) (x10 : Int) (x11 : Int) (x12 : Int) (x13 : Bool) : (Int × Int) → Option ((Int × Int) ⊕ (Bool × List UInt8 × Int)) := fun v => F82_L7b N a0_0 a0_1 x2 x3 x4 x5 x6 x7 x10 x11 x12 x13 v.1 v.2
def F82_6 (N : Nat) (a0_0 : BitVec 8) (a0_1 : BitVec 8) (x2 : BitVec 64) (x3 : Bool) (x4 : Int) (x5 : Bool) (x6 : Nat) (x7 : Nat) (x10 : Int) (x11 : Int) (x12 : Int) (x13 : Bool) : Option (Bool × List UInt8 × Int) := iterL (F82_L7 N a0_0 a0_1 x2 x3 x4 x5 x6 x7 x10 x11 x12 x13) N (10000000000000000, 1)
def F82_5 (N : Nat) (a0_0 : BitVec 8) (a0_1 : BitVec 8) (x2 : BitVec 64) (x3 : Bool) (x4 : Int) (x5 : Bool) (x6 : Nat) (x7 : Nat) (x10 : Int) : Option (Bool × List UInt8 × Int) := (F148 N x5 x6 x7 (w64 (x10 - 16))).bind fun y55 => F82_6 N a0_0 a0_1 x2 x3 x4 x5 x6 x7 x10 y55.1 y55.2.1 y55.2.2
def F82_4 (N : Nat) (a0_0 : BitVec 8) (a0_1 : BitVec 8) (x2 : BitVec 64) (x3 : Bool) (x4 : Int) (x5 : Bool) (x6 : Nat) (x7 : Nat) (x9 : Bool) : Option (Bool × List UInt8 × Int) := bif x9 then some ((false, ([] : List UInt8), 0)) else (F147 N x5 x6 x7).bind fun y56 => F82_5 N a0_0 a0_1 x2 x3 x4 x5 x6 x7 y56
def F82_17 (N : Nat) (a0_0 : BitVec 8) (a0_1 : BitVec 8) (x2 : BitVec 64) (x3 : Bool) (x4 : Int) (x5 : Bool) (x6 : Nat) (x7 : Nat) (x33 : Bool) : Option (Bool × List UInt8 × Int) := bif x33 then F82_4 N a0_0 a0_1 x2 x3 x4 x5 x6 x7 x33 else F82_4 N a0_0 a0_1 x2 x3 x4 x5 x6 x7 (x4 == 4)
def F82_3 (N : Nat) (a0_0 : BitVec 8) (a0_1 : BitVec 8) (x2 : BitVec 64) (x3 : Bool) (x4 : Int) (x5 : Bool) (x6 : Nat) (x7 : Nat) (x8 : Bool) : Option (Bool × List UInt8 × Int) := bif x8 then some ((x3, ([] : List UInt8), 0)) else F82_17 N a0_0 a0_1 x2 x3 x4 x5 x6 x7 (x4 == 3)
def F82_2 (N : Nat) (a0_0 : BitVec 8) (a0_1 : BitVec 8) (x2 : BitVec 64) (x3 : Bool) (x4 : Int) (x5 : Bool) (x6 : Nat) (x7 : Nat) : Option (Bool × List UInt8 × Int) := F82_3 N a0_0 a0_1 x2 x3 x4 x5 x6 x7 (x4 == 0)
def F82_1 (N : Nat) (a0_0 : BitVec 8) (a0_1 : BitVec 8) (a1 : BitVec 64) (x1 : Bool) : Option (Bool × List UInt8 × Int) := bif x1 then some ((false, ([] : List UInt8), 0)) else (F144 N a0_0 a0_1 a1).bind fun y57 => F82_2 N a0_0 a0_1 y57.1 y57.2.1 y57.2.2.1 y57.2.2.2.1 y57.2.2.2.2.1 y57.2.2.2.2.2
def F82 (N : Nat) (a0_0 : BitVec 8) (a0_1 : BitVec 8) (a1 : BitVec 64) : Option (Bool × List UInt8 × Int) := lt (F40 a0_0 a0_1) fun y58 => F82_1 N a0_0 a0_1 a1 (!y58)
theorem C82 (N : Nat) (a0_0 : BitVec 8) (a0_1 : BitVec 8) (a1 : BitVec 64) (r : Bool × List UInt8 × Int) (hr : some r = F82 N a0_0 a0_1 a1) : Aw.Fn Hfaa.prog 82 [agg [is (U8 a0_0), is (U8 a0_1)], is (U64 a1)] (agg [is (Bl r.1), is (Sv r.2.1), is (I16 r.2.2)]) := by
  refine fn_intro Hfaa.func82 rfl rfl rfl ?_
  intro bn0 w0 H0
  refine AW_seq1 ?_
  refine AW_region ?_
  refine AL_cons (LR_box (at_tmp 0 _) (cells_agg _) rfl) (sS (sT1 rfl) sB0 (sF1 rfl)) ?_
  refine AL_cons (zl76 rfl) (sS sT0 sB0 (sF1 rfl)) ?_
  refine AL_nil ?_
  refine thenN ?_
  refine AW_seq1 ?_
  refine AW_cut (σ := Bool) (fun v => ⟨[(1, .inl (is (U64 a1))), (2, .inr (.inl (2, 0))), (4, .inr (.inl (4, 0))), (20, .inl (is (Bl v)))], [(2, pb 23 [is (U8 a0_0), is (U8 a0_1)]), (4, pb 76 [is (Bl false), is (Sv ([] : List UInt8)), is (I16 0)])]⟩) (fun v => some r = F82_1 N a0_0 a0_1 a1 v) ?_ ?_
  · skip
    refine AW_region ?_
    refine AL_cons (LR_loads (at_tmp 2 _) ag23 sz23 rfl rfl rfl) (sS (sT1 rfl) (sB1 rfl) sF0) ?_
    obtain ⟨y58, hy58, hr⟩ := lt_some hr
    refine AL_cons (LR_call Hfaa.func40 rfl rfl (C40 a0_0 a0_1 y58 hy58) (all_cons (at_tmp 18 _) all_nil) rfl) (sS (sA (sT1 rfl) sT0) sB0 sF0) ?_
    refine AL_cons (LR_un (at_tmp 19 _) (not_Bl y58) rfl) (sS (sT1 rfl) sB0 sF0) ?_
    refine AL_nil ?_
    exact thenN (cutLeaf (v := !y58) hr (weak0 ((sT rfl (sT rfl (sT rfl (sT rfl sT0))))) (sub_keep (sub_keep sub_nil))))
  · rintro x1 hr
    show AW Hfaa.prog _ _ _ ⟨[(1, .inl (is (U64 a1))), (2, .inr (.inl (2, 0))), (4, .inr (.inl (4, 0))), (20, .inl (is (Bl x1)))], [(2, pb 23 [is (U8 a0_0), is (U8 a0_1)]), (4, pb 76 [is (Bl false), is (Sv ([] : List UInt8)), is (I16 0)])]⟩
    have hr : some r = F82_1 N a0_0 a0_1 a1 x1 := hr
    refine AW_condT (b := x1) rfl (fun h => ?_) (fun h => ?_)
    · have hr := hr.trans (cond_t h)
      clear h
      refine AW_seq1 ?_
      refine AW_region ?_
      refine AL_cons (bl76 parts_nil rfl rfl) (sS sT0 sB0 sF0) ?_
      refine AL_cons (LR_store (at_tmp 4 _) (at_tmp 21 _) (cells_agg _) (onC (one_is rfl) (onC (one_is rfl) (onC (one_is rfl) onN))) sz76 rfl rfl) (sS (sA (sT1 rfl) (sT1 rfl)) (sB1 rfl) sF0) ?_
      refine AL_nil ?_
      refine thenN ?_
      refine AW_ret ?_
      refine thenR ?_
      obtain rfl := Option.some.inj hr
      exact res1 rfl (rvC rfl rfl ag76 sz76 rfl)
    · have hr := hr.trans (cond_f h)
      clear h
      refine AW_skip ?_
      refine thenN ?_
      refine AW_cut (σ := BitVec 64 × Bool × Int × Bool × Nat × Nat) (fun v => ⟨[(2, .inr (.inl (2, 0))), (4, .inr (.inl (4, 0))), (5, .inr (.inl (5, 0)))], [(2, pb 23 [is (U8 a0_0), is (U8 a0_1)]), (4, pb 76 [is (Bl false), is (Sv ([] : List UInt8)), is (I16 0)]), (5, pb 175 [is (U64 v.1), is (Bl v.2.1), is (I8 v.2.2.1), is (Bl v.2.2.2.1), big v.2.2.2.2.1, big v.2.2.2.2.2])]⟩) (fun v => some r = F82_2 N a0_0 a0_1 v.1 v.2.1 v.2.2.1 v.2.2.2.1 v.2.2.2.2.1 v.2.2.2.2.2) ?_ ?_
      · skip
        refine AW_region ?_
        refine AL_cons (LR_loads (at_tmp 2 _) ag23 sz23 rfl rfl rfl) (sS (sT1 rfl) (sB1 rfl) sF0) ?_
        refine AL_cons (LR_move (at_tmp 1 _) rfl) (sS (sT1 rfl) sB0 sF0) ?_
        obtain ⟨y57, hy57, hr⟩ := bind_some hr
        refine AL_cons (LR_call Hfaa.func144 rfl rfl (C144 N a0_0 a0_1 a1 y57 hy57) (all_cons (at_tmp 22 _) (all_cons (at_tmp 23 _) all_nil)) rfl) (sS (sA (sT1 rfl) (sA (sT1 rfl) sT0)) sB0 sF0) ?_
        refine AL_cons (zl175 rfl) (sS sT0 sB0 (sF1 rfl)) ?_
        refine AL_cons (LR_store (at_tmp 5 _) (at_tmp 24 _) (cells_agg _) (onC (one_is rfl) (onC (one_is rfl) (onC (one_is rfl) (onC (one_is rfl) (onC (one_big _) (onC (one_big _) onN)))))) sz175 rfl rfl) (sS (sA (sT1 rfl) (sT1 rfl)) (sB1 rfl) sF0) ?_
        refine AL_nil ?_
        exact thenN (cutLeaf (v := (y57.1, y57.2.1, y57.2.2.1, y57.2.2.2.1, y57.2.2.2.2.1, y57.2.2.2.2.2)) hr (weak0 ((sT rfl (sT rfl (sT rfl sT0)))) (sub_keep (sub_keep (sub_keep sub_nil)))))
      · rintro ⟨x2, x3, x4, x5, x6, x7⟩ hr
        show AW Hfaa.prog _ _ _ ⟨[(2, .inr (.inl (2, 0))), (4, .inr (.inl (4, 0))), (5, .inr (.inl (5, 0)))], [(2, pb 23 [is (U8 a0_0), is (U8 a0_1)]), (4, pb 76 [is (Bl false), is (Sv ([] : List UInt8)), is (I16 0)]), (5, pb 175 [is (U64 x2), is (Bl x3), is (I8 x4), is (Bl x5), big x6, big x7])]⟩
        have hr : some r = F82_2 N a0_0 a0_1 x2 x3 x4 x5 x6 x7 := hr
        refine AW_seq1 ?_
        refine AW_seq1 ?_
        refine AW_region ?_
        refine AL_cons (LR_fieldAddr (off := 0) (o := 2) (at_tmp 5 _) (fun b w => fa175_2 b 0 w) rfl) (sS (sT1 rfl) sB0 sF0) ?_
        refine AL_cons (LR_load (at_tmp 25 _) na110 rfl rfl) (sS (sT1 rfl) (sB1 rfl) sF0) ?_
        refine AL_nil ?_
        refine thenN ?_
        refine AW_block ?_
        refine AW_cut (σ := Bool) (fun v => ⟨[(2, .inr (.inl (2, 0))), (4, .inr (.inl (4, 0))), (5, .inr (.inl (5, 0))), (26, .inl (is (I8 x4))), (27, .inl (is (Bl v)))], [(2, pb 23 [is (U8 a0_0), is (U8 a0_1)]), (4, pb 76 [is (Bl false), is (Sv ([] : List UInt8)), is (I16 0)]), (5, pb 175 [is (U64 x2), is (Bl x3), is (I8 x4), is (Bl x5), big x6, big x7])]⟩) (fun v => some r = F82_3 N a0_0 a0_1 x2 x3 x4 x5 x6 x7 v) ?_ ?_
        · skip
          refine AW_region ?_
          refine AL_cons (LR_bin (at_tmp 26 _) (at_c (v' := I8 0) rfl) (eql_I8 x4 0) rfl) (sS (sA (sT1 rfl) sT0) sB0 sF0) ?_
          refine AL_cons (LR_assign (at_tmp 28 _) rfl) (sS (sT1 rfl) sB0 sF0) ?_
          refine AL_nil ?_
          exact thenN (cutLeaf (v := x4 == 0) hr (weak0 ((sT rfl (sT rfl (sT rfl (sT rfl (sT rfl sT0)))))) (sub_keep (sub_keep (sub_keep sub_nil)))))
        · rintro x8 hr
          show AW Hfaa.prog _ _ _ ⟨[(2, .inr (.inl (2, 0))), (4, .inr (.inl (4, 0))), (5, .inr (.inl (5, 0))), (26, .inl (is (I8 x4))), (27, .inl (is (Bl x8)))], [(2, pb 23 [is (U8 a0_0), is (U8 a0_1)]), (4, pb 76 [is (Bl false), is (Sv ([] : List UInt8)), is (I16 0)]), (5, pb 175 [is (U64 x2), is (Bl x3), is (I8 x4), is (Bl x5), big x6, big x7])]⟩
          have hr : some r = F82_3 N a0_0 a0_1 x2 x3 x4 x5 x6 x7 x8 := hr
          refine AW_condT (b := x8) rfl (fun h => ?_) (fun h => ?_)
          · have hr := hr.trans (cond_t h)
            clear h
            refine AW_seq1 ?_
            refine AW_region ?_
            refine AL_cons (LR_fieldAddr (off := 0) (o := 1) (at_tmp 5 _) (fun b w => fa175_1 b 0 w) rfl) (sS (sT1 rfl) sB0 sF0) ?_
            refine AL_cons (LR_load (at_tmp 29 _) na4 rfl rfl) (sS (sT1 rfl) (sB1 rfl) sF0) ?_
            refine AL_cons (bl76 (parts_cons (i := 0) (off := 0) (at_tmp 30 _) (cells_one (one_is rfl)) rfl rfl parts_nil) rfl rfl) (sS (sA (sT1 rfl) sT0) sB0 sF0) ?_
            refine AL_cons (LR_store (at_tmp 4 _) (at_tmp 31 _) (cells_agg _) (onC (one_is rfl) (onC (one_is rfl) (onC (one_is rfl) onN))) sz76 rfl rfl) (sS (sA (sT1 rfl) (sT1 rfl)) (sB1 rfl) sF0) ?_
            refine AL_nil ?_
            refine thenN ?_
            refine AW_ret ?_
            refine blR ?_
            refine thenR ?_
            obtain rfl := Option.some.inj hr
            exact res1 rfl (rvC rfl rfl ag76 sz76 rfl)
          · have hr := hr.trans (cond_f h)
            clear h
            refine AW_cut (σ := Bool) (fun v => ⟨[(2, .inr (.inl (2, 0))), (4, .inr (.inl (4, 0))), (5, .inr (.inl (5, 0))), (32, .inl (is (Bl v)))], [(2, pb 23 [is (U8 a0_0), is (U8 a0_1)]), (4, pb 76 [is (Bl false), is (Sv ([] : List UInt8)), is (I16 0)]), (5, pb 175 [is (U64 x2), is (Bl x3), is (I8 x4), is (Bl x5), big x6, big x7])]⟩) (fun v => some r = F82_4 N a0_0 a0_1 x2 x3 x4 x5 x6 x7 v) ?_ ?_
            · skip
              refine AW_cut (σ := Bool) (fun v => ⟨[(2, .inr (.inl (2, 0))), (4, .inr (.inl (4, 0))), (5, .inr (.inl (5, 0))), (26, .inl (is (I8 x4))), (32, .inl (is (Bl v)))], [(2, pb 23 [is (U8 a0_0), is (U8 a0_1)]), (4, pb 76 [is (Bl false), is (Sv ([] : List UInt8)), is (I16 0)]), (5, pb 175 [is (U64 x2), is (Bl x3), is (I8 x4), is (Bl x5), big x6, big x7])]⟩) (fun v => some r = F82_17 N a0_0 a0_1 x2 x3 x4 x5 x6 x7 v) ?_ ?_
              · skip
                refine AW_region ?_
                refine AL_cons (LR_bin (at_tmp 26 _) (at_c (v' := I8 3) rfl) (eql_I8 x4 3) rfl) (sS (sA (sT1 rfl) sT0) sB0 sF0) ?_
                refine AL_cons (LR_assign (at_tmp 33 _) rfl) (sS (sT1 rfl) sB0 sF0) ?_
                refine AL_nil ?_
                exact thenN (cutLeaf (v := x4 == 3) hr (weak0 ((sT rfl (sT rfl (sT rfl (sT rfl (sT rfl sT0)))))) (sub_keep (sub_keep (sub_keep sub_nil)))))
              · rintro x33 hr
                show AW Hfaa.prog _ _ _ ⟨[(2, .inr (.inl (2, 0))), (4, .inr (.inl (4, 0))), (5, .inr (.inl (5, 0))), (26, .inl (is (I8 x4))), (32, .inl (is (Bl x33)))], [(2, pb 23 [is (U8 a0_0), is (U8 a0_1)]), (4, pb 76 [is (Bl false), is (Sv ([] : List UInt8)), is (I16 0)]), (5, pb 175 [is (U64 x2), is (Bl x3), is (I8 x4), is (Bl x5), big x6, big x7])]⟩
                have hr : some r = F82_17 N a0_0 a0_1 x2 x3 x4 x5 x6 x7 x33 := hr
                refine AW_condT (b := x33) rfl (fun h => ?_) (fun h => ?_)
                · have hr := hr.trans (cond_t h)
                  clear h
                  refine AW_skip ?_
                  exact thenN (cutLeaf (v := x33) hr (weak0 ((sT rfl (sT rfl (sT rfl (sT rfl sT0))))) (sub_keep (sub_keep (sub_keep sub_nil)))))
                · have hr := hr.trans (cond_f h)
                  clear h
                  refine AW_region ?_
                  refine AL_cons (LR_bin (at_tmp 26 _) (at_c (v' := I8 4) rfl) (eql_I8 x4 4) rfl) (sS (sA (sT1 rfl) sT0) sB0 sF0) ?_
                  refine AL_cons (LR_assign (at_tmp 34 _) rfl) (sS (sT1 rfl) sB0 sF0) ?_
                  refine AL_nil ?_
                  exact thenN (cutLeaf (v := x4 == 4) hr (weak0 ((sT rfl (sT rfl (sT rfl (sT rfl sT0))))) (sub_keep (sub_keep (sub_keep sub_nil)))))
            · rintro x9 hr
              show AW Hfaa.prog _ _ _ ⟨[(2, .inr (.inl (2, 0))), (4, .inr (.inl (4, 0))), (5, .inr (.inl (5, 0))), (32, .inl (is (Bl x9)))], [(2, pb 23 [is (U8 a0_0), is (U8 a0_1)]), (4, pb 76 [is (Bl false), is (Sv ([] : List UInt8)), is (I16 0)]), (5, pb 175 [is (U64 x2), is (Bl x3), is (I8 x4), is (Bl x5), big x6, big x7])]⟩
              have hr : some r = F82_4 N a0_0 a0_1 x2 x3 x4 x5 x6 x7 x9 := hr
              refine AW_condT (b := x9) rfl (fun h => ?_) (fun h => ?_)
              · have hr := hr.trans (cond_t h)
                clear h
                refine AW_seq1 ?_
                refine AW_region ?_
                refine AL_cons (bl76 parts_nil rfl rfl) (sS sT0 sB0 sF0) ?_
                refine AL_cons (LR_store (at_tmp 4 _) (at_tmp 35 _) (cells_agg _) (onC (one_is rfl) (onC (one_is rfl) (onC (one_is rfl) onN))) sz76 rfl rfl) (sS (sA (sT1 rfl) (sT1 rfl)) (sB1 rfl) sF0) ?_
                refine AL_nil ?_
                refine thenN ?_
                refine AW_ret ?_
                refine blR ?_
                refine thenR ?_
                obtain rfl := Option.some.inj hr
                exact res1 rfl (rvC rfl rfl ag76 sz76 rfl)
              · have hr := hr.trans (cond_f h)
                clear h
                refine AW_skip ?_
                refine blN ?_
                refine thenN ?_
                refine AW_cut (σ := Int) (fun v => ⟨[(2, .inr (.inl (2, 0))), (4, .inr (.inl (4, 0))), (5, .inr (.inl (5, 0))), (6, .inl (is (I64 v)))], [(2, pb 23 [is (U8 a0_0), is (U8 a0_1)]), (4, pb 76 [is (Bl false), is (Sv ([] : List UInt8)), is (I16 0)]), (5, pb 175 [is (U64 x2), is (Bl x3), is (I8 x4), is (Bl x5), big x6, big x7])]⟩) (fun v => some r = F82_5 N a0_0 a0_1 x2 x3 x4 x5 x6 x7 v) ?_ ?_
                · skip
                  refine AW_region ?_
                  refine AL_cons (LR_fieldAddr (off := 0) (o := 3) (at_tmp 5 _) (fun b w => fa175_3 b 0 w) rfl) (sS (sT1 rfl) sB0 sF0) ?_
                  refine AL_cons (LR_loads (at_tmp 36 _) ag119 sz119 rfl rfl rfl) (sS (sT1 rfl) (sB1 rfl) sF0) ?_
                  obtain ⟨y56, hy56, hr⟩ := bind_some hr
                  refine AL_cons (LR_call Hfaa.func147 rfl rfl (C147 N x5 x6 x7 y56 hy56) (all_cons (at_tmp 37 _) all_nil) rfl) (sS (sA (sT1 rfl) sT0) sB0 sF0) ?_
                  refine AL_cons (LR_assign (at_tmp 38 _) rfl) (sS (sT1 rfl) sB0 sF0) ?_
                  refine AL_nil ?_
                  exact thenN (cutLeaf (v := y56) hr (weak0 ((sT rfl (sT rfl (sT rfl (sT rfl sT0))))) (sub_keep (sub_keep (sub_keep sub_nil)))))
                · rintro x10 hr
                  show AW Hfaa.prog _ _ _ ⟨[(2, .inr (.inl (2, 0))), (4, .inr (.inl (4, 0))), (5, .inr (.inl (5, 0))), (6, .inl (is (I64 x10)))], [(2, pb 23 [is (U8 a0_0), is (U8 a0_1)]), (4, pb 76 [is (Bl false), is (Sv ([] : List UInt8)), is (I16 0)]), (5, pb 175 [is (U64 x2), is (Bl x3), is (I8 x4), is (Bl x5), big x6, big x7])]⟩
                  have hr : some r = F82_5 N a0_0 a0_1 x2 x3 x4 x5 x6 x7 x10 := hr
                  refine AW_cut (σ := Int × Int × Bool) (fun v => ⟨[(2, .inr (.inl (2, 0))), (4, .inr (.inl (4, 0))), (5, .inr (.inl (5, 0))), (6, .inl (is (I64 x10))), (8, .inr (.inl (8, 0))), (7, .inl (is (I64 v.1)))], [(2, pb 23 [is (U8 a0_0), is (U8 a0_1)]), (4, pb 76 [is (Bl false), is (Sv ([] : List UInt8)), is (I16 0)]), (5, pb 175 [is (U64 x2), is (Bl x3), is (I8 x4), is (Bl x5), big x6, big x7]), (8, pb 181 [is (I8 v.2.1), is (Bl v.2.2)])]⟩) (fun v => some r = F82_6 N a0_0 a0_1 x2 x3 x4 x5 x6 x7 x10 v.1 v.2.1 v.2.2) ?_ ?_
                  · skip
                    refine AW_region ?_
                    refine AL_cons (LR_fieldAddr (off := 0) (o := 3) (at_tmp 5 _) (fun b w => fa175_3 b 0 w) rfl) (sS (sT1 rfl) sB0 sF0) ?_
                    refine AL_cons (LR_loads (at_tmp 40 _) ag119 sz119 rfl rfl rfl) (sS (sT1 rfl) (sB1 rfl) sF0) ?_
                    refine AL_cons (LR_move (at_tmp 6 _) rfl) (sS (sT1 rfl) sB0 sF0) ?_
                    refine AL_cons (LR_bin (at_tmp 42 _) (at_c (v' := I64 16) rfl) (sub_I64 x10 16) rfl) (sS (sA (sT1 rfl) sT0) sB0 sF0) ?_
                    obtain ⟨y55, hy55, hr⟩ := bind_some hr
                    refine AL_cons (LR_call Hfaa.func148 rfl rfl (C148 N x5 x6 x7 (w64 (x10 - 16)) y55 hy55) (all_cons (at_tmp 41 _) (all_cons (at_tmp 43 _) all_nil)) rfl) (sS (sA (sT1 rfl) (sA (sT1 rfl) sT0)) sB0 sF0) ?_
                    refine AL_cons (LR_move (at_tmp 44 _) rfl) (sS (sT1 rfl) sB0 sF0) ?_
                    refine AL_cons (LR_extract (at_tmp 39 _) rfl rfl) (sS (sT1 rfl) sB0 sF0) ?_
                    refine AL_cons (LR_extract (at_tmp 39 _) rfl rfl) (sS (sT1 rfl) sB0 sF0) ?_
                    refine AL_cons (zl181 rfl) (sS sT0 sB0 (sF1 rfl)) ?_
                    refine AL_cons (LR_assign (at_tmp 45 _) rfl) (sS (sT1 rfl) sB0 sF0) ?_
                    refine AL_cons (LR_store (at_tmp 8 _) (at_tmp 46 _) (cells_agg _) (onC (one_is rfl) (onC (one_is rfl) onN)) sz181 rfl rfl) (sS (sA (sT1 rfl) (sT1 rfl)) (sB1 rfl) sF0) ?_
                    refine AL_nil ?_
                    exact thenN (cutLeaf (v := (y55.1, y55.2.1, y55.2.2)) hr (weak0 ((sT rfl (sT rfl (sT rfl (sT rfl (sT rfl (sT rfl sT0))))))) (sub_keep (sub_keep (sub_keep (sub_keep sub_nil))))))
                  · rintro ⟨x11, x12, x13⟩ hr
                    show AW Hfaa.prog _ _ _ ⟨[(2, .inr (.inl (2, 0))), (4, .inr (.inl (4, 0))), (5, .inr (.inl (5, 0))), (6, .inl (is (I64 x10))), (8, .inr (.inl (8, 0))), (7, .inl (is (I64 x11)))], [(2, pb 23 [is (U8 a0_0), is (U8 a0_1)]), (4, pb 76 [is (Bl false), is (Sv ([] : List UInt8)), is (I16 0)]), (5, pb 175 [is (U64 x2), is (Bl x3), is (I8 x4), is (Bl x5), big x6, big x7]), (8, pb 181 [is (I8 x12), is (Bl x13)])]⟩
                    have hr : some r = F82_6 N a0_0 a0_1 x2 x3 x4 x5 x6 x7 x10 x11 x12 x13 := hr
                    refine AW_seq1 ?_
                    refine AW_region ?_
                    refine AL_cons (LR_assign (at_c (v' := I64 10000000000000000) rfl) rfl) (sS sT0 sB0 sF0) ?_
                    refine AL_nil ?_
                    refine thenN ?_
                    refine AW_seq1 ?_
                    refine AW_seq1 ?_
                    refine AW_region ?_
                    refine AL_cons (LR_assign (at_c (v' := I64 1) rfl) rfl) (sS sT0 sB0 sF0) ?_
                    refine AL_nil ?_
                    refine thenN ?_
                    refine AW_block ?_
                    refine AW_iterR (σ := Int × Int) (r := r) (x0 := (10000000000000000, 1)) (emb := fun v => ⟨[(2, .inr (.inl (2, 0))), (4, .inr (.inl (4, 0))), (5, .inr (.inl (5, 0))), (6, .inl (is (I64 x10))), (8, .inr (.inl (8, 0))), (7, .inl (is (I64 x11))), (9, .inl (is (I64 v.1))), (10, .inl (is (I64 v.2)))], [(2, pb 23 [is (U8 a0_0), is (U8 a0_1)]), (4, pb 76 [is (Bl false), is (Sv ([] : List UInt8)), is (I16 0)]), (5, pb 175 [is (U64 x2), is (Bl x3), is (I8 x4), is (Bl x5), big x6, big x7]), (8, pb 181 [is (I8 x12), is (Bl x13)])]⟩) ?_ hr ?_
                    · exact weak0 ((sT rfl (sT rfl (sT rfl (sT rfl (sT rfl (sT rfl (sT rfl (sT rfl sT0))))))))) (sub_keep (sub_keep (sub_keep (sub_keep sub_nil))))
                    rintro ⟨x14, x15⟩ out2 hr
                    show AW Hfaa.prog _ _ _ ⟨[(2, .inr (.inl (2, 0))), (4, .inr (.inl (4, 0))), (5, .inr (.inl (5, 0))), (6, .inl (is (I64 x10))), (8, .inr (.inl (8, 0))), (7, .inl (is (I64 x11))), (9, .inl (is (I64 x14))), (10, .inl (is (I64 x15)))], [(2, pb 23 [is (U8 a0_0), is (U8 a0_1)]), (4, pb 76 [is (Bl false), is (Sv ([] : List UInt8)), is (I16 0)]), (5, pb 175 [is (U64 x2), is (Bl x3), is (I8 x4), is (Bl x5), big x6, big x7]), (8, pb 181 [is (I8 x12), is (Bl x13)])]⟩
                    have hr : some out2 = F82_L7b N a0_0 a0_1 x2 x3 x4 x5 x6 x7 x10 x11 x12 x13 x14 x15 := hr
                    refine AW_seq1 ?_
                    refine AW_cut (σ := Bool) (fun v => ⟨[(2, .inr (.inl (2, 0))), (4, .inr (.inl (4, 0))), (5, .inr (.inl (5, 0))), (6, .inl (is (I64 x10))), (8, .inr (.inl (8, 0))), (7, .inl (is (I64 x11))), (9, .inl (is (I64 x14))), (10, .inl (is (I64 x15))), (48, .inl (is (Bl v)))], [(2, pb 23 [is (U8 a0_0), is (U8 a0_1)]), (4, pb 76 [is (Bl false), is (Sv ([] : List UInt8)), is (I16 0)]), (5, pb 175 [is (U64 x2), is (Bl x3), is (I8 x4), is (Bl x5), big x6, big x7]), (8, pb 181 [is (I8 x12), is (Bl x13)])]⟩) (fun v => some out2 = F82_8 N a0_0 a0_1 x2 x3 x4 x5 x6 x7 x10 x11 x12 x13 x14 x15 v) ?_ ?_
                    · skip
                      refine AW_region ?_
                      refine AL_cons (LR_move (at_tmp 10 _) rfl) (sS (sT1 rfl) sB0 sF0) ?_
                      refine AL_cons (LR_bin (at_tmp 47 _) (at_c (v' := I64 17) rfl) (leq_I64 x15 17) rfl) (sS (sA (sT1 rfl) sT0) sB0 sF0) ?_
                      refine AL_nil ?_
                      exact thenN (cutLeaf (v := decide (x15 ≤ 17)) hr (weak0 ((sT rfl (sT rfl (sT rfl (sT rfl (sT rfl (sT rfl (sT rfl (sT rfl (sT rfl sT0)))))))))) (sub_keep (sub_keep (sub_keep (sub_keep sub_nil))))))
                    · rintro x16 hr
                      show AW Hfaa.prog _ _ _ ⟨[(2, .inr (.inl (2, 0))), (4, .inr (.inl (4, 0))), (5, .inr (.inl (5, 0))), (6, .inl (is (I64 x10))), (8, .inr (.inl (8, 0))), (7, .inl (is (I64 x11))), (9, .inl (is (I64 x14))), (10, .inl (is (I64 x15))), (48, .inl (is (Bl x16)))], [(2, pb 23 [is (U8 a0_0), is (U8 a0_1)]), (4, pb 76 [is (Bl false), is (Sv ([] : List UInt8)), is (I16 0)]), (5, pb 175 [is (U64 x2), is (Bl x3), is (I8 x4), is (Bl x5), big x6, big x7]), (8, pb 181 [is (I8 x12), is (Bl x13)])]⟩
                      have hr : some out2 = F82_8 N a0_0 a0_1 x2 x3 x4 x5 x6 x7 x10 x11 x12 x13 x14 x15 x16 := hr
                      refine AW_condT (b := x16) rfl (fun h => ?_) (fun h => ?_)
                      · have hr := hr.trans (cond_t h)
                        clear h
                        refine AW_skip ?_
                        refine thenN ?_
                        refine AW_cut (σ := Int) (fun v => ⟨[(2, .inr (.inl (2, 0))), (4, .inr (.inl (4, 0))), (5, .inr (.inl (5, 0))), (6, .inl (is (I64 x10))), (8, .inr (.inl (8, 0))), (7, .inl (is (I64 x11))), (9, .inl (is (I64 v))), (10, .inl (is (I64 x15)))], [(2, pb 23 [is (U8 a0_0), is (U8 a0_1)]), (4, pb 76 [is (Bl false), is (Sv ([] : List UInt8)), is (I16 0)]), (5, pb 175 [is (U64 x2), is (Bl x3), is (I8 x4), is (Bl x5), big x6, big x7]), (8, pb 181 [is (I8 x12), is (Bl x13)])]⟩) (fun v => some out2 = F82_9 N a0_0 a0_1 x2 x3 x4 x5 x6 x7 x10 x11 x12 x13 x15 v) ?_ ?_
                        · skip
                          refine AW_block ?_
                          refine AW_cut (σ := Int) (fun v => ⟨[(2, .inr (.inl (2, 0))), (4, .inr (.inl (4, 0))), (5, .inr (.inl (5, 0))), (6, .inl (is (I64 x10))), (8, .inr (.inl (8, 0))), (7, .inl (is (I64 x11))), (9, .inl (is (I64 x14))), (10, .inl (is (I64 x15))), (11, .inl (is (I64 v)))], [(2, pb 23 [is (U8 a0_0), is (U8 a0_1)]), (4, pb 76 [is (Bl false), is (Sv ([] : List UInt8)), is (I16 0)]), (5, pb 175 [is (U64 x2), is (Bl x3), is (I8 x4), is (Bl x5), big x6, big x7]), (8, pb 181 [is (I8 x12), is (Bl x13)])]⟩) (fun v => some out2 = F82_10 N a0_0 a0_1 x2 x3 x4 x5 x6 x7 x10 x11 x12 x13 x14 x15 v) ?_ ?_
                          · skip
                            refine AW_region ?_
                            refine AL_cons (LR_move (at_tmp 6 _) rfl) (sS (sT1 rfl) sB0 sF0) ?_
                            refine AL_cons (LR_move (at_tmp 10 _) rfl) (sS (sT1 rfl) sB0 sF0) ?_
                            refine AL_cons (LR_bin (at_tmp 51 _) (at_tmp 52 _) (sub_I64 x10 x15) rfl) (sS (sA (sT1 rfl) (sT1 rfl)) sB0 sF0) ?_
                            refine AL_cons (LR_bin (at_tmp 53 _) (at_c (v' := I64 1) rfl) (add_I64 (w64 (x10 - x15)) 1) rfl) (sS (sA (sT1 rfl) sT0) sB0 sF0) ?_
                            refine AL_cons (LR_assign (at_tmp 54 _) rfl) (sS (sT1 rfl) sB0 sF0) ?_
                            refine AL_nil ?_
                            exact thenN (cutLeaf (v := w64 ((w64 (x10 - x15)) + 1)) hr (weak0 ((sT rfl (sT rfl (sT rfl (sT rfl (sT rfl (sT rfl (sT rfl (sT rfl (sT rfl sT0)))))))))) (sub_keep (sub_keep (sub_keep (sub_keep sub_nil))))))
                          · rintro x18 hr
                            show AW Hfaa.prog _ _ _ ⟨[(2, .inr (.inl (2, 0))), (4, .inr (.inl (4, 0))), (5, .inr (.inl (5, 0))), (6, .inl (is (I64 x10))), (8, .inr (.inl (8, 0))), (7, .inl (is (I64 x11))), (9, .inl (is (I64 x14))), (10, .inl (is (I64 x15))), (11, .inl (is (I64 x18)))], [(2, pb 23 [is (U8 a0_0), is (U8 a0_1)]), (4, pb 76 [is (Bl false), is (Sv ([] : List UInt8)), is (I16 0)]), (5, pb 175 [is (U64 x2), is (Bl x3), is (I8 x4), is (Bl x5), big x6, big x7]), (8, pb 181 [is (I8 x12), is (Bl x13)])]⟩
                            have hr : some out2 = F82_10 N a0_0 a0_1 x2 x3 x4 x5 x6 x7 x10 x11 x12 x13 x14 x15 x18 := hr
                            refine AW_cut (σ := Int × Int × Bool) (fun v => ⟨[(2, .inr (.inl (2, 0))), (4, .inr (.inl (4, 0))), (5, .inr (.inl (5, 0))), (6, .inl (is (I64 x10))), (8, .inr (.inl (8, 0))), (7, .inl (is (I64 x11))), (9, .inl (is (I64 x14))), (10, .inl (is (I64 x15))), (11, .inl (is (I64 x18))), (13, .inr (.inl (13, 0))), (12, .inl (is (I64 v.1)))], [(2, pb 23 [is (U8 a0_0), is (U8 a0_1)]), (4, pb 76 [is (Bl false), is (Sv ([] : List UInt8)), is (I16 0)]), (5, pb 175 [is (U64 x2), is (Bl x3), is (I8 x4), is (Bl x5), big x6, big x7]), (8, pb 181 [is (I8 x12), is (Bl x13)]), (13, pb 181 [is (I8 v.2.1), is (Bl v.2.2)])]⟩) (fun v => some out2 = F82_11 N a0_0 a0_1 x2 x3 x4 x5 x6 x7 x10 x11 x12 x13 x14 x15 x18 v.1 v.2.1 v.2.2) ?_ ?_
                            · skip
                              obtain ⟨hg31, hr⟩ := guard_some hr
                              obtain ⟨hg32, hr⟩ := guard_some hr
                              obtain ⟨y54, hy54, hr⟩ := lt_some hr
                              refine AW_draw mixed
                                (lrC (LR_move (at_tmp 7 _) rfl)
                                (lrC (LR_move (at_tmp 9 _) rfl)
                                (lrC (LR_bin (at_tmp 55 _) (at_tmp 56 _) (quo_I64 x11 x14 (Int.ne_of_gt (of_decide_eq_true hg31))) rfl)
                                (lrC (LR_move (at_tmp 7 _) rfl)
                                (lrC (LR_move (at_tmp 9 _) rfl)
                                (lrC (LR_bin (at_tmp 58 _) (at_tmp 59 _) (rem_I64 x11 x14 (Int.ne_of_gt (of_decide_eq_true hg32))) rfl)
                                (lrC (LR_move (at_tmp 9 _) rfl)
                                (lrC (LR_loads (at_tmp 8 _) ag181 sz181 rfl rfl rfl)
                                (lrC (LR_call Hfaa.func149 rfl rfl (C149 (x11.tmod x14) x14 x12 x13 y54 hy54) (all_cons (at_tmp 60 _) (all_cons (at_tmp 61 _) (all_cons (at_tmp 62 _) all_nil))) rfl)
                                (lrC (zl181 rfl)
                                (lrC (LR_assign (at_tmp 57 _) rfl)
                                (lrC (LR_store (at_tmp 13 _) (at_tmp 63 _) (cells_agg _) (onC (one_is rfl) (onC (one_is rfl) onN)) sz181 rfl rfl)
                                lrN))))))))))))
                                (by kernel_rfl)
                                (saC (sS (sT1 rfl) sB0 sF0) (saC (sS (sT1 rfl) sB0 sF0) (saC (sS (sA (sT1 rfl) (sT1 rfl)) sB0 sF0) (saC (sS (sT1 rfl) sB0 sF0) (saC (sS (sT1 rfl) sB0 sF0) (saC (sS (sA (sT1 rfl) (sT1 rfl)) sB0 sF0) (saC (sS (sT1 rfl) sB0 sF0) (saC (sS (sT1 rfl) (sB1 rfl) sF0) (saC (sS (sA (sT1 rfl) (sA (sT1 rfl) (sA (sT1 rfl) sT0))) sB0 sF0) (saC (sS sT0 sB0 (sF1 rfl)) (saC (sS (sT1 rfl) sB0 sF0) (saC (sS (sA (sT1 rfl) (sT1 rfl)) (sB1 rfl) sF0) saN)))))))))))) ?_
                              exact thenN (cutLeaf (v := (w64 (x11.tdiv x14), y54.1, y54.2)) hr (weak0 ((sT rfl (sT rfl (sT rfl (sT rfl (sT rfl (sT rfl (sT rfl (sT rfl (sT rfl (sT rfl (sT rfl sT0)))))))))))) (sub_keep (sub_keep (sub_keep (sub_keep (sub_keep sub_nil)))))))
                            · rintro ⟨x19, x20, x21⟩ hr
                              show AW Hfaa.prog _ _ _ ⟨[(2, .inr (.inl (2, 0))), (4, .inr (.inl (4, 0))), (5, .inr (.inl (5, 0))), (6, .inl (is (I64 x10))), (8, .inr (.inl (8, 0))), (7, .inl (is (I64 x11))), (9, .inl (is (I64 x14))), (10, .inl (is (I64 x15))), (11, .inl (is (I64 x18))), (13, .inr (.inl (13, 0))), (12, .inl (is (I64 x19)))], [(2, pb 23 [is (U8 a0_0), is (U8 a0_1)]), (4, pb 76 [is (Bl false), is (Sv ([] : List UInt8)), is (I16 0)]), (5, pb 175 [is (U64 x2), is (Bl x3), is (I8 x4), is (Bl x5), big x6, big x7]), (8, pb 181 [is (I8 x12), is (Bl x13)]), (13, pb 181 [is (I8 x20), is (Bl x21)])]⟩
                              have hr : some out2 = F82_11 N a0_0 a0_1 x2 x3 x4 x5 x6 x7 x10 x11 x12 x13 x14 x15 x18 x19 x20 x21 := hr
                              refine AW_cut (σ := Int) (fun v => ⟨[(2, .inr (.inl (2, 0))), (4, .inr (.inl (4, 0))), (5, .inr (.inl (5, 0))), (6, .inl (is (I64 x10))), (8, .inr (.inl (8, 0))), (7, .inl (is (I64 x11))), (9, .inl (is (I64 v))), (10, .inl (is (I64 x15))), (11, .inl (is (I64 x18))), (13, .inr (.inl (13, 0))), (12, .inl (is (I64 x19)))], [(2, pb 23 [is (U8 a0_0), is (U8 a0_1)]), (4, pb 76 [is (Bl false), is (Sv ([] : List UInt8)), is (I16 0)]), (5, pb 175 [is (U64 x2), is (Bl x3), is (I8 x4), is (Bl x5), big x6, big x7]), (8, pb 181 [is (I8 x12), is (Bl x13)]), (13, pb 181 [is (I8 x20), is (Bl x21)])]⟩) (fun v => some out2 = F82_12 N a0_0 a0_1 x2 x3 x4 x5 x6 x7 x10 x11 x12 x13 x15 x18 x19 x20 x21 v) ?_ ?_
                              · skip
                                refine AW_region ?_
                                refine AL_cons (LR_move (at_tmp 9 _) rfl) (sS (sT1 rfl) sB0 sF0) ?_
                                refine AL_cons (LR_bin (at_tmp 64 _) (at_c (v' := I64 10) rfl) (quo_I64 x14 10 (by decide)) rfl) (sS (sA (sT1 rfl) sT0) sB0 sF0) ?_
                                refine AL_cons (LR_assign (at_tmp 65 _) rfl) (sS (sT1 rfl) sB0 sF0) ?_
                                refine AL_nil ?_
                                exact thenN (cutLeaf (v := w64 (x14.tdiv 10)) hr (weak0 ((sT rfl (sT rfl (sT rfl (sT rfl (sT rfl (sT rfl (sT rfl (sT rfl (sT rfl (sT rfl (sT rfl sT0)))))))))))) (sub_keep (sub_keep (sub_keep (sub_keep (sub_keep sub_nil)))))))
                              · rintro x22 hr
                                show AW Hfaa.prog _ _ _ ⟨[(2, .inr (.inl (2, 0))), (4, .inr (.inl (4, 0))), (5, .inr (.inl (5, 0))), (6, .inl (is (I64 x10))), (8, .inr (.inl (8, 0))), (7, .inl (is (I64 x11))), (9, .inl (is (I64 x22))), (10, .inl (is (I64 x15))), (11, .inl (is (I64 x18))), (13, .inr (.inl (13, 0))), (12, .inl (is (I64 x19)))], [(2, pb 23 [is (U8 a0_0), is (U8 a0_1)]), (4, pb 76 [is (Bl false), is (Sv ([] : List UInt8)), is (I16 0)]), (5, pb 175 [is (U64 x2), is (Bl x3), is (I8 x4), is (Bl x5), big x6, big x7]), (8, pb 181 [is (I8 x12), is (Bl x13)]), (13, pb 181 [is (I8 x20), is (Bl x21)])]⟩
                                have hr : some out2 = F82_12 N a0_0 a0_1 x2 x3 x4 x5 x6 x7 x10 x11 x12 x13 x15 x18 x19 x20 x21 x22 := hr
                                refine AW_cut (σ := Bool × Bool × List UInt8 × Int) (fun v => ⟨[(2, .inr (.inl (2, 0))), (4, .inr (.inl (4, 0))), (5, .inr (.inl (5, 0))), (6, .inl (is (I64 x10))), (8, .inr (.inl (8, 0))), (7, .inl (is (I64 x11))), (9, .inl (is (I64 x22))), (10, .inl (is (I64 x15))), (11, .inl (is (I64 x18))), (13, .inr (.inl (13, 0))), (12, .inl (is (I64 x19))), (14, .inr (.inl (14, 0))), (15, .inl (is (Bl v.1)))], [(2, pb 23 [is (U8 a0_0), is (U8 a0_1)]), (4, pb 76 [is (Bl false), is (Sv ([] : List UInt8)), is (I16 0)]), (5, pb 175 [is (U64 x2), is (Bl x3), is (I8 x4), is (Bl x5), big x6, big x7]), (8, pb 181 [is (I8 x12), is (Bl x13)]), (13, pb 181 [is (I8 x20), is (Bl x21)]), (14, pb 76 [is (Bl v.2.1), is (Sv v.2.2.1), is (I16 v.2.2.2)])]⟩) (fun v => some out2 = F82_13 N a0_0 a0_1 x2 x3 x4 x5 x6 x7 x10 x11 x12 x13 x15 x18 x19 x20 x21 x22 v.1 v.2.1 v.2.2.1 v.2.2.2) ?_ ?_
                                · skip
                                  refine AW_region ?_
                                  refine AL_cons (LR_loads (at_tmp 2 _) ag23 sz23 rfl rfl rfl) (sS (sT1 rfl) (sB1 rfl) sF0) ?_
                                  refine AL_cons (LR_loads (at_tmp 5 _) ag175 sz175 rfl rfl rfl) (sS (sT1 rfl) (sB1 rfl) sF0) ?_
                                  refine AL_cons (LR_move (at_tmp 12 _) rfl) (sS (sT1 rfl) sB0 sF0) ?_
                                  refine AL_cons (LR_move (at_tmp 11 _) rfl) (sS (sT1 rfl) sB0 sF0) ?_
                                  obtain ⟨y53, hy53, hr⟩ := bind_some hr
                                  refine AL_cons (LR_call Hfaa.func150 rfl rfl (C150 N a0_0 a0_1 x2 x3 x4 x5 x6 x7 x19 x18 y53 hy53) (all_cons (at_tmp 67 _) (all_cons (at_tmp 68 _) (all_cons (at_tmp 69 _) (all_cons (at_tmp 70 _) all_nil)))) rfl) (sS (sA (sT1 rfl) (sA (sT1 rfl) (sA (sT1 rfl) (sA (sT1 rfl) sT0)))) sB0 sF0) ?_
                                  refine AL_cons (LR_move (at_tmp 71 _) rfl) (sS (sT1 rfl) sB0 sF0) ?_
                                  refine AL_cons (LR_extract (at_tmp 66 _) rfl rfl) (sS (sT1 rfl) sB0 sF0) ?_
                                  refine AL_cons (LR_extract (at_tmp 66 _) rfl rfl) (sS (sT1 rfl) sB0 sF0) ?_
                                  refine AL_cons (zl76 rfl) (sS sT0 sB0 (sF1 rfl)) ?_
                                  refine AL_cons (LR_store (at_tmp 14 _) (at_tmp 72 _) (cells_agg _) (onC (one_is rfl) (onC (one_is rfl) (onC (one_is rfl) onN))) sz76 rfl rfl) (sS (sA (sT1 rfl) (sT1 rfl)) (sB1 rfl) sF0) ?_
                                  refine AL_cons (LR_assign (at_tmp 73 _) rfl) (sS (sT1 rfl) sB0 sF0) ?_
                                  refine AL_nil ?_
                                  exact thenN (cutLeaf (v := (y53.2.2.2, y53.1, y53.2.1, y53.2.2.1)) hr (weak0 ((sT rfl (sT rfl (sT rfl (sT rfl (sT rfl (sT rfl (sT rfl (sT rfl (sT rfl (sT rfl (sT rfl (sT rfl (sT rfl sT0)))))))))))))) (sub_keep (sub_keep (sub_keep (sub_keep (sub_keep (sub_keep sub_nil))))))))
                                · rintro ⟨x23, x24, x25, x26⟩ hr
                                  show AW Hfaa.prog _ _ _ ⟨[(2, .inr (.inl (2, 0))), (4, .inr (.inl (4, 0))), (5, .inr (.inl (5, 0))), (6, .inl (is (I64 x10))), (8, .inr (.inl (8, 0))), (7, .inl (is (I64 x11))), (9, .inl (is (I64 x22))), (10, .inl (is (I64 x15))), (11, .inl (is (I64 x18))), (13, .inr (.inl (13, 0))), (12, .inl (is (I64 x19))), (14, .inr (.inl (14, 0))), (15, .inl (is (Bl x23)))], [(2, pb 23 [is (U8 a0_0), is (U8 a0_1)]), (4, pb 76 [is (Bl false), is (Sv ([] : List UInt8)), is (I16 0)]), (5, pb 175 [is (U64 x2), is (Bl x3), is (I8 x4), is (Bl x5), big x6, big x7]), (8, pb 181 [is (I8 x12), is (Bl x13)]), (13, pb 181 [is (I8 x20), is (Bl x21)]), (14, pb 76 [is (Bl x24), is (Sv x25), is (I16 x26)])]⟩
                                  have hr : some out2 = F82_13 N a0_0 a0_1 x2 x3 x4 x5 x6 x7 x10 x11 x12 x13 x15 x18 x19 x20 x21 x22 x23 x24 x25 x26 := hr
                                  refine AW_cut (σ := Bool × Bool × List UInt8 × Int) (fun v => ⟨[(2, .inr (.inl (2, 0))), (4, .inr (.inl (4, 0))), (5, .inr (.inl (5, 0))), (6, .inl (is (I64 x10))), (8, .inr (.inl (8, 0))), (7, .inl (is (I64 x11))), (9, .inl (is (I64 x22))), (10, .inl (is (I64 x15))), (13, .inr (.inl (13, 0))), (12, .inl (is (I64 x19))), (14, .inr (.inl (14, 0))), (15, .inl (is (Bl x23))), (16, .inr (.inl (16, 0))), (17, .inl (is (Bl v.1)))], [(2, pb 23 [is (U8 a0_0), is (U8 a0_1)]), (4, pb 76 [is (Bl false), is (Sv ([] : List UInt8)), is (I16 0)]), (5, pb 175 [is (U64 x2), is (Bl x3), is (I8 x4), is (Bl x5), big x6, big x7]), (8, pb 181 [is (I8 x12), is (Bl x13)]), (13, pb 181 [is (I8 x20), is (Bl x21)]), (14, pb 76 [is (Bl x24), is (Sv x25), is (I16 x26)]), (16, pb 76 [is (Bl v.2.1), is (Sv v.2.2.1), is (I16 v.2.2.2)])]⟩) (fun v => some out2 = F82_14 N a0_0 a0_1 x2 x3 x4 x5 x6 x7 x10 x11 x12 x13 x15 x19 x20 x21 x22 x23 x24 x25 x26 v.1 v.2.1 v.2.2.1 v.2.2.2) ?_ ?_
                                  · skip
                                    refine AW_region ?_
                                    refine AL_cons (LR_loads (at_tmp 2 _) ag23 sz23 rfl rfl rfl) (sS (sT1 rfl) (sB1 rfl) sF0) ?_
                                    refine AL_cons (LR_loads (at_tmp 5 _) ag175 sz175 rfl rfl rfl) (sS (sT1 rfl) (sB1 rfl) sF0) ?_
                                    refine AL_cons (LR_move (at_tmp 12 _) rfl) (sS (sT1 rfl) sB0 sF0) ?_
                                    refine AL_cons (LR_bin (at_tmp 77 _) (at_c (v' := I64 1) rfl) (add_I64 x19 1) rfl) (sS (sA (sT1 rfl) sT0) sB0 sF0) ?_
                                    refine AL_cons (LR_move (at_tmp 11 _) rfl) (sS (sT1 rfl) sB0 sF0) ?_
                                    obtain ⟨y52, hy52, hr⟩ := bind_some hr
                                    refine AL_cons (LR_call Hfaa.func150 rfl rfl (C150 N a0_0 a0_1 x2 x3 x4 x5 x6 x7 (w64 (x19 + 1)) x18 y52 hy52) (all_cons (at_tmp 75 _) (all_cons (at_tmp 76 _) (all_cons (at_tmp 78 _) (all_cons (at_tmp 79 _) all_nil)))) rfl) (sS (sA (sT1 rfl) (sA (sT1 rfl) (sA (sT1 rfl) (sA (sT1 rfl) sT0)))) sB0 sF0) ?_
                                    refine AL_cons (LR_move (at_tmp 80 _) rfl) (sS (sT1 rfl) sB0 sF0) ?_
                                    refine AL_cons (LR_extract (at_tmp 74 _) rfl rfl) (sS (sT1 rfl) sB0 sF0) ?_
                                    refine AL_cons (LR_extract (at_tmp 74 _) rfl rfl) (sS (sT1 rfl) sB0 sF0) ?_
                                    refine AL_cons (zl76 rfl) (sS sT0 sB0 (sF1 rfl)) ?_
                                    refine AL_cons (LR_store (at_tmp 16 _) (at_tmp 81 _) (cells_agg _) (onC (one_is rfl) (onC (one_is rfl) (onC (one_is rfl) onN))) sz76 rfl rfl) (sS (sA (sT1 rfl) (sT1 rfl)) (sB1 rfl) sF0) ?_
                                    refine AL_cons (LR_assign (at_tmp 82 _) rfl) (sS (sT1 rfl) sB0 sF0) ?_
                                    refine AL_nil ?_
                                    exact thenN (cutLeaf (v := (y52.2.2.2, y52.1, y52.2.1, y52.2.2.1)) hr (weak0 ((sT rfl (sT rfl (sT rfl (sT rfl (sT rfl (sT rfl (sT rfl (sT rfl (sT rfl (sT rfl (sT rfl (sT rfl (sT rfl (sT rfl sT0))))))))))))))) (sub_keep (sub_keep (sub_keep (sub_keep (sub_keep (sub_keep (sub_keep sub_nil)))))))))
                                  · rintro ⟨x27, x28, x29, x30⟩ hr
                                    show AW Hfaa.prog _ _ _ ⟨[(2, .inr (.inl (2, 0))), (4, .inr (.inl (4, 0))), (5, .inr (.inl (5, 0))), (6, .inl (is (I64 x10))), (8, .inr (.inl (8, 0))), (7, .inl (is (I64 x11))), (9, .inl (is (I64 x22))), (10, .inl (is (I64 x15))), (13, .inr (.inl (13, 0))), (12, .inl (is (I64 x19))), (14, .inr (.inl (14, 0))), (15, .inl (is (Bl x23))), (16, .inr (.inl (16, 0))), (17, .inl (is (Bl x27)))], [(2, pb 23 [is (U8 a0_0), is (U8 a0_1)]), (4, pb 76 [is (Bl false), is (Sv ([] : List UInt8)), is (I16 0)]), (5, pb 175 [is (U64 x2), is (Bl x3), is (I8 x4), is (Bl x5), big x6, big x7]), (8, pb 181 [is (I8 x12), is (Bl x13)]), (13, pb 181 [is (I8 x20), is (Bl x21)]), (14, pb 76 [is (Bl x24), is (Sv x25), is (I16 x26)]), (16, pb 76 [is (Bl x28), is (Sv x29), is (I16 x30)])]⟩
                                    have hr : some out2 = F82_14 N a0_0 a0_1 x2 x3 x4 x5 x6 x7 x10 x11 x12 x13 x15 x19 x20 x21 x22 x23 x24 x25 x26 x27 x28 x29 x30 := hr
                                    refine AW_block ?_
                                    refine AW_cut (σ := Bool) (fun v => ⟨[(2, .inr (.inl (2, 0))), (4, .inr (.inl (4, 0))), (5, .inr (.inl (5, 0))), (6, .inl (is (I64 x10))), (8, .inr (.inl (8, 0))), (7, .inl (is (I64 x11))), (9, .inl (is (I64 x22))), (10, .inl (is (I64 x15))), (13, .inr (.inl (13, 0))), (12, .inl (is (I64 x19))), (14, .inr (.inl (14, 0))), (15, .inl (is (Bl x23))), (16, .inr (.inl (16, 0))), (17, .inl (is (Bl x27))), (83, .inl (is (Bl v)))], [(2, pb 23 [is (U8 a0_0), is (U8 a0_1)]), (4, pb 76 [is (Bl false), is (Sv ([] : List UInt8)), is (I16 0)]), (5, pb 175 [is (U64 x2), is (Bl x3), is (I8 x4), is (Bl x5), big x6, big x7]), (8, pb 181 [is (I8 x12), is (Bl x13)]), (13, pb 181 [is (I8 x20), is (Bl x21)]), (14, pb 76 [is (Bl x24), is (Sv x25), is (I16 x26)]), (16, pb 76 [is (Bl x28), is (Sv x29), is (I16 x30)])]⟩) (fun v => some out2 = F82_15 N a0_0 a0_1 x2 x3 x4 x5 x6 x7 x10 x11 x12 x13 x15 x19 x20 x21 x22 x23 x24 x25 x26 x27 x28 x29 x30 v) ?_ ?_
                                    · skip
                                      refine AW_region ?_
                                      refine AL_cons (LR_move (at_tmp 15 _) rfl) (sS (sT1 rfl) sB0 sF0) ?_
                                      refine AL_cons (LR_move (at_tmp 84 _) rfl) (sS (sT1 rfl) sB0 sF0) ?_
                                      refine AL_cutAt 2 ⟨[(2, .inr (.inl (2, 0))), (4, .inr (.inl (4, 0))), (5, .inr (.inl (5, 0))), (6, .inl (is (I64 x10))), (8, .inr (.inl (8, 0))), (7, .inl (is (I64 x11))), (9, .inl (is (I64 x22))), (10, .inl (is (I64 x15))), (13, .inr (.inl (13, 0))), (12, .inl (is (I64 x19))), (14, .inr (.inl (14, 0))), (15, .inl (is (Bl x23))), (16, .inr (.inl (16, 0))), (17, .inl (is (Bl x27))), (84, .inl (is (Bl x23))), (85, .inl (is (Bl x23))), (87, .inl (is (Bl (x23 && x27))))], [(2, pb 23 [is (U8 a0_0), is (U8 a0_1)]), (4, pb 76 [is (Bl false), is (Sv ([] : List UInt8)), is (I16 0)]), (5, pb 175 [is (U64 x2), is (Bl x3), is (I8 x4), is (Bl x5), big x6, big x7]), (8, pb 181 [is (I8 x12), is (Bl x13)]), (13, pb 181 [is (I8 x20), is (Bl x21)]), (14, pb 76 [is (Bl x24), is (Sv x25), is (I16 x26)]), (16, pb 76 [is (Bl x28), is (Sv x29), is (I16 x30)])]⟩ ?_ ?_
                                      · cases hb : x23
                                        · skip
                                          refine AL_cons (LR_off (b := false) rfl rfl rfl rfl) (sS (sT1 rfl) sB0 sF0) ?_
                                          refine AL_cons (LR_pick (b := false) (at_tmp 85 _) (at_tmp 86 _) (at_c (v' := Bl false) rfl) rfl) (sS (sA (sT1 rfl) (sA (sT1 rfl) sT0)) sB0 sF0) ?_
                                          exact AL_nil ⟨rfl, weak0 ((sT rfl (sT rfl (sT rfl (sT rfl (sT rfl (sT rfl (sT rfl (sT rfl (sT rfl (sT rfl (sT rfl (sT rfl (sT rfl (sT rfl (sT rfl (sT rfl (sT rfl sT0)))))))))))))))))) (sub_keep (sub_keep (sub_keep (sub_keep (sub_keep (sub_keep (sub_keep sub_nil)))))))⟩
                                        · skip
                                          refine AL_cons (LR_on rfl rfl rfl (LR_move (at_tmp 17 _) rfl)) (sS (sT rfl (sT1 rfl)) sB0 sF0) ?_
                                          refine AL_cons (LR_pick (b := true) (at_tmp 85 _) (at_tmp 86 _) (at_c (v' := Bl false) rfl) rfl) (sS (sA (sT1 rfl) (sA (sT1 rfl) sT0)) sB0 sF0) ?_
                                          exact AL_nil ⟨rfl, weak0 ((sT rfl (sT rfl (sT rfl (sT rfl (sT rfl (sT rfl (sT rfl (sT rfl (sT rfl (sT rfl (sT rfl (sT rfl (sT rfl (sT rfl (sT rfl (sT rfl (sT rfl sT0)))))))))))))))))) (sub_keep (sub_keep (sub_keep (sub_keep (sub_keep (sub_keep (sub_keep sub_nil)))))))⟩
                                      refine AL_cons (LR_assign (at_tmp 87 _) rfl) (sS (sT1 rfl) sB0 sF0) ?_
                                      refine AL_nil ?_
                                      exact thenN (cutLeaf (v := x23 && x27) hr (weak0 ((sT rfl (sT rfl (sT rfl (sT rfl (sT rfl (sT rfl (sT rfl (sT rfl (sT rfl (sT rfl (sT rfl (sT rfl (sT rfl (sT rfl (sT rfl sT0)))))))))))))))) (sub_keep (sub_keep (sub_keep (sub_keep (sub_keep (sub_keep (sub_keep sub_nil)))))))))
                                    · rintro x31 hr
                                      show AW Hfaa.prog _ _ _ ⟨[(2, .inr (.inl (2, 0))), (4, .inr (.inl (4, 0))), (5, .inr (.inl (5, 0))), (6, .inl (is (I64 x10))), (8, .inr (.inl (8, 0))), (7, .inl (is (I64 x11))), (9, .inl (is (I64 x22))), (10, .inl (is (I64 x15))), (13, .inr (.inl (13, 0))), (12, .inl (is (I64 x19))), (14, .inr (.inl (14, 0))), (15, .inl (is (Bl x23))), (16, .inr (.inl (16, 0))), (17, .inl (is (Bl x27))), (83, .inl (is (Bl x31)))], [(2, pb 23 [is (U8 a0_0), is (U8 a0_1)]), (4, pb 76 [is (Bl false), is (Sv ([] : List UInt8)), is (I16 0)]), (5, pb 175 [is (U64 x2), is (Bl x3), is (I8 x4), is (Bl x5), big x6, big x7]), (8, pb 181 [is (I8 x12), is (Bl x13)]), (13, pb 181 [is (I8 x20), is (Bl x21)]), (14, pb 76 [is (Bl x24), is (Sv x25), is (I16 x26)]), (16, pb 76 [is (Bl x28), is (Sv x29), is (I16 x30)])]⟩
                                      have hr : some out2 = F82_15 N a0_0 a0_1 x2 x3 x4 x5 x6 x7 x10 x11 x12 x13 x15 x19 x20 x21 x22 x23 x24 x25 x26 x27 x28 x29 x30 x31 := hr
                                      refine AW_condT (b := x31) rfl (fun h => ?_) (fun h => ?_)
                                      · have hr := hr.trans (cond_t h)
                                        clear h
                                        refine AW_seq1 ?_
                                        refine AW_cut (σ := Bool) (fun v => ⟨[(4, .inr (.inl (4, 0))), (14, .inr (.inl (14, 0))), (16, .inr (.inl (16, 0))), (100, .inl (is (Bl v)))], [(4, pb 76 [is (Bl false), is (Sv ([] : List UInt8)), is (I16 0)]), (14, pb 76 [is (Bl x24), is (Sv x25), is (I16 x26)]), (16, pb 76 [is (Bl x28), is (Sv x29), is (I16 x30)])]⟩) (fun v => some out2 = F82_16 N x24 x25 x26 x28 x29 x30 v) ?_ ?_
                                        · skip
                                          refine AW_region ?_
                                          refine AL_cons (LR_fieldAddr (off := 0) (o := 0) (at_tmp 13 _) (fun b w => fa181_0 b 0 w) rfl) (sS (sT1 rfl) sB0 sF0) ?_
                                          refine AL_cons (LR_load (at_tmp 88 _) na101 rfl rfl) (sS (sT1 rfl) (sB1 rfl) sF0) ?_
                                          refine AL_cons (LR_bin (at_tmp 89 _) (at_c (v' := I8 0) rfl) (lss_I8 x20 0) rfl) (sS (sA (sT1 rfl) sT0) sB0 sF0) ?_
                                          refine AL_cons (LR_move (at_tmp 90 _) rfl) (sS (sT1 rfl) sB0 sF0) ?_
                                          refine AL_cutAt 9 ⟨[(2, .inr (.inl (2, 0))), (4, .inr (.inl (4, 0))), (5, .inr (.inl (5, 0))), (6, .inl (is (I64 x10))), (8, .inr (.inl (8, 0))), (7, .inl (is (I64 x11))), (9, .inl (is (I64 x22))), (10, .inl (is (I64 x15))), (13, .inr (.inl (13, 0))), (12, .inl (is (I64 x19))), (14, .inr (.inl (14, 0))), (15, .inl (is (Bl x23))), (16, .inr (.inl (16, 0))), (17, .inl (is (Bl x27))), (83, .inl (is (Bl x31))), (88, .inr (.inl (13, 0))), (89, .inl (is (I8 x20))), (90, .inl (is (Bl (decide (x20 < 0))))), (91, .inl (is (Bl (decide (x20 < 0))))), (100, .inl (is (Bl ((decide (x20 < 0)) || ((x20 == 0) && ((x19.tmod 2) == 0))))))], [(2, pb 23 [is (U8 a0_0), is (U8 a0_1)]), (4, pb 76 [is (Bl false), is (Sv ([] : List UInt8)), is (I16 0)]), (5, pb 175 [is (U64 x2), is (Bl x3), is (I8 x4), is (Bl x5), big x6, big x7]), (8, pb 181 [is (I8 x12), is (Bl x13)]), (13, pb 181 [is (I8 x20), is (Bl x21)]), (14, pb 76 [is (Bl x24), is (Sv x25), is (I16 x26)]), (16, pb 76 [is (Bl x28), is (Sv x29), is (I16 x30)])]⟩ ?_ ?_
                                          · cases hb : decide (x20 < 0)
                                            · skip
                                              refine AL_cons (LR_on rfl rfl rfl (LR_fieldAddr (off := 0) (o := 0) (at_tmp 13 _) (fun b w => fa181_0 b 0 w) rfl)) (sS (sT rfl (sT1 rfl)) sB0 sF0) ?_
                                              refine AL_cons (LR_on rfl rfl rfl (LR_load (at_tmp 92 _) na101 rfl rfl)) (sS (sT rfl (sT1 rfl)) (sB1 rfl) sF0) ?_
                                              refine AL_cons (LR_on rfl rfl rfl (LR_bin (at_tmp 93 _) (at_c (v' := I8 0) rfl) (eql_I8 x20 0) rfl)) (sS (sT rfl (sA (sT1 rfl) sT0)) sB0 sF0) ?_
                                              refine AL_cons (LR_on rfl rfl rfl (LR_move (at_tmp 94 _) rfl)) (sS (sT rfl (sT1 rfl)) sB0 sF0) ?_
                                              refine AL_cutAt 4 ⟨[(2, .inr (.inl (2, 0))), (4, .inr (.inl (4, 0))), (5, .inr (.inl (5, 0))), (6, .inl (is (I64 x10))), (8, .inr (.inl (8, 0))), (7, .inl (is (I64 x11))), (9, .inl (is (I64 x22))), (10, .inl (is (I64 x15))), (13, .inr (.inl (13, 0))), (12, .inl (is (I64 x19))), (14, .inr (.inl (14, 0))), (15, .inl (is (Bl x23))), (16, .inr (.inl (16, 0))), (17, .inl (is (Bl x27))), (83, .inl (is (Bl x31))), (88, .inr (.inl (13, 0))), (89, .inl (is (I8 x20))), (90, .inl (is (Bl false))), (91, .inl (is (Bl false))), (92, .inr (.inl (13, 0))), (93, .inl (is (I8 x20))), (94, .inl (is (Bl (x20 == 0)))), (95, .inl (is (Bl (x20 == 0)))), (99, .inl (is (Bl ((x20 == 0) && ((x19.tmod 2) == 0)))))], [(2, pb 23 [is (U8 a0_0), is (U8 a0_1)]), (4, pb 76 [is (Bl false), is (Sv ([] : List UInt8)), is (I16 0)]), (5, pb 175 [is (U64 x2), is (Bl x3), is (I8 x4), is (Bl x5), big x6, big x7]), (8, pb 181 [is (I8 x12), is (Bl x13)]), (13, pb 181 [is (I8 x20), is (Bl x21)]), (14, pb 76 [is (Bl x24), is (Sv x25), is (I16 x26)]), (16, pb 76 [is (Bl x28), is (Sv x29), is (I16 x30)])]⟩ ?_ ?_
                                              · cases hb : x20 == 0
                                                · skip
                                                  refine AL_cons (LR_off (b := false) rfl rfl rfl rfl) (sS (sT1 rfl) sB0 sF0) ?_
                                                  refine AL_cons (LR_off (b := false) rfl rfl rfl rfl) (sS (sT1 rfl) sB0 sF0) ?_
                                                  refine AL_cons (LR_off (b := false) rfl rfl rfl rfl) (sS (sT1 rfl) sB0 sF0) ?_
                                                  refine AL_cons (LR_on rfl rfl rfl (LR_pick (b := false) (at_tmp 95 _) (at_tmp 98 _) (at_c (v' := Bl false) rfl) rfl)) (sS (sT rfl (sA (sT1 rfl) (sA (sT1 rfl) sT0))) sB0 sF0) ?_
                                                  exact AL_nil ⟨rfl, weak0 ((sT rfl (sT rfl (sT rfl (sT rfl (sT rfl (sT rfl (sT rfl (sT rfl (sT rfl (sT rfl (sT rfl (sT rfl (sT rfl (sT rfl (sT rfl (sT rfl (sT rfl (sT rfl (sT rfl (sT rfl (sT rfl (sT rfl (sT rfl (sT rfl sT0))))))))))))))))))))))))) (sub_keep (sub_keep (sub_keep (sub_keep (sub_keep (sub_keep (sub_keep sub_nil)))))))⟩
                                                · skip
                                                  refine AL_cons (LR_on rfl rfl rfl (LR_move (at_tmp 12 _) rfl)) (sS (sT rfl (sT1 rfl)) sB0 sF0) ?_
                                                  refine AL_cons (LR_on rfl rfl rfl (LR_bin (at_tmp 96 _) (at_c (v' := I64 2) rfl) (rem_I64 x19 2 (by decide)) rfl)) (sS (sT rfl (sA (sT1 rfl) sT0)) sB0 sF0) ?_
                                                  refine AL_cons (LR_on rfl rfl rfl (LR_bin (at_tmp 97 _) (at_c (v' := I64 0) rfl) (eql_I64 (x19.tmod 2) 0) rfl)) (sS (sT rfl (sA (sT1 rfl) sT0)) sB0 sF0) ?_
                                                  refine AL_cons (LR_on rfl rfl rfl (LR_pick (b := true) (at_tmp 95 _) (at_tmp 98 _) (at_c (v' := Bl false) rfl) rfl)) (sS (sT rfl (sA (sT1 rfl) (sA (sT1 rfl) sT0))) sB0 sF0) ?_
                                                  exact AL_nil ⟨rfl, weak0 ((sT rfl (sT rfl (sT rfl (sT rfl (sT rfl (sT rfl (sT rfl (sT rfl (sT rfl (sT rfl (sT rfl (sT rfl (sT rfl (sT rfl (sT rfl (sT rfl (sT rfl (sT rfl (sT rfl (sT rfl (sT rfl (sT rfl (sT rfl (sT rfl sT0))))))))))))))))))))))))) (sub_keep (sub_keep (sub_keep (sub_keep (sub_keep (sub_keep (sub_keep sub_nil)))))))⟩
                                              refine AL_cons (LR_pick (b := false) (at_tmp 91 _) (at_c (v' := Bl true) rfl) (at_tmp 99 _) rfl) (sS (sA (sT1 rfl) (sA sT0 (sT1 rfl))) sB0 sF0) ?_
                                              exact AL_nil ⟨rfl, weak0 ((sT rfl (sT rfl (sT rfl (sT rfl (sT rfl (sT rfl (sT rfl (sT rfl (sT rfl (sT rfl (sT rfl (sT rfl (sT rfl (sT rfl (sT rfl (sT rfl (sT rfl (sT rfl (sT rfl (sT rfl sT0))))))))))))))))))))) (sub_keep (sub_keep (sub_keep (sub_keep (sub_keep (sub_keep (sub_keep sub_nil)))))))⟩
                                            · skip
                                              refine AL_cons (LR_off (b := true) rfl rfl rfl rfl) (sS (sT1 rfl) sB0 sF0) ?_
                                              refine AL_cons (LR_off (b := true) rfl rfl rfl rfl) (sS (sT1 rfl) sB0 sF0) ?_
                                              refine AL_cons (LR_off (b := true) rfl rfl rfl rfl) (sS (sT1 rfl) sB0 sF0) ?_
                                              refine AL_cons (LR_off (b := true) rfl rfl rfl rfl) (sS (sT1 rfl) sB0 sF0) ?_
                                              refine AL_cons (LR_offU rfl rfl rfl rfl) (sS (sT1 rfl) sB0 sF0) ?_
                                              refine AL_cons (LR_offU rfl rfl rfl rfl) (sS (sT1 rfl) sB0 sF0) ?_
                                              refine AL_cons (LR_offU rfl rfl rfl rfl) (sS (sT1 rfl) sB0 sF0) ?_
                                              refine AL_cons (LR_off (b := true) rfl rfl rfl rfl) (sS (sT1 rfl) sB0 sF0) ?_
                                              refine AL_cons (LR_pick (b := true) (at_tmp 91 _) (at_c (v' := Bl true) rfl) (at_tmp 99 _) rfl) (sS (sA (sT1 rfl) (sA sT0 (sT1 rfl))) sB0 sF0) ?_
                                              exact AL_nil ⟨rfl, weak0 ((sT rfl (sT rfl (sT rfl (sT rfl (sT rfl (sT rfl (sT rfl (sT rfl (sT rfl (sT rfl (sT rfl (sT rfl (sT rfl (sT rfl (sT rfl (sT rfl (sT rfl (sT rfl (sT rfl (sT rfl sT0))))))))))))))))))))) (sub_keep (sub_keep (sub_keep (sub_keep (sub_keep (sub_keep (sub_keep sub_nil)))))))⟩
                                          refine AL_nil ?_
                                          exact thenN (cutLeaf (v := (decide (x20 < 0)) || ((x20 == 0) && ((x19.tmod 2) == 0))) hr (weak0 ((sT rfl (sT rfl (sT rfl (sT rfl sT0))))) (sub_drop (sub_keep (sub_drop (sub_drop (sub_drop (sub_keep (sub_keep sub_nil)))))))))
                                        · rintro x32 hr
                                          show AW Hfaa.prog _ _ _ ⟨[(4, .inr (.inl (4, 0))), (14, .inr (.inl (14, 0))), (16, .inr (.inl (16, 0))), (100, .inl (is (Bl x32)))], [(4, pb 76 [is (Bl false), is (Sv ([] : List UInt8)), is (I16 0)]), (14, pb 76 [is (Bl x24), is (Sv x25), is (I16 x26)]), (16, pb 76 [is (Bl x28), is (Sv x29), is (I16 x30)])]⟩
                                          have hr : some out2 = F82_16 N x24 x25 x26 x28 x29 x30 x32 := hr
                                          refine AW_condT (b := x32) rfl (fun h => ?_) (fun h => ?_)
                                          · have hr := hr.trans (cond_t h)
                                            clear h
                                            refine AW_seq1 ?_
                                            refine AW_region ?_
                                            refine AL_cons (LR_loads (at_tmp 14 _) ag76 sz76 rfl rfl rfl) (sS (sT1 rfl) (sB1 rfl) sF0) ?_
                                            refine AL_cons (LR_store (at_tmp 4 _) (at_tmp 101 _) (cells_agg _) (onC (one_is rfl) (onC (one_is rfl) (onC (one_is rfl) onN))) sz76 rfl rfl) (sS (sA (sT1 rfl) (sT1 rfl)) (sB1 rfl) sF0) ?_
                                            refine AL_nil ?_
                                            refine thenN ?_
                                            refine AW_ret ?_
                                            refine thenR ?_
                                            refine blR ?_
                                            refine blR ?_
                                            refine thenR ?_
                                            obtain ⟨r', hro, hr⟩ := map_inr hr
                                            refine thenR (loopOut hro (fun he => ?_))
                                            rw [he] at hr
                                            refine blR ?_
                                            refine thenR ?_
                                            obtain rfl := Option.some.inj hr
                                            exact res1 rfl (rvC rfl rfl ag76 sz76 rfl)
                                          · have hr := hr.trans (cond_f h)
                                            clear h
                                            refine AW_skip ?_
                                            refine thenN ?_
                                            refine AW_seq1 ?_
                                            refine AW_region ?_
                                            refine AL_cons (LR_loads (at_tmp 16 _) ag76 sz76 rfl rfl rfl) (sS (sT1 rfl) (sB1 rfl) sF0) ?_
                                            refine AL_cons (LR_store (at_tmp 4 _) (at_tmp 102 _) (cells_agg _) (onC (one_is rfl) (onC (one_is rfl) (onC (one_is rfl) onN))) sz76 rfl rfl) (sS (sA (sT1 rfl) (sT1 rfl)) (sB1 rfl) sF0) ?_
                                            refine AL_nil ?_
                                            refine thenN ?_
                                            refine AW_ret ?_
                                            refine blR ?_
                                            refine blR ?_
                                            refine thenR ?_
                                            obtain ⟨r', hro, hr⟩ := map_inr hr
                                            refine thenR (loopOut hro (fun he => ?_))
                                            rw [he] at hr
                                            refine blR ?_
                                            refine thenR ?_
                                            obtain rfl := Option.some.inj hr
                                            exact res1 rfl (rvC rfl rfl ag76 sz76 rfl)
                                      · have hr := hr.trans (cond_f h)
                                        clear h
                                        refine AW_seq1 ?_
                                        refine AW_region ?_
                                        refine AL_cons (LR_move (at_tmp 15 _) rfl) (sS (sT1 rfl) sB0 sF0) ?_
                                        refine AL_cons (LR_assign (at_tmp 104 _) rfl) (sS (sT1 rfl) sB0 sF0) ?_
                                        refine AL_nil ?_
                                        refine thenN ?_
                                        refine AW_condT (b := x23) rfl (fun h => ?_) (fun h => ?_)
                                        · have hr := hr.trans (cond_t h)
                                          clear h
                                          refine AW_seq1 ?_
                                          refine AW_region ?_
                                          refine AL_cons (LR_loads (at_tmp 14 _) ag76 sz76 rfl rfl rfl) (sS (sT1 rfl) (sB1 rfl) sF0) ?_
                                          refine AL_cons (LR_store (at_tmp 4 _) (at_tmp 105 _) (cells_agg _) (onC (one_is rfl) (onC (one_is rfl) (onC (one_is rfl) onN))) sz76 rfl rfl) (sS (sA (sT1 rfl) (sT1 rfl)) (sB1 rfl) sF0) ?_
                                          refine AL_nil ?_
                                          refine thenN ?_
                                          refine AW_ret ?_
                                          refine blR ?_
                                          refine blR ?_
                                          refine thenR ?_
                                          obtain ⟨r', hro, hr⟩ := map_inr hr
                                          refine thenR (loopOut hro (fun he => ?_))
                                          rw [he] at hr
                                          refine blR ?_
                                          refine thenR ?_
                                          obtain rfl := Option.some.inj hr
                                          exact res1 rfl (rvC rfl rfl ag76 sz76 rfl)
                                        · have hr := hr.trans (cond_f h)
                                          clear h
                                          refine AW_seq1 ?_
                                          refine AW_region ?_
                                          refine AL_cons (LR_move (at_tmp 17 _) rfl) (sS (sT1 rfl) sB0 sF0) ?_
                                          refine AL_cons (LR_assign (at_tmp 107 _) rfl) (sS (sT1 rfl) sB0 sF0) ?_
                                          refine AL_nil ?_
                                          refine thenN ?_
                                          refine AW_condT (b := x27) rfl (fun h => ?_) (fun h => ?_)
                                          · have hr := hr.trans (cond_t h)
                                            clear h
                                            refine AW_seq1 ?_
                                            refine AW_region ?_
                                            refine AL_cons (LR_loads (at_tmp 16 _) ag76 sz76 rfl rfl rfl) (sS (sT1 rfl) (sB1 rfl) sF0) ?_
                                            refine AL_cons (LR_store (at_tmp 4 _) (at_tmp 108 _) (cells_agg _) (onC (one_is rfl) (onC (one_is rfl) (onC (one_is rfl) onN))) sz76 rfl rfl) (sS (sA (sT1 rfl) (sT1 rfl)) (sB1 rfl) sF0) ?_
                                            refine AL_nil ?_
                                            refine thenN ?_
                                            refine AW_ret ?_
                                            refine blR ?_
                                            refine blR ?_
                                            refine thenR ?_
                                            obtain ⟨r', hro, hr⟩ := map_inr hr
                                            refine thenR (loopOut hro (fun he => ?_))
                                            rw [he] at hr
                                            refine blR ?_
                                            refine thenR ?_
                                            obtain rfl := Option.some.inj hr
                                            exact res1 rfl (rvC rfl rfl ag76 sz76 rfl)
                                          · have hr := hr.trans (cond_f h)
                                            clear h
                                            refine AW_skip ?_
                                            refine blN ?_
                                            refine blN ?_
                                            exact thenN (cutLeaf (v := x22) hr (weak0 ((sT rfl (sT rfl (sT rfl (sT rfl (sT rfl (sT rfl (sT rfl (sT rfl sT0))))))))) (sub_keep (sub_keep (sub_keep (sub_keep (sub_drop (sub_drop (sub_drop sub_nil)))))))))
                        · rintro x17 hr
                          show AW Hfaa.prog _ _ _ ⟨[(2, .inr (.inl (2, 0))), (4, .inr (.inl (4, 0))), (5, .inr (.inl (5, 0))), (6, .inl (is (I64 x10))), (8, .inr (.inl (8, 0))), (7, .inl (is (I64 x11))), (9, .inl (is (I64 x17))), (10, .inl (is (I64 x15)))], [(2, pb 23 [is (U8 a0_0), is (U8 a0_1)]), (4, pb 76 [is (Bl false), is (Sv ([] : List UInt8)), is (I16 0)]), (5, pb 175 [is (U64 x2), is (Bl x3), is (I8 x4), is (Bl x5), big x6, big x7]), (8, pb 181 [is (I8 x12), is (Bl x13)])]⟩
                          have hr : some out2 = F82_9 N a0_0 a0_1 x2 x3 x4 x5 x6 x7 x10 x11 x12 x13 x15 x17 := hr
                          refine AW_region ?_
                          refine AL_cons (LR_move (at_tmp 10 _) rfl) (sS (sT1 rfl) sB0 sF0) ?_
                          refine AL_cons (LR_bin (at_tmp 49 _) (at_c (v' := I64 1) rfl) (add_I64 x15 1) rfl) (sS (sA (sT1 rfl) sT0) sB0 sF0) ?_
                          refine AL_cons (LR_assign (at_tmp 50 _) rfl) (sS (sT1 rfl) sB0 sF0) ?_
                          refine AL_nil ?_
                          exact thenN (loopNext (x' := (x17, w64 (x15 + 1))) hr (weak0 ((sT rfl (sT rfl (sT rfl (sT rfl (sT rfl (sT rfl (sT rfl (sT rfl sT0))))))))) (sub_keep (sub_keep (sub_keep (sub_keep sub_nil))))))
                      · have hr := hr.trans (cond_f h)
                        clear h
                        refine AW_exit ?_
                        refine thenX ?_
                        obtain ⟨r', hro, hr⟩ := map_inr hr
                        refine thenX (loopOut hro (fun he => ?_))
                        rw [he] at hr
                        refine blH ?_
                        refine thenN ?_
                        refine AW_seq1 ?_
                        refine AW_region ?_
                        refine AL_cons (bl76 parts_nil rfl rfl) (sS sT0 sB0 sF0) ?_
                        refine AL_cons (LR_store (at_tmp 4 _) (at_tmp 109 _) (cells_agg _) (onC (one_is rfl) (onC (one_is rfl) (onC (one_is rfl) onN))) sz76 rfl rfl) (sS (sA (sT1 rfl) (sT1 rfl)) (sB1 rfl) sF0) ?_
                        refine AL_nil ?_
                        refine thenN ?_
                        refine AW_ret ?_
                        obtain rfl := Option.some.inj hr
                        exact res1 rfl (rvC rfl rfl ag76 sz76 rfl)
end Go.Proofs.YfwaawGreat
