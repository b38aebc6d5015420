import Derived.Test.YfwaawGreatG25
import Derived.Test.YfwaawGreatG26
import Derived.Test.YfwaawGreatG28
namespace Go.Proofs.YfwaawGreat
open Go.Aw
set_option linter.unusedVariables false
set_option maxRecDepth 100000
set_option maxHeartbeats 1000000
/-- (*parse/slow.big).mulAdd -/
def F267_3 (N : Nat) (b0_0 : Int) (x4 : Nat → BitVec 64) : Option (Int × (Nat → BitVec 64)) := some ((w64 (b0_0 + 1), x4))
def F267_2 (N : Nat) (b0_0 : Int) (x1 : BitVec 64) (x2 : Nat → BitVec 64) (x3 : Bool) : Option (Int × (Nat → BitVec 64)) := bif x3 then bif (decide (0 ≤ b0_0) && decide (b0_0 < (52 : Int))) then F267_3 N b0_0 (upd x2 b0_0.toNat x1) else none else some (b0_0, x2)
def F267_1 (N : Nat) (b0_0 : Int) (x1 : BitVec 64) (x2 : Nat → BitVec 64) : Option (Int × (Nat → BitVec 64)) := F267_2 N b0_0 x1 x2 ((x1 != (0#64)) && (decide (b0_0 < 52)))
def F267_6 (N : Nat) (b0_0 : Int) (a1 : BitVec 64) (x6 : Int) (x9 : BitVec 64) (x10 : Nat → BitVec 64) : Option ((BitVec 64 × Int × (Nat → BitVec 64)) ⊕ (Int × (Nat → BitVec 64))) := some (.inl ((x9, w64 (x6 + 1), x10)))
def F267_9 (N : Nat) (b0_0 : Int) (a1 : BitVec 64) (x6 : Int) (x13 : BitVec 64) (x14 : BitVec 64) (x15 : Nat → BitVec 64) : Option ((BitVec 64 × Int × (Nat → BitVec 64)) ⊕ (Int × (Nat → BitVec 64))) := F267_6 N b0_0 a1 x6 x13 x15
def F267_8 (N : Nat) (b0_0 : Int) (a1 : BitVec 64) (x6 : Int) (x7 : Nat → BitVec 64) (x13 : BitVec 64) (x14 : BitVec 64) : Option ((BitVec 64 × Int × (Nat → BitVec 64)) ⊕ (Int × (Nat → BitVec 64))) := bif (decide (0 ≤ x6) && decide (x6 < (52 : Int))) then F267_9 N b0_0 a1 x6 x13 x14 (upd x7 x6.toNat x14) else none
def F267_7 (N : Nat) (b0_0 : Int) (a1 : BitVec 64) (x5 : BitVec 64) (x6 : Int) (x7 : Nat → BitVec 64) (x11 : BitVec 64) (x12 : BitVec 64) : Option ((BitVec 64 × Int × (Nat → BitVec 64)) ⊕ (Int × (Nat → BitVec 64))) := lt (F166 x11 x12 (0#64) x5) fun y47 => F267_8 N b0_0 a1 x6 x7 y47.1 y47.2.1
def F267_5 (N : Nat) (b0_0 : Int) (a1 : BitVec 64) (x5 : BitVec 64) (x6 : Int) (x7 : Nat → BitVec 64) (x8 : Bool) : Option ((BitVec 64 × Int × (Nat → BitVec 64)) ⊕ (Int × (Nat → BitVec 64))) := bif x8 then bif (decide (0 ≤ x6) && decide (x6 < (52 : Int))) then lt (F165 (x7 x6.toNat) a1) fun y48 => F267_7 N b0_0 a1 x5 x6 x7 y48.1 y48.2 else none else (F267_1 N b0_0 x5 x7).map Sum.inr
def F267_L4b (N : Nat) (b0_0 : Int) (a1 : BitVec 64) (x5 : BitVec 64) (x6 : Int) (x7 : Nat → BitVec 64) : Option ((BitVec 64 × Int × (Nat → BitVec 64)) ⊕ (Int × (Nat → BitVec 64))) := F267_5 N b0_0 a1 x5 x6 x7 (decide (x6 < b0_0))
def F267_L4 (N : Nat) (b0_0 : Int) (a1 : BitVec 64) : (BitVec 64 × Int × (Nat → BitVec 64)) → Option ((BitVec 64 × Int × (Nat → BitVec 64)) ⊕ (Int × (Nat → BitVec 64))) := fun v => F267_L4b N b0_0 a1 v.1 v.2.1 v.2.2
def F267 (N : Nat) (b0_0 : Int) (b0_1 : Nat → BitVec 64) (a1 : BitVec 64) (a2 : BitVec 64) : Option (Int × (Nat → BitVec 64)) := iterL (F267_L4 N b0_0 a1) N (a2, 0, b0_1)
theorem C267 (N : Nat) (b0_0 : Int) (b0_1 : Nat → BitVec 64) (a1 : BitVec 64) (a2 : BitVec 64) (r : Int × (Nat → BitVec 64)) (hr : some r = F267 N b0_0 b0_1 a1 a2) : FnB Hfaa.prog 267 [.inr (.inl (0, 0)), .inl (is (U64 a1)), .inl (is (U64 a2))] [(0, pb 261 (is (I64 b0_0) :: (ar U64 52 b0_1 ++ [])))] (tup []) [(0, pb 261 (is (I64 r.1) :: (ar U64 52 r.2 ++ [])))] := by
  refine fnB_intro Hfaa.func267 rfl rfl rfl rfl rfl ⟨hf_pb _ _, trivial⟩ ?_
  intro bn0 w0 H0
  refine AW_cut (σ := BitVec 64 × (Nat → BitVec 64)) (fun v => ⟨[(0, .inr (.inl (0, 0))), (2, .inl (is (U64 v.1)))], [(0, pb 261 (is (I64 b0_0) :: (ar U64 52 v.2 ++ [])))]⟩) (fun v => some r = F267_1 N b0_0 v.1 v.2) ?_ ?_
  · skip
    refine AW_seq1 ?_
    refine AW_region ?_
    refine AL_cons (LR_assign (at_c (v' := I64 0) rfl) rfl) (sS sT0 sB0 sF0) ?_
    refine AL_nil ?_
    refine thenN ?_
    refine AW_block ?_
    refine AW_iterR (σ := BitVec 64 × Int × (Nat → BitVec 64)) (r := r) (x0 := (a2, 0, b0_1)) (emb := fun v => ⟨[(0, .inr (.inl (0, 0))), (1, .inl (is (U64 a1))), (2, .inl (is (U64 v.1))), (6, .inl (is (I64 v.2.1)))], [(0, pb 261 (is (I64 b0_0) :: (ar U64 52 v.2.2 ++ [])))]⟩) ?_ hr ?_
    · exact weakB ((sT rfl (sT rfl (sT rfl (sT rfl sT0))))) (sub_keep sub_nil) rfl
    rintro ⟨x5, x6, x7⟩ out2 hr
    show AW Hfaa.prog _ _ _ ⟨[(0, .inr (.inl (0, 0))), (1, .inl (is (U64 a1))), (2, .inl (is (U64 x5))), (6, .inl (is (I64 x6)))], [(0, pb 261 (is (I64 b0_0) :: (ar U64 52 x7 ++ [])))]⟩
    have hr : some out2 = F267_L4b N b0_0 a1 x5 x6 x7 := hr
    refine AW_seq1 ?_
    refine AW_cut (σ := Bool) (fun v => ⟨[(0, .inr (.inl (0, 0))), (1, .inl (is (U64 a1))), (2, .inl (is (U64 x5))), (6, .inl (is (I64 x6))), (13, .inl (is (Bl v)))], [(0, pb 261 (is (I64 b0_0) :: (ar U64 52 x7 ++ [])))]⟩) (fun v => some out2 = F267_5 N b0_0 a1 x5 x6 x7 v) ?_ ?_
    · skip
      refine AW_region ?_
      refine AL_cons (LR_move (at_tmp 6 _) rfl) (sS (sT1 rfl) sB0 sF0) ?_
      refine AL_cons (LR_move (at_tmp 0 _) rfl) (sS (sT1 rfl) sB0 sF0) ?_
      refine AL_cons (LR_nilCheck (at_tmp 9 _) rfl) (sS (sT1 rfl) sB0 sF0) ?_
      refine AL_cons (LR_fieldAddr (off := 0) (o := 0) (at_tmp 10 _) (fun b w => fa261_0 b 0 w) rfl) (sS (sT1 rfl) sB0 sF0) ?_
      refine AL_cons (LR_load (at_tmp 11 _) na3 g0 rfl) (sS (sT1 rfl) (sB1 rfl) sF0) ?_
      refine AL_cons (LR_bin (at_tmp 8 _) (at_tmp 12 _) (lss_I64 x6 b0_0) rfl) (sS (sA (sT1 rfl) (sT1 rfl)) sB0 sF0) ?_
      refine AL_nil ?_
      exact thenN (cutLeaf (v := decide (x6 < b0_0)) hr (weakB ((sT rfl (sT rfl (sT rfl (sT rfl (sT rfl sT0)))))) (sub_keep sub_nil) rfl))
    · rintro x8 hr
      show AW Hfaa.prog _ _ _ ⟨[(0, .inr (.inl (0, 0))), (1, .inl (is (U64 a1))), (2, .inl (is (U64 x5))), (6, .inl (is (I64 x6))), (13, .inl (is (Bl x8)))], [(0, pb 261 (is (I64 b0_0) :: (ar U64 52 x7 ++ [])))]⟩
      have hr : some out2 = F267_5 N b0_0 a1 x5 x6 x7 x8 := hr
      refine AW_condT (b := x8) rfl (fun h => ?_) (fun h => ?_)
      · have hr := hr.trans (cond_t h)
        clear h
        refine AW_skip ?_
        refine thenN ?_
        refine AW_cut (σ := BitVec 64 × (Nat → BitVec 64)) (fun v => ⟨[(0, .inr (.inl (0, 0))), (1, .inl (is (U64 a1))), (6, .inl (is (I64 x6))), (2, .inl (is (U64 v.1)))], [(0, pb 261 (is (I64 b0_0) :: (ar U64 52 v.2 ++ [])))]⟩) (fun v => some out2 = F267_6 N b0_0 a1 x6 v.1 v.2) ?_ ?_
        · skip
          refine AW_block ?_
          refine AW_cut (σ := BitVec 64 × BitVec 64) (fun v => ⟨[(0, .inr (.inl (0, 0))), (1, .inl (is (U64 a1))), (2, .inl (is (U64 x5))), (6, .inl (is (I64 x6))), (7, .inr (.inl (7, 0)))], [(0, pb 261 (is (I64 b0_0) :: (ar U64 52 x7 ++ []))), (7, pb 42 [is (U64 v.1), is (U64 v.2)])]⟩) (fun v => some out2 = F267_7 N b0_0 a1 x5 x6 x7 v.1 v.2) ?_ ?_
          · skip
            refine AW_region ?_
            refine AL_cons (LR_move (at_tmp 0 _) rfl) (sS (sT1 rfl) sB0 sF0) ?_
            refine AL_cons (LR_move (at_tmp 6 _) rfl) (sS (sT1 rfl) sB0 sF0) ?_
            refine AL_cons (LR_nilCheck (at_tmp 16 _) rfl) (sS (sT1 rfl) sB0 sF0) ?_
            refine AL_cons (LR_fieldAddr (off := 0) (o := 1) (at_tmp 18 _) (fun b w => fa261_1 b 0 w) rfl) (sS (sT1 rfl) sB0 sF0) ?_
            obtain ⟨hg50, hr⟩ := guard_some hr
            refine AL_cons (LR_indexAddr (o := x6.toNat + 1) Hfaa.underlying259 sz30 (at_tmp 19 _) (at_tmp 17 _) (dand hg50) (by first | rfl | omega) rfl) (sS (sA (sT1 rfl) (sT1 rfl)) sB0 sF0) ?_
            refine AL_cons (LR_load (at_tmp 20 _) na30 (gS (gA (ltn (dand hg50)))) rfl) (sS (sT1 rfl) (sB1 rfl) sF0) ?_
            refine AL_cons (LR_move (at_tmp 1 _) rfl) (sS (sT1 rfl) sB0 sF0) ?_
            obtain ⟨y48, hy48, hr⟩ := lt_some hr
            refine AL_cons (LR_call Hfaa.func165 rfl rfl (C165 (x7 x6.toNat) a1 y48 hy48) (all_cons (at_tmp 21 _) (all_cons (at_tmp 22 _) all_nil)) rfl) (sS (sA (sT1 rfl) (sA (sT1 rfl) sT0)) sB0 sF0) ?_
            refine AL_cons (zl42 rfl) (sS sT0 sB0 (sF1 rfl)) ?_
            refine AL_cons (LR_store (at_tmp 7 _) (at_tmp 23 _) (cells_agg _) (onC (one_is rfl) (onC (one_is rfl) onN)) sz42 rfl rfl) (sS (sA (sT1 rfl) (sT1 rfl)) (sB1 rfl) sF0) ?_
            refine AL_nil ?_
            exact thenN (cutLeaf (v := (y48.1, y48.2)) hr (weakB ((sT rfl (sT rfl (sT rfl (sT rfl (sT rfl sT0)))))) (sub_keep (sub_keep sub_nil)) rfl))
          · rintro ⟨x11, x12⟩ hr
            show AW Hfaa.prog _ _ _ ⟨[(0, .inr (.inl (0, 0))), (1, .inl (is (U64 a1))), (2, .inl (is (U64 x5))), (6, .inl (is (I64 x6))), (7, .inr (.inl (7, 0)))], [(0, pb 261 (is (I64 b0_0) :: (ar U64 52 x7 ++ []))), (7, pb 42 [is (U64 x11), is (U64 x12)])]⟩
            have hr : some out2 = F267_7 N b0_0 a1 x5 x6 x7 x11 x12 := hr
            refine AW_cut (σ := BitVec 64 × BitVec 64) (fun v => ⟨[(0, .inr (.inl (0, 0))), (1, .inl (is (U64 a1))), (6, .inl (is (I64 x6))), (7, .inr (.inl (7, 0)))], [(0, pb 261 (is (I64 b0_0) :: (ar U64 52 x7 ++ []))), (7, pb 42 [is (U64 v.1), is (U64 v.2)])]⟩) (fun v => some out2 = F267_8 N b0_0 a1 x6 x7 v.1 v.2) ?_ ?_
            · skip
              refine AW_region ?_
              refine AL_cons (LR_loads (at_tmp 7 _) ag42 sz42 rfl rfl rfl) (sS (sT1 rfl) (sB1 rfl) sF0) ?_
              refine AL_cons (LR_move (at_tmp 2 _) rfl) (sS (sT1 rfl) sB0 sF0) ?_
              refine AL_cons (bl42 (parts_cons (i := 1) (off := 1) (at_tmp 26 _) (cells_one (one_is rfl)) rfl rfl parts_nil) rfl rfl) (sS (sA (sT1 rfl) sT0) sB0 sF0) ?_
              obtain ⟨y47, hy47, hr⟩ := lt_some hr
              refine AL_cons (LR_call Hfaa.func166 rfl rfl (C166 x11 x12 (0#64) x5 y47 hy47) (all_cons (at_tmp 25 _) (all_cons (at_tmp 27 _) all_nil)) rfl) (sS (sA (sT1 rfl) (sA (sT1 rfl) sT0)) sB0 sF0) ?_
              refine AL_cons (LR_move (at_tmp 28 _) rfl) (sS (sT1 rfl) sB0 sF0) ?_
              refine AL_cons (LR_extract (at_tmp 24 _) rfl rfl) (sS (sT1 rfl) sB0 sF0) ?_
              refine AL_cons (LR_extract (at_tmp 24 _) rfl rfl) (sS (sT1 rfl) sB0 sF0) ?_
              refine AL_cons (LR_store (at_tmp 7 _) (at_tmp 29 _) (cells_agg _) (onC (one_is rfl) (onC (one_is rfl) onN)) sz42 rfl rfl) (sS (sA (sT1 rfl) (sT1 rfl)) (sB1 rfl) sF0) ?_
              refine AL_nil ?_
              exact thenN (cutLeaf (v := (y47.1, y47.2.1)) hr (weakB ((sT rfl (sT rfl (sT rfl (sT rfl sT0))))) (sub_keep (sub_keep sub_nil)) rfl))
            · rintro ⟨x13, x14⟩ hr
              show AW Hfaa.prog _ _ _ ⟨[(0, .inr (.inl (0, 0))), (1, .inl (is (U64 a1))), (6, .inl (is (I64 x6))), (7, .inr (.inl (7, 0)))], [(0, pb 261 (is (I64 b0_0) :: (ar U64 52 x7 ++ []))), (7, pb 42 [is (U64 x13), is (U64 x14)])]⟩
              have hr : some out2 = F267_8 N b0_0 a1 x6 x7 x13 x14 := hr
              refine AW_cut (σ := (Nat → BitVec 64)) (fun v => ⟨[(0, .inr (.inl (0, 0))), (1, .inl (is (U64 a1))), (6, .inl (is (I64 x6))), (7, .inr (.inl (7, 0)))], [(0, pb 261 (is (I64 b0_0) :: (ar U64 52 v ++ []))), (7, pb 42 [is (U64 x13), is (U64 x14)])]⟩) (fun v => some out2 = F267_9 N b0_0 a1 x6 x13 x14 v) ?_ ?_
              · skip
                obtain ⟨hg49, hr⟩ := guard_some hr
                refine AW_draw mixed
                  (lrC (LR_move (at_tmp 0 _) rfl)
                  (lrC (LR_move (at_tmp 6 _) rfl)
                  (lrC (LR_fieldAddr (off := 0) (o := 1) (at_tmp 7 _) (fun b w => fa42_1 b 0 w) rfl)
                  (lrC (LR_load (at_tmp 33 _) na30 rfl rfl)
                  (lrC (LR_nilCheck (at_tmp 31 _) rfl)
                  (lrC (LR_fieldAddr (off := 0) (o := 1) (at_tmp 35 _) (fun b w => fa261_1 b 0 w) rfl)
                  (lrC (LR_indexAddr (o := x6.toNat + 1) Hfaa.underlying259 sz30 (at_tmp 36 _) (at_tmp 32 _) (dand hg49) (by first | rfl | omega) rfl)
                  (lrC (LR_storeA (at_tmp 37 _) (at_tmp 34 _) (cells_one (one_is rfl)) (onC (one_is rfl) onN) sz30 rfl (ble_dyn (lnC (lnA ln0)) (by have := (ltn (dand hg49)); omega)) (stS (stA (ltn (dand hg49)))))
                  lrN))))))))
                  (by kernel_rfl)
                  (saC (sS (sT1 rfl) sB0 sF0) (saC (sS (sT1 rfl) sB0 sF0) (saC (sS (sT1 rfl) sB0 sF0) (saC (sS (sT1 rfl) (sB1 rfl) sF0) (saC (sS (sT1 rfl) sB0 sF0) (saC (sS (sT1 rfl) sB0 sF0) (saC (sS (sA (sT1 rfl) (sT1 rfl)) sB0 sF0) (saC (sS (sA (sT1 rfl) (sT1 rfl)) (sB1 rfl) sF0) saN)))))))) ?_
                exact thenN (cutLeaf (v := upd x7 x6.toNat x14) hr (weakB ((sT rfl (sT rfl (sT rfl (sT rfl sT0))))) (sub_keep (sub_keep sub_nil)) rfl))
              · rintro x15 hr
                show AW Hfaa.prog _ _ _ ⟨[(0, .inr (.inl (0, 0))), (1, .inl (is (U64 a1))), (6, .inl (is (I64 x6))), (7, .inr (.inl (7, 0)))], [(0, pb 261 (is (I64 b0_0) :: (ar U64 52 x15 ++ []))), (7, pb 42 [is (U64 x13), is (U64 x14)])]⟩
                have hr : some out2 = F267_9 N b0_0 a1 x6 x13 x14 x15 := hr
                refine AW_region ?_
                refine AL_cons (LR_fieldAddr (off := 0) (o := 0) (at_tmp 7 _) (fun b w => fa42_0 b 0 w) rfl) (sS (sT1 rfl) sB0 sF0) ?_
                refine AL_cons (LR_load (at_tmp 38 _) na30 rfl rfl) (sS (sT1 rfl) (sB1 rfl) sF0) ?_
                refine AL_cons (LR_assign (at_tmp 39 _) rfl) (sS (sT1 rfl) sB0 sF0) ?_
                refine AL_nil ?_
                refine blN ?_
                exact thenN (cutLeaf (v := (x13, x15)) hr (weakB ((sT rfl (sT rfl (sT rfl (sT rfl sT0))))) (sub_keep (sub_drop sub_nil)) rfl))
        · rintro ⟨x9, x10⟩ hr
          show AW Hfaa.prog _ _ _ ⟨[(0, .inr (.inl (0, 0))), (1, .inl (is (U64 a1))), (6, .inl (is (I64 x6))), (2, .inl (is (U64 x9)))], [(0, pb 261 (is (I64 b0_0) :: (ar U64 52 x10 ++ [])))]⟩
          have hr : some out2 = F267_6 N b0_0 a1 x6 x9 x10 := hr
          refine AW_region ?_
          refine AL_cons (LR_move (at_tmp 6 _) rfl) (sS (sT1 rfl) sB0 sF0) ?_
          refine AL_cons (LR_bin (at_tmp 14 _) (at_c (v' := I64 1) rfl) (add_I64 x6 1) rfl) (sS (sA (sT1 rfl) sT0) sB0 sF0) ?_
          refine AL_cons (LR_assign (at_tmp 15 _) rfl) (sS (sT1 rfl) sB0 sF0) ?_
          refine AL_nil ?_
          exact thenN (loopNext (x' := (x9, w64 (x6 + 1), x10)) hr (weakB ((sT rfl (sT rfl (sT rfl (sT rfl sT0))))) (sub_keep sub_nil) rfl))
      · have hr := hr.trans (cond_f h)
        clear h
        refine AW_exit ?_
        refine thenX ?_
        obtain ⟨r', hro, hr⟩ := map_inr hr
        refine thenX (loopOut hro (fun he => ?_))
        rw [he] at hr
        refine blH ?_
        exact thenN (cutLeaf (v := (x5, x7)) hr (weakB ((sT rfl (sT rfl sT0))) (sub_keep sub_nil) rfl))
  · rintro ⟨x1, x2⟩ hr
    show AW Hfaa.prog _ _ _ ⟨[(0, .inr (.inl (0, 0))), (2, .inl (is (U64 x1)))], [(0, pb 261 (is (I64 b0_0) :: (ar U64 52 x2 ++ [])))]⟩
    have hr : some r = F267_1 N b0_0 x1 x2 := hr
    refine AW_cut (σ := Bool) (fun v => ⟨[(0, .inr (.inl (0, 0))), (2, .inl (is (U64 x1))), (48, .inl (is (Bl v)))], [(0, pb 261 (is (I64 b0_0) :: (ar U64 52 x2 ++ [])))]⟩) (fun v => some r = F267_2 N b0_0 x1 x2 v) ?_ ?_
    · skip
      refine AW_region ?_
      refine AL_cons (LR_move (at_tmp 2 _) rfl) (sS (sT1 rfl) sB0 sF0) ?_
      refine AL_cons (LR_bin (at_tmp 40 _) (at_c (v' := U64 (0#64)) rfl) (neq_U64 x1 (0#64)) rfl) (sS (sA (sT1 rfl) sT0) sB0 sF0) ?_
      refine AL_cons (LR_move (at_tmp 41 _) rfl) (sS (sT1 rfl) sB0 sF0) ?_
      refine AL_cutAt 6 ⟨[(0, .inr (.inl (0, 0))), (2, .inl (is (U64 x1))), (40, .inl (is (U64 x1))), (41, .inl (is (Bl (x1 != (0#64))))), (42, .inl (is (Bl (x1 != (0#64))))), (48, .inl (is (Bl ((x1 != (0#64)) && (decide (b0_0 < 52))))))], [(0, pb 261 (is (I64 b0_0) :: (ar U64 52 x2 ++ [])))]⟩ ?_ ?_
      · cases hb : x1 != (0#64)
        · skip
          refine AL_cons (LR_off (b := false) rfl rfl rfl rfl) (sS (sT1 rfl) sB0 sF0) ?_
          refine AL_cons (LR_off (b := false) rfl rfl rfl rfl) (sS (sT1 rfl) sB0 sF0) ?_
          refine AL_cons (LR_off (b := false) rfl rfl rfl rfl) (sS (sT1 rfl) sB0 sF0) ?_
          refine AL_cons (LR_off (b := false) rfl rfl rfl rfl) (sS (sT1 rfl) sB0 sF0) ?_
          refine AL_cons (LR_off (b := false) rfl rfl rfl rfl) (sS (sT1 rfl) sB0 sF0) ?_
          refine AL_cons (LR_pick (b := false) (at_tmp 42 _) (at_tmp 47 _) (at_c (v' := Bl false) rfl) rfl) (sS (sA (sT1 rfl) (sA (sT1 rfl) sT0)) sB0 sF0) ?_
          exact AL_nil ⟨rfl, weakB ((sT rfl (sT rfl (sT rfl (sT rfl (sT rfl (sT rfl sT0))))))) (sub_keep sub_nil) rfl⟩
        · skip
          refine AL_cons (LR_on rfl rfl rfl (LR_move (at_tmp 0 _) rfl)) (sS (sT rfl (sT1 rfl)) sB0 sF0) ?_
          refine AL_cons (LR_on rfl rfl rfl (LR_nilCheck (at_tmp 43 _) rfl)) (sS (sT rfl (sT1 rfl)) sB0 sF0) ?_
          refine AL_cons (LR_on rfl rfl rfl (LR_fieldAddr (off := 0) (o := 0) (at_tmp 44 _) (fun b w => fa261_0 b 0 w) rfl)) (sS (sT rfl (sT1 rfl)) sB0 sF0) ?_
          refine AL_cons (LR_on rfl rfl rfl (LR_load (at_tmp 45 _) na3 g0 rfl)) (sS (sT rfl (sT1 rfl)) (sB1 rfl) sF0) ?_
          refine AL_cons (LR_on rfl rfl rfl (LR_bin (at_tmp 46 _) (at_c (v' := I64 52) rfl) (lss_I64 b0_0 52) rfl)) (sS (sT rfl (sA (sT1 rfl) sT0)) sB0 sF0) ?_
          refine AL_cons (LR_pick (b := true) (at_tmp 42 _) (at_tmp 47 _) (at_c (v' := Bl false) rfl) rfl) (sS (sA (sT1 rfl) (sA (sT1 rfl) sT0)) sB0 sF0) ?_
          exact AL_nil ⟨rfl, weakB ((sT rfl (sT rfl (sT rfl (sT rfl (sT rfl (sT rfl sT0))))))) (sub_keep sub_nil) rfl⟩
      refine AL_nil ?_
      exact thenN (cutLeaf (v := (x1 != (0#64)) && (decide (b0_0 < 52))) hr (weakB ((sT rfl (sT rfl (sT rfl sT0)))) (sub_keep sub_nil) rfl))
    · rintro x3 hr
      show AW Hfaa.prog _ _ _ ⟨[(0, .inr (.inl (0, 0))), (2, .inl (is (U64 x1))), (48, .inl (is (Bl x3)))], [(0, pb 261 (is (I64 b0_0) :: (ar U64 52 x2 ++ [])))]⟩
      have hr : some r = F267_2 N b0_0 x1 x2 x3 := hr
      refine AW_condT (b := x3) rfl (fun h => ?_) (fun h => ?_)
      · have hr := hr.trans (cond_t h)
        clear h
        refine AW_cut (σ := (Nat → BitVec 64)) (fun v => ⟨[(0, .inr (.inl (0, 0)))], [(0, pb 261 (is (I64 b0_0) :: (ar U64 52 v ++ [])))]⟩) (fun v => some r = F267_3 N b0_0 v) ?_ ?_
        · skip
          obtain ⟨hg26, hr⟩ := guard_some hr
          refine AW_draw mixed
            (lrC (LR_move (at_tmp 0 _) rfl)
            (lrC (LR_move (at_tmp 0 _) rfl)
            (lrC (LR_nilCheck (at_tmp 50 _) rfl)
            (lrC (LR_fieldAddr (off := 0) (o := 0) (at_tmp 51 _) (fun b w => fa261_0 b 0 w) rfl)
            (lrC (LR_load (at_tmp 52 _) na3 g0 rfl)
            (lrC (LR_move (at_tmp 2 _) rfl)
            (lrC (LR_nilCheck (at_tmp 49 _) rfl)
            (lrC (LR_fieldAddr (off := 0) (o := 1) (at_tmp 55 _) (fun b w => fa261_1 b 0 w) rfl)
            (lrC (LR_indexAddr (o := b0_0.toNat + 1) Hfaa.underlying259 sz30 (at_tmp 56 _) (at_tmp 53 _) (dand hg26) (by first | rfl | omega) rfl)
            (lrC (LR_storeA (at_tmp 57 _) (at_tmp 54 _) (cells_one (one_is rfl)) (onC (one_is rfl) onN) sz30 rfl (ble_dyn (lnC (lnA ln0)) (by have := (ltn (dand hg26)); omega)) (stS (stA (ltn (dand hg26)))))
            lrN))))))))))
            (by kernel_rfl)
            (saC (sS (sT1 rfl) sB0 sF0) (saC (sS (sT1 rfl) sB0 sF0) (saC (sS (sT1 rfl) sB0 sF0) (saC (sS (sT1 rfl) sB0 sF0) (saC (sS (sT1 rfl) (sB1 rfl) sF0) (saC (sS (sT1 rfl) sB0 sF0) (saC (sS (sT1 rfl) sB0 sF0) (saC (sS (sT1 rfl) sB0 sF0) (saC (sS (sA (sT1 rfl) (sT1 rfl)) sB0 sF0) (saC (sS (sA (sT1 rfl) (sT1 rfl)) (sB1 rfl) sF0) saN)))))))))) ?_
          exact thenN (cutLeaf (v := upd x2 b0_0.toNat x1) hr (weakB ((sT rfl sT0)) (sub_keep sub_nil) rfl))
        · rintro x4 hr
          show AW Hfaa.prog _ _ _ ⟨[(0, .inr (.inl (0, 0)))], [(0, pb 261 (is (I64 b0_0) :: (ar U64 52 x4 ++ [])))]⟩
          have hr : some r = F267_3 N b0_0 x4 := hr
          refine AW_region ?_
          refine AL_cons (LR_move (at_tmp 0 _) rfl) (sS (sT1 rfl) sB0 sF0) ?_
          refine AL_cons (LR_nilCheck (at_tmp 58 _) rfl) (sS (sT1 rfl) sB0 sF0) ?_
          refine AL_cons (LR_fieldAddr (off := 0) (o := 0) (at_tmp 59 _) (fun b w => fa261_0 b 0 w) rfl) (sS (sT1 rfl) sB0 sF0) ?_
          refine AL_cons (LR_load (at_tmp 60 _) na3 g0 rfl) (sS (sT1 rfl) (sB1 rfl) sF0) ?_
          refine AL_cons (LR_bin (at_tmp 61 _) (at_c (v' := I64 1) rfl) (add_I64 b0_0 1) rfl) (sS (sA (sT1 rfl) sT0) sB0 sF0) ?_
          refine AL_cons (LR_nilCheck (at_tmp 58 _) rfl) (sS (sT1 rfl) sB0 sF0) ?_
          refine AL_cons (LR_fieldAddr (off := 0) (o := 0) (at_tmp 63 _) (fun b w => fa261_0 b 0 w) rfl) (sS (sT1 rfl) sB0 sF0) ?_
          refine AL_cons (LR_storeA (at_tmp 64 _) (at_tmp 62 _) (cells_one (one_is rfl)) (onC (one_is rfl) onN) sz3 rfl (bleLen (lnC (lnA ln0)) rfl) st0) (sS (sA (sT1 rfl) (sT1 rfl)) (sB1 rfl) sF0) ?_
          refine AL_nil ?_
          obtain rfl := Option.some.inj hr
          exact ⟨res0 rfl , (sub_keep sub_nil)⟩
      · have hr := hr.trans (cond_f h)
        clear h
        refine AW_skip ?_
        obtain rfl := Option.some.inj hr
        exact ⟨res0 rfl , (sub_keep sub_nil)⟩
/-- (*parse/slow.big).read -/
def F266_3 (N : Nat) (a1 : List UInt8) (x2 : Int) (x3 : Nat → BitVec 64) (x5 : Int) (x6 : BitVec 64) (x7 : BitVec 64) : Option ((Int × Int × (Nat → BitVec 64)) ⊕ (Int × (Nat → BitVec 64))) := (F267 N x2 x3 x7 x6).bind fun y3 => some (.inl (x5, y3.1, y3.2))
def F266_6 (N : Nat) (a1 : List UInt8) (x2 : Int) (x3 : Nat → BitVec 64) (x11 : Int) (x13 : Int) (x14 : BitVec 64) (x15 : BitVec 64) : Option ((Int × BitVec 64 × BitVec 64 × Int) ⊕ ((Int × Int × (Nat → BitVec 64)) ⊕ (Int × (Nat → BitVec 64)))) := some (.inl ((x13, x14, x15, w64 (x11 + 1))))
def F266_8 (N : Nat) (a1 : List UInt8) (x2 : Int) (x3 : Nat → BitVec 64) (x8 : Int) (x11 : Int) (x16 : BitVec 64) (x17 : BitVec 64) : Option ((Int × BitVec 64 × BitVec 64 × Int) ⊕ ((Int × Int × (Nat → BitVec 64)) ⊕ (Int × (Nat → BitVec 64)))) := F266_6 N a1 x2 x3 x11 (w64 (x8 + 1)) x16 x17
def F266_7 (N : Nat) (a1 : List UInt8) (x2 : Int) (x3 : Nat → BitVec 64) (x8 : Int) (x10 : BitVec 64) (x11 : Int) (x16 : BitVec 64) : Option ((Int × BitVec 64 × BitVec 64 × Int) ⊕ ((Int × Int × (Nat → BitVec 64)) ⊕ (Int × (Nat → BitVec 64)))) := F266_8 N a1 x2 x3 x8 x11 x16 (x10 * (10#64))
def F266_5 (N : Nat) (a1 : List UInt8) (x2 : Int) (x3 : Nat → BitVec 64) (x8 : Int) (x9 : BitVec 64) (x10 : BitVec 64) (x11 : Int) (x12 : Bool) : Option ((Int × BitVec 64 × BitVec 64 × Int) ⊕ ((Int × Int × (Nat → BitVec 64)) ⊕ (Int × (Nat → BitVec 64)))) := bif x12 then bif (decide (0 ≤ (x8 : Int)) && decide ((x8 : Int) < (a1.length : Int))) then F266_7 N a1 x2 x3 x8 x10 x11 (((10#64) * x9) + (BitVec.ofInt 64 ((((a1.getD ((x8 : Int)).toNat 0).toBitVec) - (48#8)).toNat : Int))) else none else (F266_3 N a1 x2 x3 x8 x9 x10).map Sum.inr
def F266_L4b (N : Nat) (a1 : List UInt8) (x2 : Int) (x3 : Nat → BitVec 64) (x8 : Int) (x9 : BitVec 64) (x10 : BitVec 64) (x11 : Int) : Option ((Int × BitVec 64 × BitVec 64 × Int) ⊕ ((Int × Int × (Nat → BitVec 64)) ⊕ (Int × (Nat → BitVec 64)))) := F266_5 N a1 x2 x3 x8 x9 x10 x11 ((decide (x11 < 19)) && (decide (x8 < (a1.length : Int))))
def F266_L4 (N : Nat) (a1 : List UInt8) (x2 : Int) (x3 : Nat → BitVec 64) : (Int × BitVec 64 × BitVec 64 × Int) → Option ((Int × BitVec 64 × BitVec 64 × Int) ⊕ ((Int × Int × (Nat → BitVec 64)) ⊕ (Int × (Nat → BitVec 64)))) := fun v => F266_L4b N a1 x2 x3 v.1 v.2.1 v.2.2.1 v.2.2.2
def F266_2 (N : Nat) (a1 : List UInt8) (x1 : Int) (x2 : Int) (x3 : Nat → BitVec 64) (x4 : Bool) : Option ((Int × Int × (Nat → BitVec 64)) ⊕ (Int × (Nat → BitVec 64))) := bif x4 then iterL (F266_L4 N a1 x2 x3) N (x1, 0#64, 1#64, 0) else (some (x2, x3)).map Sum.inr
def F266_L1b (N : Nat) (a1 : List UInt8) (x1 : Int) (x2 : Int) (x3 : Nat → BitVec 64) : Option ((Int × Int × (Nat → BitVec 64)) ⊕ (Int × (Nat → BitVec 64))) := F266_2 N a1 x1 x2 x3 (decide (x1 < (a1.length : Int)))
def F266_L1 (N : Nat) (a1 : List UInt8) : (Int × Int × (Nat → BitVec 64)) → Option ((Int × Int × (Nat → BitVec 64)) ⊕ (Int × (Nat → BitVec 64))) := fun v => F266_L1b N a1 v.1 v.2.1 v.2.2
def F266 (N : Nat) (b0_0 : Int) (b0_1 : Nat → BitVec 64) (a1 : List UInt8) : Option (Int × (Nat → BitVec 64)) := iterL (F266_L1 N a1) N (0, b0_0, b0_1)
theorem C266 (N : Nat) (b0_0 : Int) (b0_1 : Nat → BitVec 64) (a1 : List UInt8) (r : Int × (Nat → BitVec 64)) (hr : some r = F266 N b0_0 b0_1 a1) : FnB Hfaa.prog 266 [.inr (.inl (0, 0)), .inl (is (Sv a1))] [(0, pb 261 (is (I64 b0_0) :: (ar U64 52 b0_1 ++ [])))] (tup []) [(0, pb 261 (is (I64 r.1) :: (ar U64 52 r.2 ++ [])))] := by
  refine fnB_intro Hfaa.func266 rfl rfl rfl rfl rfl ⟨hf_pb _ _, trivial⟩ ?_
  intro bn0 w0 H0
  refine AW_seq1 ?_
  refine AW_region ?_
  refine AL_cons (LR_assign (at_c (v' := I64 0) rfl) rfl) (sS sT0 sB0 sF0) ?_
  refine AL_nil ?_
  refine thenN ?_
  refine AW_block ?_
  refine AW_iterR (σ := Int × Int × (Nat → BitVec 64)) (r := r) (x0 := (0, b0_0, b0_1)) (emb := fun v => ⟨[(0, .inr (.inl (0, 0))), (1, .inl (is (Sv a1))), (4, .inl (is (I64 v.1)))], [(0, pb 261 (is (I64 v.2.1) :: (ar U64 52 v.2.2 ++ [])))]⟩) ?_ hr ?_
  · exact weakB ((sT rfl (sT rfl (sT rfl sT0)))) (sub_keep sub_nil) rfl
  rintro ⟨x1, x2, x3⟩ out5 hr
  show AW Hfaa.prog _ _ _ ⟨[(0, .inr (.inl (0, 0))), (1, .inl (is (Sv a1))), (4, .inl (is (I64 x1)))], [(0, pb 261 (is (I64 x2) :: (ar U64 52 x3 ++ [])))]⟩
  have hr : some out5 = F266_L1b N a1 x1 x2 x3 := hr
  refine AW_seq1 ?_
  refine AW_cut (σ := Bool) (fun v => ⟨[(0, .inr (.inl (0, 0))), (1, .inl (is (Sv a1))), (4, .inl (is (I64 x1))), (11, .inl (is (Bl v)))], [(0, pb 261 (is (I64 x2) :: (ar U64 52 x3 ++ [])))]⟩) (fun v => some out5 = F266_2 N a1 x1 x2 x3 v) ?_ ?_
  · skip
    refine AW_region ?_
    refine AL_cons (LR_move (at_tmp 4 _) rfl) (sS (sT1 rfl) sB0 sF0) ?_
    refine AL_cons (LR_move (at_tmp 1 _) rfl) (sS (sT1 rfl) sB0 sF0) ?_
    refine AL_cons (LR_bi1 (at_tmp 9 _) (len_S Hfaa.underlying9 a1) rfl) (sS (sT1 rfl) sB0 sF0) ?_
    refine AL_cons (LR_bin (at_tmp 8 _) (at_tmp 10 _) (lss_I64 x1 (a1.length : Int)) rfl) (sS (sA (sT1 rfl) (sT1 rfl)) sB0 sF0) ?_
    refine AL_nil ?_
    exact thenN (cutLeaf (v := decide (x1 < (a1.length : Int))) hr (weakB ((sT rfl (sT rfl (sT rfl (sT rfl sT0))))) (sub_keep sub_nil) rfl))
  · rintro x4 hr
    show AW Hfaa.prog _ _ _ ⟨[(0, .inr (.inl (0, 0))), (1, .inl (is (Sv a1))), (4, .inl (is (I64 x1))), (11, .inl (is (Bl x4)))], [(0, pb 261 (is (I64 x2) :: (ar U64 52 x3 ++ [])))]⟩
    have hr : some out5 = F266_2 N a1 x1 x2 x3 x4 := hr
    refine AW_condT (b := x4) rfl (fun h => ?_) (fun h => ?_)
    · have hr := hr.trans (cond_t h)
      clear h
      refine AW_skip ?_
      refine thenN ?_
      refine AW_block ?_
      refine AW_seq1 ?_
      refine AW_region ?_
      refine AL_cons (LR_assign (at_c (v' := U64 (0#64)) rfl) rfl) (sS sT0 sB0 sF0) ?_
      refine AL_cons (LR_assign (at_c (v' := U64 (1#64)) rfl) rfl) (sS sT0 sB0 sF0) ?_
      refine AL_nil ?_
      refine thenN ?_
      refine AW_cut (σ := Int × BitVec 64 × BitVec 64) (fun v => ⟨[(0, .inr (.inl (0, 0))), (1, .inl (is (Sv a1))), (4, .inl (is (I64 v.1))), (5, .inl (is (U64 v.2.1))), (6, .inl (is (U64 v.2.2)))], [(0, pb 261 (is (I64 x2) :: (ar U64 52 x3 ++ [])))]⟩) (fun v => some out5 = F266_3 N a1 x2 x3 v.1 v.2.1 v.2.2) ?_ ?_
      · skip
        refine AW_seq1 ?_
        refine AW_region ?_
        refine AL_cons (LR_assign (at_c (v' := I64 0) rfl) rfl) (sS sT0 sB0 sF0) ?_
        refine AL_nil ?_
        refine thenN ?_
        refine AW_block ?_
        refine AW_iterR (σ := Int × BitVec 64 × BitVec 64 × Int) (r := out5) (x0 := (x1, 0#64, 1#64, 0)) (emb := fun v => ⟨[(0, .inr (.inl (0, 0))), (1, .inl (is (Sv a1))), (4, .inl (is (I64 v.1))), (5, .inl (is (U64 v.2.1))), (6, .inl (is (U64 v.2.2.1))), (7, .inl (is (I64 v.2.2.2)))], [(0, pb 261 (is (I64 x2) :: (ar U64 52 x3 ++ [])))]⟩) ?_ hr ?_
        · exact weakB ((sT rfl (sT rfl (sT rfl (sT rfl (sT rfl (sT rfl sT0))))))) (sub_keep sub_nil) rfl
        rintro ⟨x8, x9, x10, x11⟩ out7 hr
        show AW Hfaa.prog _ _ _ ⟨[(0, .inr (.inl (0, 0))), (1, .inl (is (Sv a1))), (4, .inl (is (I64 x8))), (5, .inl (is (U64 x9))), (6, .inl (is (U64 x10))), (7, .inl (is (I64 x11)))], [(0, pb 261 (is (I64 x2) :: (ar U64 52 x3 ++ [])))]⟩
        have hr : some out7 = F266_L4b N a1 x2 x3 x8 x9 x10 x11 := hr
        refine AW_seq1 ?_
        refine AW_cut (σ := Bool) (fun v => ⟨[(0, .inr (.inl (0, 0))), (1, .inl (is (Sv a1))), (4, .inl (is (I64 x8))), (5, .inl (is (U64 x9))), (6, .inl (is (U64 x10))), (7, .inl (is (I64 x11))), (19, .inl (is (Bl v)))], [(0, pb 261 (is (I64 x2) :: (ar U64 52 x3 ++ [])))]⟩) (fun v => some out7 = F266_5 N a1 x2 x3 x8 x9 x10 x11 v) ?_ ?_
        · skip
          refine AW_region ?_
          refine AL_cons (LR_move (at_tmp 7 _) rfl) (sS (sT1 rfl) sB0 sF0) ?_
          refine AL_cons (LR_bin (at_tmp 12 _) (at_c (v' := I64 19) rfl) (lss_I64 x11 19) rfl) (sS (sA (sT1 rfl) sT0) sB0 sF0) ?_
          refine AL_cons (LR_move (at_tmp 13 _) rfl) (sS (sT1 rfl) sB0 sF0) ?_
          refine AL_cutAt 5 ⟨[(0, .inr (.inl (0, 0))), (1, .inl (is (Sv a1))), (4, .inl (is (I64 x8))), (5, .inl (is (U64 x9))), (6, .inl (is (U64 x10))), (7, .inl (is (I64 x11))), (12, .inl (is (I64 x11))), (13, .inl (is (Bl (decide (x11 < 19))))), (14, .inl (is (Bl (decide (x11 < 19))))), (19, .inl (is (Bl ((decide (x11 < 19)) && (decide (x8 < (a1.length : Int)))))))], [(0, pb 261 (is (I64 x2) :: (ar U64 52 x3 ++ [])))]⟩ ?_ ?_
          · cases hb : decide (x11 < 19)
            · skip
              refine AL_cons (LR_off (b := false) rfl rfl rfl rfl) (sS (sT1 rfl) sB0 sF0) ?_
              refine AL_cons (LR_off (b := false) rfl rfl rfl rfl) (sS (sT1 rfl) sB0 sF0) ?_
              refine AL_cons (LR_off (b := false) rfl rfl rfl rfl) (sS (sT1 rfl) sB0 sF0) ?_
              refine AL_cons (LR_off (b := false) rfl rfl rfl rfl) (sS (sT1 rfl) sB0 sF0) ?_
              refine AL_cons (LR_pick (b := false) (at_tmp 14 _) (at_tmp 18 _) (at_c (v' := Bl false) rfl) rfl) (sS (sA (sT1 rfl) (sA (sT1 rfl) sT0)) sB0 sF0) ?_
              exact AL_nil ⟨rfl, weakB ((sT rfl (sT rfl (sT rfl (sT rfl (sT rfl (sT rfl (sT rfl (sT rfl (sT rfl (sT rfl sT0))))))))))) (sub_keep sub_nil) rfl⟩
            · skip
              refine AL_cons (LR_on rfl rfl rfl (LR_move (at_tmp 4 _) rfl)) (sS (sT rfl (sT1 rfl)) sB0 sF0) ?_
              refine AL_cons (LR_on rfl rfl rfl (LR_move (at_tmp 1 _) rfl)) (sS (sT rfl (sT1 rfl)) sB0 sF0) ?_
              refine AL_cons (LR_on rfl rfl rfl (LR_bi1 (at_tmp 16 _) (len_S Hfaa.underlying9 a1) rfl)) (sS (sT rfl (sT1 rfl)) sB0 sF0) ?_
              refine AL_cons (LR_on rfl rfl rfl (LR_bin (at_tmp 15 _) (at_tmp 17 _) (lss_I64 x8 (a1.length : Int)) rfl)) (sS (sT rfl (sA (sT1 rfl) (sT1 rfl))) sB0 sF0) ?_
              refine AL_cons (LR_pick (b := true) (at_tmp 14 _) (at_tmp 18 _) (at_c (v' := Bl false) rfl) rfl) (sS (sA (sT1 rfl) (sA (sT1 rfl) sT0)) sB0 sF0) ?_
              exact AL_nil ⟨rfl, weakB ((sT rfl (sT rfl (sT rfl (sT rfl (sT rfl (sT rfl (sT rfl (sT rfl (sT rfl (sT rfl sT0))))))))))) (sub_keep sub_nil) rfl⟩
          refine AL_nil ?_
          exact thenN (cutLeaf (v := (decide (x11 < 19)) && (decide (x8 < (a1.length : Int)))) hr (weakB ((sT rfl (sT rfl (sT rfl (sT rfl (sT rfl (sT rfl (sT rfl sT0)))))))) (sub_keep sub_nil) rfl))
        · rintro x12 hr
          show AW Hfaa.prog _ _ _ ⟨[(0, .inr (.inl (0, 0))), (1, .inl (is (Sv a1))), (4, .inl (is (I64 x8))), (5, .inl (is (U64 x9))), (6, .inl (is (U64 x10))), (7, .inl (is (I64 x11))), (19, .inl (is (Bl x12)))], [(0, pb 261 (is (I64 x2) :: (ar U64 52 x3 ++ [])))]⟩
          have hr : some out7 = F266_5 N a1 x2 x3 x8 x9 x10 x11 x12 := hr
          refine AW_condT (b := x12) rfl (fun h => ?_) (fun h => ?_)
          · have hr := hr.trans (cond_t h)
            clear h
            refine AW_skip ?_
            refine thenN ?_
            refine AW_cut (σ := Int × BitVec 64 × BitVec 64) (fun v => ⟨[(0, .inr (.inl (0, 0))), (1, .inl (is (Sv a1))), (4, .inl (is (I64 v.1))), (5, .inl (is (U64 v.2.1))), (6, .inl (is (U64 v.2.2))), (7, .inl (is (I64 x11)))], [(0, pb 261 (is (I64 x2) :: (ar U64 52 x3 ++ [])))]⟩) (fun v => some out7 = F266_6 N a1 x2 x3 x11 v.1 v.2.1 v.2.2) ?_ ?_
            · skip
              refine AW_block ?_
              refine AW_cut (σ := BitVec 64) (fun v => ⟨[(0, .inr (.inl (0, 0))), (1, .inl (is (Sv a1))), (4, .inl (is (I64 x8))), (5, .inl (is (U64 v))), (6, .inl (is (U64 x10))), (7, .inl (is (I64 x11)))], [(0, pb 261 (is (I64 x2) :: (ar U64 52 x3 ++ [])))]⟩) (fun v => some out7 = F266_7 N a1 x2 x3 x8 x10 x11 v) ?_ ?_
              · skip
                refine AW_region ?_
                refine AL_cons (LR_move (at_tmp 5 _) rfl) (sS (sT1 rfl) sB0 sF0) ?_
                refine AL_cons (LR_bin (at_c (v' := U64 (10#64)) rfl) (at_tmp 22 _) (mul_U64 (10#64) x9) rfl) (sS (sA sT0 (sT1 rfl)) sB0 sF0) ?_
                refine AL_cons (LR_move (at_tmp 1 _) rfl) (sS (sT1 rfl) sB0 sF0) ?_
                refine AL_cons (LR_move (at_tmp 4 _) rfl) (sS (sT1 rfl) sB0 sF0) ?_
                obtain ⟨hg48, hr⟩ := guard_some hr
                refine AL_cons (LR_indexS (i := (x8 : Int)) Hfaa.underlying9 (at_tmp 24 _) (at_tmp 25 _) (dand hg48) rfl) (sS (sA (sT1 rfl) (sT1 rfl)) sB0 sF0) ?_
                refine AL_cons (LR_bin (at_tmp 26 _) (at_c (v' := U8 (48#8)) rfl) (sub_U8 ((a1.getD ((x8 : Int)).toNat 0).toBitVec) (48#8)) rfl) (sS (sA (sT1 rfl) sT0) sB0 sF0) ?_
                refine AL_cons (LR_conv (vx := U8 (((a1.getD ((x8 : Int)).toNat 0).toBitVec) - (48#8))) (at_tmp 27 _) (conv_U64 Hfaa.underlying5 Hfaa.underlying30 ((((a1.getD ((x8 : Int)).toNat 0).toBitVec) - (48#8)).toNat : Int)) rfl) (sS (sT1 rfl) sB0 sF0) ?_
                refine AL_cons (LR_bin (at_tmp 23 _) (at_tmp 28 _) (add_U64 ((10#64) * x9) (BitVec.ofInt 64 ((((a1.getD ((x8 : Int)).toNat 0).toBitVec) - (48#8)).toNat : Int))) rfl) (sS (sA (sT1 rfl) (sT1 rfl)) sB0 sF0) ?_
                refine AL_cons (LR_assign (at_tmp 29 _) rfl) (sS (sT1 rfl) sB0 sF0) ?_
                refine AL_nil ?_
                exact thenN (cutLeaf (v := ((10#64) * x9) + (BitVec.ofInt 64 ((((a1.getD ((x8 : Int)).toNat 0).toBitVec) - (48#8)).toNat : Int))) hr (weakB ((sT rfl (sT rfl (sT rfl (sT rfl (sT rfl (sT rfl sT0))))))) (sub_keep sub_nil) rfl))
              · rintro x16 hr
                show AW Hfaa.prog _ _ _ ⟨[(0, .inr (.inl (0, 0))), (1, .inl (is (Sv a1))), (4, .inl (is (I64 x8))), (5, .inl (is (U64 x16))), (6, .inl (is (U64 x10))), (7, .inl (is (I64 x11)))], [(0, pb 261 (is (I64 x2) :: (ar U64 52 x3 ++ [])))]⟩
                have hr : some out7 = F266_7 N a1 x2 x3 x8 x10 x11 x16 := hr
                refine AW_cut (σ := BitVec 64) (fun v => ⟨[(0, .inr (.inl (0, 0))), (1, .inl (is (Sv a1))), (4, .inl (is (I64 x8))), (5, .inl (is (U64 x16))), (6, .inl (is (U64 v))), (7, .inl (is (I64 x11)))], [(0, pb 261 (is (I64 x2) :: (ar U64 52 x3 ++ [])))]⟩) (fun v => some out7 = F266_8 N a1 x2 x3 x8 x11 x16 v) ?_ ?_
                · skip
                  refine AW_region ?_
                  refine AL_cons (LR_move (at_tmp 6 _) rfl) (sS (sT1 rfl) sB0 sF0) ?_
                  refine AL_cons (LR_bin (at_tmp 30 _) (at_c (v' := U64 (10#64)) rfl) (mul_U64 x10 (10#64)) rfl) (sS (sA (sT1 rfl) sT0) sB0 sF0) ?_
                  refine AL_cons (LR_assign (at_tmp 31 _) rfl) (sS (sT1 rfl) sB0 sF0) ?_
                  refine AL_nil ?_
                  exact thenN (cutLeaf (v := x10 * (10#64)) hr (weakB ((sT rfl (sT rfl (sT rfl (sT rfl (sT rfl (sT rfl sT0))))))) (sub_keep sub_nil) rfl))
                · rintro x17 hr
                  show AW Hfaa.prog _ _ _ ⟨[(0, .inr (.inl (0, 0))), (1, .inl (is (Sv a1))), (4, .inl (is (I64 x8))), (5, .inl (is (U64 x16))), (6, .inl (is (U64 x17))), (7, .inl (is (I64 x11)))], [(0, pb 261 (is (I64 x2) :: (ar U64 52 x3 ++ [])))]⟩
                  have hr : some out7 = F266_8 N a1 x2 x3 x8 x11 x16 x17 := hr
                  refine AW_region ?_
                  refine AL_cons (LR_move (at_tmp 4 _) rfl) (sS (sT1 rfl) sB0 sF0) ?_
                  refine AL_cons (LR_bin (at_tmp 32 _) (at_c (v' := I64 1) rfl) (add_I64 x8 1) rfl) (sS (sA (sT1 rfl) sT0) sB0 sF0) ?_
                  refine AL_cons (LR_assign (at_tmp 33 _) rfl) (sS (sT1 rfl) sB0 sF0) ?_
                  refine AL_nil ?_
                  refine blN ?_
                  exact thenN (cutLeaf (v := (w64 (x8 + 1), x16, x17)) hr (weakB ((sT rfl (sT rfl (sT rfl (sT rfl (sT rfl (sT rfl sT0))))))) (sub_keep sub_nil) rfl))
            · rintro ⟨x13, x14, x15⟩ hr
              show AW Hfaa.prog _ _ _ ⟨[(0, .inr (.inl (0, 0))), (1, .inl (is (Sv a1))), (4, .inl (is (I64 x13))), (5, .inl (is (U64 x14))), (6, .inl (is (U64 x15))), (7, .inl (is (I64 x11)))], [(0, pb 261 (is (I64 x2) :: (ar U64 52 x3 ++ [])))]⟩
              have hr : some out7 = F266_6 N a1 x2 x3 x11 x13 x14 x15 := hr
              refine AW_region ?_
              refine AL_cons (LR_move (at_tmp 7 _) rfl) (sS (sT1 rfl) sB0 sF0) ?_
              refine AL_cons (LR_bin (at_tmp 20 _) (at_c (v' := I64 1) rfl) (add_I64 x11 1) rfl) (sS (sA (sT1 rfl) sT0) sB0 sF0) ?_
              refine AL_cons (LR_assign (at_tmp 21 _) rfl) (sS (sT1 rfl) sB0 sF0) ?_
              refine AL_nil ?_
              exact thenN (loopNext (x' := (x13, x14, x15, w64 (x11 + 1))) hr (weakB ((sT rfl (sT rfl (sT rfl (sT rfl (sT rfl (sT rfl sT0))))))) (sub_keep sub_nil) rfl))
          · have hr := hr.trans (cond_f h)
            clear h
            refine AW_exit ?_
            refine thenX ?_
            obtain ⟨r', hro, hr⟩ := map_inr hr
            refine thenX (loopOut hro (fun he => ?_))
            rw [he] at hr
            refine blH ?_
            exact thenN (cutLeaf (v := (x8, x9, x10)) hr (weakB ((sT rfl (sT rfl (sT rfl (sT rfl (sT rfl sT0)))))) (sub_keep sub_nil) rfl))
      · rintro ⟨x5, x6, x7⟩ hr
        show AW Hfaa.prog _ _ _ ⟨[(0, .inr (.inl (0, 0))), (1, .inl (is (Sv a1))), (4, .inl (is (I64 x5))), (5, .inl (is (U64 x6))), (6, .inl (is (U64 x7)))], [(0, pb 261 (is (I64 x2) :: (ar U64 52 x3 ++ [])))]⟩
        have hr : some out5 = F266_3 N a1 x2 x3 x5 x6 x7 := hr
        refine AW_region ?_
        refine AL_cons (LR_move (at_tmp 0 _) rfl) (sS (sT1 rfl) sB0 sF0) ?_
        refine AL_cons (LR_move (at_tmp 6 _) rfl) (sS (sT1 rfl) sB0 sF0) ?_
        refine AL_cons (LR_move (at_tmp 5 _) rfl) (sS (sT1 rfl) sB0 sF0) ?_
        obtain ⟨y3, hy3, hr⟩ := bind_some hr
        refine AL_cons (LR_callB [(0, 0)] [(0, 0)] Hfaa.func267 rfl rfl (C267 N x2 x3 x7 x6 y3 hy3) (aTC (at_tmp 34 _) (aTC (at_tmp 35 _) (aTC (at_tmp 36 _) aT0))) rfl rfl rfl rfl rfl) (sS (sA (sT1 rfl) (sA (sT1 rfl) (sA (sT1 rfl) sT0))) (sB1 rfl) sF0) ?_
        refine AL_nil ?_
        refine blN ?_
        exact thenN (loopNext (x' := (x5, y3.1, y3.2)) hr (weakB ((sT rfl (sT rfl (sT rfl sT0)))) (sub_keep sub_nil) rfl))
    · have hr := hr.trans (cond_f h)
      clear h
      refine AW_exit ?_
      refine thenX ?_
      obtain ⟨r', hro, hr⟩ := map_inr hr
      refine thenX (loopOut hro (fun he => ?_))
      rw [he] at hr
      refine blH ?_
      obtain rfl := Option.some.inj hr
      exact ⟨res0 rfl , (sub_keep sub_nil)⟩
/-- (*parse/slow.big).mulPow5 -/
def F268_2 (N : Nat) (x2 : Int) (x3 : Nat → BitVec 64) (x4 : BitVec 64) : Option (Int × (Nat → BitVec 64)) := (F267 N x2 x3 x4 (0#64)).bind fun y7 => some (y7.1, y7.2)
def F268_5 (N : Nat) (x2 : Int) (x3 : Nat → BitVec 64) (x5 : Int) (x8 : BitVec 64) : Option ((Int × BitVec 64) ⊕ (Int × (Nat → BitVec 64))) := some (.inl ((w64 (x5 - 1), x8)))
def F268_4 (N : Nat) (x2 : Int) (x3 : Nat → BitVec 64) (x5 : Int) (x6 : BitVec 64) (x7 : Bool) : Option ((Int × BitVec 64) ⊕ (Int × (Nat → BitVec 64))) := bif x7 then F268_5 N x2 x3 x5 (x6 * (5#64)) else (F268_2 N x2 x3 x6).map Sum.inr
def F268_L3b (N : Nat) (x2 : Int) (x3 : Nat → BitVec 64) (x5 : Int) (x6 : BitVec 64) : Option ((Int × BitVec 64) ⊕ (Int × (Nat → BitVec 64))) := F268_4 N x2 x3 x5 x6 (decide (x5 > 0))
def F268_L3 (N : Nat) (x2 : Int) (x3 : Nat → BitVec 64) : (Int × BitVec 64) → Option ((Int × BitVec 64) ⊕ (Int × (Nat → BitVec 64))) := fun v => F268_L3b N x2 x3 v.1 v.2
def F268_1 (N : Nat) (x1 : Int) (x2 : Int) (x3 : Nat → BitVec 64) : Option (Int × (Nat → BitVec 64)) := iterL (F268_L3 N x2 x3) N (x1, 1#64)
def F268_8 (N : Nat) (x9 : Int) (x13 : Int) (x14 : Nat → BitVec 64) : Option ((Int × Int × (Nat → BitVec 64)) ⊕ (Int × (Nat → BitVec 64))) := some (.inl ((w64 (x9 - 27), x13, x14)))
def F268_7 (N : Nat) (x9 : Int) (x10 : Int) (x11 : Nat → BitVec 64) (x12 : Bool) : Option ((Int × Int × (Nat → BitVec 64)) ⊕ (Int × (Nat → BitVec 64))) := bif x12 then (F267 N x10 x11 (7450580596923828125#64) (0#64)).bind fun y13 => F268_8 N x9 y13.1 y13.2 else (F268_1 N x9 x10 x11).map Sum.inr
def F268_L6b (N : Nat) (x9 : Int) (x10 : Int) (x11 : Nat → BitVec 64) : Option ((Int × Int × (Nat → BitVec 64)) ⊕ (Int × (Nat → BitVec 64))) := F268_7 N x9 x10 x11 (decide (x9 ≥ 27))
def F268_L6 (N : Nat) : (Int × Int × (Nat → BitVec 64)) → Option ((Int × Int × (Nat → BitVec 64)) ⊕ (Int × (Nat → BitVec 64))) := fun v => F268_L6b N v.1 v.2.1 v.2.2
def F268 (N : Nat) (b0_0 : Int) (b0_1 : Nat → BitVec 64) (a1 : Int) : Option (Int × (Nat → BitVec 64)) := iterL (F268_L6 N) N (a1, b0_0, b0_1)
theorem C268 (N : Nat) (b0_0 : Int) (b0_1 : Nat → BitVec 64) (a1 : Int) (r : Int × (Nat → BitVec 64)) (hr : some r = F268 N b0_0 b0_1 a1) : FnB Hfaa.prog 268 [.inr (.inl (0, 0)), .inl (is (I64 a1))] [(0, pb 261 (is (I64 b0_0) :: (ar U64 52 b0_1 ++ [])))] (tup []) [(0, pb 261 (is (I64 r.1) :: (ar U64 52 r.2 ++ [])))] := by
  refine fnB_intro Hfaa.func268 rfl rfl rfl rfl rfl ⟨hf_pb _ _, trivial⟩ ?_
  intro bn0 w0 H0
  refine AW_cut (σ := Int × Int × (Nat → BitVec 64)) (fun v => ⟨[(0, .inr (.inl (0, 0))), (1, .inl (is (I64 v.1)))], [(0, pb 261 (is (I64 v.2.1) :: (ar U64 52 v.2.2 ++ [])))]⟩) (fun v => some r = F268_1 N v.1 v.2.1 v.2.2) ?_ ?_
  · skip
    refine AW_block ?_
    refine AW_iterR (σ := Int × Int × (Nat → BitVec 64)) (r := r) (x0 := (a1, b0_0, b0_1)) (emb := fun v => ⟨[(0, .inr (.inl (0, 0))), (1, .inl (is (I64 v.1)))], [(0, pb 261 (is (I64 v.2.1) :: (ar U64 52 v.2.2 ++ [])))]⟩) ?_ hr ?_
    · exact weakB ((sT rfl (sT rfl sT0))) (sub_keep sub_nil) rfl
    rintro ⟨x9, x10, x11⟩ out4 hr
    show AW Hfaa.prog _ _ _ ⟨[(0, .inr (.inl (0, 0))), (1, .inl (is (I64 x9)))], [(0, pb 261 (is (I64 x10) :: (ar U64 52 x11 ++ [])))]⟩
    have hr : some out4 = F268_L6b N x9 x10 x11 := hr
    refine AW_seq1 ?_
    refine AW_cut (σ := Bool) (fun v => ⟨[(0, .inr (.inl (0, 0))), (1, .inl (is (I64 x9))), (6, .inl (is (Bl v)))], [(0, pb 261 (is (I64 x10) :: (ar U64 52 x11 ++ [])))]⟩) (fun v => some out4 = F268_7 N x9 x10 x11 v) ?_ ?_
    · skip
      refine AW_region ?_
      refine AL_cons (LR_move (at_tmp 1 _) rfl) (sS (sT1 rfl) sB0 sF0) ?_
      refine AL_cons (LR_bin (at_tmp 5 _) (at_c (v' := I64 27) rfl) (geq_I64 x9 27) rfl) (sS (sA (sT1 rfl) sT0) sB0 sF0) ?_
      refine AL_nil ?_
      exact thenN (cutLeaf (v := decide (x9 ≥ 27)) hr (weakB ((sT rfl (sT rfl (sT rfl sT0)))) (sub_keep sub_nil) rfl))
    · rintro x12 hr
      show AW Hfaa.prog _ _ _ ⟨[(0, .inr (.inl (0, 0))), (1, .inl (is (I64 x9))), (6, .inl (is (Bl x12)))], [(0, pb 261 (is (I64 x10) :: (ar U64 52 x11 ++ [])))]⟩
      have hr : some out4 = F268_7 N x9 x10 x11 x12 := hr
      refine AW_condT (b := x12) rfl (fun h => ?_) (fun h => ?_)
      · have hr := hr.trans (cond_t h)
        clear h
        refine AW_skip ?_
        refine thenN ?_
        refine AW_cut (σ := Int × (Nat → BitVec 64)) (fun v => ⟨[(0, .inr (.inl (0, 0))), (1, .inl (is (I64 x9)))], [(0, pb 261 (is (I64 v.1) :: (ar U64 52 v.2 ++ [])))]⟩) (fun v => some out4 = F268_8 N x9 v.1 v.2) ?_ ?_
        · skip
          refine AW_block ?_
          refine AW_region ?_
          refine AL_cons (LR_move (at_tmp 0 _) rfl) (sS (sT1 rfl) sB0 sF0) ?_
          obtain ⟨y13, hy13, hr⟩ := bind_some hr
          refine AL_cons (LR_callB [(0, 0)] [(0, 0)] Hfaa.func267 rfl rfl (C267 N x10 x11 (7450580596923828125#64) (0#64) y13 hy13) (aTC (at_tmp 9 _) (aTC (at_c (v' := U64 (7450580596923828125#64)) rfl) (aTC (at_c (v' := U64 (0#64)) rfl) aT0))) rfl rfl rfl rfl rfl) (sS (sA (sT1 rfl) (sA sT0 (sA sT0 sT0))) (sB1 rfl) sF0) ?_
          refine AL_nil ?_
          refine blN ?_
          exact thenN (cutLeaf (v := (y13.1, y13.2)) hr (weakB ((sT rfl (sT rfl sT0))) (sub_keep sub_nil) rfl))
        · rintro ⟨x13, x14⟩ hr
          show AW Hfaa.prog _ _ _ ⟨[(0, .inr (.inl (0, 0))), (1, .inl (is (I64 x9)))], [(0, pb 261 (is (I64 x13) :: (ar U64 52 x14 ++ [])))]⟩
          have hr : some out4 = F268_8 N x9 x13 x14 := hr
          refine AW_region ?_
          refine AL_cons (LR_move (at_tmp 1 _) rfl) (sS (sT1 rfl) sB0 sF0) ?_
          refine AL_cons (LR_bin (at_tmp 7 _) (at_c (v' := I64 27) rfl) (sub_I64 x9 27) rfl) (sS (sA (sT1 rfl) sT0) sB0 sF0) ?_
          refine AL_cons (LR_assign (at_tmp 8 _) rfl) (sS (sT1 rfl) sB0 sF0) ?_
          refine AL_nil ?_
          exact thenN (loopNext (x' := (w64 (x9 - 27), x13, x14)) hr (weakB ((sT rfl (sT rfl sT0))) (sub_keep sub_nil) rfl))
      · have hr := hr.trans (cond_f h)
        clear h
        refine AW_exit ?_
        refine thenX ?_
        obtain ⟨r', hro, hr⟩ := map_inr hr
        refine thenX (loopOut hro (fun he => ?_))
        rw [he] at hr
        refine blH ?_
        exact thenN (cutLeaf (v := (x9, x10, x11)) hr (weakB ((sT rfl (sT rfl sT0))) (sub_keep sub_nil) rfl))
  · rintro ⟨x1, x2, x3⟩ hr
    show AW Hfaa.prog _ _ _ ⟨[(0, .inr (.inl (0, 0))), (1, .inl (is (I64 x1)))], [(0, pb 261 (is (I64 x2) :: (ar U64 52 x3 ++ [])))]⟩
    have hr : some r = F268_1 N x1 x2 x3 := hr
    refine AW_seq1 ?_
    refine AW_region ?_
    refine AL_cons (LR_assign (at_c (v' := U64 (1#64)) rfl) rfl) (sS sT0 sB0 sF0) ?_
    refine AL_nil ?_
    refine thenN ?_
    refine AW_cut (σ := BitVec 64) (fun v => ⟨[(0, .inr (.inl (0, 0))), (4, .inl (is (U64 v)))], [(0, pb 261 (is (I64 x2) :: (ar U64 52 x3 ++ [])))]⟩) (fun v => some r = F268_2 N x2 x3 v) ?_ ?_
    · skip
      refine AW_block ?_
      refine AW_iterR (σ := Int × BitVec 64) (r := r) (x0 := (x1, 1#64)) (emb := fun v => ⟨[(0, .inr (.inl (0, 0))), (1, .inl (is (I64 v.1))), (4, .inl (is (U64 v.2)))], [(0, pb 261 (is (I64 x2) :: (ar U64 52 x3 ++ [])))]⟩) ?_ hr ?_
      · exact weakB ((sT rfl (sT rfl (sT rfl sT0)))) (sub_keep sub_nil) rfl
      rintro ⟨x5, x6⟩ out3 hr
      show AW Hfaa.prog _ _ _ ⟨[(0, .inr (.inl (0, 0))), (1, .inl (is (I64 x5))), (4, .inl (is (U64 x6)))], [(0, pb 261 (is (I64 x2) :: (ar U64 52 x3 ++ [])))]⟩
      have hr : some out3 = F268_L3b N x2 x3 x5 x6 := hr
      refine AW_seq1 ?_
      refine AW_cut (σ := Bool) (fun v => ⟨[(0, .inr (.inl (0, 0))), (1, .inl (is (I64 x5))), (4, .inl (is (U64 x6))), (12, .inl (is (Bl v)))], [(0, pb 261 (is (I64 x2) :: (ar U64 52 x3 ++ [])))]⟩) (fun v => some out3 = F268_4 N x2 x3 x5 x6 v) ?_ ?_
      · skip
        refine AW_region ?_
        refine AL_cons (LR_move (at_tmp 1 _) rfl) (sS (sT1 rfl) sB0 sF0) ?_
        refine AL_cons (LR_bin (at_tmp 11 _) (at_c (v' := I64 0) rfl) (gtr_I64 x5 0) rfl) (sS (sA (sT1 rfl) sT0) sB0 sF0) ?_
        refine AL_nil ?_
        exact thenN (cutLeaf (v := decide (x5 > 0)) hr (weakB ((sT rfl (sT rfl (sT rfl (sT rfl sT0))))) (sub_keep sub_nil) rfl))
      · rintro x7 hr
        show AW Hfaa.prog _ _ _ ⟨[(0, .inr (.inl (0, 0))), (1, .inl (is (I64 x5))), (4, .inl (is (U64 x6))), (12, .inl (is (Bl x7)))], [(0, pb 261 (is (I64 x2) :: (ar U64 52 x3 ++ [])))]⟩
        have hr : some out3 = F268_4 N x2 x3 x5 x6 x7 := hr
        refine AW_condT (b := x7) rfl (fun h => ?_) (fun h => ?_)
        · have hr := hr.trans (cond_t h)
          clear h
          refine AW_skip ?_
          refine thenN ?_
          refine AW_cut (σ := BitVec 64) (fun v => ⟨[(0, .inr (.inl (0, 0))), (1, .inl (is (I64 x5))), (4, .inl (is (U64 v)))], [(0, pb 261 (is (I64 x2) :: (ar U64 52 x3 ++ [])))]⟩) (fun v => some out3 = F268_5 N x2 x3 x5 v) ?_ ?_
          · skip
            refine AW_block ?_
            refine AW_region ?_
            refine AL_cons (LR_move (at_tmp 4 _) rfl) (sS (sT1 rfl) sB0 sF0) ?_
            refine AL_cons (LR_bin (at_tmp 15 _) (at_c (v' := U64 (5#64)) rfl) (mul_U64 x6 (5#64)) rfl) (sS (sA (sT1 rfl) sT0) sB0 sF0) ?_
            refine AL_cons (LR_assign (at_tmp 16 _) rfl) (sS (sT1 rfl) sB0 sF0) ?_
            refine AL_nil ?_
            refine blN ?_
            exact thenN (cutLeaf (v := x6 * (5#64)) hr (weakB ((sT rfl (sT rfl (sT rfl sT0)))) (sub_keep sub_nil) rfl))
          · rintro x8 hr
            show AW Hfaa.prog _ _ _ ⟨[(0, .inr (.inl (0, 0))), (1, .inl (is (I64 x5))), (4, .inl (is (U64 x8)))], [(0, pb 261 (is (I64 x2) :: (ar U64 52 x3 ++ [])))]⟩
            have hr : some out3 = F268_5 N x2 x3 x5 x8 := hr
            refine AW_region ?_
            refine AL_cons (LR_move (at_tmp 1 _) rfl) (sS (sT1 rfl) sB0 sF0) ?_
            refine AL_cons (LR_bin (at_tmp 13 _) (at_c (v' := I64 1) rfl) (sub_I64 x5 1) rfl) (sS (sA (sT1 rfl) sT0) sB0 sF0) ?_
            refine AL_cons (LR_assign (at_tmp 14 _) rfl) (sS (sT1 rfl) sB0 sF0) ?_
            refine AL_nil ?_
            exact thenN (loopNext (x' := (w64 (x5 - 1), x8)) hr (weakB ((sT rfl (sT rfl (sT rfl sT0)))) (sub_keep sub_nil) rfl))
        · have hr := hr.trans (cond_f h)
          clear h
          refine AW_exit ?_
          refine thenX ?_
          obtain ⟨r', hro, hr⟩ := map_inr hr
          refine thenX (loopOut hro (fun he => ?_))
          rw [he] at hr
          refine blH ?_
          exact thenN (cutLeaf (v := x6) hr (weakB ((sT rfl (sT rfl sT0))) (sub_keep sub_nil) rfl))
    · rintro x4 hr
      show AW Hfaa.prog _ _ _ ⟨[(0, .inr (.inl (0, 0))), (4, .inl (is (U64 x4)))], [(0, pb 261 (is (I64 x2) :: (ar U64 52 x3 ++ [])))]⟩
      have hr : some r = F268_2 N x2 x3 x4 := hr
      refine AW_region ?_
      refine AL_cons (LR_move (at_tmp 0 _) rfl) (sS (sT1 rfl) sB0 sF0) ?_
      refine AL_cons (LR_move (at_tmp 4 _) rfl) (sS (sT1 rfl) sB0 sF0) ?_
      obtain ⟨y7, hy7, hr⟩ := bind_some hr
      refine AL_cons (LR_callB [(0, 0)] [(0, 0)] Hfaa.func267 rfl rfl (C267 N x2 x3 x4 (0#64) y7 hy7) (aTC (at_tmp 17 _) (aTC (at_tmp 18 _) (aTC (at_c (v' := U64 (0#64)) rfl) aT0))) rfl rfl rfl rfl rfl) (sS (sA (sT1 rfl) (sA (sT1 rfl) (sA sT0 sT0))) (sB1 rfl) sF0) ?_
      refine AL_nil ?_
      obtain rfl := Option.some.inj hr
      exact ⟨res0 rfl , (sub_keep sub_nil)⟩
/-- (*parse/slow.big).bits -/
def F364_1 (N : Nat) (b0_0 : Int) (b0_1 : Nat → BitVec 64) (x1 : Bool) : Option (Int × Int × (Nat → BitVec 64)) := bif x1 then some (0, b0_0, b0_1) else bif (decide (0 ≤ w64 (b0_0 - 1)) && decide (w64 (b0_0 - 1) < (52 : Int))) then (F164 N (b0_1 ((w64 (b0_0 - 1)).toNat))).bind fun y2 => some ((w64 ((w64 (64 * b0_0)) - (w64 (y2.toNat : Int))), b0_0, b0_1)) else none
def F364 (N : Nat) (b0_0 : Int) (b0_1 : Nat → BitVec 64) : Option (Int × Int × (Nat → BitVec 64)) := F364_1 N b0_0 b0_1 (b0_0 == 0)
theorem C364 (N : Nat) (b0_0 : Int) (b0_1 : Nat → BitVec 64) (r : Int × Int × (Nat → BitVec 64)) (hr : some r = F364 N b0_0 b0_1) : FnB Hfaa.prog 364 [.inr (.inl (0, 0))] [(0, pb 261 (is (I64 b0_0) :: (ar U64 52 b0_1 ++ [])))] (is (I64 r.1)) [(0, pb 261 (is (I64 r.2.1) :: (ar U64 52 r.2.2 ++ [])))] := by
  refine fnB_intro Hfaa.func364 rfl rfl rfl rfl rfl ⟨hf_pb _ _, trivial⟩ ?_
  intro bn0 w0 H0
  refine AW_seq1 ?_
  refine AW_region ?_
  refine AL_cons (LR_assign (at_c (v' := I64 0) rfl) rfl) (sS sT0 sB0 sF0) ?_
  refine AL_nil ?_
  refine thenN ?_
  refine AW_seq1 ?_
  refine AW_cut (σ := Bool) (fun v => ⟨[(0, .inr (.inl (0, 0))), (7, .inl (is (Bl v)))], [(0, pb 261 (is (I64 b0_0) :: (ar U64 52 b0_1 ++ [])))]⟩) (fun v => some r = F364_1 N b0_0 b0_1 v) ?_ ?_
  · skip
    refine AW_region ?_
    refine AL_cons (LR_move (at_tmp 0 _) rfl) (sS (sT1 rfl) sB0 sF0) ?_
    refine AL_cons (LR_nilCheck (at_tmp 3 _) rfl) (sS (sT1 rfl) sB0 sF0) ?_
    refine AL_cons (LR_fieldAddr (off := 0) (o := 0) (at_tmp 4 _) (fun b w => fa261_0 b 0 w) rfl) (sS (sT1 rfl) sB0 sF0) ?_
    refine AL_cons (LR_load (at_tmp 5 _) na3 g0 rfl) (sS (sT1 rfl) (sB1 rfl) sF0) ?_
    refine AL_cons (LR_bin (at_tmp 6 _) (at_c (v' := I64 0) rfl) (eql_I64 b0_0 0) rfl) (sS (sA (sT1 rfl) sT0) sB0 sF0) ?_
    refine AL_nil ?_
    exact thenN (cutLeaf (v := b0_0 == 0) hr (weakB ((sT rfl (sT rfl sT0))) (sub_keep sub_nil) rfl))
  · rintro x1 hr
    show AW Hfaa.prog _ _ _ ⟨[(0, .inr (.inl (0, 0))), (7, .inl (is (Bl x1)))], [(0, pb 261 (is (I64 b0_0) :: (ar U64 52 b0_1 ++ [])))]⟩
    have hr : some r = F364_1 N b0_0 b0_1 x1 := hr
    refine AW_condT (b := x1) rfl (fun h => ?_) (fun h => ?_)
    · have hr := hr.trans (cond_t h)
      clear h
      refine AW_seq1 ?_
      refine AW_region ?_
      refine AL_cons (LR_assign (at_c (v' := I64 0) rfl) rfl) (sS sT0 sB0 sF0) ?_
      refine AL_nil ?_
      refine thenN ?_
      refine AW_ret ?_
      refine thenR ?_
      obtain rfl := Option.some.inj hr
      exact ⟨res1 rfl (rvT rfl), (sub_keep sub_nil)⟩
    · have hr := hr.trans (cond_f h)
      clear h
      refine AW_skip ?_
      refine thenN ?_
      refine AW_seq1 ?_
      obtain ⟨hg2, hr⟩ := guard_some hr
      obtain ⟨y2, hy2, hr⟩ := bind_some hr
      refine AW_draw mixed
        (lrC (LR_move (at_tmp 0 _) rfl)
        (lrC (LR_nilCheck (at_tmp 8 _) rfl)
        (lrC (LR_fieldAddr (off := 0) (o := 0) (at_tmp 9 _) (fun b w => fa261_0 b 0 w) rfl)
        (lrC (LR_load (at_tmp 10 _) na3 g0 rfl)
        (lrC (LR_bin (at_c (v' := I64 64) rfl) (at_tmp 11 _) (mul_I64 64 b0_0) rfl)
        (lrC (LR_move (at_tmp 0 _) rfl)
        (lrC (LR_move (at_tmp 0 _) rfl)
        (lrC (LR_nilCheck (at_tmp 14 _) rfl)
        (lrC (LR_fieldAddr (off := 0) (o := 0) (at_tmp 15 _) (fun b w => fa261_0 b 0 w) rfl)
        (lrC (LR_load (at_tmp 16 _) na3 g0 rfl)
        (lrC (LR_bin (at_tmp 17 _) (at_c (v' := I64 1) rfl) (sub_I64 b0_0 1) rfl)
        (lrC (LR_nilCheck (at_tmp 13 _) rfl)
        (lrC (LR_fieldAddr (off := 0) (o := 1) (at_tmp 19 _) (fun b w => fa261_1 b 0 w) rfl)
        (lrC (LR_indexAddr (o := ((w64 (b0_0 - 1)).toNat) + 1) Hfaa.underlying259 sz30 (at_tmp 20 _) (at_tmp 18 _) (dand hg2) (by first | rfl | omega) rfl)
        (lrC (LR_load (at_tmp 21 _) na30 (gS (gA (ltn (dand hg2)))) rfl)
        (lrC (LR_call Hfaa.func164 rfl rfl (C164 N (b0_1 ((w64 (b0_0 - 1)).toNat)) y2 hy2) (all_cons (at_tmp 22 _) all_nil) rfl)
        (lrC (LR_conv (vx := U8 y2) (at_tmp 23 _) (conv_I64 Hfaa.underlying5 Hfaa.underlying3 (y2.toNat : Int)) rfl)
        (lrC (LR_bin (at_tmp 12 _) (at_tmp 24 _) (sub_I64 (w64 (64 * b0_0)) (w64 (y2.toNat : Int))) rfl)
        (lrC (LR_assign (at_tmp 25 _) rfl)
        lrN)))))))))))))))))))
        (by kernel_rfl)
        (saC (sS (sT1 rfl) sB0 sF0) (saC (sS (sT1 rfl) sB0 sF0) (saC (sS (sT1 rfl) sB0 sF0) (saC (sS (sT1 rfl) (sB1 rfl) sF0) (saC (sS (sA sT0 (sT1 rfl)) sB0 sF0) (saC (sS (sT1 rfl) sB0 sF0) (saC (sS (sT1 rfl) sB0 sF0) (saC (sS (sT1 rfl) sB0 sF0) (saC (sS (sT1 rfl) sB0 sF0) (saC (sS (sT1 rfl) (sB1 rfl) sF0) (saC (sS (sA (sT1 rfl) sT0) sB0 sF0) (saC (sS (sT1 rfl) sB0 sF0) (saC (sS (sT1 rfl) sB0 sF0) (saC (sS (sA (sT1 rfl) (sT1 rfl)) sB0 sF0) (saC (sS (sT1 rfl) (sB1 rfl) sF0) (saC (sS (sA (sT1 rfl) sT0) sB0 sF0) (saC (sS (sT1 rfl) sB0 sF0) (saC (sS (sA (sT1 rfl) (sT1 rfl)) sB0 sF0) (saC (sS (sT1 rfl) sB0 sF0) saN))))))))))))))))))) ?_
      refine thenN ?_
      refine AW_ret ?_
      obtain rfl := Option.some.inj hr
      exact ⟨res1 rfl (rvT rfl), (sub_keep sub_nil)⟩
/-- (*parse/slow.big).shl -/
def F365_4 (N : Nat) (b0_0 : Int) (x4 : Nat → BitVec 64) (x5 : Int) : Option (Int × (Nat → BitVec 64)) := some (x5, x4)
def F365_6 (N : Nat) (b0_0 : Int) (x4 : Nat → BitVec 64) (x6 : Int) (x7 : Bool) : Option ((Int) ⊕ (Int × (Nat → BitVec 64))) := bif x7 then some (.inl (w64 (x6 - 1))) else (F365_4 N b0_0 x4 x6).map Sum.inr
def F365_L5b (N : Nat) (b0_0 : Int) (x4 : Nat → BitVec 64) (x6 : Int) : Option ((Int) ⊕ (Int × (Nat → BitVec 64))) := bif decide (x6 > 0) then bif (decide (0 ≤ w64 (x6 - 1)) && decide (w64 (x6 - 1) < (52 : Int))) then F365_6 N b0_0 x4 x6 ((x4 ((w64 (x6 - 1)).toNat)) == (0#64)) else none else F365_6 N b0_0 x4 x6 false
def F365_L5 (N : Nat) (b0_0 : Int) (x4 : Nat → BitVec 64) : (Int) → Option ((Int) ⊕ (Int × (Nat → BitVec 64))) := fun v => F365_L5b N b0_0 x4 v
def F365_3 (N : Nat) (b0_0 : Int) (x3 : Int) (x4 : Nat → BitVec 64) : Option (Int × (Nat → BitVec 64)) := iterL (F365_L5 N b0_0 x4) N x3
def F365_10 (N : Nat) (b0_0 : Int) (x1 : Int) (x2 : Int) (x3 : Int) (x9 : Int) (x12 : Nat → BitVec 64) : Option ((Int × (Nat → BitVec 64)) ⊕ (Int × (Nat → BitVec 64))) := some (.inl ((w64 (x9 - 1), x12)))
def F365_11 (N : Nat) (b0_0 : Int) (x1 : Int) (x2 : Int) (x3 : Int) (x9 : Int) (x10 : Nat → BitVec 64) (x13 : BitVec 64) : Option ((Int × (Nat → BitVec 64)) ⊕ (Int × (Nat → BitVec 64))) := bif (decide (0 ≤ x9) && decide (x9 < (52 : Int))) then F365_10 N b0_0 x1 x2 x3 x9 (upd x10 x9.toNat x13) else none
def F365_15 (N : Nat) (b0_0 : Int) (x1 : Int) (x2 : Int) (x3 : Int) (x9 : Int) (x10 : Nat → BitVec 64) (x14 : Int) (x16 : BitVec 64) (x17 : Bool) : Option ((Int × (Nat → BitVec 64)) ⊕ (Int × (Nat → BitVec 64))) := bif x17 then bif (decide (0 ≤ w64 (x14 - 1)) && decide (w64 (x14 - 1) < (52 : Int))) then bif decide (0 ≤ (w64 (64 - x2))) then F365_11 N b0_0 x1 x2 x3 x9 x10 (x16 ||| ((x10 ((w64 (x14 - 1)).toNat)) >>> (w64 (64 - x2)).toNat)) else none else none else F365_11 N b0_0 x1 x2 x3 x9 x10 x16
def F365_14 (N : Nat) (b0_0 : Int) (x1 : Int) (x2 : Int) (x3 : Int) (x9 : Int) (x10 : Nat → BitVec 64) (x14 : Int) (x16 : BitVec 64) : Option ((Int × (Nat → BitVec 64)) ⊕ (Int × (Nat → BitVec 64))) := F365_15 N b0_0 x1 x2 x3 x9 x10 x14 x16 ((decide (x14 > 0)) && (decide (x2 > 0)))
def F365_13 (N : Nat) (b0_0 : Int) (x1 : Int) (x2 : Int) (x3 : Int) (x9 : Int) (x10 : Nat → BitVec 64) (x14 : Int) (x15 : Bool) : Option ((Int × (Nat → BitVec 64)) ⊕ (Int × (Nat → BitVec 64))) := bif x15 then bif (decide (0 ≤ x14) && decide (x14 < (52 : Int))) then bif decide (0 ≤ x2) then F365_14 N b0_0 x1 x2 x3 x9 x10 x14 ((x10 x14.toNat) <<< x2.toNat) else none else none else F365_11 N b0_0 x1 x2 x3 x9 x10 (0#64)
def F365_12 (N : Nat) (b0_0 : Int) (x1 : Int) (x2 : Int) (x3 : Int) (x9 : Int) (x10 : Nat → BitVec 64) (x14 : Int) : Option ((Int × (Nat → BitVec 64)) ⊕ (Int × (Nat → BitVec 64))) := F365_13 N b0_0 x1 x2 x3 x9 x10 x14 (decide (x14 ≥ 0))
def F365_9 (N : Nat) (b0_0 : Int) (x1 : Int) (x2 : Int) (x3 : Int) (x9 : Int) (x10 : Nat → BitVec 64) (x11 : Bool) : Option ((Int × (Nat → BitVec 64)) ⊕ (Int × (Nat → BitVec 64))) := bif x11 then F365_12 N b0_0 x1 x2 x3 x9 x10 (w64 (x9 - x1)) else (F365_3 N b0_0 x3 x10).map Sum.inr
def F365_L8b (N : Nat) (b0_0 : Int) (x1 : Int) (x2 : Int) (x3 : Int) (x9 : Int) (x10 : Nat → BitVec 64) : Option ((Int × (Nat → BitVec 64)) ⊕ (Int × (Nat → BitVec 64))) := F365_9 N b0_0 x1 x2 x3 x9 x10 (decide (x9 ≥ 0))
def F365_L8 (N : Nat) (b0_0 : Int) (x1 : Int) (x2 : Int) (x3 : Int) : (Int × (Nat → BitVec 64)) → Option ((Int × (Nat → BitVec 64)) ⊕ (Int × (Nat → BitVec 64))) := fun v => F365_L8b N b0_0 x1 x2 x3 v.1 v.2
def F365_7 (N : Nat) (b0_0 : Int) (b0_1 : Nat → BitVec 64) (x1 : Int) (x2 : Int) (x3 : Int) (x8 : Int) : Option (Int × (Nat → BitVec 64)) := iterL (F365_L8 N b0_0 x1 x2 x3) N (x8, b0_1)
def F365_2 (N : Nat) (b0_0 : Int) (b0_1 : Nat → BitVec 64) (x1 : Int) (x2 : Int) (x3 : Int) : Option (Int × (Nat → BitVec 64)) := F365_7 N b0_0 b0_1 x1 x2 x3 (w64 (x3 - 1))
def F365_1 (N : Nat) (b0_0 : Int) (b0_1 : Nat → BitVec 64) (x1 : Int) (x2 : Int) : Option (Int × (Nat → BitVec 64)) := F365_2 N b0_0 b0_1 x1 x2 (min (w64 ((w64 (b0_0 + x1)) + 1)) 52)
def F365 (N : Nat) (b0_0 : Int) (b0_1 : Nat → BitVec 64) (a1 : Int) : Option (Int × (Nat → BitVec 64)) := F365_1 N b0_0 b0_1 (w64 (a1.tdiv 64)) (a1.tmod 64)
theorem C365 (N : Nat) (b0_0 : Int) (b0_1 : Nat → BitVec 64) (a1 : Int) (r : Int × (Nat → BitVec 64)) (hr : some r = F365 N b0_0 b0_1 a1) : FnB Hfaa.prog 365 [.inr (.inl (0, 0)), .inl (is (I64 a1))] [(0, pb 261 (is (I64 b0_0) :: (ar U64 52 b0_1 ++ [])))] (tup []) [(0, pb 261 (is (I64 r.1) :: (ar U64 52 r.2 ++ [])))] := by
  refine fnB_intro Hfaa.func365 rfl rfl rfl rfl rfl ⟨hf_pb _ _, trivial⟩ ?_
  intro bn0 w0 H0
  refine AW_cut (σ := Int × Int) (fun v => ⟨[(0, .inr (.inl (0, 0))), (4, .inl (is (I64 v.1))), (5, .inl (is (I64 v.2)))], [(0, pb 261 (is (I64 b0_0) :: (ar U64 52 b0_1 ++ [])))]⟩) (fun v => some r = F365_1 N b0_0 b0_1 v.1 v.2) ?_ ?_
  · skip
    refine AW_region ?_
    refine AL_cons (LR_move (at_tmp 1 _) rfl) (sS (sT1 rfl) sB0 sF0) ?_
    refine AL_cons (LR_bin (at_tmp 10 _) (at_c (v' := I64 64) rfl) (quo_I64 a1 64 (by decide)) rfl) (sS (sA (sT1 rfl) sT0) sB0 sF0) ?_
    refine AL_cons (LR_move (at_tmp 1 _) rfl) (sS (sT1 rfl) sB0 sF0) ?_
    refine AL_cons (LR_bin (at_tmp 12 _) (at_c (v' := I64 64) rfl) (rem_I64 a1 64 (by decide)) rfl) (sS (sA (sT1 rfl) sT0) sB0 sF0) ?_
    refine AL_cons (LR_assign (at_tmp 11 _) rfl) (sS (sT1 rfl) sB0 sF0) ?_
    refine AL_cons (LR_assign (at_tmp 13 _) rfl) (sS (sT1 rfl) sB0 sF0) ?_
    refine AL_nil ?_
    exact thenN (cutLeaf (v := (w64 (a1.tdiv 64), a1.tmod 64)) hr (weakB ((sT rfl (sT rfl (sT rfl sT0)))) (sub_keep sub_nil) rfl))
  · rintro ⟨x1, x2⟩ hr
    show AW Hfaa.prog _ _ _ ⟨[(0, .inr (.inl (0, 0))), (4, .inl (is (I64 x1))), (5, .inl (is (I64 x2)))], [(0, pb 261 (is (I64 b0_0) :: (ar U64 52 b0_1 ++ [])))]⟩
    have hr : some r = F365_1 N b0_0 b0_1 x1 x2 := hr
    refine AW_cut (σ := Int) (fun v => ⟨[(0, .inr (.inl (0, 0))), (4, .inl (is (I64 x1))), (5, .inl (is (I64 x2))), (6, .inl (is (I64 v)))], [(0, pb 261 (is (I64 b0_0) :: (ar U64 52 b0_1 ++ [])))]⟩) (fun v => some r = F365_2 N b0_0 b0_1 x1 x2 v) ?_ ?_
    · skip
      refine AW_region ?_
      refine AL_cons (LR_move (at_tmp 0 _) rfl) (sS (sT1 rfl) sB0 sF0) ?_
      refine AL_cons (LR_nilCheck (at_tmp 14 _) rfl) (sS (sT1 rfl) sB0 sF0) ?_
      refine AL_cons (LR_fieldAddr (off := 0) (o := 0) (at_tmp 15 _) (fun b w => fa261_0 b 0 w) rfl) (sS (sT1 rfl) sB0 sF0) ?_
      refine AL_cons (LR_load (at_tmp 16 _) na3 g0 rfl) (sS (sT1 rfl) (sB1 rfl) sF0) ?_
      refine AL_cons (LR_move (at_tmp 4 _) rfl) (sS (sT1 rfl) sB0 sF0) ?_
      refine AL_cons (LR_bin (at_tmp 17 _) (at_tmp 18 _) (add_I64 b0_0 x1) rfl) (sS (sA (sT1 rfl) (sT1 rfl)) sB0 sF0) ?_
      refine AL_cons (LR_bin (at_tmp 19 _) (at_c (v' := I64 1) rfl) (add_I64 (w64 (b0_0 + x1)) 1) rfl) (sS (sA (sT1 rfl) sT0) sB0 sF0) ?_
      refine AL_cons (LR_bi2 (vx := I64 (w64 ((w64 (b0_0 + x1)) + 1))) (vy := I64 52) (v := I64 (min (w64 ((w64 (b0_0 + x1)) + 1)) 52)) (at_tmp 20 _) (at_c (v' := I64 52) rfl) (fun cs w => min_I .i64 (w64 ((w64 (b0_0 + x1)) + 1)) 52 cs w) rfl) (sS (sA (sT1 rfl) sT0) sB0 sF0) ?_
      refine AL_cons (LR_assign (at_tmp 21 _) rfl) (sS (sT1 rfl) sB0 sF0) ?_
      refine AL_nil ?_
      exact thenN (cutLeaf (v := min (w64 ((w64 (b0_0 + x1)) + 1)) 52) hr (weakB ((sT rfl (sT rfl (sT rfl (sT rfl sT0))))) (sub_keep sub_nil) rfl))
    · rintro x3 hr
      show AW Hfaa.prog _ _ _ ⟨[(0, .inr (.inl (0, 0))), (4, .inl (is (I64 x1))), (5, .inl (is (I64 x2))), (6, .inl (is (I64 x3)))], [(0, pb 261 (is (I64 b0_0) :: (ar U64 52 b0_1 ++ [])))]⟩
      have hr : some r = F365_2 N b0_0 b0_1 x1 x2 x3 := hr
      refine AW_cut (σ := (Nat → BitVec 64)) (fun v => ⟨[(0, .inr (.inl (0, 0))), (6, .inl (is (I64 x3)))], [(0, pb 261 (is (I64 b0_0) :: (ar U64 52 v ++ [])))]⟩) (fun v => some r = F365_3 N b0_0 x3 v) ?_ ?_
      · skip
        refine AW_cut (σ := Int) (fun v => ⟨[(0, .inr (.inl (0, 0))), (4, .inl (is (I64 x1))), (5, .inl (is (I64 x2))), (6, .inl (is (I64 x3))), (7, .inl (is (I64 v)))], [(0, pb 261 (is (I64 b0_0) :: (ar U64 52 b0_1 ++ [])))]⟩) (fun v => some r = F365_7 N b0_0 b0_1 x1 x2 x3 v) ?_ ?_
        · skip
          refine AW_region ?_
          refine AL_cons (LR_move (at_tmp 6 _) rfl) (sS (sT1 rfl) sB0 sF0) ?_
          refine AL_cons (LR_bin (at_tmp 22 _) (at_c (v' := I64 1) rfl) (sub_I64 x3 1) rfl) (sS (sA (sT1 rfl) sT0) sB0 sF0) ?_
          refine AL_cons (LR_assign (at_tmp 23 _) rfl) (sS (sT1 rfl) sB0 sF0) ?_
          refine AL_nil ?_
          exact thenN (cutLeaf (v := w64 (x3 - 1)) hr (weakB ((sT rfl (sT rfl (sT rfl (sT rfl (sT rfl sT0)))))) (sub_keep sub_nil) rfl))
        · rintro x8 hr
          show AW Hfaa.prog _ _ _ ⟨[(0, .inr (.inl (0, 0))), (4, .inl (is (I64 x1))), (5, .inl (is (I64 x2))), (6, .inl (is (I64 x3))), (7, .inl (is (I64 x8)))], [(0, pb 261 (is (I64 b0_0) :: (ar U64 52 b0_1 ++ [])))]⟩
          have hr : some r = F365_7 N b0_0 b0_1 x1 x2 x3 x8 := hr
          refine AW_block ?_
          refine AW_iterR (σ := Int × (Nat → BitVec 64)) (r := r) (x0 := (x8, b0_1)) (emb := fun v => ⟨[(0, .inr (.inl (0, 0))), (4, .inl (is (I64 x1))), (5, .inl (is (I64 x2))), (6, .inl (is (I64 x3))), (7, .inl (is (I64 v.1)))], [(0, pb 261 (is (I64 b0_0) :: (ar U64 52 v.2 ++ [])))]⟩) ?_ hr ?_
          · exact weakB ((sT rfl (sT rfl (sT rfl (sT rfl (sT rfl sT0)))))) (sub_keep sub_nil) rfl
          rintro ⟨x9, x10⟩ out4 hr
          show AW Hfaa.prog _ _ _ ⟨[(0, .inr (.inl (0, 0))), (4, .inl (is (I64 x1))), (5, .inl (is (I64 x2))), (6, .inl (is (I64 x3))), (7, .inl (is (I64 x9)))], [(0, pb 261 (is (I64 b0_0) :: (ar U64 52 x10 ++ [])))]⟩
          have hr : some out4 = F365_L8b N b0_0 x1 x2 x3 x9 x10 := hr
          refine AW_seq1 ?_
          refine AW_cut (σ := Bool) (fun v => ⟨[(0, .inr (.inl (0, 0))), (4, .inl (is (I64 x1))), (5, .inl (is (I64 x2))), (6, .inl (is (I64 x3))), (7, .inl (is (I64 x9))), (25, .inl (is (Bl v)))], [(0, pb 261 (is (I64 b0_0) :: (ar U64 52 x10 ++ [])))]⟩) (fun v => some out4 = F365_9 N b0_0 x1 x2 x3 x9 x10 v) ?_ ?_
          · skip
            refine AW_region ?_
            refine AL_cons (LR_move (at_tmp 7 _) rfl) (sS (sT1 rfl) sB0 sF0) ?_
            refine AL_cons (LR_bin (at_tmp 24 _) (at_c (v' := I64 0) rfl) (geq_I64 x9 0) rfl) (sS (sA (sT1 rfl) sT0) sB0 sF0) ?_
            refine AL_nil ?_
            exact thenN (cutLeaf (v := decide (x9 ≥ 0)) hr (weakB ((sT rfl (sT rfl (sT rfl (sT rfl (sT rfl (sT rfl sT0))))))) (sub_keep sub_nil) rfl))
          · rintro x11 hr
            show AW Hfaa.prog _ _ _ ⟨[(0, .inr (.inl (0, 0))), (4, .inl (is (I64 x1))), (5, .inl (is (I64 x2))), (6, .inl (is (I64 x3))), (7, .inl (is (I64 x9))), (25, .inl (is (Bl x11)))], [(0, pb 261 (is (I64 b0_0) :: (ar U64 52 x10 ++ [])))]⟩
            have hr : some out4 = F365_9 N b0_0 x1 x2 x3 x9 x10 x11 := hr
            refine AW_condT (b := x11) rfl (fun h => ?_) (fun h => ?_)
            · have hr := hr.trans (cond_t h)
              clear h
              refine AW_skip ?_
              refine thenN ?_
              refine AW_cut (σ := (Nat → BitVec 64)) (fun v => ⟨[(0, .inr (.inl (0, 0))), (4, .inl (is (I64 x1))), (5, .inl (is (I64 x2))), (6, .inl (is (I64 x3))), (7, .inl (is (I64 x9)))], [(0, pb 261 (is (I64 b0_0) :: (ar U64 52 v ++ [])))]⟩) (fun v => some out4 = F365_10 N b0_0 x1 x2 x3 x9 v) ?_ ?_
              · skip
                refine AW_block ?_
                refine AW_seq1 ?_
                refine AW_region ?_
                refine AL_cons (LR_assign (at_c (v' := U64 (0#64)) rfl) rfl) (sS sT0 sB0 sF0) ?_
                refine AL_nil ?_
                refine thenN ?_
                refine AW_cut (σ := BitVec 64) (fun v => ⟨[(0, .inr (.inl (0, 0))), (4, .inl (is (I64 x1))), (5, .inl (is (I64 x2))), (6, .inl (is (I64 x3))), (7, .inl (is (I64 x9))), (8, .inl (is (U64 v)))], [(0, pb 261 (is (I64 b0_0) :: (ar U64 52 x10 ++ [])))]⟩) (fun v => some out4 = F365_11 N b0_0 x1 x2 x3 x9 x10 v) ?_ ?_
                · skip
                  refine AW_cut (σ := Int) (fun v => ⟨[(0, .inr (.inl (0, 0))), (4, .inl (is (I64 x1))), (5, .inl (is (I64 x2))), (6, .inl (is (I64 x3))), (7, .inl (is (I64 x9))), (8, .inl (is (U64 (0#64)))), (9, .inl (is (I64 v)))], [(0, pb 261 (is (I64 b0_0) :: (ar U64 52 x10 ++ [])))]⟩) (fun v => some out4 = F365_12 N b0_0 x1 x2 x3 x9 x10 v) ?_ ?_
                  · skip
                    refine AW_region ?_
                    refine AL_cons (LR_move (at_tmp 7 _) rfl) (sS (sT1 rfl) sB0 sF0) ?_
                    refine AL_cons (LR_move (at_tmp 4 _) rfl) (sS (sT1 rfl) sB0 sF0) ?_
                    refine AL_cons (LR_bin (at_tmp 28 _) (at_tmp 29 _) (sub_I64 x9 x1) rfl) (sS (sA (sT1 rfl) (sT1 rfl)) sB0 sF0) ?_
                    refine AL_cons (LR_assign (at_tmp 30 _) rfl) (sS (sT1 rfl) sB0 sF0) ?_
                    refine AL_nil ?_
                    exact thenN (cutLeaf (v := w64 (x9 - x1)) hr (weakB ((sT rfl (sT rfl (sT rfl (sT rfl (sT rfl (sT rfl (sT rfl sT0)))))))) (sub_keep sub_nil) rfl))
                  · rintro x14 hr
                    show AW Hfaa.prog _ _ _ ⟨[(0, .inr (.inl (0, 0))), (4, .inl (is (I64 x1))), (5, .inl (is (I64 x2))), (6, .inl (is (I64 x3))), (7, .inl (is (I64 x9))), (8, .inl (is (U64 (0#64)))), (9, .inl (is (I64 x14)))], [(0, pb 261 (is (I64 b0_0) :: (ar U64 52 x10 ++ [])))]⟩
                    have hr : some out4 = F365_12 N b0_0 x1 x2 x3 x9 x10 x14 := hr
                    refine AW_cut (σ := Bool) (fun v => ⟨[(0, .inr (.inl (0, 0))), (4, .inl (is (I64 x1))), (5, .inl (is (I64 x2))), (6, .inl (is (I64 x3))), (7, .inl (is (I64 x9))), (8, .inl (is (U64 (0#64)))), (9, .inl (is (I64 x14))), (32, .inl (is (Bl v)))], [(0, pb 261 (is (I64 b0_0) :: (ar U64 52 x10 ++ [])))]⟩) (fun v => some out4 = F365_13 N b0_0 x1 x2 x3 x9 x10 x14 v) ?_ ?_
                    · skip
                      refine AW_region ?_
                      refine AL_cons (LR_move (at_tmp 9 _) rfl) (sS (sT1 rfl) sB0 sF0) ?_
                      refine AL_cons (LR_bin (at_tmp 31 _) (at_c (v' := I64 0) rfl) (geq_I64 x14 0) rfl) (sS (sA (sT1 rfl) sT0) sB0 sF0) ?_
                      refine AL_nil ?_
                      exact thenN (cutLeaf (v := decide (x14 ≥ 0)) hr (weakB ((sT rfl (sT rfl (sT rfl (sT rfl (sT rfl (sT rfl (sT rfl (sT rfl sT0))))))))) (sub_keep sub_nil) rfl))
                    · rintro x15 hr
                      show AW Hfaa.prog _ _ _ ⟨[(0, .inr (.inl (0, 0))), (4, .inl (is (I64 x1))), (5, .inl (is (I64 x2))), (6, .inl (is (I64 x3))), (7, .inl (is (I64 x9))), (8, .inl (is (U64 (0#64)))), (9, .inl (is (I64 x14))), (32, .inl (is (Bl x15)))], [(0, pb 261 (is (I64 b0_0) :: (ar U64 52 x10 ++ [])))]⟩
                      have hr : some out4 = F365_13 N b0_0 x1 x2 x3 x9 x10 x14 x15 := hr
                      refine AW_condT (b := x15) rfl (fun h => ?_) (fun h => ?_)
                      · have hr := hr.trans (cond_t h)
                        clear h
                        refine AW_cut (σ := BitVec 64) (fun v => ⟨[(0, .inr (.inl (0, 0))), (4, .inl (is (I64 x1))), (5, .inl (is (I64 x2))), (6, .inl (is (I64 x3))), (7, .inl (is (I64 x9))), (8, .inl (is (U64 v))), (9, .inl (is (I64 x14)))], [(0, pb 261 (is (I64 b0_0) :: (ar U64 52 x10 ++ [])))]⟩) (fun v => some out4 = F365_14 N b0_0 x1 x2 x3 x9 x10 x14 v) ?_ ?_
                        · skip
                          refine AW_region ?_
                          refine AL_cons (LR_move (at_tmp 0 _) rfl) (sS (sT1 rfl) sB0 sF0) ?_
                          refine AL_cons (LR_move (at_tmp 9 _) rfl) (sS (sT1 rfl) sB0 sF0) ?_
                          refine AL_cons (LR_nilCheck (at_tmp 33 _) rfl) (sS (sT1 rfl) sB0 sF0) ?_
                          refine AL_cons (LR_fieldAddr (off := 0) (o := 1) (at_tmp 35 _) (fun b w => fa261_1 b 0 w) rfl) (sS (sT1 rfl) sB0 sF0) ?_
                          obtain ⟨hg187, hr⟩ := guard_some hr
                          refine AL_cons (LR_indexAddr (o := x14.toNat + 1) Hfaa.underlying259 sz30 (at_tmp 36 _) (at_tmp 34 _) (dand hg187) (by first | rfl | omega) rfl) (sS (sA (sT1 rfl) (sT1 rfl)) sB0 sF0) ?_
                          refine AL_cons (LR_load (at_tmp 37 _) na30 (gS (gA (ltn (dand hg187)))) rfl) (sS (sT1 rfl) (sB1 rfl) sF0) ?_
                          refine AL_cons (LR_move (at_tmp 5 _) rfl) (sS (sT1 rfl) sB0 sF0) ?_
                          obtain ⟨hg188, hr⟩ := guard_some hr
                          refine AL_cons (LR_bin (at_tmp 38 _) (at_tmp 39 _) (shl_U64 (x10 x14.toNat) x2 (of_decide_eq_true hg188)) rfl) (sS (sA (sT1 rfl) (sT1 rfl)) sB0 sF0) ?_
                          refine AL_cons (LR_assign (at_tmp 40 _) rfl) (sS (sT1 rfl) sB0 sF0) ?_
                          refine AL_nil ?_
                          exact thenN (cutLeaf (v := (x10 x14.toNat) <<< x2.toNat) hr (weakB ((sT rfl (sT rfl (sT rfl (sT rfl (sT rfl (sT rfl (sT rfl sT0)))))))) (sub_keep sub_nil) rfl))
                        · rintro x16 hr
                          show AW Hfaa.prog _ _ _ ⟨[(0, .inr (.inl (0, 0))), (4, .inl (is (I64 x1))), (5, .inl (is (I64 x2))), (6, .inl (is (I64 x3))), (7, .inl (is (I64 x9))), (8, .inl (is (U64 x16))), (9, .inl (is (I64 x14)))], [(0, pb 261 (is (I64 b0_0) :: (ar U64 52 x10 ++ [])))]⟩
                          have hr : some out4 = F365_14 N b0_0 x1 x2 x3 x9 x10 x14 x16 := hr
                          refine AW_cut (σ := Bool) (fun v => ⟨[(0, .inr (.inl (0, 0))), (4, .inl (is (I64 x1))), (5, .inl (is (I64 x2))), (6, .inl (is (I64 x3))), (7, .inl (is (I64 x9))), (8, .inl (is (U64 x16))), (9, .inl (is (I64 x14))), (46, .inl (is (Bl v)))], [(0, pb 261 (is (I64 b0_0) :: (ar U64 52 x10 ++ [])))]⟩) (fun v => some out4 = F365_15 N b0_0 x1 x2 x3 x9 x10 x14 x16 v) ?_ ?_
                          · skip
                            refine AW_region ?_
                            refine AL_cons (LR_move (at_tmp 9 _) rfl) (sS (sT1 rfl) sB0 sF0) ?_
                            refine AL_cons (LR_bin (at_tmp 41 _) (at_c (v' := I64 0) rfl) (gtr_I64 x14 0) rfl) (sS (sA (sT1 rfl) sT0) sB0 sF0) ?_
                            refine AL_cons (LR_move (at_tmp 42 _) rfl) (sS (sT1 rfl) sB0 sF0) ?_
                            refine AL_cutAt 3 ⟨[(0, .inr (.inl (0, 0))), (4, .inl (is (I64 x1))), (5, .inl (is (I64 x2))), (6, .inl (is (I64 x3))), (7, .inl (is (I64 x9))), (8, .inl (is (U64 x16))), (9, .inl (is (I64 x14))), (41, .inl (is (I64 x14))), (42, .inl (is (Bl (decide (x14 > 0))))), (43, .inl (is (Bl (decide (x14 > 0))))), (46, .inl (is (Bl ((decide (x14 > 0)) && (decide (x2 > 0))))))], [(0, pb 261 (is (I64 b0_0) :: (ar U64 52 x10 ++ [])))]⟩ ?_ ?_
                            · cases hb : decide (x14 > 0)
                              · skip
                                refine AL_cons (LR_off (b := false) rfl rfl rfl rfl) (sS (sT1 rfl) sB0 sF0) ?_
                                refine AL_cons (LR_off (b := false) rfl rfl rfl rfl) (sS (sT1 rfl) sB0 sF0) ?_
                                refine AL_cons (LR_pick (b := false) (at_tmp 43 _) (at_tmp 45 _) (at_c (v' := Bl false) rfl) rfl) (sS (sA (sT1 rfl) (sA (sT1 rfl) sT0)) sB0 sF0) ?_
                                exact AL_nil ⟨rfl, weakB ((sT rfl (sT rfl (sT rfl (sT rfl (sT rfl (sT rfl (sT rfl (sT rfl (sT rfl (sT rfl (sT rfl sT0)))))))))))) (sub_keep sub_nil) rfl⟩
                              · skip
                                refine AL_cons (LR_on rfl rfl rfl (LR_move (at_tmp 5 _) rfl)) (sS (sT rfl (sT1 rfl)) sB0 sF0) ?_
                                refine AL_cons (LR_on rfl rfl rfl (LR_bin (at_tmp 44 _) (at_c (v' := I64 0) rfl) (gtr_I64 x2 0) rfl)) (sS (sT rfl (sA (sT1 rfl) sT0)) sB0 sF0) ?_
                                refine AL_cons (LR_pick (b := true) (at_tmp 43 _) (at_tmp 45 _) (at_c (v' := Bl false) rfl) rfl) (sS (sA (sT1 rfl) (sA (sT1 rfl) sT0)) sB0 sF0) ?_
                                exact AL_nil ⟨rfl, weakB ((sT rfl (sT rfl (sT rfl (sT rfl (sT rfl (sT rfl (sT rfl (sT rfl (sT rfl (sT rfl (sT rfl sT0)))))))))))) (sub_keep sub_nil) rfl⟩
                            refine AL_nil ?_
                            exact thenN (cutLeaf (v := (decide (x14 > 0)) && (decide (x2 > 0))) hr (weakB ((sT rfl (sT rfl (sT rfl (sT rfl (sT rfl (sT rfl (sT rfl (sT rfl sT0))))))))) (sub_keep sub_nil) rfl))
                          · rintro x17 hr
                            show AW Hfaa.prog _ _ _ ⟨[(0, .inr (.inl (0, 0))), (4, .inl (is (I64 x1))), (5, .inl (is (I64 x2))), (6, .inl (is (I64 x3))), (7, .inl (is (I64 x9))), (8, .inl (is (U64 x16))), (9, .inl (is (I64 x14))), (46, .inl (is (Bl x17)))], [(0, pb 261 (is (I64 b0_0) :: (ar U64 52 x10 ++ [])))]⟩
                            have hr : some out4 = F365_15 N b0_0 x1 x2 x3 x9 x10 x14 x16 x17 := hr
                            refine AW_condT (b := x17) rfl (fun h => ?_) (fun h => ?_)
                            · have hr := hr.trans (cond_t h)
                              clear h
                              refine AW_region ?_
                              refine AL_cons (LR_move (at_tmp 8 _) rfl) (sS (sT1 rfl) sB0 sF0) ?_
                              refine AL_cons (LR_move (at_tmp 0 _) rfl) (sS (sT1 rfl) sB0 sF0) ?_
                              refine AL_cons (LR_move (at_tmp 9 _) rfl) (sS (sT1 rfl) sB0 sF0) ?_
                              refine AL_cons (LR_bin (at_tmp 49 _) (at_c (v' := I64 1) rfl) (sub_I64 x14 1) rfl) (sS (sA (sT1 rfl) sT0) sB0 sF0) ?_
                              refine AL_cons (LR_nilCheck (at_tmp 48 _) rfl) (sS (sT1 rfl) sB0 sF0) ?_
                              refine AL_cons (LR_fieldAddr (off := 0) (o := 1) (at_tmp 51 _) (fun b w => fa261_1 b 0 w) rfl) (sS (sT1 rfl) sB0 sF0) ?_
                              obtain ⟨hg185, hr⟩ := guard_some hr
                              refine AL_cons (LR_indexAddr (o := ((w64 (x14 - 1)).toNat) + 1) Hfaa.underlying259 sz30 (at_tmp 52 _) (at_tmp 50 _) (dand hg185) (by first | rfl | omega) rfl) (sS (sA (sT1 rfl) (sT1 rfl)) sB0 sF0) ?_
                              refine AL_cons (LR_load (at_tmp 53 _) na30 (gS (gA (ltn (dand hg185)))) rfl) (sS (sT1 rfl) (sB1 rfl) sF0) ?_
                              refine AL_cons (LR_move (at_tmp 5 _) rfl) (sS (sT1 rfl) sB0 sF0) ?_
                              refine AL_cons (LR_bin (at_c (v' := I64 64) rfl) (at_tmp 55 _) (sub_I64 64 x2) rfl) (sS (sA sT0 (sT1 rfl)) sB0 sF0) ?_
                              obtain ⟨hg186, hr⟩ := guard_some hr
                              refine AL_cons (LR_bin (at_tmp 54 _) (at_tmp 56 _) (shr_U64 (x10 ((w64 (x14 - 1)).toNat)) (w64 (64 - x2)) (of_decide_eq_true hg186)) rfl) (sS (sA (sT1 rfl) (sT1 rfl)) sB0 sF0) ?_
                              refine AL_cons (LR_bin (at_tmp 47 _) (at_tmp 57 _) (or_U64 x16 ((x10 ((w64 (x14 - 1)).toNat)) >>> (w64 (64 - x2)).toNat)) rfl) (sS (sA (sT1 rfl) (sT1 rfl)) sB0 sF0) ?_
                              refine AL_cons (LR_assign (at_tmp 58 _) rfl) (sS (sT1 rfl) sB0 sF0) ?_
                              refine AL_nil ?_
                              exact thenN (cutLeaf (v := x16 ||| ((x10 ((w64 (x14 - 1)).toNat)) >>> (w64 (64 - x2)).toNat)) hr (weakB ((sT rfl (sT rfl (sT rfl (sT rfl (sT rfl (sT rfl sT0))))))) (sub_keep sub_nil) rfl))
                            · have hr := hr.trans (cond_f h)
                              clear h
                              refine AW_skip ?_
                              exact thenN (cutLeaf (v := x16) hr (weakB ((sT rfl (sT rfl (sT rfl (sT rfl (sT rfl (sT rfl sT0))))))) (sub_keep sub_nil) rfl))
                      · have hr := hr.trans (cond_f h)
                        clear h
                        refine AW_skip ?_
                        exact thenN (cutLeaf (v := 0#64) hr (weakB ((sT rfl (sT rfl (sT rfl (sT rfl (sT rfl (sT rfl sT0))))))) (sub_keep sub_nil) rfl))
                · rintro x13 hr
                  show AW Hfaa.prog _ _ _ ⟨[(0, .inr (.inl (0, 0))), (4, .inl (is (I64 x1))), (5, .inl (is (I64 x2))), (6, .inl (is (I64 x3))), (7, .inl (is (I64 x9))), (8, .inl (is (U64 x13)))], [(0, pb 261 (is (I64 b0_0) :: (ar U64 52 x10 ++ [])))]⟩
                  have hr : some out4 = F365_11 N b0_0 x1 x2 x3 x9 x10 x13 := hr
                  refine AW_region ?_
                  refine AL_cons (LR_move (at_tmp 0 _) rfl) (sS (sT1 rfl) sB0 sF0) ?_
                  refine AL_cons (LR_move (at_tmp 7 _) rfl) (sS (sT1 rfl) sB0 sF0) ?_
                  refine AL_cons (LR_move (at_tmp 8 _) rfl) (sS (sT1 rfl) sB0 sF0) ?_
                  refine AL_cons (LR_nilCheck (at_tmp 59 _) rfl) (sS (sT1 rfl) sB0 sF0) ?_
                  refine AL_cons (LR_fieldAddr (off := 0) (o := 1) (at_tmp 62 _) (fun b w => fa261_1 b 0 w) rfl) (sS (sT1 rfl) sB0 sF0) ?_
                  obtain ⟨hg182, hr⟩ := guard_some hr
                  refine AL_cons (LR_indexAddr (o := x9.toNat + 1) Hfaa.underlying259 sz30 (at_tmp 63 _) (at_tmp 60 _) (dand hg182) (by first | rfl | omega) rfl) (sS (sA (sT1 rfl) (sT1 rfl)) sB0 sF0) ?_
                  refine AL_cons (LR_storeA (at_tmp 64 _) (at_tmp 61 _) (cells_one (one_is rfl)) (onC (one_is rfl) onN) sz30 rfl (ble_dyn (lnC (lnA ln0)) (by have := (ltn (dand hg182)); omega)) (stS (stA (ltn (dand hg182))))) (sS (sA (sT1 rfl) (sT1 rfl)) (sB1 rfl) sF0) ?_
                  refine AL_nil ?_
                  refine blN ?_
                  exact thenN (cutLeaf (v := upd x10 x9.toNat x13) hr (weakB ((sT rfl (sT rfl (sT rfl (sT rfl (sT rfl sT0)))))) (sub_keep sub_nil) rfl))
              · rintro x12 hr
                show AW Hfaa.prog _ _ _ ⟨[(0, .inr (.inl (0, 0))), (4, .inl (is (I64 x1))), (5, .inl (is (I64 x2))), (6, .inl (is (I64 x3))), (7, .inl (is (I64 x9)))], [(0, pb 261 (is (I64 b0_0) :: (ar U64 52 x12 ++ [])))]⟩
                have hr : some out4 = F365_10 N b0_0 x1 x2 x3 x9 x12 := hr
                refine AW_region ?_
                refine AL_cons (LR_move (at_tmp 7 _) rfl) (sS (sT1 rfl) sB0 sF0) ?_
                refine AL_cons (LR_bin (at_tmp 26 _) (at_c (v' := I64 1) rfl) (sub_I64 x9 1) rfl) (sS (sA (sT1 rfl) sT0) sB0 sF0) ?_
                refine AL_cons (LR_assign (at_tmp 27 _) rfl) (sS (sT1 rfl) sB0 sF0) ?_
                refine AL_nil ?_
                exact thenN (loopNext (x' := (w64 (x9 - 1), x12)) hr (weakB ((sT rfl (sT rfl (sT rfl (sT rfl (sT rfl sT0)))))) (sub_keep sub_nil) rfl))
            · have hr := hr.trans (cond_f h)
              clear h
              refine AW_exit ?_
              refine thenX ?_
              obtain ⟨r', hro, hr⟩ := map_inr hr
              refine thenX (loopOut hro (fun he => ?_))
              rw [he] at hr
              refine blH ?_
              exact thenN (cutLeaf (v := x10) hr (weakB ((sT rfl (sT rfl sT0))) (sub_keep sub_nil) rfl))
      · rintro x4 hr
        show AW Hfaa.prog _ _ _ ⟨[(0, .inr (.inl (0, 0))), (6, .inl (is (I64 x3)))], [(0, pb 261 (is (I64 b0_0) :: (ar U64 52 x4 ++ [])))]⟩
        have hr : some r = F365_3 N b0_0 x3 x4 := hr
        refine AW_cut (σ := Int) (fun v => ⟨[(0, .inr (.inl (0, 0))), (6, .inl (is (I64 v)))], [(0, pb 261 (is (I64 b0_0) :: (ar U64 52 x4 ++ [])))]⟩) (fun v => some r = F365_4 N b0_0 x4 v) ?_ ?_
        · skip
          refine AW_block ?_
          refine AW_iterR (σ := Int) (r := r) (x0 := x3) (emb := fun v => ⟨[(0, .inr (.inl (0, 0))), (6, .inl (is (I64 v)))], [(0, pb 261 (is (I64 b0_0) :: (ar U64 52 x4 ++ [])))]⟩) ?_ hr ?_
          · exact weakB ((sT rfl (sT rfl sT0))) (sub_keep sub_nil) rfl
          rintro x6 out3 hr
          show AW Hfaa.prog _ _ _ ⟨[(0, .inr (.inl (0, 0))), (6, .inl (is (I64 x6)))], [(0, pb 261 (is (I64 b0_0) :: (ar U64 52 x4 ++ [])))]⟩
          have hr : some out3 = F365_L5b N b0_0 x4 x6 := hr
          refine AW_seq1 ?_
          refine AW_cut (σ := Bool) (fun v => ⟨[(0, .inr (.inl (0, 0))), (6, .inl (is (I64 x6))), (76, .inl (is (Bl v)))], [(0, pb 261 (is (I64 b0_0) :: (ar U64 52 x4 ++ [])))]⟩) (fun v => some out3 = F365_6 N b0_0 x4 x6 v) ?_ ?_
          · skip
            refine AW_region ?_
            refine AL_cons (LR_move (at_tmp 6 _) rfl) (sS (sT1 rfl) sB0 sF0) ?_
            refine AL_cons (LR_bin (at_tmp 65 _) (at_c (v' := I64 0) rfl) (gtr_I64 x6 0) rfl) (sS (sA (sT1 rfl) sT0) sB0 sF0) ?_
            refine AL_cons (LR_move (at_tmp 66 _) rfl) (sS (sT1 rfl) sB0 sF0) ?_
            cases hb : decide (x6 > 0)
            · have hr := hr.trans (cond_f hb)
              refine AL_cons (LR_off (b := false) rfl rfl rfl rfl) (sS (sT1 rfl) sB0 sF0) ?_
              refine AL_cons (LR_off (b := false) rfl rfl rfl rfl) (sS (sT1 rfl) sB0 sF0) ?_
              refine AL_cons (LR_off (b := false) rfl rfl rfl rfl) (sS (sT1 rfl) sB0 sF0) ?_
              refine AL_cons (LR_off (b := false) rfl rfl rfl rfl) (sS (sT1 rfl) sB0 sF0) ?_
              refine AL_cons (LR_off (b := false) rfl rfl rfl rfl) (sS (sT1 rfl) sB0 sF0) ?_
              refine AL_cons (LR_off (b := false) rfl rfl rfl rfl) (sS (sT1 rfl) sB0 sF0) ?_
              refine AL_cons (LR_off (b := false) rfl rfl rfl rfl) (sS (sT1 rfl) sB0 sF0) ?_
              refine AL_cons (LR_off (b := false) rfl rfl rfl rfl) (sS (sT1 rfl) sB0 sF0) ?_
              refine AL_cons (LR_pick (b := false) (at_tmp 67 _) (at_tmp 75 _) (at_c (v' := Bl false) rfl) rfl) (sS (sA (sT1 rfl) (sA (sT1 rfl) sT0)) sB0 sF0) ?_
              refine AL_nil ?_
              exact thenN (cutLeaf (v := false) hr (weakB ((sT rfl (sT rfl (sT rfl sT0)))) (sub_keep sub_nil) rfl))
            · have hr := hr.trans (cond_t hb)
              refine AL_cons (LR_on rfl rfl rfl (LR_move (at_tmp 0 _) rfl)) (sS (sT rfl (sT1 rfl)) sB0 sF0) ?_
              refine AL_cons (LR_on rfl rfl rfl (LR_move (at_tmp 6 _) rfl)) (sS (sT rfl (sT1 rfl)) sB0 sF0) ?_
              refine AL_cons (LR_on rfl rfl rfl (LR_bin (at_tmp 69 _) (at_c (v' := I64 1) rfl) (sub_I64 x6 1) rfl)) (sS (sT rfl (sA (sT1 rfl) sT0)) sB0 sF0) ?_
              refine AL_cons (LR_on rfl rfl rfl (LR_nilCheck (at_tmp 68 _) rfl)) (sS (sT rfl (sT1 rfl)) sB0 sF0) ?_
              refine AL_cons (LR_on rfl rfl rfl (LR_fieldAddr (off := 0) (o := 1) (at_tmp 71 _) (fun b w => fa261_1 b 0 w) rfl)) (sS (sT rfl (sT1 rfl)) sB0 sF0) ?_
              obtain ⟨hg110, hr⟩ := guard_some hr
              refine AL_cons (LR_on rfl rfl rfl (LR_indexAddr (o := ((w64 (x6 - 1)).toNat) + 1) Hfaa.underlying259 sz30 (at_tmp 72 _) (at_tmp 70 _) (dand hg110) (by first | rfl | omega) rfl)) (sS (sT rfl (sA (sT1 rfl) (sT1 rfl))) sB0 sF0) ?_
              refine AL_cons (LR_on rfl rfl rfl (LR_load (at_tmp 73 _) na30 (gS (gA (ltn (dand hg110)))) rfl)) (sS (sT rfl (sT1 rfl)) (sB1 rfl) sF0) ?_
              refine AL_cons (LR_on rfl rfl rfl (LR_bin (at_tmp 74 _) (at_c (v' := U64 (0#64)) rfl) (eql_U64 (x4 ((w64 (x6 - 1)).toNat)) (0#64)) rfl)) (sS (sT rfl (sA (sT1 rfl) sT0)) sB0 sF0) ?_
              refine AL_cons (LR_pick (b := true) (at_tmp 67 _) (at_tmp 75 _) (at_c (v' := Bl false) rfl) rfl) (sS (sA (sT1 rfl) (sA (sT1 rfl) sT0)) sB0 sF0) ?_
              refine AL_nil ?_
              exact thenN (cutLeaf (v := (x4 ((w64 (x6 - 1)).toNat)) == (0#64)) hr (weakB ((sT rfl (sT rfl (sT rfl sT0)))) (sub_keep sub_nil) rfl))
          · rintro x7 hr
            show AW Hfaa.prog _ _ _ ⟨[(0, .inr (.inl (0, 0))), (6, .inl (is (I64 x6))), (76, .inl (is (Bl x7)))], [(0, pb 261 (is (I64 b0_0) :: (ar U64 52 x4 ++ [])))]⟩
            have hr : some out3 = F365_6 N b0_0 x4 x6 x7 := hr
            refine AW_condT (b := x7) rfl (fun h => ?_) (fun h => ?_)
            · have hr := hr.trans (cond_t h)
              clear h
              refine AW_skip ?_
              refine thenN ?_
              refine AW_block ?_
              refine AW_region ?_
              refine AL_cons (LR_move (at_tmp 6 _) rfl) (sS (sT1 rfl) sB0 sF0) ?_
              refine AL_cons (LR_bin (at_tmp 77 _) (at_c (v' := I64 1) rfl) (sub_I64 x6 1) rfl) (sS (sA (sT1 rfl) sT0) sB0 sF0) ?_
              refine AL_cons (LR_assign (at_tmp 78 _) rfl) (sS (sT1 rfl) sB0 sF0) ?_
              refine AL_nil ?_
              refine blN ?_
              exact thenN (loopNext (x' := w64 (x6 - 1)) hr (weakB ((sT rfl (sT rfl sT0))) (sub_keep sub_nil) rfl))
            · have hr := hr.trans (cond_f h)
              clear h
              refine AW_exit ?_
              refine thenX ?_
              obtain ⟨r', hro, hr⟩ := map_inr hr
              refine thenX (loopOut hro (fun he => ?_))
              rw [he] at hr
              refine blH ?_
              exact thenN (cutLeaf (v := x6) hr (weakB ((sT rfl (sT rfl sT0))) (sub_keep sub_nil) rfl))
        · rintro x5 hr
          show AW Hfaa.prog _ _ _ ⟨[(0, .inr (.inl (0, 0))), (6, .inl (is (I64 x5)))], [(0, pb 261 (is (I64 b0_0) :: (ar U64 52 x4 ++ [])))]⟩
          have hr : some r = F365_4 N b0_0 x4 x5 := hr
          refine AW_region ?_
          refine AL_cons (LR_move (at_tmp 0 _) rfl) (sS (sT1 rfl) sB0 sF0) ?_
          refine AL_cons (LR_move (at_tmp 6 _) rfl) (sS (sT1 rfl) sB0 sF0) ?_
          refine AL_cons (LR_nilCheck (at_tmp 79 _) rfl) (sS (sT1 rfl) sB0 sF0) ?_
          refine AL_cons (LR_fieldAddr (off := 0) (o := 0) (at_tmp 81 _) (fun b w => fa261_0 b 0 w) rfl) (sS (sT1 rfl) sB0 sF0) ?_
          refine AL_cons (LR_storeA (at_tmp 82 _) (at_tmp 80 _) (cells_one (one_is rfl)) (onC (one_is rfl) onN) sz3 rfl (bleLen (lnC (lnA ln0)) rfl) st0) (sS (sA (sT1 rfl) (sT1 rfl)) (sB1 rfl) sF0) ?_
          refine AL_nil ?_
          obtain rfl := Option.some.inj hr
          exact ⟨res0 rfl , (sub_keep sub_nil)⟩
end Go.Proofs.YfwaawGreat
