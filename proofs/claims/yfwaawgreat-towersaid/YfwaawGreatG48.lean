import Derived.Test.YfwaawGreatG29
namespace Go.Proofs.YfwaawGreat
open Go.Aw
set_option linter.unusedVariables false
set_option maxRecDepth 100000
set_option maxHeartbeats 1000000
/-- expand.whole -/
def F281_10 (N : Nat) (x1 : Nat → BitVec 64) (x11 : Nat → BitVec 64) (x12 : Nat → BitVec 64) (x13 : Int) (x14 : Bool) : Option (((Nat → BitVec 64) × (Nat → BitVec 64) × Int) ⊕ ((Nat → BitVec 64) × Int)) := bif x14 then (some (x12, x13)).map Sum.inr else some (.inl (x11, x12, x13))
def F281_9 (N : Nat) (x1 : Nat → BitVec 64) (x10 : BitVec 64) (x11 : Nat → BitVec 64) (x12 : Nat → BitVec 64) (x13 : Int) : Option (((Nat → BitVec 64) × (Nat → BitVec 64) × Int) ⊕ ((Nat → BitVec 64) × Int)) := F281_10 N x1 x11 x12 x13 ((x10 == (0#64)) || (x13 == 20))
def F281_8 (N : Nat) (x1 : Nat → BitVec 64) (x8 : Int) (x10 : BitVec 64) (x11 : Nat → BitVec 64) (x12 : Nat → BitVec 64) : Option (((Nat → BitVec 64) × (Nat → BitVec 64) × Int) ⊕ ((Nat → BitVec 64) × Int)) := F281_9 N x1 x10 x11 x12 (w64 (x8 + 1))
def F281_7 (N : Nat) (x1 : Nat → BitVec 64) (x7 : Nat → BitVec 64) (x8 : Int) (x9 : BitVec 64) (x10 : BitVec 64) (x11 : Nat → BitVec 64) : Option (((Nat → BitVec 64) × (Nat → BitVec 64) × Int) ⊕ ((Nat → BitVec 64) × Int)) := bif (decide (0 ≤ x8) && decide (x8 < (20 : Int))) then F281_8 N x1 x8 x10 x11 (upd x7 x8.toNat x9) else none
def F281_13 (N : Nat) (x1 : Nat → BitVec 64) (x7 : Nat → BitVec 64) (x8 : Int) (x17 : Int) (x20 : BitVec 64) (x21 : BitVec 64) (x22 : Nat → BitVec 64) : Option ((BitVec 64 × BitVec 64 × Int × (Nat → BitVec 64)) ⊕ (((Nat → BitVec 64) × (Nat → BitVec 64) × Int) ⊕ ((Nat → BitVec 64) × Int))) := some (.inl ((x20, x21, w64 (x17 - 1), x22)))
def F281_14 (N : Nat) (x1 : Nat → BitVec 64) (x7 : Nat → BitVec 64) (x8 : Int) (x16 : BitVec 64) (x17 : Int) (x23 : BitVec 64) (x24 : Nat → BitVec 64) : Option ((BitVec 64 × BitVec 64 × Int × (Nat → BitVec 64)) ⊕ (((Nat → BitVec 64) × (Nat → BitVec 64) × Int) ⊕ ((Nat → BitVec 64) × Int))) := bif (decide (0 ≤ x17) && decide (x17 < (18 : Int))) then F281_13 N x1 x7 x8 x17 x23 (x16 ||| (x24 x17.toNat)) x24 else none
def F281_12 (N : Nat) (x1 : Nat → BitVec 64) (x7 : Nat → BitVec 64) (x8 : Int) (x15 : BitVec 64) (x16 : BitVec 64) (x17 : Int) (x18 : Nat → BitVec 64) (x19 : Bool) : Option ((BitVec 64 × BitVec 64 × Int × (Nat → BitVec 64)) ⊕ (((Nat → BitVec 64) × (Nat → BitVec 64) × Int) ⊕ ((Nat → BitVec 64) × Int))) := bif x19 then bif (decide (0 ≤ x17) && decide (x17 < (18 : Int))) then (F280 N x15 (x18 x17.toNat) (1000000000000000000#64)).bind fun y72 => bif (decide (0 ≤ x17) && decide (x17 < (18 : Int))) then F281_14 N x1 x7 x8 x16 x17 y72.2.1 (upd x18 x17.toNat y72.1) else none else none else (F281_7 N x1 x7 x8 x15 x16 x18).map Sum.inr
def F281_L11b (N : Nat) (x1 : Nat → BitVec 64) (x7 : Nat → BitVec 64) (x8 : Int) (x15 : BitVec 64) (x16 : BitVec 64) (x17 : Int) (x18 : Nat → BitVec 64) : Option ((BitVec 64 × BitVec 64 × Int × (Nat → BitVec 64)) ⊕ (((Nat → BitVec 64) × (Nat → BitVec 64) × Int) ⊕ ((Nat → BitVec 64) × Int))) := F281_12 N x1 x7 x8 x15 x16 x17 x18 (decide (x17 ≥ 0))
def F281_L11 (N : Nat) (x1 : Nat → BitVec 64) (x7 : Nat → BitVec 64) (x8 : Int) : (BitVec 64 × BitVec 64 × Int × (Nat → BitVec 64)) → Option ((BitVec 64 × BitVec 64 × Int × (Nat → BitVec 64)) ⊕ (((Nat → BitVec 64) × (Nat → BitVec 64) × Int) ⊕ ((Nat → BitVec 64) × Int))) := fun v => F281_L11b N x1 x7 x8 v.1 v.2.1 v.2.2.1 v.2.2.2
def F281_L6b (N : Nat) (x1 : Nat → BitVec 64) (x6 : Nat → BitVec 64) (x7 : Nat → BitVec 64) (x8 : Int) : Option (((Nat → BitVec 64) × (Nat → BitVec 64) × Int) ⊕ ((Nat → BitVec 64) × Int)) := iterL (F281_L11 N x1 x7 x8) N (0#64, 0#64, 17, x6)
def F281_L6 (N : Nat) (x1 : Nat → BitVec 64) : ((Nat → BitVec 64) × (Nat → BitVec 64) × Int) → Option (((Nat → BitVec 64) × (Nat → BitVec 64) × Int) ⊕ ((Nat → BitVec 64) × Int)) := fun v => F281_L6b N x1 v.1 v.2.1 v.2.2
def F281_5 (N : Nat) (x1 : Nat → BitVec 64) (x4 : Nat → BitVec 64) (x5 : Nat → BitVec 64) : Option ((Nat → BitVec 64) × Int) := iterL (F281_L6 N x1) N (x4, x5, 0)
def F281_4 (N : Nat) (x1 : Nat → BitVec 64) (x4 : Nat → BitVec 64) : Option ((Nat → BitVec 64) × Int) := F281_5 N x1 x4 (fun _ => 0#64)
def F281_15 (N : Nat) (a0 : BitVec 64) (a1 : Int) (x1 : Nat → BitVec 64) (x3 : Nat → BitVec 64) (x25 : Bool) : Option ((Nat → BitVec 64) × Int) := bif x25 then bif decide (0 ≤ (w16 (64 - (a1.tmod 64)))) then bif (decide (0 ≤ w16 ((w16 (a1.tdiv 64)) + 1)) && decide (w16 ((w16 (a1.tdiv 64)) + 1) < (18 : Int))) then F281_4 N x1 (upd x3 ((w16 ((w16 (a1.tdiv 64)) + 1)).toNat) (a0 >>> (w16 (64 - (a1.tmod 64))).toNat)) else none else none else F281_4 N x1 x3
def F281_3 (N : Nat) (a0 : BitVec 64) (a1 : Int) (x1 : Nat → BitVec 64) (x3 : Nat → BitVec 64) : Option ((Nat → BitVec 64) × Int) := F281_15 N a0 a1 x1 x3 ((a1.tmod 64) != 0)
def F281_2 (N : Nat) (a0 : BitVec 64) (a1 : Int) (x1 : Nat → BitVec 64) (x2 : Nat → BitVec 64) : Option ((Nat → BitVec 64) × Int) := bif decide (0 ≤ (a1.tmod 64)) then bif (decide (0 ≤ w16 (a1.tdiv 64)) && decide (w16 (a1.tdiv 64) < (18 : Int))) then F281_3 N a0 a1 x1 (upd x2 ((w16 (a1.tdiv 64)).toNat) (a0 <<< (a1.tmod 64).toNat)) else none else none
def F281_1 (N : Nat) (a0 : BitVec 64) (a1 : Int) (x1 : Nat → BitVec 64) : Option ((Nat → BitVec 64) × Int) := F281_2 N a0 a1 x1 (fun _ => 0#64)
def F281 (N : Nat) (a0 : BitVec 64) (a1 : Int) : Option ((Nat → BitVec 64) × Int) := F281_1 N a0 a1 (fun _ => 0#64)
theorem C281 (N : Nat) (a0 : BitVec 64) (a1 : Int) (r : (Nat → BitVec 64) × Int) (hr : some r = F281 N a0 a1) : Aw.Fn Hfaa.prog 281 [is (U64 a0), is (I16 a1)] (agg (ar U64 20 r.1 ++ (is (I64 r.2) :: []))) := by
  refine fn_intro Hfaa.func281 rfl rfl rfl ?_
  intro bn0 w0 H0
  refine AW_cut (σ := (Nat → BitVec 64)) (fun v => ⟨[(0, .inl (is (U64 a0))), (1, .inl (is (I16 a1))), (4, .inr (.inl (4, 0)))], [(4, pb 286 (ar U64 20 v ++ (is (I64 0) :: [])))]⟩) (fun v => some r = F281_1 N a0 a1 v) ?_ ?_
  · skip
    refine AW_region ?_
    refine AL_cons (zl286 rfl) (sS sT0 sB0 (sF1 rfl)) ?_
    refine AL_nil ?_
    exact thenN (cutLeaf (v := fun _ => 0#64) hr (weak0 ((sT rfl (sT rfl (sT rfl sT0)))) (sub_keep sub_nil)))
  · rintro x1 hr
    show AW Hfaa.prog _ _ _ ⟨[(0, .inl (is (U64 a0))), (1, .inl (is (I16 a1))), (4, .inr (.inl (4, 0)))], [(4, pb 286 (ar U64 20 x1 ++ (is (I64 0) :: [])))]⟩
    have hr : some r = F281_1 N a0 a1 x1 := hr
    refine AW_cut (σ := (Nat → BitVec 64)) (fun v => ⟨[(0, .inl (is (U64 a0))), (1, .inl (is (I16 a1))), (4, .inr (.inl (4, 0))), (5, .inr (.inl (5, 0)))], [(4, pb 286 (ar U64 20 x1 ++ (is (I64 0) :: []))), (5, pb 340 (ar U64 18 v ++ []))]⟩) (fun v => some r = F281_2 N a0 a1 x1 v) ?_ ?_
    · skip
      refine AW_region ?_
      refine AL_cons (zl340 rfl) (sS sT0 sB0 (sF1 rfl)) ?_
      refine AL_nil ?_
      exact thenN (cutLeaf (v := fun _ => 0#64) hr (weak0 ((sT rfl (sT rfl (sT rfl (sT rfl sT0))))) (sub_keep (sub_keep sub_nil))))
    · rintro x2 hr
      show AW Hfaa.prog _ _ _ ⟨[(0, .inl (is (U64 a0))), (1, .inl (is (I16 a1))), (4, .inr (.inl (4, 0))), (5, .inr (.inl (5, 0)))], [(4, pb 286 (ar U64 20 x1 ++ (is (I64 0) :: []))), (5, pb 340 (ar U64 18 x2 ++ []))]⟩
      have hr : some r = F281_2 N a0 a1 x1 x2 := hr
      refine AW_cut (σ := (Nat → BitVec 64)) (fun v => ⟨[(0, .inl (is (U64 a0))), (1, .inl (is (I16 a1))), (4, .inr (.inl (4, 0))), (5, .inr (.inl (5, 0)))], [(4, pb 286 (ar U64 20 x1 ++ (is (I64 0) :: []))), (5, pb 340 (ar U64 18 v ++ []))]⟩) (fun v => some r = F281_3 N a0 a1 x1 v) ?_ ?_
      · skip
        refine AW_region ?_
        refine AL_cons (LR_move (at_tmp 1 _) rfl) (sS (sT1 rfl) sB0 sF0) ?_
        refine AL_cons (LR_bin (at_tmp 10 _) (at_c (v' := I16 64) rfl) (quo_I16 a1 64 (by decide)) rfl) (sS (sA (sT1 rfl) sT0) sB0 sF0) ?_
        refine AL_cons (LR_move (at_tmp 0 _) rfl) (sS (sT1 rfl) sB0 sF0) ?_
        refine AL_cons (LR_move (at_tmp 1 _) rfl) (sS (sT1 rfl) sB0 sF0) ?_
        refine AL_cons (LR_bin (at_tmp 13 _) (at_c (v' := I16 64) rfl) (rem_I16 a1 64 (by decide)) rfl) (sS (sA (sT1 rfl) sT0) sB0 sF0) ?_
        obtain ⟨hg191, hr⟩ := guard_some hr
        refine AL_cons (LR_bin (at_tmp 12 _) (at_tmp 14 _) (shl_U64 a0 (a1.tmod 64) (of_decide_eq_true hg191)) rfl) (sS (sA (sT1 rfl) (sT1 rfl)) sB0 sF0) ?_
        obtain ⟨hg192, hr⟩ := guard_some hr
        refine AL_cons (LR_indexAddr (o := (w16 (a1.tdiv 64)).toNat) Hfaa.underlying340 sz30 (at_tmp 5 _) (at_tmp 11 _) (dand hg192) (by first | rfl | omega) rfl) (sS (sA (sT1 rfl) (sT1 rfl)) sB0 sF0) ?_
        refine AL_cons (LR_storeA (at_tmp 16 _) (at_tmp 15 _) (cells_one (one_is rfl)) (onC (one_is rfl) onN) sz30 rfl (ble_dyn (lnA ln0) (by have := (ltn (dand hg192)); omega)) (stA (ltn (dand hg192)))) (sS (sA (sT1 rfl) (sT1 rfl)) (sB1 rfl) sF0) ?_
        refine AL_nil ?_
        exact thenN (cutLeaf (v := upd x2 ((w16 (a1.tdiv 64)).toNat) (a0 <<< (a1.tmod 64).toNat)) hr (weak0 ((sT rfl (sT rfl (sT rfl (sT rfl sT0))))) (sub_keep (sub_keep sub_nil))))
      · rintro x3 hr
        show AW Hfaa.prog _ _ _ ⟨[(0, .inl (is (U64 a0))), (1, .inl (is (I16 a1))), (4, .inr (.inl (4, 0))), (5, .inr (.inl (5, 0)))], [(4, pb 286 (ar U64 20 x1 ++ (is (I64 0) :: []))), (5, pb 340 (ar U64 18 x3 ++ []))]⟩
        have hr : some r = F281_3 N a0 a1 x1 x3 := hr
        refine AW_cut (σ := (Nat → BitVec 64)) (fun v => ⟨[(4, .inr (.inl (4, 0))), (5, .inr (.inl (5, 0)))], [(4, pb 286 (ar U64 20 x1 ++ (is (I64 0) :: []))), (5, pb 340 (ar U64 18 v ++ []))]⟩) (fun v => some r = F281_4 N x1 v) ?_ ?_
        · skip
          refine AW_cut (σ := Bool) (fun v => ⟨[(0, .inl (is (U64 a0))), (1, .inl (is (I16 a1))), (4, .inr (.inl (4, 0))), (5, .inr (.inl (5, 0))), (19, .inl (is (Bl v)))], [(4, pb 286 (ar U64 20 x1 ++ (is (I64 0) :: []))), (5, pb 340 (ar U64 18 x3 ++ []))]⟩) (fun v => some r = F281_15 N a0 a1 x1 x3 v) ?_ ?_
          · skip
            refine AW_region ?_
            refine AL_cons (LR_move (at_tmp 1 _) rfl) (sS (sT1 rfl) sB0 sF0) ?_
            refine AL_cons (LR_bin (at_tmp 17 _) (at_c (v' := I16 64) rfl) (rem_I16 a1 64 (by decide)) rfl) (sS (sA (sT1 rfl) sT0) sB0 sF0) ?_
            refine AL_cons (LR_bin (at_tmp 18 _) (at_c (v' := I16 0) rfl) (neq_I16 (a1.tmod 64) 0) rfl) (sS (sA (sT1 rfl) sT0) sB0 sF0) ?_
            refine AL_nil ?_
            exact thenN (cutLeaf (v := (a1.tmod 64) != 0) hr (weak0 ((sT rfl (sT rfl (sT rfl (sT rfl (sT rfl sT0)))))) (sub_keep (sub_keep sub_nil))))
          · rintro x25 hr
            show AW Hfaa.prog _ _ _ ⟨[(0, .inl (is (U64 a0))), (1, .inl (is (I16 a1))), (4, .inr (.inl (4, 0))), (5, .inr (.inl (5, 0))), (19, .inl (is (Bl x25)))], [(4, pb 286 (ar U64 20 x1 ++ (is (I64 0) :: []))), (5, pb 340 (ar U64 18 x3 ++ []))]⟩
            have hr : some r = F281_15 N a0 a1 x1 x3 x25 := hr
            refine AW_condT (b := x25) rfl (fun h => ?_) (fun h => ?_)
            · have hr := hr.trans (cond_t h)
              clear h
              refine AW_region ?_
              refine AL_cons (LR_move (at_tmp 1 _) rfl) (sS (sT1 rfl) sB0 sF0) ?_
              refine AL_cons (LR_bin (at_tmp 20 _) (at_c (v' := I16 64) rfl) (quo_I16 a1 64 (by decide)) rfl) (sS (sA (sT1 rfl) sT0) sB0 sF0) ?_
              refine AL_cons (LR_bin (at_tmp 21 _) (at_c (v' := I16 1) rfl) (add_I16 (w16 (a1.tdiv 64)) 1) rfl) (sS (sA (sT1 rfl) sT0) sB0 sF0) ?_
              refine AL_cons (LR_move (at_tmp 0 _) rfl) (sS (sT1 rfl) sB0 sF0) ?_
              refine AL_cons (LR_move (at_tmp 1 _) rfl) (sS (sT1 rfl) sB0 sF0) ?_
              refine AL_cons (LR_bin (at_tmp 24 _) (at_c (v' := I16 64) rfl) (rem_I16 a1 64 (by decide)) rfl) (sS (sA (sT1 rfl) sT0) sB0 sF0) ?_
              refine AL_cons (LR_bin (at_c (v' := I16 64) rfl) (at_tmp 25 _) (sub_I16 64 (a1.tmod 64)) rfl) (sS (sA sT0 (sT1 rfl)) sB0 sF0) ?_
              obtain ⟨hg189, hr⟩ := guard_some hr
              refine AL_cons (LR_bin (at_tmp 23 _) (at_tmp 26 _) (shr_U64 a0 (w16 (64 - (a1.tmod 64))) (of_decide_eq_true hg189)) rfl) (sS (sA (sT1 rfl) (sT1 rfl)) sB0 sF0) ?_
              obtain ⟨hg190, hr⟩ := guard_some hr
              refine AL_cons (LR_indexAddr (o := (w16 ((w16 (a1.tdiv 64)) + 1)).toNat) Hfaa.underlying340 sz30 (at_tmp 5 _) (at_tmp 22 _) (dand hg190) (by first | rfl | omega) rfl) (sS (sA (sT1 rfl) (sT1 rfl)) sB0 sF0) ?_
              refine AL_cons (LR_storeA (at_tmp 28 _) (at_tmp 27 _) (cells_one (one_is rfl)) (onC (one_is rfl) onN) sz30 rfl (ble_dyn (lnA ln0) (by have := (ltn (dand hg190)); omega)) (stA (ltn (dand hg190)))) (sS (sA (sT1 rfl) (sT1 rfl)) (sB1 rfl) sF0) ?_
              refine AL_nil ?_
              exact thenN (cutLeaf (v := upd x3 ((w16 ((w16 (a1.tdiv 64)) + 1)).toNat) (a0 >>> (w16 (64 - (a1.tmod 64))).toNat)) hr (weak0 ((sT rfl (sT rfl sT0))) (sub_keep (sub_keep sub_nil))))
            · have hr := hr.trans (cond_f h)
              clear h
              refine AW_skip ?_
              exact thenN (cutLeaf (v := x3) hr (weak0 ((sT rfl (sT rfl sT0))) (sub_keep (sub_keep sub_nil))))
        · rintro x4 hr
          show AW Hfaa.prog _ _ _ ⟨[(4, .inr (.inl (4, 0))), (5, .inr (.inl (5, 0)))], [(4, pb 286 (ar U64 20 x1 ++ (is (I64 0) :: []))), (5, pb 340 (ar U64 18 x4 ++ []))]⟩
          have hr : some r = F281_4 N x1 x4 := hr
          refine AW_cut (σ := (Nat → BitVec 64)) (fun v => ⟨[(4, .inr (.inl (4, 0))), (5, .inr (.inl (5, 0))), (6, .inr (.inl (6, 0)))], [(4, pb 286 (ar U64 20 x1 ++ (is (I64 0) :: []))), (5, pb 340 (ar U64 18 x4 ++ [])), (6, pb 286 (ar U64 20 v ++ (is (I64 0) :: [])))]⟩) (fun v => some r = F281_5 N x1 x4 v) ?_ ?_
          · skip
            refine AW_region ?_
            refine AL_cons (zl286 rfl) (sS sT0 sB0 (sF1 rfl)) ?_
            refine AL_nil ?_
            exact thenN (cutLeaf (v := fun _ => 0#64) hr (weak0 ((sT rfl (sT rfl (sT rfl sT0)))) (sub_keep (sub_keep (sub_keep sub_nil)))))
          · rintro x5 hr
            show AW Hfaa.prog _ _ _ ⟨[(4, .inr (.inl (4, 0))), (5, .inr (.inl (5, 0))), (6, .inr (.inl (6, 0)))], [(4, pb 286 (ar U64 20 x1 ++ (is (I64 0) :: []))), (5, pb 340 (ar U64 18 x4 ++ [])), (6, pb 286 (ar U64 20 x5 ++ (is (I64 0) :: [])))]⟩
            have hr : some r = F281_5 N x1 x4 x5 := hr
            refine AW_block ?_
            refine AW_iterR (σ := (Nat → BitVec 64) × (Nat → BitVec 64) × Int) (r := r) (x0 := (x4, x5, 0)) (emb := fun v => ⟨[(4, .inr (.inl (4, 0))), (5, .inr (.inl (5, 0))), (6, .inr (.inl (6, 0)))], [(4, pb 286 (ar U64 20 x1 ++ (is (I64 0) :: []))), (5, pb 340 (ar U64 18 v.1 ++ [])), (6, pb 286 (ar U64 20 v.2.1 ++ (is (I64 v.2.2) :: [])))]⟩) ?_ hr ?_
            · exact weak0 ((sT rfl (sT rfl (sT rfl sT0)))) (sub_keep (sub_keep (sub_keep sub_nil)))
            rintro ⟨x6, x7, x8⟩ out5 hr
            show AW Hfaa.prog _ _ _ ⟨[(4, .inr (.inl (4, 0))), (5, .inr (.inl (5, 0))), (6, .inr (.inl (6, 0)))], [(4, pb 286 (ar U64 20 x1 ++ (is (I64 0) :: []))), (5, pb 340 (ar U64 18 x6 ++ [])), (6, pb 286 (ar U64 20 x7 ++ (is (I64 x8) :: [])))]⟩
            have hr : some out5 = F281_L6b N x1 x6 x7 x8 := hr
            refine AW_block ?_
            refine AW_seq1 ?_
            refine AW_region ?_
            refine AL_cons (LR_assign (at_c (v' := U64 (0#64)) rfl) rfl) (sS sT0 sB0 sF0) ?_
            refine AL_cons (LR_assign (at_c (v' := U64 (0#64)) rfl) rfl) (sS sT0 sB0 sF0) ?_
            refine AL_nil ?_
            refine thenN ?_
            refine AW_cut (σ := BitVec 64 × BitVec 64 × (Nat → BitVec 64)) (fun v => ⟨[(4, .inr (.inl (4, 0))), (5, .inr (.inl (5, 0))), (6, .inr (.inl (6, 0))), (7, .inl (is (U64 v.1))), (8, .inl (is (U64 v.2.1)))], [(4, pb 286 (ar U64 20 x1 ++ (is (I64 0) :: []))), (5, pb 340 (ar U64 18 v.2.2 ++ [])), (6, pb 286 (ar U64 20 x7 ++ (is (I64 x8) :: [])))]⟩) (fun v => some out5 = F281_7 N x1 x7 x8 v.1 v.2.1 v.2.2) ?_ ?_
            · skip
              refine AW_seq1 ?_
              refine AW_region ?_
              refine AL_cons (LR_assign (at_c (v' := I64 17) rfl) rfl) (sS sT0 sB0 sF0) ?_
              refine AL_nil ?_
              refine thenN ?_
              refine AW_block ?_
              refine AW_iterR (σ := BitVec 64 × BitVec 64 × Int × (Nat → BitVec 64)) (r := out5) (x0 := (0#64, 0#64, 17, x6)) (emb := fun v => ⟨[(4, .inr (.inl (4, 0))), (5, .inr (.inl (5, 0))), (6, .inr (.inl (6, 0))), (7, .inl (is (U64 v.1))), (8, .inl (is (U64 v.2.1))), (9, .inl (is (I64 v.2.2.1)))], [(4, pb 286 (ar U64 20 x1 ++ (is (I64 0) :: []))), (5, pb 340 (ar U64 18 v.2.2.2 ++ [])), (6, pb 286 (ar U64 20 x7 ++ (is (I64 x8) :: [])))]⟩) ?_ hr ?_
              · exact weak0 ((sT rfl (sT rfl (sT rfl (sT rfl (sT rfl (sT rfl sT0))))))) (sub_keep (sub_keep (sub_keep sub_nil)))
              rintro ⟨x15, x16, x17, x18⟩ out7 hr
              show AW Hfaa.prog _ _ _ ⟨[(4, .inr (.inl (4, 0))), (5, .inr (.inl (5, 0))), (6, .inr (.inl (6, 0))), (7, .inl (is (U64 x15))), (8, .inl (is (U64 x16))), (9, .inl (is (I64 x17)))], [(4, pb 286 (ar U64 20 x1 ++ (is (I64 0) :: []))), (5, pb 340 (ar U64 18 x18 ++ [])), (6, pb 286 (ar U64 20 x7 ++ (is (I64 x8) :: [])))]⟩
              have hr : some out7 = F281_L11b N x1 x7 x8 x15 x16 x17 x18 := hr
              refine AW_seq1 ?_
              refine AW_cut (σ := Bool) (fun v => ⟨[(4, .inr (.inl (4, 0))), (5, .inr (.inl (5, 0))), (6, .inr (.inl (6, 0))), (7, .inl (is (U64 x15))), (8, .inl (is (U64 x16))), (9, .inl (is (I64 x17))), (30, .inl (is (Bl v)))], [(4, pb 286 (ar U64 20 x1 ++ (is (I64 0) :: []))), (5, pb 340 (ar U64 18 x18 ++ [])), (6, pb 286 (ar U64 20 x7 ++ (is (I64 x8) :: [])))]⟩) (fun v => some out7 = F281_12 N x1 x7 x8 x15 x16 x17 x18 v) ?_ ?_
              · skip
                refine AW_region ?_
                refine AL_cons (LR_move (at_tmp 9 _) rfl) (sS (sT1 rfl) sB0 sF0) ?_
                refine AL_cons (LR_bin (at_tmp 29 _) (at_c (v' := I64 0) rfl) (geq_I64 x17 0) rfl) (sS (sA (sT1 rfl) sT0) sB0 sF0) ?_
                refine AL_nil ?_
                exact thenN (cutLeaf (v := decide (x17 ≥ 0)) hr (weak0 ((sT rfl (sT rfl (sT rfl (sT rfl (sT rfl (sT rfl (sT rfl sT0)))))))) (sub_keep (sub_keep (sub_keep sub_nil)))))
              · rintro x19 hr
                show AW Hfaa.prog _ _ _ ⟨[(4, .inr (.inl (4, 0))), (5, .inr (.inl (5, 0))), (6, .inr (.inl (6, 0))), (7, .inl (is (U64 x15))), (8, .inl (is (U64 x16))), (9, .inl (is (I64 x17))), (30, .inl (is (Bl x19)))], [(4, pb 286 (ar U64 20 x1 ++ (is (I64 0) :: []))), (5, pb 340 (ar U64 18 x18 ++ [])), (6, pb 286 (ar U64 20 x7 ++ (is (I64 x8) :: [])))]⟩
                have hr : some out7 = F281_12 N x1 x7 x8 x15 x16 x17 x18 x19 := hr
                refine AW_condT (b := x19) rfl (fun h => ?_) (fun h => ?_)
                · have hr := hr.trans (cond_t h)
                  clear h
                  refine AW_skip ?_
                  refine thenN ?_
                  refine AW_cut (σ := BitVec 64 × BitVec 64 × (Nat → BitVec 64)) (fun v => ⟨[(4, .inr (.inl (4, 0))), (5, .inr (.inl (5, 0))), (6, .inr (.inl (6, 0))), (7, .inl (is (U64 v.1))), (8, .inl (is (U64 v.2.1))), (9, .inl (is (I64 x17)))], [(4, pb 286 (ar U64 20 x1 ++ (is (I64 0) :: []))), (5, pb 340 (ar U64 18 v.2.2 ++ [])), (6, pb 286 (ar U64 20 x7 ++ (is (I64 x8) :: [])))]⟩) (fun v => some out7 = F281_13 N x1 x7 x8 x17 v.1 v.2.1 v.2.2) ?_ ?_
                  · skip
                    refine AW_block ?_
                    refine AW_cut (σ := BitVec 64 × (Nat → BitVec 64)) (fun v => ⟨[(4, .inr (.inl (4, 0))), (5, .inr (.inl (5, 0))), (6, .inr (.inl (6, 0))), (7, .inl (is (U64 v.1))), (8, .inl (is (U64 x16))), (9, .inl (is (I64 x17)))], [(4, pb 286 (ar U64 20 x1 ++ (is (I64 0) :: []))), (5, pb 340 (ar U64 18 v.2 ++ [])), (6, pb 286 (ar U64 20 x7 ++ (is (I64 x8) :: [])))]⟩) (fun v => some out7 = F281_14 N x1 x7 x8 x16 x17 v.1 v.2) ?_ ?_
                    · skip
                      refine AW_region ?_
                      refine AL_cons (LR_move (at_tmp 9 _) rfl) (sS (sT1 rfl) sB0 sF0) ?_
                      refine AL_cons (LR_move (at_tmp 7 _) rfl) (sS (sT1 rfl) sB0 sF0) ?_
                      refine AL_cons (LR_move (at_tmp 9 _) rfl) (sS (sT1 rfl) sB0 sF0) ?_
                      obtain ⟨hg187, hr⟩ := guard_some hr
                      refine AL_cons (LR_indexAddr (o := x17.toNat) Hfaa.underlying340 sz30 (at_tmp 5 _) (at_tmp 36 _) (dand hg187) (by first | rfl | omega) rfl) (sS (sA (sT1 rfl) (sT1 rfl)) sB0 sF0) ?_
                      refine AL_cons (LR_load (at_tmp 37 _) na30 (gA (ltn (dand hg187))) rfl) (sS (sT1 rfl) (sB1 rfl) sF0) ?_
                      refine AL_cons (bl42 (parts_cons (i := 0) (off := 0) (at_tmp 35 _) (cells_one (one_is rfl)) rfl rfl (parts_cons (i := 1) (off := 1) (at_tmp 38 _) (cells_one (one_is rfl)) rfl rfl parts_nil)) rfl rfl) (sS (sA (sT1 rfl) (sA (sT1 rfl) sT0)) sB0 sF0) ?_
                      obtain ⟨y72, hy72, hr⟩ := bind_some hr
                      refine AL_cons (LR_call Hfaa.func280 rfl rfl (C280 N x15 (x18 x17.toNat) (1000000000000000000#64) y72 hy72) (all_cons (at_tmp 39 _) (all_cons (at_c (v' := U64 (1000000000000000000#64)) rfl) all_nil)) rfl) (sS (sA (sT1 rfl) (sA sT0 sT0)) sB0 sF0) ?_
                      refine AL_cons (LR_move (at_tmp 40 _) rfl) (sS (sT1 rfl) sB0 sF0) ?_
                      refine AL_cons (LR_extract (at_tmp 33 _) rfl rfl) (sS (sT1 rfl) sB0 sF0) ?_
                      refine AL_cons (LR_extract (at_tmp 33 _) rfl rfl) (sS (sT1 rfl) sB0 sF0) ?_
                      refine AL_cons (LR_extract (at_tmp 33 _) rfl rfl) (sS (sT1 rfl) sB0 sF0) ?_
                      obtain ⟨hg188, hr⟩ := guard_some hr
                      refine AL_cons (LR_indexAddr (o := x17.toNat) Hfaa.underlying340 sz30 (at_tmp 5 _) (at_tmp 34 _) (dand hg188) (by first | rfl | omega) rfl) (sS (sA (sT1 rfl) (sT1 rfl)) sB0 sF0) ?_
                      refine AL_cons (LR_storeA (at_tmp 44 _) (at_tmp 41 _) (cells_one (one_is rfl)) (onC (one_is rfl) onN) sz30 rfl (ble_dyn (lnA ln0) (by have := (ltn (dand hg188)); omega)) (stA (ltn (dand hg188)))) (sS (sA (sT1 rfl) (sT1 rfl)) (sB1 rfl) sF0) ?_
                      refine AL_cons (LR_assign (at_tmp 42 _) rfl) (sS (sT1 rfl) sB0 sF0) ?_
                      refine AL_nil ?_
                      exact thenN (cutLeaf (v := (y72.2.1, upd x18 x17.toNat y72.1)) hr (weak0 ((sT rfl (sT rfl (sT rfl (sT rfl (sT rfl (sT rfl sT0))))))) (sub_keep (sub_keep (sub_keep sub_nil)))))
                    · rintro ⟨x23, x24⟩ hr
                      show AW Hfaa.prog _ _ _ ⟨[(4, .inr (.inl (4, 0))), (5, .inr (.inl (5, 0))), (6, .inr (.inl (6, 0))), (7, .inl (is (U64 x23))), (8, .inl (is (U64 x16))), (9, .inl (is (I64 x17)))], [(4, pb 286 (ar U64 20 x1 ++ (is (I64 0) :: []))), (5, pb 340 (ar U64 18 x24 ++ [])), (6, pb 286 (ar U64 20 x7 ++ (is (I64 x8) :: [])))]⟩
                      have hr : some out7 = F281_14 N x1 x7 x8 x16 x17 x23 x24 := hr
                      refine AW_region ?_
                      refine AL_cons (LR_move (at_tmp 8 _) rfl) (sS (sT1 rfl) sB0 sF0) ?_
                      refine AL_cons (LR_move (at_tmp 9 _) rfl) (sS (sT1 rfl) sB0 sF0) ?_
                      obtain ⟨hg186, hr⟩ := guard_some hr
                      refine AL_cons (LR_indexAddr (o := x17.toNat) Hfaa.underlying340 sz30 (at_tmp 5 _) (at_tmp 46 _) (dand hg186) (by first | rfl | omega) rfl) (sS (sA (sT1 rfl) (sT1 rfl)) sB0 sF0) ?_
                      refine AL_cons (LR_load (at_tmp 47 _) na30 (gA (ltn (dand hg186))) rfl) (sS (sT1 rfl) (sB1 rfl) sF0) ?_
                      refine AL_cons (LR_bin (at_tmp 45 _) (at_tmp 48 _) (or_U64 x16 (x24 x17.toNat)) rfl) (sS (sA (sT1 rfl) (sT1 rfl)) sB0 sF0) ?_
                      refine AL_cons (LR_assign (at_tmp 49 _) rfl) (sS (sT1 rfl) sB0 sF0) ?_
                      refine AL_nil ?_
                      refine blN ?_
                      exact thenN (cutLeaf (v := (x23, x16 ||| (x24 x17.toNat), x24)) hr (weak0 ((sT rfl (sT rfl (sT rfl (sT rfl (sT rfl (sT rfl sT0))))))) (sub_keep (sub_keep (sub_keep sub_nil)))))
                  · rintro ⟨x20, x21, x22⟩ hr
                    show AW Hfaa.prog _ _ _ ⟨[(4, .inr (.inl (4, 0))), (5, .inr (.inl (5, 0))), (6, .inr (.inl (6, 0))), (7, .inl (is (U64 x20))), (8, .inl (is (U64 x21))), (9, .inl (is (I64 x17)))], [(4, pb 286 (ar U64 20 x1 ++ (is (I64 0) :: []))), (5, pb 340 (ar U64 18 x22 ++ [])), (6, pb 286 (ar U64 20 x7 ++ (is (I64 x8) :: [])))]⟩
                    have hr : some out7 = F281_13 N x1 x7 x8 x17 x20 x21 x22 := hr
                    refine AW_region ?_
                    refine AL_cons (LR_move (at_tmp 9 _) rfl) (sS (sT1 rfl) sB0 sF0) ?_
                    refine AL_cons (LR_bin (at_tmp 31 _) (at_c (v' := I64 1) rfl) (sub_I64 x17 1) rfl) (sS (sA (sT1 rfl) sT0) sB0 sF0) ?_
                    refine AL_cons (LR_assign (at_tmp 32 _) rfl) (sS (sT1 rfl) sB0 sF0) ?_
                    refine AL_nil ?_
                    exact thenN (loopNext (x' := (x20, x21, w64 (x17 - 1), x22)) hr (weak0 ((sT rfl (sT rfl (sT rfl (sT rfl (sT rfl (sT rfl sT0))))))) (sub_keep (sub_keep (sub_keep sub_nil)))))
                · have hr := hr.trans (cond_f h)
                  clear h
                  refine AW_exit ?_
                  refine thenX ?_
                  obtain ⟨r', hro, hr⟩ := map_inr hr
                  refine thenX (loopOut hro (fun he => ?_))
                  rw [he] at hr
                  refine blH ?_
                  exact thenN (cutLeaf (v := (x15, x16, x18)) hr (weak0 ((sT rfl (sT rfl (sT rfl (sT rfl (sT rfl sT0)))))) (sub_keep (sub_keep (sub_keep sub_nil)))))
            · rintro ⟨x9, x10, x11⟩ hr
              show AW Hfaa.prog _ _ _ ⟨[(4, .inr (.inl (4, 0))), (5, .inr (.inl (5, 0))), (6, .inr (.inl (6, 0))), (7, .inl (is (U64 x9))), (8, .inl (is (U64 x10)))], [(4, pb 286 (ar U64 20 x1 ++ (is (I64 0) :: []))), (5, pb 340 (ar U64 18 x11 ++ [])), (6, pb 286 (ar U64 20 x7 ++ (is (I64 x8) :: [])))]⟩
              have hr : some out5 = F281_7 N x1 x7 x8 x9 x10 x11 := hr
              refine AW_cut (σ := (Nat → BitVec 64)) (fun v => ⟨[(4, .inr (.inl (4, 0))), (5, .inr (.inl (5, 0))), (6, .inr (.inl (6, 0))), (8, .inl (is (U64 x10)))], [(4, pb 286 (ar U64 20 x1 ++ (is (I64 0) :: []))), (5, pb 340 (ar U64 18 x11 ++ [])), (6, pb 286 (ar U64 20 v ++ (is (I64 x8) :: [])))]⟩) (fun v => some out5 = F281_8 N x1 x8 x10 x11 v) ?_ ?_
              · skip
                refine AW_region ?_
                refine AL_cons (LR_fieldAddr (off := 0) (o := 20) (at_tmp 6 _) (fun b w => fa286_1 b 0 w) rfl) (sS (sT1 rfl) sB0 sF0) ?_
                refine AL_cons (LR_load (at_tmp 50 _) na3 (gP g0) rfl) (sS (sT1 rfl) (sB1 rfl) sF0) ?_
                refine AL_cons (LR_move (at_tmp 7 _) rfl) (sS (sT1 rfl) sB0 sF0) ?_
                refine AL_cons (LR_fieldAddr (off := 0) (o := 0) (at_tmp 6 _) (fun b w => fa286_0 b 0 w) rfl) (sS (sT1 rfl) sB0 sF0) ?_
                obtain ⟨hg158, hr⟩ := guard_some hr
                refine AL_cons (LR_indexAddr (o := x8.toNat) Hfaa.underlying284 sz30 (at_tmp 53 _) (at_tmp 51 _) (dand hg158) (by first | rfl | omega) rfl) (sS (sA (sT1 rfl) (sT1 rfl)) sB0 sF0) ?_
                refine AL_cons (LR_storeA (at_tmp 54 _) (at_tmp 52 _) (cells_one (one_is rfl)) (onC (one_is rfl) onN) sz30 rfl (ble_dyn (lnA (lnC ln0)) (by have := (ltn (dand hg158)); omega)) (stA (ltn (dand hg158)))) (sS (sA (sT1 rfl) (sT1 rfl)) (sB1 rfl) sF0) ?_
                refine AL_nil ?_
                exact thenN (cutLeaf (v := upd x7 x8.toNat x9) hr (weak0 ((sT rfl (sT rfl (sT rfl (sT rfl sT0))))) (sub_keep (sub_keep (sub_keep sub_nil)))))
              · rintro x12 hr
                show AW Hfaa.prog _ _ _ ⟨[(4, .inr (.inl (4, 0))), (5, .inr (.inl (5, 0))), (6, .inr (.inl (6, 0))), (8, .inl (is (U64 x10)))], [(4, pb 286 (ar U64 20 x1 ++ (is (I64 0) :: []))), (5, pb 340 (ar U64 18 x11 ++ [])), (6, pb 286 (ar U64 20 x12 ++ (is (I64 x8) :: [])))]⟩
                have hr : some out5 = F281_8 N x1 x8 x10 x11 x12 := hr
                refine AW_cut (σ := Int) (fun v => ⟨[(4, .inr (.inl (4, 0))), (5, .inr (.inl (5, 0))), (6, .inr (.inl (6, 0))), (8, .inl (is (U64 x10)))], [(4, pb 286 (ar U64 20 x1 ++ (is (I64 0) :: []))), (5, pb 340 (ar U64 18 x11 ++ [])), (6, pb 286 (ar U64 20 x12 ++ (is (I64 v) :: [])))]⟩) (fun v => some out5 = F281_9 N x1 x10 x11 x12 v) ?_ ?_
                · skip
                  refine AW_region ?_
                  refine AL_cons (LR_fieldAddr (off := 0) (o := 20) (at_tmp 6 _) (fun b w => fa286_1 b 0 w) rfl) (sS (sT1 rfl) sB0 sF0) ?_
                  refine AL_cons (LR_load (at_tmp 55 _) na3 (gP g0) rfl) (sS (sT1 rfl) (sB1 rfl) sF0) ?_
                  refine AL_cons (LR_bin (at_tmp 56 _) (at_c (v' := I64 1) rfl) (add_I64 x8 1) rfl) (sS (sA (sT1 rfl) sT0) sB0 sF0) ?_
                  refine AL_cons (LR_fieldAddr (off := 0) (o := 20) (at_tmp 6 _) (fun b w => fa286_1 b 0 w) rfl) (sS (sT1 rfl) sB0 sF0) ?_
                  refine AL_cons (LR_storeA (at_tmp 58 _) (at_tmp 57 _) (cells_one (one_is rfl)) (onC (one_is rfl) onN) sz3 rfl (bleLen (lnA (lnC ln0)) rfl) (stP st0)) (sS (sA (sT1 rfl) (sT1 rfl)) (sB1 rfl) sF0) ?_
                  refine AL_nil ?_
                  exact thenN (cutLeaf (v := w64 (x8 + 1)) hr (weak0 ((sT rfl (sT rfl (sT rfl (sT rfl sT0))))) (sub_keep (sub_keep (sub_keep sub_nil)))))
                · rintro x13 hr
                  show AW Hfaa.prog _ _ _ ⟨[(4, .inr (.inl (4, 0))), (5, .inr (.inl (5, 0))), (6, .inr (.inl (6, 0))), (8, .inl (is (U64 x10)))], [(4, pb 286 (ar U64 20 x1 ++ (is (I64 0) :: []))), (5, pb 340 (ar U64 18 x11 ++ [])), (6, pb 286 (ar U64 20 x12 ++ (is (I64 x13) :: [])))]⟩
                  have hr : some out5 = F281_9 N x1 x10 x11 x12 x13 := hr
                  refine AW_cut (σ := Bool) (fun v => ⟨[(4, .inr (.inl (4, 0))), (5, .inr (.inl (5, 0))), (6, .inr (.inl (6, 0))), (65, .inl (is (Bl v)))], [(4, pb 286 (ar U64 20 x1 ++ (is (I64 0) :: []))), (5, pb 340 (ar U64 18 x11 ++ [])), (6, pb 286 (ar U64 20 x12 ++ (is (I64 x13) :: [])))]⟩) (fun v => some out5 = F281_10 N x1 x11 x12 x13 v) ?_ ?_
                  · skip
                    refine AW_region ?_
                    refine AL_cons (LR_move (at_tmp 8 _) rfl) (sS (sT1 rfl) sB0 sF0) ?_
                    refine AL_cons (LR_bin (at_tmp 59 _) (at_c (v' := U64 (0#64)) rfl) (eql_U64 x10 (0#64)) rfl) (sS (sA (sT1 rfl) sT0) sB0 sF0) ?_
                    refine AL_cons (LR_move (at_tmp 60 _) rfl) (sS (sT1 rfl) sB0 sF0) ?_
                    refine AL_cutAt 4 ⟨[(4, .inr (.inl (4, 0))), (5, .inr (.inl (5, 0))), (6, .inr (.inl (6, 0))), (8, .inl (is (U64 x10))), (59, .inl (is (U64 x10))), (60, .inl (is (Bl (x10 == (0#64))))), (61, .inl (is (Bl (x10 == (0#64))))), (65, .inl (is (Bl ((x10 == (0#64)) || (x13 == 20)))))], [(4, pb 286 (ar U64 20 x1 ++ (is (I64 0) :: []))), (5, pb 340 (ar U64 18 x11 ++ [])), (6, pb 286 (ar U64 20 x12 ++ (is (I64 x13) :: [])))]⟩ ?_ ?_
                    · cases hb : x10 == (0#64)
                      · skip
                        refine AL_cons (LR_on rfl rfl rfl (LR_fieldAddr (off := 0) (o := 20) (at_tmp 6 _) (fun b w => fa286_1 b 0 w) rfl)) (sS (sT rfl (sT1 rfl)) sB0 sF0) ?_
                        refine AL_cons (LR_on rfl rfl rfl (LR_load (at_tmp 62 _) na3 (gP g0) rfl)) (sS (sT rfl (sT1 rfl)) (sB1 rfl) sF0) ?_
                        refine AL_cons (LR_on rfl rfl rfl (LR_bin (at_tmp 63 _) (at_c (v' := I64 20) rfl) (eql_I64 x13 20) rfl)) (sS (sT rfl (sA (sT1 rfl) sT0)) sB0 sF0) ?_
                        refine AL_cons (LR_pick (b := false) (at_tmp 61 _) (at_c (v' := Bl true) rfl) (at_tmp 64 _) rfl) (sS (sA (sT1 rfl) (sA sT0 (sT1 rfl))) sB0 sF0) ?_
                        exact AL_nil ⟨rfl, weak0 ((sT rfl (sT rfl (sT rfl (sT rfl (sT rfl (sT rfl (sT rfl (sT rfl sT0))))))))) (sub_keep (sub_keep (sub_keep sub_nil)))⟩
                      · skip
                        refine AL_cons (LR_off (b := true) rfl rfl rfl rfl) (sS (sT1 rfl) sB0 sF0) ?_
                        refine AL_cons (LR_off (b := true) rfl rfl rfl rfl) (sS (sT1 rfl) sB0 sF0) ?_
                        refine AL_cons (LR_off (b := true) rfl rfl rfl rfl) (sS (sT1 rfl) sB0 sF0) ?_
                        refine AL_cons (LR_pick (b := true) (at_tmp 61 _) (at_c (v' := Bl true) rfl) (at_tmp 64 _) rfl) (sS (sA (sT1 rfl) (sA sT0 (sT1 rfl))) sB0 sF0) ?_
                        exact AL_nil ⟨rfl, weak0 ((sT rfl (sT rfl (sT rfl (sT rfl (sT rfl (sT rfl (sT rfl (sT rfl sT0))))))))) (sub_keep (sub_keep (sub_keep sub_nil)))⟩
                    refine AL_nil ?_
                    exact thenN (cutLeaf (v := (x10 == (0#64)) || (x13 == 20)) hr (weak0 ((sT rfl (sT rfl (sT rfl (sT rfl sT0))))) (sub_keep (sub_keep (sub_keep sub_nil)))))
                  · rintro x14 hr
                    show AW Hfaa.prog _ _ _ ⟨[(4, .inr (.inl (4, 0))), (5, .inr (.inl (5, 0))), (6, .inr (.inl (6, 0))), (65, .inl (is (Bl x14)))], [(4, pb 286 (ar U64 20 x1 ++ (is (I64 0) :: []))), (5, pb 340 (ar U64 18 x11 ++ [])), (6, pb 286 (ar U64 20 x12 ++ (is (I64 x13) :: [])))]⟩
                    have hr : some out5 = F281_10 N x1 x11 x12 x13 x14 := hr
                    refine AW_condT (b := x14) rfl (fun h => ?_) (fun h => ?_)
                    · have hr := hr.trans (cond_t h)
                      clear h
                      refine AW_seq1 ?_
                      refine AW_region ?_
                      refine AL_cons (LR_loads (at_tmp 6 _) ag286 sz286 (tkF (lnA (lnC ln0))) (bleLen (lnA (lnC ln0)) rfl) rfl) (sS (sT1 rfl) (sB1 rfl) sF0) ?_
                      refine AL_cons (LR_storeA (at_tmp 4 _) (at_tmp 66 _) (cells_agg _) (ones_ar (fun _ => rfl) (onC (one_is rfl) onN)) sz286 (lnA (lnC ln0)) (bleLen (lnA (lnC ln0)) rfl) (setSeg_full _ _ (lenEq (lnA (lnC ln0)) (lnA (lnC ln0))))) (sS (sA (sT1 rfl) (sT1 rfl)) (sB1 rfl) sF0) ?_
                      refine AL_nil ?_
                      refine thenN ?_
                      refine AW_ret ?_
                      refine blR ?_
                      obtain ⟨r', hro, hr⟩ := map_inr hr
                      refine thenR (loopOut hro (fun he => ?_))
                      rw [he] at hr
                      refine blR ?_
                      obtain rfl := Option.some.inj hr
                      exact res1 rfl (rvC rfl rfl ag286 sz286 (lnA (lnC ln0)))
                    · have hr := hr.trans (cond_f h)
                      clear h
                      refine AW_skip ?_
                      refine blN ?_
                      exact thenN (loopNext (x' := (x11, x12, x13)) hr (weak0 ((sT rfl (sT rfl (sT rfl sT0)))) (sub_keep (sub_keep (sub_keep sub_nil)))))
/-- (*expand.expansion).put -/
def F282_2 (N : Nat) (b0_0 : Nat → BitVec 8) (b0_1 : Int) (b0_3 : Int) (b0_4 : Int) (x2 : Int) : Option ((Nat → BitVec 8) × Int × Int × Int × Int) := some (b0_0, b0_1, x2, b0_3, b0_4)
def F282_5 (N : Nat) (b0_3 : Int) (b0_4 : Int) (a1 : BitVec 64) (a2 : Bool) (x4 : Int) (x9 : BitVec 64) (x10 : Nat → BitVec 8) (x11 : Int) (x12 : Int) : Option ((BitVec 64 × Int × (Nat → BitVec 8) × Int × Int) ⊕ ((Nat → BitVec 8) × Int × Int × Int × Int)) := some (.inl ((x9, w64 (x4 + 1), x10, x11, x12)))
def F282_9 (N : Nat) (b0_3 : Int) (b0_4 : Int) (a1 : BitVec 64) (a2 : Bool) (x4 : Int) (x5 : Nat → BitVec 8) (x6 : Int) (x14 : BitVec 64) (x16 : Int) : Option ((BitVec 64 × Int × (Nat → BitVec 8) × Int × Int) ⊕ ((Nat → BitVec 8) × Int × Int × Int × Int)) := F282_5 N b0_3 b0_4 a1 a2 x4 x14 x5 x6 x16
def F282_11 (N : Nat) (b0_3 : Int) (b0_4 : Int) (a1 : BitVec 64) (a2 : Bool) (x4 : Int) (x7 : Int) (x14 : BitVec 64) (x17 : Nat → BitVec 8) (x18 : Int) (x19 : Bool) : Option ((BitVec 64 × Int × (Nat → BitVec 8) × Int × Int) ⊕ ((Nat → BitVec 8) × Int × Int × Int × Int)) := bif x19 then F282_5 N b0_3 b0_4 a1 a2 x4 x14 x17 x18 (w64 (x7 + 1)) else F282_5 N b0_3 b0_4 a1 a2 x4 x14 x17 x18 x7
def F282_10 (N : Nat) (b0_3 : Int) (b0_4 : Int) (a1 : BitVec 64) (a2 : Bool) (x4 : Int) (x7 : Int) (x14 : BitVec 64) (x17 : Nat → BitVec 8) (x18 : Int) : Option ((BitVec 64 × Int × (Nat → BitVec 8) × Int × Int) ⊕ ((Nat → BitVec 8) × Int × Int × Int × Int)) := F282_11 N b0_3 b0_4 a1 a2 x4 x7 x14 x17 x18 (!a2)
def F282_13 (N : Nat) (b0_3 : Int) (b0_4 : Int) (a1 : BitVec 64) (a2 : Bool) (x4 : Int) (x6 : Int) (x7 : Int) (x14 : BitVec 64) (x21 : Nat → BitVec 8) : Option ((BitVec 64 × Int × (Nat → BitVec 8) × Int × Int) ⊕ ((Nat → BitVec 8) × Int × Int × Int × Int)) := F282_10 N b0_3 b0_4 a1 a2 x4 x7 x14 x21 (w64 (x6 + 1))
def F282_12 (N : Nat) (b0_3 : Int) (b0_4 : Int) (a1 : BitVec 64) (a2 : Bool) (x4 : Int) (x5 : Nat → BitVec 8) (x6 : Int) (x7 : Int) (x13 : BitVec 64) (x14 : BitVec 64) (x20 : Bool) : Option ((BitVec 64 × Int × (Nat → BitVec 8) × Int × Int) ⊕ ((Nat → BitVec 8) × Int × Int × Int × Int)) := bif x20 then bif (decide (0 ≤ x6) && decide (x6 < (1441 : Int))) then F282_13 N b0_3 b0_4 a1 a2 x4 x6 x7 x14 (upd x5 x6.toNat (BitVec.ofInt 8 (((48#64) + x13).toNat : Int))) else none else F282_10 N b0_3 b0_4 a1 a2 x4 x7 x14 x5 x6
def F282_8 (N : Nat) (b0_3 : Int) (b0_4 : Int) (a1 : BitVec 64) (a2 : Bool) (x4 : Int) (x5 : Nat → BitVec 8) (x6 : Int) (x7 : Int) (x13 : BitVec 64) (x14 : BitVec 64) (x15 : Bool) : Option ((BitVec 64 × Int × (Nat → BitVec 8) × Int × Int) ⊕ ((Nat → BitVec 8) × Int × Int × Int × Int)) := bif x15 then bif a2 then F282_9 N b0_3 b0_4 a1 a2 x4 x5 x6 x14 (w64 (x7 - 1)) else F282_9 N b0_3 b0_4 a1 a2 x4 x5 x6 x14 x7 else F282_12 N b0_3 b0_4 a1 a2 x4 x5 x6 x7 x13 x14 (decide (x6 < 1440))
def F282_7 (N : Nat) (b0_3 : Int) (b0_4 : Int) (a1 : BitVec 64) (a2 : Bool) (x4 : Int) (x5 : Nat → BitVec 8) (x6 : Int) (x7 : Int) (x13 : BitVec 64) (x14 : BitVec 64) : Option ((BitVec 64 × Int × (Nat → BitVec 8) × Int × Int) ⊕ ((Nat → BitVec 8) × Int × Int × Int × Int)) := F282_8 N b0_3 b0_4 a1 a2 x4 x5 x6 x7 x13 x14 ((x6 == 0) && (x13 == (0#64)))
def F282_6 (N : Nat) (b0_3 : Int) (b0_4 : Int) (a1 : BitVec 64) (a2 : Bool) (x3 : BitVec 64) (x4 : Int) (x5 : Nat → BitVec 8) (x6 : Int) (x7 : Int) (x13 : BitVec 64) : Option ((BitVec 64 × Int × (Nat → BitVec 8) × Int × Int) ⊕ ((Nat → BitVec 8) × Int × Int × Int × Int)) := F282_7 N b0_3 b0_4 a1 a2 x4 x5 x6 x7 x13 (umax (x3 / (10#64)) (1#64))
def F282_4 (N : Nat) (b0_3 : Int) (b0_4 : Int) (a1 : BitVec 64) (a2 : Bool) (x3 : BitVec 64) (x4 : Int) (x5 : Nat → BitVec 8) (x6 : Int) (x7 : Int) (x8 : Bool) : Option ((BitVec 64 × Int × (Nat → BitVec 8) × Int × Int) ⊕ ((Nat → BitVec 8) × Int × Int × Int × Int)) := bif x8 then bif x3 != 0#64 then F282_6 N b0_3 b0_4 a1 a2 x3 x4 x5 x6 x7 ((a1 / x3) % (10#64)) else none else (some (x5, x6, x7, b0_3, b0_4)).map Sum.inr
def F282_L3b (N : Nat) (b0_3 : Int) (b0_4 : Int) (a1 : BitVec 64) (a2 : Bool) (x3 : BitVec 64) (x4 : Int) (x5 : Nat → BitVec 8) (x6 : Int) (x7 : Int) : Option ((BitVec 64 × Int × (Nat → BitVec 8) × Int × Int) ⊕ ((Nat → BitVec 8) × Int × Int × Int × Int)) := F282_4 N b0_3 b0_4 a1 a2 x3 x4 x5 x6 x7 (decide (x4 < 18))
def F282_L3 (N : Nat) (b0_3 : Int) (b0_4 : Int) (a1 : BitVec 64) (a2 : Bool) : (BitVec 64 × Int × (Nat → BitVec 8) × Int × Int) → Option ((BitVec 64 × Int × (Nat → BitVec 8) × Int × Int) ⊕ ((Nat → BitVec 8) × Int × Int × Int × Int)) := fun v => F282_L3b N b0_3 b0_4 a1 a2 v.1 v.2.1 v.2.2.1 v.2.2.2.1 v.2.2.2.2
def F282_1 (N : Nat) (b0_0 : Nat → BitVec 8) (b0_1 : Int) (b0_2 : Int) (b0_3 : Int) (b0_4 : Int) (a1 : BitVec 64) (a2 : Bool) (x1 : Bool) : Option ((Nat → BitVec 8) × Int × Int × Int × Int) := bif x1 then bif a2 then F282_2 N b0_0 b0_1 b0_3 b0_4 (w64 (b0_2 - 18)) else F282_2 N b0_0 b0_1 b0_3 b0_4 b0_2 else iterL (F282_L3 N b0_3 b0_4 a1 a2) N (100000000000000000#64, 0, b0_0, b0_1, b0_2)
def F282 (N : Nat) (b0_0 : Nat → BitVec 8) (b0_1 : Int) (b0_2 : Int) (b0_3 : Int) (b0_4 : Int) (a1 : BitVec 64) (a2 : Bool) : Option ((Nat → BitVec 8) × Int × Int × Int × Int) := F282_1 N b0_0 b0_1 b0_2 b0_3 b0_4 a1 a2 ((a1 == (0#64)) && (b0_1 == 0))
theorem C282 (N : Nat) (b0_0 : Nat → BitVec 8) (b0_1 : Int) (b0_2 : Int) (b0_3 : Int) (b0_4 : Int) (a1 : BitVec 64) (a2 : Bool) (r : (Nat → BitVec 8) × Int × Int × Int × Int) (hr : some r = F282 N b0_0 b0_1 b0_2 b0_3 b0_4 a1 a2) : FnB Hfaa.prog 282 [.inr (.inl (0, 0)), .inl (is (U64 a1)), .inl (is (Bl a2))] [(0, pb 215 (ar U8 1441 b0_0 ++ (is (I64 b0_1) :: (is (I64 b0_2) :: (is (I64 b0_3) :: (is (I64 b0_4) :: []))))))] (tup []) [(0, pb 215 (ar U8 1441 r.1 ++ (is (I64 r.2.1) :: (is (I64 r.2.2.1) :: (is (I64 r.2.2.2.1) :: (is (I64 r.2.2.2.2) :: []))))))] := by
  refine fnB_intro Hfaa.func282 rfl rfl rfl rfl rfl ⟨hf_pb _ _, trivial⟩ ?_
  intro bn0 w0 H0
  refine AW_seq1 ?_
  refine AW_cut (σ := Bool) (fun v => ⟨[(0, .inr (.inl (0, 0))), (1, .inl (is (U64 a1))), (2, .inl (is (Bl a2))), (16, .inl (is (Bl v)))], [(0, pb 215 (ar U8 1441 b0_0 ++ (is (I64 b0_1) :: (is (I64 b0_2) :: (is (I64 b0_3) :: (is (I64 b0_4) :: []))))))]⟩) (fun v => some r = F282_1 N b0_0 b0_1 b0_2 b0_3 b0_4 a1 a2 v) ?_ ?_
  · skip
    refine AW_region ?_
    refine AL_cons (LR_move (at_tmp 1 _) rfl) (sS (sT1 rfl) sB0 sF0) ?_
    refine AL_cons (LR_bin (at_tmp 8 _) (at_c (v' := U64 (0#64)) rfl) (eql_U64 a1 (0#64)) rfl) (sS (sA (sT1 rfl) sT0) sB0 sF0) ?_
    refine AL_cons (LR_move (at_tmp 9 _) rfl) (sS (sT1 rfl) sB0 sF0) ?_
    refine AL_cutAt 6 ⟨[(0, .inr (.inl (0, 0))), (1, .inl (is (U64 a1))), (2, .inl (is (Bl a2))), (8, .inl (is (U64 a1))), (9, .inl (is (Bl (a1 == (0#64))))), (10, .inl (is (Bl (a1 == (0#64))))), (16, .inl (is (Bl ((a1 == (0#64)) && (b0_1 == 0)))))], [(0, pb 215 (ar U8 1441 b0_0 ++ (is (I64 b0_1) :: (is (I64 b0_2) :: (is (I64 b0_3) :: (is (I64 b0_4) :: []))))))]⟩ ?_ ?_
    · cases hb : a1 == (0#64)
      · skip
        refine AL_cons (LR_off (b := false) rfl rfl rfl rfl) (sS (sT1 rfl) sB0 sF0) ?_
        refine AL_cons (LR_off (b := false) rfl rfl rfl rfl) (sS (sT1 rfl) sB0 sF0) ?_
        refine AL_cons (LR_off (b := false) rfl rfl rfl rfl) (sS (sT1 rfl) sB0 sF0) ?_
        refine AL_cons (LR_off (b := false) rfl rfl rfl rfl) (sS (sT1 rfl) sB0 sF0) ?_
        refine AL_cons (LR_off (b := false) rfl rfl rfl rfl) (sS (sT1 rfl) sB0 sF0) ?_
        refine AL_cons (LR_pick (b := false) (at_tmp 10 _) (at_tmp 15 _) (at_c (v' := Bl false) rfl) rfl) (sS (sA (sT1 rfl) (sA (sT1 rfl) sT0)) sB0 sF0) ?_
        exact AL_nil ⟨rfl, weakB ((sT rfl (sT rfl (sT rfl (sT rfl (sT rfl (sT rfl (sT rfl sT0)))))))) (sub_keep sub_nil) rfl⟩
      · skip
        refine AL_cons (LR_on rfl rfl rfl (LR_move (at_tmp 0 _) rfl)) (sS (sT rfl (sT1 rfl)) sB0 sF0) ?_
        refine AL_cons (LR_on rfl rfl rfl (LR_nilCheck (at_tmp 11 _) rfl)) (sS (sT rfl (sT1 rfl)) sB0 sF0) ?_
        refine AL_cons (LR_on rfl rfl rfl (LR_fieldAddr (off := 0) (o := 1441) (at_tmp 12 _) (fun b w => fa215_1 b 0 w) rfl)) (sS (sT rfl (sT1 rfl)) sB0 sF0) ?_
        refine AL_cons (LR_on rfl rfl rfl (LR_load (at_tmp 13 _) na3 (gP g0) rfl)) (sS (sT rfl (sT1 rfl)) (sB1 rfl) sF0) ?_
        refine AL_cons (LR_on rfl rfl rfl (LR_bin (at_tmp 14 _) (at_c (v' := I64 0) rfl) (eql_I64 b0_1 0) rfl)) (sS (sT rfl (sA (sT1 rfl) sT0)) sB0 sF0) ?_
        refine AL_cons (LR_pick (b := true) (at_tmp 10 _) (at_tmp 15 _) (at_c (v' := Bl false) rfl) rfl) (sS (sA (sT1 rfl) (sA (sT1 rfl) sT0)) sB0 sF0) ?_
        exact AL_nil ⟨rfl, weakB ((sT rfl (sT rfl (sT rfl (sT rfl (sT rfl (sT rfl (sT rfl sT0)))))))) (sub_keep sub_nil) rfl⟩
    refine AL_nil ?_
    exact thenN (cutLeaf (v := (a1 == (0#64)) && (b0_1 == 0)) hr (weakB ((sT rfl (sT rfl (sT rfl (sT rfl sT0))))) (sub_keep sub_nil) rfl))
  · rintro x1 hr
    show AW Hfaa.prog _ _ _ ⟨[(0, .inr (.inl (0, 0))), (1, .inl (is (U64 a1))), (2, .inl (is (Bl a2))), (16, .inl (is (Bl x1)))], [(0, pb 215 (ar U8 1441 b0_0 ++ (is (I64 b0_1) :: (is (I64 b0_2) :: (is (I64 b0_3) :: (is (I64 b0_4) :: []))))))]⟩
    have hr : some r = F282_1 N b0_0 b0_1 b0_2 b0_3 b0_4 a1 a2 x1 := hr
    refine AW_condT (b := x1) rfl (fun h => ?_) (fun h => ?_)
    · have hr := hr.trans (cond_t h)
      clear h
      refine AW_cut (σ := Int) (fun v => ⟨[], [(0, pb 215 (ar U8 1441 b0_0 ++ (is (I64 b0_1) :: (is (I64 v) :: (is (I64 b0_3) :: (is (I64 b0_4) :: []))))))]⟩) (fun v => some r = F282_2 N b0_0 b0_1 b0_3 b0_4 v) ?_ ?_
      · skip
        refine AW_seq1 ?_
        refine AW_region ?_
        refine AL_cons (LR_move (at_tmp 2 _) rfl) (sS (sT1 rfl) sB0 sF0) ?_
        refine AL_nil ?_
        refine thenN ?_
        refine AW_condT (b := a2) rfl (fun h => ?_) (fun h => ?_)
        · have hr := hr.trans (cond_t h)
          clear h
          refine AW_region ?_
          refine AL_cons (LR_move (at_tmp 0 _) rfl) (sS (sT1 rfl) sB0 sF0) ?_
          refine AL_cons (LR_nilCheck (at_tmp 18 _) rfl) (sS (sT1 rfl) sB0 sF0) ?_
          refine AL_cons (LR_fieldAddr (off := 0) (o := 1442) (at_tmp 19 _) (fun b w => fa215_2 b 0 w) rfl) (sS (sT1 rfl) sB0 sF0) ?_
          refine AL_cons (LR_load (at_tmp 20 _) na3 (gP (gS g0)) rfl) (sS (sT1 rfl) (sB1 rfl) sF0) ?_
          refine AL_cons (LR_bin (at_tmp 21 _) (at_c (v' := I64 18) rfl) (sub_I64 b0_2 18) rfl) (sS (sA (sT1 rfl) sT0) sB0 sF0) ?_
          refine AL_cons (LR_nilCheck (at_tmp 18 _) rfl) (sS (sT1 rfl) sB0 sF0) ?_
          refine AL_cons (LR_fieldAddr (off := 0) (o := 1442) (at_tmp 23 _) (fun b w => fa215_2 b 0 w) rfl) (sS (sT1 rfl) sB0 sF0) ?_
          refine AL_cons (LR_storeA (at_tmp 24 _) (at_tmp 22 _) (cells_one (one_is rfl)) (onC (one_is rfl) onN) sz3 rfl (bleLen (lnA (lnC (lnC (lnC (lnC ln0))))) rfl) (stP (stS st0))) (sS (sA (sT1 rfl) (sT1 rfl)) (sB1 rfl) sF0) ?_
          refine AL_nil ?_
          exact thenN (cutLeaf (v := w64 (b0_2 - 18)) hr (weakB sT0 (sub_keep sub_nil) rfl))
        · have hr := hr.trans (cond_f h)
          clear h
          refine AW_skip ?_
          exact thenN (cutLeaf (v := b0_2) hr (weakB sT0 (sub_keep sub_nil) rfl))
      · rintro x2 hr
        show AW Hfaa.prog _ _ _ ⟨[], [(0, pb 215 (ar U8 1441 b0_0 ++ (is (I64 b0_1) :: (is (I64 x2) :: (is (I64 b0_3) :: (is (I64 b0_4) :: []))))))]⟩
        have hr : some r = F282_2 N b0_0 b0_1 b0_3 b0_4 x2 := hr
        refine AW_ret ?_
        refine thenR ?_
        obtain rfl := Option.some.inj hr
        exact ⟨res0 rfl , (sub_keep sub_nil)⟩
    · have hr := hr.trans (cond_f h)
      clear h
      refine AW_skip ?_
      refine thenN ?_
      refine AW_seq1 ?_
      refine AW_region ?_
      refine AL_cons (LR_assign (at_c (v' := U64 (100000000000000000#64)) rfl) rfl) (sS sT0 sB0 sF0) ?_
      refine AL_nil ?_
      refine thenN ?_
      refine AW_seq1 ?_
      refine AW_region ?_
      refine AL_cons (LR_move (at_c (v' := I64 0) rfl) rfl) (sS sT0 sB0 sF0) ?_
      refine AL_nil ?_
      refine thenN ?_
      refine AW_block ?_
      refine AW_iterR (σ := BitVec 64 × Int × (Nat → BitVec 8) × Int × Int) (r := r) (x0 := (100000000000000000#64, 0, b0_0, b0_1, b0_2)) (emb := fun v => ⟨[(0, .inr (.inl (0, 0))), (1, .inl (is (U64 a1))), (2, .inl (is (Bl a2))), (6, .inl (is (U64 v.1))), (25, .inl (is (I64 v.2.1)))], [(0, pb 215 (ar U8 1441 v.2.2.1 ++ (is (I64 v.2.2.2.1) :: (is (I64 v.2.2.2.2) :: (is (I64 b0_3) :: (is (I64 b0_4) :: []))))))]⟩) ?_ hr ?_
      · exact weakB ((sT rfl (sT rfl (sT rfl (sT rfl (sT rfl sT0)))))) (sub_keep sub_nil) rfl
      rintro ⟨x3, x4, x5, x6, x7⟩ out1 hr
      show AW Hfaa.prog _ _ _ ⟨[(0, .inr (.inl (0, 0))), (1, .inl (is (U64 a1))), (2, .inl (is (Bl a2))), (6, .inl (is (U64 x3))), (25, .inl (is (I64 x4)))], [(0, pb 215 (ar U8 1441 x5 ++ (is (I64 x6) :: (is (I64 x7) :: (is (I64 b0_3) :: (is (I64 b0_4) :: []))))))]⟩
      have hr : some out1 = F282_L3b N b0_3 b0_4 a1 a2 x3 x4 x5 x6 x7 := hr
      refine AW_cut (σ := Bool) (fun v => ⟨[(0, .inr (.inl (0, 0))), (1, .inl (is (U64 a1))), (2, .inl (is (Bl a2))), (6, .inl (is (U64 x3))), (25, .inl (is (I64 x4))), (26, .inl (is (Bl v)))], [(0, pb 215 (ar U8 1441 x5 ++ (is (I64 x6) :: (is (I64 x7) :: (is (I64 b0_3) :: (is (I64 b0_4) :: []))))))]⟩) (fun v => some out1 = F282_4 N b0_3 b0_4 a1 a2 x3 x4 x5 x6 x7 v) ?_ ?_
      · skip
        refine AW_region ?_
        refine AL_cons (LR_bin (at_tmp 25 _) (at_c (v' := I64 18) rfl) (lss_I64 x4 18) rfl) (sS (sA (sT1 rfl) sT0) sB0 sF0) ?_
        refine AL_nil ?_
        exact thenN (cutLeaf (v := decide (x4 < 18)) hr (weakB ((sT rfl (sT rfl (sT rfl (sT rfl (sT rfl (sT rfl sT0))))))) (sub_keep sub_nil) rfl))
      · rintro x8 hr
        show AW Hfaa.prog _ _ _ ⟨[(0, .inr (.inl (0, 0))), (1, .inl (is (U64 a1))), (2, .inl (is (Bl a2))), (6, .inl (is (U64 x3))), (25, .inl (is (I64 x4))), (26, .inl (is (Bl x8)))], [(0, pb 215 (ar U8 1441 x5 ++ (is (I64 x6) :: (is (I64 x7) :: (is (I64 b0_3) :: (is (I64 b0_4) :: []))))))]⟩
        have hr : some out1 = F282_4 N b0_3 b0_4 a1 a2 x3 x4 x5 x6 x7 x8 := hr
        refine AW_seq1 ?_
        refine AW_condT (b := x8) rfl (fun h => ?_) (fun h => ?_)
        · have hr := hr.trans (cond_t h)
          clear h
          refine AW_skip ?_
          refine thenN ?_
          refine AW_cut (σ := BitVec 64 × (Nat → BitVec 8) × Int × Int) (fun v => ⟨[(0, .inr (.inl (0, 0))), (1, .inl (is (U64 a1))), (2, .inl (is (Bl a2))), (6, .inl (is (U64 v.1))), (25, .inl (is (I64 x4)))], [(0, pb 215 (ar U8 1441 v.2.1 ++ (is (I64 v.2.2.1) :: (is (I64 v.2.2.2) :: (is (I64 b0_3) :: (is (I64 b0_4) :: []))))))]⟩) (fun v => some out1 = F282_5 N b0_3 b0_4 a1 a2 x4 v.1 v.2.1 v.2.2.1 v.2.2.2) ?_ ?_
          · skip
            refine AW_block ?_
            refine AW_cut (σ := BitVec 64) (fun v => ⟨[(0, .inr (.inl (0, 0))), (1, .inl (is (U64 a1))), (2, .inl (is (Bl a2))), (6, .inl (is (U64 x3))), (25, .inl (is (I64 x4))), (7, .inl (is (U64 v)))], [(0, pb 215 (ar U8 1441 x5 ++ (is (I64 x6) :: (is (I64 x7) :: (is (I64 b0_3) :: (is (I64 b0_4) :: []))))))]⟩) (fun v => some out1 = F282_6 N b0_3 b0_4 a1 a2 x3 x4 x5 x6 x7 v) ?_ ?_
            · skip
              refine AW_region ?_
              refine AL_cons (LR_move (at_tmp 1 _) rfl) (sS (sT1 rfl) sB0 sF0) ?_
              refine AL_cons (LR_move (at_tmp 6 _) rfl) (sS (sT1 rfl) sB0 sF0) ?_
              obtain ⟨hg36, hr⟩ := guard_some hr
              refine AL_cons (LR_bin (at_tmp 27 _) (at_tmp 28 _) (quo_U64 a1 x3 (dne hg36)) rfl) (sS (sA (sT1 rfl) (sT1 rfl)) sB0 sF0) ?_
              refine AL_cons (LR_bin (at_tmp 29 _) (at_c (v' := U64 (10#64)) rfl) (rem_U64 (a1 / x3) (10#64) (by decide)) rfl) (sS (sA (sT1 rfl) sT0) sB0 sF0) ?_
              refine AL_cons (LR_assign (at_tmp 30 _) rfl) (sS (sT1 rfl) sB0 sF0) ?_
              refine AL_nil ?_
              exact thenN (cutLeaf (v := (a1 / x3) % (10#64)) hr (weakB ((sT rfl (sT rfl (sT rfl (sT rfl (sT rfl (sT rfl sT0))))))) (sub_keep sub_nil) rfl))
            · rintro x13 hr
              show AW Hfaa.prog _ _ _ ⟨[(0, .inr (.inl (0, 0))), (1, .inl (is (U64 a1))), (2, .inl (is (Bl a2))), (6, .inl (is (U64 x3))), (25, .inl (is (I64 x4))), (7, .inl (is (U64 x13)))], [(0, pb 215 (ar U8 1441 x5 ++ (is (I64 x6) :: (is (I64 x7) :: (is (I64 b0_3) :: (is (I64 b0_4) :: []))))))]⟩
              have hr : some out1 = F282_6 N b0_3 b0_4 a1 a2 x3 x4 x5 x6 x7 x13 := hr
              refine AW_cut (σ := BitVec 64) (fun v => ⟨[(0, .inr (.inl (0, 0))), (1, .inl (is (U64 a1))), (2, .inl (is (Bl a2))), (6, .inl (is (U64 v))), (25, .inl (is (I64 x4))), (7, .inl (is (U64 x13)))], [(0, pb 215 (ar U8 1441 x5 ++ (is (I64 x6) :: (is (I64 x7) :: (is (I64 b0_3) :: (is (I64 b0_4) :: []))))))]⟩) (fun v => some out1 = F282_7 N b0_3 b0_4 a1 a2 x4 x5 x6 x7 x13 v) ?_ ?_
              · skip
                refine AW_region ?_
                refine AL_cons (LR_move (at_tmp 6 _) rfl) (sS (sT1 rfl) sB0 sF0) ?_
                refine AL_cons (LR_bin (at_tmp 31 _) (at_c (v' := U64 (10#64)) rfl) (quo_U64 x3 (10#64) (by decide)) rfl) (sS (sA (sT1 rfl) sT0) sB0 sF0) ?_
                refine AL_cons (LR_bi2 (vx := U64 (x3 / (10#64))) (vy := U64 (1#64)) (v := U64 (umax (x3 / (10#64)) (1#64))) (at_tmp 32 _) (at_c (v' := U64 (1#64)) rfl) (fun cs w => max_U64 (x3 / (10#64)) (1#64) cs w) rfl) (sS (sA (sT1 rfl) sT0) sB0 sF0) ?_
                refine AL_cons (LR_assign (at_tmp 33 _) rfl) (sS (sT1 rfl) sB0 sF0) ?_
                refine AL_nil ?_
                exact thenN (cutLeaf (v := umax (x3 / (10#64)) (1#64)) hr (weakB ((sT rfl (sT rfl (sT rfl (sT rfl (sT rfl (sT rfl sT0))))))) (sub_keep sub_nil) rfl))
              · rintro x14 hr
                show AW Hfaa.prog _ _ _ ⟨[(0, .inr (.inl (0, 0))), (1, .inl (is (U64 a1))), (2, .inl (is (Bl a2))), (6, .inl (is (U64 x14))), (25, .inl (is (I64 x4))), (7, .inl (is (U64 x13)))], [(0, pb 215 (ar U8 1441 x5 ++ (is (I64 x6) :: (is (I64 x7) :: (is (I64 b0_3) :: (is (I64 b0_4) :: []))))))]⟩
                have hr : some out1 = F282_7 N b0_3 b0_4 a1 a2 x4 x5 x6 x7 x13 x14 := hr
                refine AW_seq1 ?_
                refine AW_cut (σ := Bool) (fun v => ⟨[(0, .inr (.inl (0, 0))), (1, .inl (is (U64 a1))), (2, .inl (is (Bl a2))), (6, .inl (is (U64 x14))), (25, .inl (is (I64 x4))), (7, .inl (is (U64 x13))), (42, .inl (is (Bl v)))], [(0, pb 215 (ar U8 1441 x5 ++ (is (I64 x6) :: (is (I64 x7) :: (is (I64 b0_3) :: (is (I64 b0_4) :: []))))))]⟩) (fun v => some out1 = F282_8 N b0_3 b0_4 a1 a2 x4 x5 x6 x7 x13 x14 v) ?_ ?_
                · skip
                  refine AW_region ?_
                  refine AL_cons (LR_move (at_tmp 0 _) rfl) (sS (sT1 rfl) sB0 sF0) ?_
                  refine AL_cons (LR_nilCheck (at_tmp 34 _) rfl) (sS (sT1 rfl) sB0 sF0) ?_
                  refine AL_cons (LR_fieldAddr (off := 0) (o := 1441) (at_tmp 35 _) (fun b w => fa215_1 b 0 w) rfl) (sS (sT1 rfl) sB0 sF0) ?_
                  refine AL_cons (LR_load (at_tmp 36 _) na3 (gP g0) rfl) (sS (sT1 rfl) (sB1 rfl) sF0) ?_
                  refine AL_cons (LR_bin (at_tmp 37 _) (at_c (v' := I64 0) rfl) (eql_I64 x6 0) rfl) (sS (sA (sT1 rfl) sT0) sB0 sF0) ?_
                  refine AL_cons (LR_move (at_tmp 38 _) rfl) (sS (sT1 rfl) sB0 sF0) ?_
                  refine AL_cutAt 3 ⟨[(0, .inr (.inl (0, 0))), (1, .inl (is (U64 a1))), (2, .inl (is (Bl a2))), (6, .inl (is (U64 x14))), (25, .inl (is (I64 x4))), (7, .inl (is (U64 x13))), (34, .inr (.inl (0, 0))), (35, .inr (.inl (0, 0))), (36, .inr (.inl (0, 1441))), (37, .inl (is (I64 x6))), (38, .inl (is (Bl (x6 == 0)))), (39, .inl (is (Bl (x6 == 0)))), (42, .inl (is (Bl ((x6 == 0) && (x13 == (0#64))))))], [(0, pb 215 (ar U8 1441 x5 ++ (is (I64 x6) :: (is (I64 x7) :: (is (I64 b0_3) :: (is (I64 b0_4) :: []))))))]⟩ ?_ ?_
                  · cases hb : x6 == 0
                    · skip
                      refine AL_cons (LR_off (b := false) rfl rfl rfl rfl) (sS (sT1 rfl) sB0 sF0) ?_
                      refine AL_cons (LR_off (b := false) rfl rfl rfl rfl) (sS (sT1 rfl) sB0 sF0) ?_
                      refine AL_cons (LR_pick (b := false) (at_tmp 39 _) (at_tmp 41 _) (at_c (v' := Bl false) rfl) rfl) (sS (sA (sT1 rfl) (sA (sT1 rfl) sT0)) sB0 sF0) ?_
                      exact AL_nil ⟨rfl, weakB ((sT rfl (sT rfl (sT rfl (sT rfl (sT rfl (sT rfl (sT rfl (sT rfl (sT rfl (sT rfl (sT rfl (sT rfl (sT rfl sT0)))))))))))))) (sub_keep sub_nil) rfl⟩
                    · skip
                      refine AL_cons (LR_on rfl rfl rfl (LR_move (at_tmp 7 _) rfl)) (sS (sT rfl (sT1 rfl)) sB0 sF0) ?_
                      refine AL_cons (LR_on rfl rfl rfl (LR_bin (at_tmp 40 _) (at_c (v' := U64 (0#64)) rfl) (eql_U64 x13 (0#64)) rfl)) (sS (sT rfl (sA (sT1 rfl) sT0)) sB0 sF0) ?_
                      refine AL_cons (LR_pick (b := true) (at_tmp 39 _) (at_tmp 41 _) (at_c (v' := Bl false) rfl) rfl) (sS (sA (sT1 rfl) (sA (sT1 rfl) sT0)) sB0 sF0) ?_
                      exact AL_nil ⟨rfl, weakB ((sT rfl (sT rfl (sT rfl (sT rfl (sT rfl (sT rfl (sT rfl (sT rfl (sT rfl (sT rfl (sT rfl (sT rfl (sT rfl sT0)))))))))))))) (sub_keep sub_nil) rfl⟩
                  refine AL_nil ?_
                  exact thenN (cutLeaf (v := (x6 == 0) && (x13 == (0#64))) hr (weakB ((sT rfl (sT rfl (sT rfl (sT rfl (sT rfl (sT rfl (sT rfl sT0)))))))) (sub_keep sub_nil) rfl))
                · rintro x15 hr
                  show AW Hfaa.prog _ _ _ ⟨[(0, .inr (.inl (0, 0))), (1, .inl (is (U64 a1))), (2, .inl (is (Bl a2))), (6, .inl (is (U64 x14))), (25, .inl (is (I64 x4))), (7, .inl (is (U64 x13))), (42, .inl (is (Bl x15)))], [(0, pb 215 (ar U8 1441 x5 ++ (is (I64 x6) :: (is (I64 x7) :: (is (I64 b0_3) :: (is (I64 b0_4) :: []))))))]⟩
                  have hr : some out1 = F282_8 N b0_3 b0_4 a1 a2 x4 x5 x6 x7 x13 x14 x15 := hr
                  refine AW_condT (b := x15) rfl (fun h => ?_) (fun h => ?_)
                  · have hr := hr.trans (cond_t h)
                    clear h
                    refine AW_cut (σ := Int) (fun v => ⟨[(0, .inr (.inl (0, 0))), (1, .inl (is (U64 a1))), (2, .inl (is (Bl a2))), (6, .inl (is (U64 x14))), (25, .inl (is (I64 x4)))], [(0, pb 215 (ar U8 1441 x5 ++ (is (I64 x6) :: (is (I64 v) :: (is (I64 b0_3) :: (is (I64 b0_4) :: []))))))]⟩) (fun v => some out1 = F282_9 N b0_3 b0_4 a1 a2 x4 x5 x6 x14 v) ?_ ?_
                    · skip
                      refine AW_seq1 ?_
                      refine AW_region ?_
                      refine AL_cons (LR_move (at_tmp 2 _) rfl) (sS (sT1 rfl) sB0 sF0) ?_
                      refine AL_nil ?_
                      refine thenN ?_
                      refine AW_condT (b := a2) rfl (fun h => ?_) (fun h => ?_)
                      · have hr := hr.trans (cond_t h)
                        clear h
                        refine AW_region ?_
                        refine AL_cons (LR_move (at_tmp 0 _) rfl) (sS (sT1 rfl) sB0 sF0) ?_
                        refine AL_cons (LR_nilCheck (at_tmp 44 _) rfl) (sS (sT1 rfl) sB0 sF0) ?_
                        refine AL_cons (LR_fieldAddr (off := 0) (o := 1442) (at_tmp 45 _) (fun b w => fa215_2 b 0 w) rfl) (sS (sT1 rfl) sB0 sF0) ?_
                        refine AL_cons (LR_load (at_tmp 46 _) na3 (gP (gS g0)) rfl) (sS (sT1 rfl) (sB1 rfl) sF0) ?_
                        refine AL_cons (LR_bin (at_tmp 47 _) (at_c (v' := I64 1) rfl) (sub_I64 x7 1) rfl) (sS (sA (sT1 rfl) sT0) sB0 sF0) ?_
                        refine AL_cons (LR_nilCheck (at_tmp 44 _) rfl) (sS (sT1 rfl) sB0 sF0) ?_
                        refine AL_cons (LR_fieldAddr (off := 0) (o := 1442) (at_tmp 49 _) (fun b w => fa215_2 b 0 w) rfl) (sS (sT1 rfl) sB0 sF0) ?_
                        refine AL_cons (LR_storeA (at_tmp 50 _) (at_tmp 48 _) (cells_one (one_is rfl)) (onC (one_is rfl) onN) sz3 rfl (bleLen (lnA (lnC (lnC (lnC (lnC ln0))))) rfl) (stP (stS st0))) (sS (sA (sT1 rfl) (sT1 rfl)) (sB1 rfl) sF0) ?_
                        refine AL_nil ?_
                        exact thenN (cutLeaf (v := w64 (x7 - 1)) hr (weakB ((sT rfl (sT rfl (sT rfl (sT rfl (sT rfl sT0)))))) (sub_keep sub_nil) rfl))
                      · have hr := hr.trans (cond_f h)
                        clear h
                        refine AW_skip ?_
                        exact thenN (cutLeaf (v := x7) hr (weakB ((sT rfl (sT rfl (sT rfl (sT rfl (sT rfl sT0)))))) (sub_keep sub_nil) rfl))
                    · rintro x16 hr
                      show AW Hfaa.prog _ _ _ ⟨[(0, .inr (.inl (0, 0))), (1, .inl (is (U64 a1))), (2, .inl (is (Bl a2))), (6, .inl (is (U64 x14))), (25, .inl (is (I64 x4)))], [(0, pb 215 (ar U8 1441 x5 ++ (is (I64 x6) :: (is (I64 x16) :: (is (I64 b0_3) :: (is (I64 b0_4) :: []))))))]⟩
                      have hr : some out1 = F282_9 N b0_3 b0_4 a1 a2 x4 x5 x6 x14 x16 := hr
                      refine AW_exit ?_
                      refine thenX ?_
                      refine blH ?_
                      exact thenN (cutLeaf (v := (x14, x5, x6, x16)) hr (weakB ((sT rfl (sT rfl (sT rfl (sT rfl (sT rfl sT0)))))) (sub_keep sub_nil) rfl))
                  · have hr := hr.trans (cond_f h)
                    clear h
                    refine AW_skip ?_
                    refine thenN ?_
                    refine AW_cut (σ := (Nat → BitVec 8) × Int) (fun v => ⟨[(0, .inr (.inl (0, 0))), (1, .inl (is (U64 a1))), (2, .inl (is (Bl a2))), (6, .inl (is (U64 x14))), (25, .inl (is (I64 x4)))], [(0, pb 215 (ar U8 1441 v.1 ++ (is (I64 v.2) :: (is (I64 x7) :: (is (I64 b0_3) :: (is (I64 b0_4) :: []))))))]⟩) (fun v => some out1 = F282_10 N b0_3 b0_4 a1 a2 x4 x7 x14 v.1 v.2) ?_ ?_
                    · skip
                      refine AW_cut (σ := Bool) (fun v => ⟨[(0, .inr (.inl (0, 0))), (1, .inl (is (U64 a1))), (2, .inl (is (Bl a2))), (6, .inl (is (U64 x14))), (25, .inl (is (I64 x4))), (7, .inl (is (U64 x13))), (55, .inl (is (Bl v)))], [(0, pb 215 (ar U8 1441 x5 ++ (is (I64 x6) :: (is (I64 x7) :: (is (I64 b0_3) :: (is (I64 b0_4) :: []))))))]⟩) (fun v => some out1 = F282_12 N b0_3 b0_4 a1 a2 x4 x5 x6 x7 x13 x14 v) ?_ ?_
                      · skip
                        refine AW_region ?_
                        refine AL_cons (LR_move (at_tmp 0 _) rfl) (sS (sT1 rfl) sB0 sF0) ?_
                        refine AL_cons (LR_nilCheck (at_tmp 51 _) rfl) (sS (sT1 rfl) sB0 sF0) ?_
                        refine AL_cons (LR_fieldAddr (off := 0) (o := 1441) (at_tmp 52 _) (fun b w => fa215_1 b 0 w) rfl) (sS (sT1 rfl) sB0 sF0) ?_
                        refine AL_cons (LR_load (at_tmp 53 _) na3 (gP g0) rfl) (sS (sT1 rfl) (sB1 rfl) sF0) ?_
                        refine AL_cons (LR_bin (at_tmp 54 _) (at_c (v' := I64 1440) rfl) (lss_I64 x6 1440) rfl) (sS (sA (sT1 rfl) sT0) sB0 sF0) ?_
                        refine AL_nil ?_
                        exact thenN (cutLeaf (v := decide (x6 < 1440)) hr (weakB ((sT rfl (sT rfl (sT rfl (sT rfl (sT rfl (sT rfl (sT rfl sT0)))))))) (sub_keep sub_nil) rfl))
                      · rintro x20 hr
                        show AW Hfaa.prog _ _ _ ⟨[(0, .inr (.inl (0, 0))), (1, .inl (is (U64 a1))), (2, .inl (is (Bl a2))), (6, .inl (is (U64 x14))), (25, .inl (is (I64 x4))), (7, .inl (is (U64 x13))), (55, .inl (is (Bl x20)))], [(0, pb 215 (ar U8 1441 x5 ++ (is (I64 x6) :: (is (I64 x7) :: (is (I64 b0_3) :: (is (I64 b0_4) :: []))))))]⟩
                        have hr : some out1 = F282_12 N b0_3 b0_4 a1 a2 x4 x5 x6 x7 x13 x14 x20 := hr
                        refine AW_condT (b := x20) rfl (fun h => ?_) (fun h => ?_)
                        · have hr := hr.trans (cond_t h)
                          clear h
                          refine AW_cut (σ := (Nat → BitVec 8)) (fun v => ⟨[(0, .inr (.inl (0, 0))), (1, .inl (is (U64 a1))), (2, .inl (is (Bl a2))), (6, .inl (is (U64 x14))), (25, .inl (is (I64 x4)))], [(0, pb 215 (ar U8 1441 v ++ (is (I64 x6) :: (is (I64 x7) :: (is (I64 b0_3) :: (is (I64 b0_4) :: []))))))]⟩) (fun v => some out1 = F282_13 N b0_3 b0_4 a1 a2 x4 x6 x7 x14 v) ?_ ?_
                          · skip
                            obtain ⟨hg35, hr⟩ := guard_some hr
                            refine AW_draw mixed
                              (lrC (LR_move (at_tmp 0 _) rfl)
                              (lrC (LR_move (at_tmp 0 _) rfl)
                              (lrC (LR_nilCheck (at_tmp 57 _) rfl)
                              (lrC (LR_fieldAddr (off := 0) (o := 1441) (at_tmp 58 _) (fun b w => fa215_1 b 0 w) rfl)
                              (lrC (LR_load (at_tmp 59 _) na3 (gP g0) rfl)
                              (lrC (LR_move (at_tmp 7 _) rfl)
                              (lrC (LR_bin (at_c (v' := U64 (48#64)) rfl) (at_tmp 61 _) (add_U64 (48#64) x13) rfl)
                              (lrC (LR_conv (vx := U64 ((48#64) + x13)) (at_tmp 62 _) (conv_U8 Hfaa.underlying30 Hfaa.underlying5 (((48#64) + x13).toNat : Int)) rfl)
                              (lrC (LR_nilCheck (at_tmp 56 _) rfl)
                              (lrC (LR_fieldAddr (off := 0) (o := 0) (at_tmp 64 _) (fun b w => fa215_0 b 0 w) rfl)
                              (lrC (LR_indexAddr (o := x6.toNat) Hfaa.underlying213 sz5 (at_tmp 65 _) (at_tmp 60 _) (dand hg35) (by first | rfl | omega) rfl)
                              (lrC (LR_storeA (at_tmp 66 _) (at_tmp 63 _) (cells_one (one_is rfl)) (onC (one_is rfl) onN) sz5 rfl (ble_dyn (lnA (lnC (lnC (lnC (lnC ln0))))) (by have := (ltn (dand hg35)); omega)) (stA (ltn (dand hg35))))
                              lrN))))))))))))
                              (by kernel_rfl)
                              (saC (sS (sT1 rfl) sB0 sF0) (saC (sS (sT1 rfl) sB0 sF0) (saC (sS (sT1 rfl) sB0 sF0) (saC (sS (sT1 rfl) sB0 sF0) (saC (sS (sT1 rfl) (sB1 rfl) sF0) (saC (sS (sT1 rfl) sB0 sF0) (saC (sS (sA sT0 (sT1 rfl)) sB0 sF0) (saC (sS (sT1 rfl) sB0 sF0) (saC (sS (sT1 rfl) sB0 sF0) (saC (sS (sT1 rfl) sB0 sF0) (saC (sS (sA (sT1 rfl) (sT1 rfl)) sB0 sF0) (saC (sS (sA (sT1 rfl) (sT1 rfl)) (sB1 rfl) sF0) saN)))))))))))) ?_
                            exact thenN (cutLeaf (v := upd x5 x6.toNat (BitVec.ofInt 8 (((48#64) + x13).toNat : Int))) hr (weakB ((sT rfl (sT rfl (sT rfl (sT rfl (sT rfl sT0)))))) (sub_keep sub_nil) rfl))
                          · rintro x21 hr
                            show AW Hfaa.prog _ _ _ ⟨[(0, .inr (.inl (0, 0))), (1, .inl (is (U64 a1))), (2, .inl (is (Bl a2))), (6, .inl (is (U64 x14))), (25, .inl (is (I64 x4)))], [(0, pb 215 (ar U8 1441 x21 ++ (is (I64 x6) :: (is (I64 x7) :: (is (I64 b0_3) :: (is (I64 b0_4) :: []))))))]⟩
                            have hr : some out1 = F282_13 N b0_3 b0_4 a1 a2 x4 x6 x7 x14 x21 := hr
                            refine AW_region ?_
                            refine AL_cons (LR_move (at_tmp 0 _) rfl) (sS (sT1 rfl) sB0 sF0) ?_
                            refine AL_cons (LR_nilCheck (at_tmp 67 _) rfl) (sS (sT1 rfl) sB0 sF0) ?_
                            refine AL_cons (LR_fieldAddr (off := 0) (o := 1441) (at_tmp 68 _) (fun b w => fa215_1 b 0 w) rfl) (sS (sT1 rfl) sB0 sF0) ?_
                            refine AL_cons (LR_load (at_tmp 69 _) na3 (gP g0) rfl) (sS (sT1 rfl) (sB1 rfl) sF0) ?_
                            refine AL_cons (LR_bin (at_tmp 70 _) (at_c (v' := I64 1) rfl) (add_I64 x6 1) rfl) (sS (sA (sT1 rfl) sT0) sB0 sF0) ?_
                            refine AL_cons (LR_nilCheck (at_tmp 67 _) rfl) (sS (sT1 rfl) sB0 sF0) ?_
                            refine AL_cons (LR_fieldAddr (off := 0) (o := 1441) (at_tmp 72 _) (fun b w => fa215_1 b 0 w) rfl) (sS (sT1 rfl) sB0 sF0) ?_
                            refine AL_cons (LR_storeA (at_tmp 73 _) (at_tmp 71 _) (cells_one (one_is rfl)) (onC (one_is rfl) onN) sz3 rfl (bleLen (lnA (lnC (lnC (lnC (lnC ln0))))) rfl) (stP st0)) (sS (sA (sT1 rfl) (sT1 rfl)) (sB1 rfl) sF0) ?_
                            refine AL_nil ?_
                            exact thenN (cutLeaf (v := (x21, w64 (x6 + 1))) hr (weakB ((sT rfl (sT rfl (sT rfl (sT rfl (sT rfl sT0)))))) (sub_keep sub_nil) rfl))
                        · have hr := hr.trans (cond_f h)
                          clear h
                          refine AW_skip ?_
                          exact thenN (cutLeaf (v := (x5, x6)) hr (weakB ((sT rfl (sT rfl (sT rfl (sT rfl (sT rfl sT0)))))) (sub_keep sub_nil) rfl))
                    · rintro ⟨x17, x18⟩ hr
                      show AW Hfaa.prog _ _ _ ⟨[(0, .inr (.inl (0, 0))), (1, .inl (is (U64 a1))), (2, .inl (is (Bl a2))), (6, .inl (is (U64 x14))), (25, .inl (is (I64 x4)))], [(0, pb 215 (ar U8 1441 x17 ++ (is (I64 x18) :: (is (I64 x7) :: (is (I64 b0_3) :: (is (I64 b0_4) :: []))))))]⟩
                      have hr : some out1 = F282_10 N b0_3 b0_4 a1 a2 x4 x7 x14 x17 x18 := hr
                      refine AW_cut (σ := Bool) (fun v => ⟨[(0, .inr (.inl (0, 0))), (1, .inl (is (U64 a1))), (2, .inl (is (Bl a2))), (6, .inl (is (U64 x14))), (25, .inl (is (I64 x4))), (75, .inl (is (Bl v)))], [(0, pb 215 (ar U8 1441 x17 ++ (is (I64 x18) :: (is (I64 x7) :: (is (I64 b0_3) :: (is (I64 b0_4) :: []))))))]⟩) (fun v => some out1 = F282_11 N b0_3 b0_4 a1 a2 x4 x7 x14 x17 x18 v) ?_ ?_
                      · skip
                        refine AW_region ?_
                        refine AL_cons (LR_move (at_tmp 2 _) rfl) (sS (sT1 rfl) sB0 sF0) ?_
                        refine AL_cons (LR_un (at_tmp 74 _) (not_Bl a2) rfl) (sS (sT1 rfl) sB0 sF0) ?_
                        refine AL_nil ?_
                        exact thenN (cutLeaf (v := !a2) hr (weakB ((sT rfl (sT rfl (sT rfl (sT rfl (sT rfl (sT rfl sT0))))))) (sub_keep sub_nil) rfl))
                      · rintro x19 hr
                        show AW Hfaa.prog _ _ _ ⟨[(0, .inr (.inl (0, 0))), (1, .inl (is (U64 a1))), (2, .inl (is (Bl a2))), (6, .inl (is (U64 x14))), (25, .inl (is (I64 x4))), (75, .inl (is (Bl x19)))], [(0, pb 215 (ar U8 1441 x17 ++ (is (I64 x18) :: (is (I64 x7) :: (is (I64 b0_3) :: (is (I64 b0_4) :: []))))))]⟩
                        have hr : some out1 = F282_11 N b0_3 b0_4 a1 a2 x4 x7 x14 x17 x18 x19 := hr
                        refine AW_condT (b := x19) rfl (fun h => ?_) (fun h => ?_)
                        · have hr := hr.trans (cond_t h)
                          clear h
                          refine AW_region ?_
                          refine AL_cons (LR_move (at_tmp 0 _) rfl) (sS (sT1 rfl) sB0 sF0) ?_
                          refine AL_cons (LR_nilCheck (at_tmp 76 _) rfl) (sS (sT1 rfl) sB0 sF0) ?_
                          refine AL_cons (LR_fieldAddr (off := 0) (o := 1442) (at_tmp 77 _) (fun b w => fa215_2 b 0 w) rfl) (sS (sT1 rfl) sB0 sF0) ?_
                          refine AL_cons (LR_load (at_tmp 78 _) na3 (gP (gS g0)) rfl) (sS (sT1 rfl) (sB1 rfl) sF0) ?_
                          refine AL_cons (LR_bin (at_tmp 79 _) (at_c (v' := I64 1) rfl) (add_I64 x7 1) rfl) (sS (sA (sT1 rfl) sT0) sB0 sF0) ?_
                          refine AL_cons (LR_nilCheck (at_tmp 76 _) rfl) (sS (sT1 rfl) sB0 sF0) ?_
                          refine AL_cons (LR_fieldAddr (off := 0) (o := 1442) (at_tmp 81 _) (fun b w => fa215_2 b 0 w) rfl) (sS (sT1 rfl) sB0 sF0) ?_
                          refine AL_cons (LR_storeA (at_tmp 82 _) (at_tmp 80 _) (cells_one (one_is rfl)) (onC (one_is rfl) onN) sz3 rfl (bleLen (lnA (lnC (lnC (lnC (lnC ln0))))) rfl) (stP (stS st0))) (sS (sA (sT1 rfl) (sT1 rfl)) (sB1 rfl) sF0) ?_
                          refine AL_nil ?_
                          refine blN ?_
                          exact thenN (cutLeaf (v := (x14, x17, x18, w64 (x7 + 1))) hr (weakB ((sT rfl (sT rfl (sT rfl (sT rfl (sT rfl sT0)))))) (sub_keep sub_nil) rfl))
                        · have hr := hr.trans (cond_f h)
                          clear h
                          refine AW_skip ?_
                          refine blN ?_
                          exact thenN (cutLeaf (v := (x14, x17, x18, x7)) hr (weakB ((sT rfl (sT rfl (sT rfl (sT rfl (sT rfl sT0)))))) (sub_keep sub_nil) rfl))
          · rintro ⟨x9, x10, x11, x12⟩ hr
            show AW Hfaa.prog _ _ _ ⟨[(0, .inr (.inl (0, 0))), (1, .inl (is (U64 a1))), (2, .inl (is (Bl a2))), (6, .inl (is (U64 x9))), (25, .inl (is (I64 x4)))], [(0, pb 215 (ar U8 1441 x10 ++ (is (I64 x11) :: (is (I64 x12) :: (is (I64 b0_3) :: (is (I64 b0_4) :: []))))))]⟩
            have hr : some out1 = F282_5 N b0_3 b0_4 a1 a2 x4 x9 x10 x11 x12 := hr
            refine AW_region ?_
            refine AL_cons (LR_bin (at_tmp 25 _) (at_c (v' := I64 1) rfl) (add_I64 x4 1) rfl) (sS (sA (sT1 rfl) sT0) sB0 sF0) ?_
            refine AL_cons (LR_move (at_tmp 83 _) rfl) (sS (sT1 rfl) sB0 sF0) ?_
            refine AL_nil ?_
            exact thenN (loopNext (x' := (x9, w64 (x4 + 1), x10, x11, x12)) hr (weakB ((sT rfl (sT rfl (sT rfl (sT rfl (sT rfl sT0)))))) (sub_keep sub_nil) rfl))
        · have hr := hr.trans (cond_f h)
          clear h
          refine AW_exit ?_
          refine thenX ?_
          obtain ⟨r', hro, hr⟩ := map_inr hr
          refine thenX (loopOut hro (fun he => ?_))
          rw [he] at hr
          refine blH ?_
          obtain rfl := Option.some.inj hr
          exact ⟨res0 rfl , (sub_keep sub_nil)⟩
end Go.Proofs.YfwaawGreat
