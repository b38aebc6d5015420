import Derived.Test.YfwaawGreatG1
import Derived.Test.YfwaawGreatG2
import Derived.Test.YfwaawGreatG4
import Derived.Test.YfwaawGreatG7
namespace Go.Proofs.YfwaawGreat
open Go.Aw
set_option linter.unusedVariables false
set_option maxRecDepth 100000
set_option maxHeartbeats 1000000
/-- exact.ToInt64 -/
def F73_1 (N : Nat) (x1 : Int) (x2 : Bool) : Option (Int × Bool) := some (x1, x2)
def F73 (N : Nat) (a0_0 : BitVec 8) (a0_1 : BitVec 8) (a1 : BitVec 8) (a2 : BitVec 64) : Option (Int × Bool) := (F131 N a0_0 a0_1 a1 a2).bind fun y2 => F73_1 N y2.1 y2.2.1
theorem C73 (N : Nat) (a0_0 : BitVec 8) (a0_1 : BitVec 8) (a1 : BitVec 8) (a2 : BitVec 64) (r : Int × Bool) (hr : some r = F73 N a0_0 a0_1 a1 a2) : Aw.Fn Hfaa.prog 73 [agg [is (U8 a0_0), is (U8 a0_1)], is (U8 a1), is (U64 a2)] (tup [is (I64 r.1), is (Bl r.2)]) := by
  refine fn_intro Hfaa.func73 rfl rfl rfl ?_
  intro bn0 w0 H0
  refine AW_seq1 ?_
  refine AW_region ?_
  refine AL_cons (LR_box (at_tmp 0 _) (cells_agg _) rfl) (sS (sT1 rfl) sB0 (sF1 rfl)) ?_
  refine AL_cons (LR_assign (at_c (v' := I64 0) rfl) rfl) (sS sT0 sB0 sF0) ?_
  refine AL_cons (LR_assign (at_c (v' := Bl false) rfl) rfl) (sS sT0 sB0 sF0) ?_
  refine AL_nil ?_
  refine thenN ?_
  refine AW_cut (σ := Int × Bool) (fun v => ⟨[(8, .inl (is (I64 v.1))), (9, .inl (is (Bl v.2)))], []⟩) (fun v => some r = F73_1 N v.1 v.2) ?_ ?_
  · skip
    refine AW_region ?_
    refine AL_cons (LR_loads (at_tmp 3 _) ag23 sz23 rfl rfl rfl) (sS (sT1 rfl) (sB1 rfl) sF0) ?_
    refine AL_cons (LR_move (at_tmp 1 _) rfl) (sS (sT1 rfl) sB0 sF0) ?_
    refine AL_cons (LR_move (at_tmp 2 _) rfl) (sS (sT1 rfl) sB0 sF0) ?_
    obtain ⟨y2, hy2, hr⟩ := bind_some hr
    refine AL_cons (LR_call Hfaa.func131 rfl rfl (C131 N a0_0 a0_1 a1 a2 y2 hy2) (all_cons (at_tmp 12 _) (all_cons (at_tmp 13 _) (all_cons (at_tmp 14 _) all_nil))) rfl) (sS (sA (sT1 rfl) (sA (sT1 rfl) (sA (sT1 rfl) sT0))) sB0 sF0) ?_
    refine AL_cons (LR_move (at_tmp 15 _) rfl) (sS (sT1 rfl) sB0 sF0) ?_
    refine AL_cons (LR_extract (at_tmp 11 _) rfl rfl) (sS (sT1 rfl) sB0 sF0) ?_
    refine AL_cons (LR_extract (at_tmp 11 _) rfl rfl) (sS (sT1 rfl) sB0 sF0) ?_
    refine AL_cons (LR_extract (at_tmp 11 _) rfl rfl) (sS (sT1 rfl) sB0 sF0) ?_
    refine AL_cons (LR_assign (at_tmp 16 _) rfl) (sS (sT1 rfl) sB0 sF0) ?_
    refine AL_cons (LR_assign (at_tmp 17 _) rfl) (sS (sT1 rfl) sB0 sF0) ?_
    refine AL_cons (LR_assign (at_tmp 18 _) rfl) (sS (sT1 rfl) sB0 sF0) ?_
    refine AL_nil ?_
    exact thenN (cutLeaf (v := (y2.1, y2.2.1)) hr (weak0 ((sT rfl (sT rfl sT0))) (sub_drop sub_nil)))
  · rintro ⟨x1, x2⟩ hr
    show AW Hfaa.prog _ _ _ ⟨[(8, .inl (is (I64 x1))), (9, .inl (is (Bl x2)))], []⟩
    have hr : some r = F73_1 N x1 x2 := hr
    refine AW_seq1 ?_
    refine AW_region ?_
    refine AL_cons (LR_move (at_tmp 8 _) rfl) (sS (sT1 rfl) sB0 sF0) ?_
    refine AL_cons (LR_move (at_tmp 9 _) rfl) (sS (sT1 rfl) sB0 sF0) ?_
    refine AL_cons (LR_assign (at_tmp 19 _) rfl) (sS (sT1 rfl) sB0 sF0) ?_
    refine AL_cons (LR_assign (at_tmp 20 _) rfl) (sS (sT1 rfl) sB0 sF0) ?_
    refine AL_nil ?_
    refine thenN ?_
    refine AW_ret ?_
    obtain rfl := Option.some.inj hr
    exact res2 rfl (rvT rfl) (rvT rfl)
/-- dec.Itoa -/
def F170_5 (N : Nat) (x6 : Int) (x7 : Nat → BitVec 8) : Option (List UInt8) := bif (decide (0 ≤ (x6 : Int)) && (decide ((x6 : Int) ≤ (20 : Int)) && decide ((20 : Int) ≤ (20 : Int)))) then bif decide ((x6 : Int) < (20 : Int)) then bif decide (((x6 : Int).toNat) + (20 - ((x6 : Int).toNat)) ≤ 20) then some (bys (20 - ((x6 : Int).toNat)) (fun i => x7 (((x6 : Int).toNat) + i))) else none else none else none
def F170_7 (N : Nat) (x5 : Nat → BitVec 8) (x9 : Int) : Option (List UInt8) := bif (decide (0 ≤ x9) && decide (x9 < (20 : Int))) then F170_5 N x9 (upd x5 x9.toNat (45#8)) else none
def F170_6 (N : Nat) (x4 : Int) (x5 : Nat → BitVec 8) (x8 : Bool) : Option (List UInt8) := bif x8 then F170_7 N x5 (w64 (x4 - 1)) else F170_5 N x4 x5
def F170_4 (N : Nat) (a0 : Int) (x4 : Int) (x5 : Nat → BitVec 8) : Option (List UInt8) := F170_6 N x4 x5 (decide (a0 < 0))
def F170_12 (N : Nat) (a0 : Int) (x13 : Int) (x14 : Nat → BitVec 8) (x15 : BitVec 64) (x16 : Bool) : Option ((Int × BitVec 64 × (Nat → BitVec 8)) ⊕ (List UInt8)) := bif x16 then (F170_4 N a0 x13 x14).map Sum.inr else some (.inl (x13, x15, x14))
def F170_11 (N : Nat) (a0 : Int) (x13 : Int) (x14 : Nat → BitVec 8) (x15 : BitVec 64) : Option ((Int × BitVec 64 × (Nat → BitVec 8)) ⊕ (List UInt8)) := F170_12 N a0 x13 x14 x15 (x15 == (0#64))
def F170_10 (N : Nat) (a0 : Int) (x11 : BitVec 64) (x13 : Int) (x14 : Nat → BitVec 8) : Option ((Int × BitVec 64 × (Nat → BitVec 8)) ⊕ (List UInt8)) := F170_11 N a0 x13 x14 (x11 / (10#64))
def F170_9 (N : Nat) (a0 : Int) (x11 : BitVec 64) (x12 : Nat → BitVec 8) (x13 : Int) : Option ((Int × BitVec 64 × (Nat → BitVec 8)) ⊕ (List UInt8)) := bif (decide (0 ≤ x13) && decide (x13 < (20 : Int))) then F170_10 N a0 x11 x13 (upd x12 x13.toNat (BitVec.ofInt 8 (((48#64) + (x11 % (10#64))).toNat : Int))) else none
def F170_L8b (N : Nat) (a0 : Int) (x10 : Int) (x11 : BitVec 64) (x12 : Nat → BitVec 8) : Option ((Int × BitVec 64 × (Nat → BitVec 8)) ⊕ (List UInt8)) := F170_9 N a0 x11 x12 (w64 (x10 - 1))
def F170_L8 (N : Nat) (a0 : Int) : (Int × BitVec 64 × (Nat → BitVec 8)) → Option ((Int × BitVec 64 × (Nat → BitVec 8)) ⊕ (List UInt8)) := fun v => F170_L8b N a0 v.1 v.2.1 v.2.2
def F170_3 (N : Nat) (a0 : Int) (x1 : Nat → BitVec 8) (x3 : BitVec 64) : Option (List UInt8) := iterL (F170_L8 N a0) N (20, x3, x1)
def F170_13 (N : Nat) (a0 : Int) (x1 : Nat → BitVec 8) (x2 : BitVec 64) (x17 : Bool) : Option (List UInt8) := bif x17 then F170_3 N a0 x1 (-x2) else F170_3 N a0 x1 x2
def F170_2 (N : Nat) (a0 : Int) (x1 : Nat → BitVec 8) (x2 : BitVec 64) : Option (List UInt8) := F170_13 N a0 x1 x2 (decide (a0 < 0))
def F170_1 (N : Nat) (a0 : Int) (x1 : Nat → BitVec 8) : Option (List UInt8) := F170_2 N a0 x1 (BitVec.ofInt 64 a0)
def F170 (N : Nat) (a0 : Int) : Option (List UInt8) := F170_1 N a0 (fun _ => 0#8)
theorem C170 (N : Nat) (a0 : Int) (r : List UInt8) (hr : some r = F170 N a0) : Aw.Fn Hfaa.prog 170 [is (I64 a0)] (is (Sv r)) := by
  refine fn_intro Hfaa.func170 rfl rfl rfl ?_
  intro bn0 w0 H0
  refine AW_seq1 ?_
  refine AW_region ?_
  refine AL_cons (LR_assign (at_c (v' := Sv ([] : List UInt8)) rfl) rfl) (sS sT0 sB0 sF0) ?_
  refine AL_nil ?_
  refine thenN ?_
  refine AW_cut (σ := (Nat → BitVec 8)) (fun v => ⟨[(0, .inl (is (I64 a0))), (3, .inr (.inl (3, 0)))], [(3, pb 269 (ar U8 20 v ++ []))]⟩) (fun v => some r = F170_1 N a0 v) ?_ ?_
  · skip
    refine AW_region ?_
    refine AL_cons (zl269 rfl) (sS sT0 sB0 (sF1 rfl)) ?_
    refine AL_nil ?_
    exact thenN (cutLeaf (v := fun _ => 0#8) hr (weak0 ((sT rfl (sT rfl sT0))) (sub_keep sub_nil)))
  · rintro x1 hr
    show AW Hfaa.prog _ _ _ ⟨[(0, .inl (is (I64 a0))), (3, .inr (.inl (3, 0)))], [(3, pb 269 (ar U8 20 x1 ++ []))]⟩
    have hr : some r = F170_1 N a0 x1 := hr
    refine AW_seq1 ?_
    refine AW_region ?_
    refine AL_cons (LR_assign (at_c (v' := I64 20) rfl) rfl) (sS sT0 sB0 sF0) ?_
    refine AL_nil ?_
    refine thenN ?_
    refine AW_cut (σ := BitVec 64) (fun v => ⟨[(0, .inl (is (I64 a0))), (3, .inr (.inl (3, 0))), (4, .inl (is (I64 20))), (5, .inl (is (U64 v)))], [(3, pb 269 (ar U8 20 x1 ++ []))]⟩) (fun v => some r = F170_2 N a0 x1 v) ?_ ?_
    · skip
      refine AW_region ?_
      refine AL_cons (LR_move (at_tmp 0 _) rfl) (sS (sT1 rfl) sB0 sF0) ?_
      refine AL_cons (LR_conv (vx := I64 a0) (at_tmp 6 _) (conv_U64 Hfaa.underlying2 Hfaa.underlying30 a0) rfl) (sS (sT1 rfl) sB0 sF0) ?_
      refine AL_cons (LR_assign (at_tmp 7 _) rfl) (sS (sT1 rfl) sB0 sF0) ?_
      refine AL_nil ?_
      exact thenN (cutLeaf (v := BitVec.ofInt 64 a0) hr (weak0 ((sT rfl (sT rfl (sT rfl (sT rfl sT0))))) (sub_keep sub_nil)))
    · rintro x2 hr
      show AW Hfaa.prog _ _ _ ⟨[(0, .inl (is (I64 a0))), (3, .inr (.inl (3, 0))), (4, .inl (is (I64 20))), (5, .inl (is (U64 x2)))], [(3, pb 269 (ar U8 20 x1 ++ []))]⟩
      have hr : some r = F170_2 N a0 x1 x2 := hr
      refine AW_cut (σ := BitVec 64) (fun v => ⟨[(0, .inl (is (I64 a0))), (3, .inr (.inl (3, 0))), (4, .inl (is (I64 20))), (5, .inl (is (U64 v)))], [(3, pb 269 (ar U8 20 x1 ++ []))]⟩) (fun v => some r = F170_3 N a0 x1 v) ?_ ?_
      · skip
        refine AW_cut (σ := Bool) (fun v => ⟨[(0, .inl (is (I64 a0))), (3, .inr (.inl (3, 0))), (4, .inl (is (I64 20))), (5, .inl (is (U64 x2))), (9, .inl (is (Bl v)))], [(3, pb 269 (ar U8 20 x1 ++ []))]⟩) (fun v => some r = F170_13 N a0 x1 x2 v) ?_ ?_
        · skip
          refine AW_region ?_
          refine AL_cons (LR_move (at_tmp 0 _) rfl) (sS (sT1 rfl) sB0 sF0) ?_
          refine AL_cons (LR_bin (at_tmp 8 _) (at_c (v' := I64 0) rfl) (lss_I64 a0 0) rfl) (sS (sA (sT1 rfl) sT0) sB0 sF0) ?_
          refine AL_nil ?_
          exact thenN (cutLeaf (v := decide (a0 < 0)) hr (weak0 ((sT rfl (sT rfl (sT rfl (sT rfl (sT rfl sT0)))))) (sub_keep sub_nil)))
        · rintro x17 hr
          show AW Hfaa.prog _ _ _ ⟨[(0, .inl (is (I64 a0))), (3, .inr (.inl (3, 0))), (4, .inl (is (I64 20))), (5, .inl (is (U64 x2))), (9, .inl (is (Bl x17)))], [(3, pb 269 (ar U8 20 x1 ++ []))]⟩
          have hr : some r = F170_13 N a0 x1 x2 x17 := hr
          refine AW_condT (b := x17) rfl (fun h => ?_) (fun h => ?_)
          · have hr := hr.trans (cond_t h)
            clear h
            refine AW_region ?_
            refine AL_cons (LR_move (at_tmp 5 _) rfl) (sS (sT1 rfl) sB0 sF0) ?_
            refine AL_cons (LR_un (at_tmp 10 _) (neg_U64 x2) rfl) (sS (sT1 rfl) sB0 sF0) ?_
            refine AL_cons (LR_assign (at_tmp 11 _) rfl) (sS (sT1 rfl) sB0 sF0) ?_
            refine AL_nil ?_
            exact thenN (cutLeaf (v := -x2) hr (weak0 ((sT rfl (sT rfl (sT rfl (sT rfl sT0))))) (sub_keep sub_nil)))
          · have hr := hr.trans (cond_f h)
            clear h
            refine AW_skip ?_
            exact thenN (cutLeaf (v := x2) hr (weak0 ((sT rfl (sT rfl (sT rfl (sT rfl sT0))))) (sub_keep sub_nil)))
      · rintro x3 hr
        show AW Hfaa.prog _ _ _ ⟨[(0, .inl (is (I64 a0))), (3, .inr (.inl (3, 0))), (4, .inl (is (I64 20))), (5, .inl (is (U64 x3)))], [(3, pb 269 (ar U8 20 x1 ++ []))]⟩
        have hr : some r = F170_3 N a0 x1 x3 := hr
        refine AW_cut (σ := Int × (Nat → BitVec 8)) (fun v => ⟨[(0, .inl (is (I64 a0))), (3, .inr (.inl (3, 0))), (4, .inl (is (I64 v.1)))], [(3, pb 269 (ar U8 20 v.2 ++ []))]⟩) (fun v => some r = F170_4 N a0 v.1 v.2) ?_ ?_
        · skip
          refine AW_block ?_
          refine AW_iterR (σ := Int × BitVec 64 × (Nat → BitVec 8)) (r := r) (x0 := (20, x3, x1)) (emb := fun v => ⟨[(0, .inl (is (I64 a0))), (3, .inr (.inl (3, 0))), (4, .inl (is (I64 v.1))), (5, .inl (is (U64 v.2.1)))], [(3, pb 269 (ar U8 20 v.2.2 ++ []))]⟩) ?_ hr ?_
          · exact weak0 ((sT rfl (sT rfl (sT rfl (sT rfl sT0))))) (sub_keep sub_nil)
          rintro ⟨x10, x11, x12⟩ out2 hr
          show AW Hfaa.prog _ _ _ ⟨[(0, .inl (is (I64 a0))), (3, .inr (.inl (3, 0))), (4, .inl (is (I64 x10))), (5, .inl (is (U64 x11)))], [(3, pb 269 (ar U8 20 x12 ++ []))]⟩
          have hr : some out2 = F170_L8b N a0 x10 x11 x12 := hr
          refine AW_block ?_
          refine AW_cut (σ := Int) (fun v => ⟨[(0, .inl (is (I64 a0))), (3, .inr (.inl (3, 0))), (4, .inl (is (I64 v))), (5, .inl (is (U64 x11)))], [(3, pb 269 (ar U8 20 x12 ++ []))]⟩) (fun v => some out2 = F170_9 N a0 x11 x12 v) ?_ ?_
          · skip
            refine AW_region ?_
            refine AL_cons (LR_move (at_tmp 4 _) rfl) (sS (sT1 rfl) sB0 sF0) ?_
            refine AL_cons (LR_bin (at_tmp 12 _) (at_c (v' := I64 1) rfl) (sub_I64 x10 1) rfl) (sS (sA (sT1 rfl) sT0) sB0 sF0) ?_
            refine AL_cons (LR_assign (at_tmp 13 _) rfl) (sS (sT1 rfl) sB0 sF0) ?_
            refine AL_nil ?_
            exact thenN (cutLeaf (v := w64 (x10 - 1)) hr (weak0 ((sT rfl (sT rfl (sT rfl (sT rfl sT0))))) (sub_keep sub_nil)))
          · rintro x13 hr
            show AW Hfaa.prog _ _ _ ⟨[(0, .inl (is (I64 a0))), (3, .inr (.inl (3, 0))), (4, .inl (is (I64 x13))), (5, .inl (is (U64 x11)))], [(3, pb 269 (ar U8 20 x12 ++ []))]⟩
            have hr : some out2 = F170_9 N a0 x11 x12 x13 := hr
            refine AW_cut (σ := (Nat → BitVec 8)) (fun v => ⟨[(0, .inl (is (I64 a0))), (3, .inr (.inl (3, 0))), (4, .inl (is (I64 x13))), (5, .inl (is (U64 x11)))], [(3, pb 269 (ar U8 20 v ++ []))]⟩) (fun v => some out2 = F170_10 N a0 x11 x13 v) ?_ ?_
            · skip
              refine AW_region ?_
              refine AL_cons (LR_move (at_tmp 4 _) rfl) (sS (sT1 rfl) sB0 sF0) ?_
              refine AL_cons (LR_move (at_tmp 5 _) rfl) (sS (sT1 rfl) sB0 sF0) ?_
              refine AL_cons (LR_bin (at_tmp 15 _) (at_c (v' := U64 (10#64)) rfl) (rem_U64 x11 (10#64) (by decide)) rfl) (sS (sA (sT1 rfl) sT0) sB0 sF0) ?_
              refine AL_cons (LR_bin (at_c (v' := U64 (48#64)) rfl) (at_tmp 16 _) (add_U64 (48#64) (x11 % (10#64))) rfl) (sS (sA sT0 (sT1 rfl)) sB0 sF0) ?_
              refine AL_cons (LR_conv (vx := U64 ((48#64) + (x11 % (10#64)))) (at_tmp 17 _) (conv_U8 Hfaa.underlying30 Hfaa.underlying5 (((48#64) + (x11 % (10#64))).toNat : Int)) rfl) (sS (sT1 rfl) sB0 sF0) ?_
              obtain ⟨hg20, hr⟩ := guard_some hr
              refine AL_cons (LR_indexAddr (o := x13.toNat) Hfaa.underlying269 sz5 (at_tmp 3 _) (at_tmp 14 _) (dand hg20) (by first | rfl | omega) rfl) (sS (sA (sT1 rfl) (sT1 rfl)) sB0 sF0) ?_
              refine AL_cons (LR_storeA (at_tmp 19 _) (at_tmp 18 _) (cells_one (one_is rfl)) (onC (one_is rfl) onN) sz5 rfl (ble_dyn (lnA ln0) (by have := (ltn (dand hg20)); omega)) (stA (ltn (dand hg20)))) (sS (sA (sT1 rfl) (sT1 rfl)) (sB1 rfl) sF0) ?_
              refine AL_nil ?_
              exact thenN (cutLeaf (v := upd x12 x13.toNat (BitVec.ofInt 8 (((48#64) + (x11 % (10#64))).toNat : Int))) hr (weak0 ((sT rfl (sT rfl (sT rfl (sT rfl sT0))))) (sub_keep sub_nil)))
            · rintro x14 hr
              show AW Hfaa.prog _ _ _ ⟨[(0, .inl (is (I64 a0))), (3, .inr (.inl (3, 0))), (4, .inl (is (I64 x13))), (5, .inl (is (U64 x11)))], [(3, pb 269 (ar U8 20 x14 ++ []))]⟩
              have hr : some out2 = F170_10 N a0 x11 x13 x14 := hr
              refine AW_cut (σ := BitVec 64) (fun v => ⟨[(0, .inl (is (I64 a0))), (3, .inr (.inl (3, 0))), (4, .inl (is (I64 x13))), (5, .inl (is (U64 v)))], [(3, pb 269 (ar U8 20 x14 ++ []))]⟩) (fun v => some out2 = F170_11 N a0 x13 x14 v) ?_ ?_
              · skip
                refine AW_region ?_
                refine AL_cons (LR_move (at_tmp 5 _) rfl) (sS (sT1 rfl) sB0 sF0) ?_
                refine AL_cons (LR_bin (at_tmp 20 _) (at_c (v' := U64 (10#64)) rfl) (quo_U64 x11 (10#64) (by decide)) rfl) (sS (sA (sT1 rfl) sT0) sB0 sF0) ?_
                refine AL_cons (LR_assign (at_tmp 21 _) rfl) (sS (sT1 rfl) sB0 sF0) ?_
                refine AL_nil ?_
                exact thenN (cutLeaf (v := x11 / (10#64)) hr (weak0 ((sT rfl (sT rfl (sT rfl (sT rfl sT0))))) (sub_keep sub_nil)))
              · rintro x15 hr
                show AW Hfaa.prog _ _ _ ⟨[(0, .inl (is (I64 a0))), (3, .inr (.inl (3, 0))), (4, .inl (is (I64 x13))), (5, .inl (is (U64 x15)))], [(3, pb 269 (ar U8 20 x14 ++ []))]⟩
                have hr : some out2 = F170_11 N a0 x13 x14 x15 := hr
                refine AW_cut (σ := Bool) (fun v => ⟨[(0, .inl (is (I64 a0))), (3, .inr (.inl (3, 0))), (4, .inl (is (I64 x13))), (5, .inl (is (U64 x15))), (23, .inl (is (Bl v)))], [(3, pb 269 (ar U8 20 x14 ++ []))]⟩) (fun v => some out2 = F170_12 N a0 x13 x14 x15 v) ?_ ?_
                · skip
                  refine AW_region ?_
                  refine AL_cons (LR_move (at_tmp 5 _) rfl) (sS (sT1 rfl) sB0 sF0) ?_
                  refine AL_cons (LR_bin (at_tmp 22 _) (at_c (v' := U64 (0#64)) rfl) (eql_U64 x15 (0#64)) rfl) (sS (sA (sT1 rfl) sT0) sB0 sF0) ?_
                  refine AL_nil ?_
                  exact thenN (cutLeaf (v := x15 == (0#64)) hr (weak0 ((sT rfl (sT rfl (sT rfl (sT rfl (sT rfl sT0)))))) (sub_keep sub_nil)))
                · rintro x16 hr
                  show AW Hfaa.prog _ _ _ ⟨[(0, .inl (is (I64 a0))), (3, .inr (.inl (3, 0))), (4, .inl (is (I64 x13))), (5, .inl (is (U64 x15))), (23, .inl (is (Bl x16)))], [(3, pb 269 (ar U8 20 x14 ++ []))]⟩
                  have hr : some out2 = F170_12 N a0 x13 x14 x15 x16 := hr
                  refine AW_condT (b := x16) rfl (fun h => ?_) (fun h => ?_)
                  · have hr := hr.trans (cond_t h)
                    clear h
                    refine AW_exit ?_
                    refine blO (by decide) ?_
                    obtain ⟨r', hro, hr⟩ := map_inr hr
                    refine thenX (loopOut hro (fun he => ?_))
                    rw [he] at hr
                    refine blH ?_
                    exact thenN (cutLeaf (v := (x13, x14)) hr (weak0 ((sT rfl (sT rfl (sT rfl sT0)))) (sub_keep sub_nil)))
                  · have hr := hr.trans (cond_f h)
                    clear h
                    refine AW_skip ?_
                    refine blN ?_
                    exact thenN (loopNext (x' := (x13, x15, x14)) hr (weak0 ((sT rfl (sT rfl (sT rfl (sT rfl sT0))))) (sub_keep sub_nil)))
        · rintro ⟨x4, x5⟩ hr
          show AW Hfaa.prog _ _ _ ⟨[(0, .inl (is (I64 a0))), (3, .inr (.inl (3, 0))), (4, .inl (is (I64 x4)))], [(3, pb 269 (ar U8 20 x5 ++ []))]⟩
          have hr : some r = F170_4 N a0 x4 x5 := hr
          refine AW_cut (σ := Int × (Nat → BitVec 8)) (fun v => ⟨[(3, .inr (.inl (3, 0))), (4, .inl (is (I64 v.1)))], [(3, pb 269 (ar U8 20 v.2 ++ []))]⟩) (fun v => some r = F170_5 N v.1 v.2) ?_ ?_
          · skip
            refine AW_cut (σ := Bool) (fun v => ⟨[(3, .inr (.inl (3, 0))), (4, .inl (is (I64 x4))), (25, .inl (is (Bl v)))], [(3, pb 269 (ar U8 20 x5 ++ []))]⟩) (fun v => some r = F170_6 N x4 x5 v) ?_ ?_
            · skip
              refine AW_region ?_
              refine AL_cons (LR_move (at_tmp 0 _) rfl) (sS (sT1 rfl) sB0 sF0) ?_
              refine AL_cons (LR_bin (at_tmp 24 _) (at_c (v' := I64 0) rfl) (lss_I64 a0 0) rfl) (sS (sA (sT1 rfl) sT0) sB0 sF0) ?_
              refine AL_nil ?_
              exact thenN (cutLeaf (v := decide (a0 < 0)) hr (weak0 ((sT rfl (sT rfl (sT rfl sT0)))) (sub_keep sub_nil)))
            · rintro x8 hr
              show AW Hfaa.prog _ _ _ ⟨[(3, .inr (.inl (3, 0))), (4, .inl (is (I64 x4))), (25, .inl (is (Bl x8)))], [(3, pb 269 (ar U8 20 x5 ++ []))]⟩
              have hr : some r = F170_6 N x4 x5 x8 := hr
              refine AW_condT (b := x8) rfl (fun h => ?_) (fun h => ?_)
              · have hr := hr.trans (cond_t h)
                clear h
                refine AW_cut (σ := Int) (fun v => ⟨[(3, .inr (.inl (3, 0))), (4, .inl (is (I64 v)))], [(3, pb 269 (ar U8 20 x5 ++ []))]⟩) (fun v => some r = F170_7 N x5 v) ?_ ?_
                · skip
                  refine AW_region ?_
                  refine AL_cons (LR_move (at_tmp 4 _) rfl) (sS (sT1 rfl) sB0 sF0) ?_
                  refine AL_cons (LR_bin (at_tmp 26 _) (at_c (v' := I64 1) rfl) (sub_I64 x4 1) rfl) (sS (sA (sT1 rfl) sT0) sB0 sF0) ?_
                  refine AL_cons (LR_assign (at_tmp 27 _) rfl) (sS (sT1 rfl) sB0 sF0) ?_
                  refine AL_nil ?_
                  exact thenN (cutLeaf (v := w64 (x4 - 1)) hr (weak0 ((sT rfl (sT rfl sT0))) (sub_keep sub_nil)))
                · rintro x9 hr
                  show AW Hfaa.prog _ _ _ ⟨[(3, .inr (.inl (3, 0))), (4, .inl (is (I64 x9)))], [(3, pb 269 (ar U8 20 x5 ++ []))]⟩
                  have hr : some r = F170_7 N x5 x9 := hr
                  refine AW_region ?_
                  refine AL_cons (LR_move (at_tmp 4 _) rfl) (sS (sT1 rfl) sB0 sF0) ?_
                  obtain ⟨hg14, hr⟩ := guard_some hr
                  refine AL_cons (LR_indexAddr (o := x9.toNat) Hfaa.underlying269 sz5 (at_tmp 3 _) (at_tmp 28 _) (dand hg14) (by first | rfl | omega) rfl) (sS (sA (sT1 rfl) (sT1 rfl)) sB0 sF0) ?_
                  refine AL_cons (LR_storeA (at_tmp 29 _) (at_c (v' := U8 (45#8)) rfl) (cells_one (one_is rfl)) (onC (one_is rfl) onN) sz5 rfl (ble_dyn (lnA ln0) (by have := (ltn (dand hg14)); omega)) (stA (ltn (dand hg14)))) (sS (sA (sT1 rfl) sT0) (sB1 rfl) sF0) ?_
                  refine AL_nil ?_
                  exact thenN (cutLeaf (v := (x9, upd x5 x9.toNat (45#8))) hr (weak0 ((sT rfl (sT rfl sT0))) (sub_keep sub_nil)))
              · have hr := hr.trans (cond_f h)
                clear h
                refine AW_skip ?_
                exact thenN (cutLeaf (v := (x4, x5)) hr (weak0 ((sT rfl (sT rfl sT0))) (sub_keep sub_nil)))
          · rintro ⟨x6, x7⟩ hr
            show AW Hfaa.prog _ _ _ ⟨[(3, .inr (.inl (3, 0))), (4, .inl (is (I64 x6)))], [(3, pb 269 (ar U8 20 x7 ++ []))]⟩
            have hr : some r = F170_5 N x6 x7 := hr
            refine AW_seq1 ?_
            refine AW_region ?_
            refine AL_cons (LR_move (at_tmp 4 _) rfl) (sS (sT1 rfl) sB0 sF0) ?_
            obtain ⟨hg11, hr⟩ := guard_some hr
            obtain ⟨hg12, hr⟩ := guard_some hr
            refine AL_cons (slcE (o' := (x6 : Int).toNat) (l' := 20 - ((x6 : Int).toNat)) (c' := 20 - ((x6 : Int).toNat)) (LR_sliceA (i := (x6 : Int)) (j := (20 : Int)) Hfaa.underlying269 sz5 (at_tmp 3 _) (lo_some (at_tmp 30 _)) hi_none (dand3 hg11) (of_decide_eq_true hg12) rfl) (by first | rfl | (simp; done) | (simp <;> omega))) (sS (sA (sT1 rfl) (sA (sT1 rfl) sT0)) sB0 sF0) ?_
            obtain ⟨hg13, hr⟩ := guard_some hr
            refine AL_cons (LR_convT (f := fun i => x7 (((x6 : Int).toNat) + i)) Hfaa.underlying227 Hfaa.underlying5 Hfaa.underlying9 (at_tmp 31 _) (fun i hi => gA (Nat.lt_of_lt_of_le (Nat.add_lt_add_left hi _) (of_decide_eq_true hg13))) rfl) (sS (sT1 rfl) (sB1 rfl) sF0) ?_
            refine AL_cons (LR_assign (at_tmp 32 _) rfl) (sS (sT1 rfl) sB0 sF0) ?_
            refine AL_nil ?_
            refine thenN ?_
            refine AW_ret ?_
            obtain rfl := Option.some.inj hr
            exact res1 rfl (rvT rfl)
/-- calc/ex.whole -/
def F290_1 (N : Nat) (a0 : Int) (x1 : Bool) : Option (List UInt8) := bif x1 then some ([33] : List UInt8) else (F170 N a0).bind fun y2 => some y2
def F290 (N : Nat) (a0 : Int) (a1 : Bool) : Option (List UInt8) := F290_1 N a0 (!a1)
theorem C290 (N : Nat) (a0 : Int) (a1 : Bool) (r : List UInt8) (hr : some r = F290 N a0 a1) : Aw.Fn Hfaa.prog 290 [is (I64 a0), is (Bl a1)] (is (Sv r)) := by
  refine fn_intro Hfaa.func290 rfl rfl rfl ?_
  intro bn0 w0 H0
  refine AW_seq1 ?_
  refine AW_region ?_
  refine AL_cons (LR_assign (at_c (v' := Sv ([] : List UInt8)) rfl) rfl) (sS sT0 sB0 sF0) ?_
  refine AL_nil ?_
  refine thenN ?_
  refine AW_seq1 ?_
  refine AW_cut (σ := Bool) (fun v => ⟨[(0, .inl (is (I64 a0))), (6, .inl (is (Bl v)))], []⟩) (fun v => some r = F290_1 N a0 v) ?_ ?_
  · skip
    refine AW_region ?_
    refine AL_cons (LR_move (at_tmp 1 _) rfl) (sS (sT1 rfl) sB0 sF0) ?_
    refine AL_cons (LR_un (at_tmp 5 _) (not_Bl a1) rfl) (sS (sT1 rfl) sB0 sF0) ?_
    refine AL_nil ?_
    exact thenN (cutLeaf (v := !a1) hr (weak0 ((sT rfl (sT rfl sT0))) sub_nil))
  · rintro x1 hr
    show AW Hfaa.prog _ _ _ ⟨[(0, .inl (is (I64 a0))), (6, .inl (is (Bl x1)))], []⟩
    have hr : some r = F290_1 N a0 x1 := hr
    refine AW_condT (b := x1) rfl (fun h => ?_) (fun h => ?_)
    · have hr := hr.trans (cond_t h)
      clear h
      refine AW_seq1 ?_
      refine AW_region ?_
      refine AL_cons (LR_assign (at_c (v' := Sv ([33] : List UInt8)) rfl) rfl) (sS sT0 sB0 sF0) ?_
      refine AL_nil ?_
      refine thenN ?_
      refine AW_ret ?_
      refine thenR ?_
      obtain rfl := Option.some.inj hr
      exact res1 rfl (rvT rfl)
    · have hr := hr.trans (cond_f h)
      clear h
      refine AW_skip ?_
      refine thenN ?_
      refine AW_seq1 ?_
      refine AW_region ?_
      refine AL_cons (LR_move (at_tmp 0 _) rfl) (sS (sT1 rfl) sB0 sF0) ?_
      obtain ⟨y2, hy2, hr⟩ := bind_some hr
      refine AL_cons (LR_call Hfaa.func170 rfl rfl (C170 N a0 y2 hy2) (all_cons (at_tmp 7 _) all_nil) rfl) (sS (sA (sT1 rfl) sT0) sB0 sF0) ?_
      refine AL_cons (LR_assign (at_tmp 8 _) rfl) (sS (sT1 rfl) sB0 sF0) ?_
      refine AL_nil ?_
      refine thenN ?_
      refine AW_ret ?_
      obtain rfl := Option.some.inj hr
      exact res1 rfl (rvT rfl)
/-- calc/ex.toInt -/
def F224 (N : Nat) (a0_0 : BitVec 8) (a0_1 : BitVec 8) (a1 : BitVec 64) : Option (List UInt8) := (F73 N a0_0 a0_1 (2#8) a1).bind fun y3 => (F290 N y3.1 y3.2).bind fun y4 => some y4
theorem C224 (N : Nat) (a0_0 : BitVec 8) (a0_1 : BitVec 8) (a1 : BitVec 64) (r : List UInt8) (hr : some r = F224 N a0_0 a0_1 a1) : Aw.Fn Hfaa.prog 224 [agg [is (U8 a0_0), is (U8 a0_1)], is (U64 a1)] (is (Sv r)) := by
  refine fn_intro Hfaa.func224 rfl rfl rfl ?_
  intro bn0 w0 H0
  refine AW_seq1 ?_
  refine AW_region ?_
  refine AL_cons (LR_box (at_tmp 0 _) (cells_agg _) rfl) (sS (sT1 rfl) sB0 (sF1 rfl)) ?_
  refine AL_cons (LR_assign (at_c (v' := Sv ([] : List UInt8)) rfl) rfl) (sS sT0 sB0 sF0) ?_
  refine AL_nil ?_
  refine thenN ?_
  refine AW_seq1 ?_
  refine AW_region ?_
  refine AL_cons (LR_loads (at_tmp 2 _) ag23 sz23 rfl rfl rfl) (sS (sT1 rfl) (sB1 rfl) sF0) ?_
  refine AL_cons (LR_move (at_tmp 1 _) rfl) (sS (sT1 rfl) sB0 sF0) ?_
  obtain ⟨y3, hy3, hr⟩ := bind_some hr
  refine AL_cons (LR_call Hfaa.func73 rfl rfl (C73 N a0_0 a0_1 (2#8) a1 y3 hy3) (all_cons (at_tmp 5 _) (all_cons (at_c (v' := U8 (2#8)) rfl) (all_cons (at_tmp 6 _) all_nil))) rfl) (sS (sA (sT1 rfl) (sA sT0 (sA (sT1 rfl) sT0))) sB0 sF0) ?_
  refine AL_cons (LR_extract (at_tmp 7 _) rfl rfl) (sS (sT1 rfl) sB0 sF0) ?_
  refine AL_cons (LR_extract (at_tmp 7 _) rfl rfl) (sS (sT1 rfl) sB0 sF0) ?_
  obtain ⟨y4, hy4, hr⟩ := bind_some hr
  refine AL_cons (LR_call Hfaa.func290 rfl rfl (C290 N y3.1 y3.2 y4 hy4) (all_cons (at_tmp 8 _) (all_cons (at_tmp 9 _) all_nil)) rfl) (sS (sA (sT1 rfl) (sA (sT1 rfl) sT0)) sB0 sF0) ?_
  refine AL_cons (LR_assign (at_tmp 10 _) rfl) (sS (sT1 rfl) sB0 sF0) ?_
  refine AL_nil ?_
  refine thenN ?_
  refine AW_ret ?_
  obtain rfl := Option.some.inj hr
  exact res1 rfl (rvT rfl)
/-- exact.ConvertFlags -/
def F114_4 (N : Nat) (a1_0 : BitVec 8) (a1_1 : BitVec 8) (a2 : BitVec 8) (x2 : BitVec 64) (x3 : Bool) (x4 : Int) (x5 : Bool) (x6 : Nat) (x7 : Nat) (x9 : Bool) : Option (BitVec 64 × BitVec 8) := bif x9 then lt (F67 a1_0 a1_1 x3) fun y16 => some (y16, 0#8) else (F136 N a1_0 a1_1 a2 x5 x6 x7).bind fun y18 => some (y18.1, y18.2)
def F114_3 (N : Nat) (a0_0 : BitVec 8) (a0_1 : BitVec 8) (a1_0 : BitVec 8) (a1_1 : BitVec 8) (a2 : BitVec 8) (a3 : BitVec 64) (x2 : BitVec 64) (x3 : Bool) (x4 : Int) (x5 : Bool) (x6 : Nat) (x7 : Nat) (x8 : Bool) : Option (BitVec 64 × BitVec 8) := bif x8 then lt (F66 a1_0 a1_1) fun y13 => lt (F216 a0_0 a0_1 a3 a3) fun y14 => some (y13, y14) else F114_4 N a1_0 a1_1 a2 x2 x3 x4 x5 x6 x7 (x4 == 3)
def F114_2 (N : Nat) (a0_0 : BitVec 8) (a0_1 : BitVec 8) (a1_0 : BitVec 8) (a1_1 : BitVec 8) (a2 : BitVec 8) (a3 : BitVec 64) (x2 : BitVec 64) (x3 : Bool) (x4 : Int) (x5 : Bool) (x6 : Nat) (x7 : Nat) : Option (BitVec 64 × BitVec 8) := F114_3 N a0_0 a0_1 a1_0 a1_1 a2 a3 x2 x3 x4 x5 x6 x7 (x4 == 4)
def F114_1 (N : Nat) (a0_0 : BitVec 8) (a0_1 : BitVec 8) (a1_0 : BitVec 8) (a1_1 : BitVec 8) (a2 : BitVec 8) (a3 : BitVec 64) (x1 : Bool) : Option (BitVec 64 × BitVec 8) := bif x1 then some (0#64, 0#8) else (F144 N a0_0 a0_1 a3).bind fun y19 => F114_2 N a0_0 a0_1 a1_0 a1_1 a2 a3 y19.1 y19.2.1 y19.2.2.1 y19.2.2.2.1 y19.2.2.2.2.1 y19.2.2.2.2.2
def F114 (N : Nat) (a0_0 : BitVec 8) (a0_1 : BitVec 8) (a1_0 : BitVec 8) (a1_1 : BitVec 8) (a2 : BitVec 8) (a3 : BitVec 64) : Option (BitVec 64 × BitVec 8) := lt (F40 a0_0 a0_1) fun y20 => F114_1 N a0_0 a0_1 a1_0 a1_1 a2 a3 ((!y20) || (!(F40 a1_0 a1_1)))
theorem C114 (N : Nat) (a0_0 : BitVec 8) (a0_1 : BitVec 8) (a1_0 : BitVec 8) (a1_1 : BitVec 8) (a2 : BitVec 8) (a3 : BitVec 64) (r : BitVec 64 × BitVec 8) (hr : some r = F114 N a0_0 a0_1 a1_0 a1_1 a2 a3) : Aw.Fn Hfaa.prog 114 [agg [is (U8 a0_0), is (U8 a0_1)], agg [is (U8 a1_0), is (U8 a1_1)], is (U8 a2), is (U64 a3)] (tup [is (U64 r.1), is (U8 r.2)]) := by
  refine fn_intro Hfaa.func114 rfl rfl rfl ?_
  intro bn0 w0 H0
  refine AW_seq1 ?_
  refine AW_region ?_
  refine AL_cons (LR_box (at_tmp 0 _) (cells_agg _) rfl) (sS (sT1 rfl) sB0 (sF1 rfl)) ?_
  refine AL_cons (LR_box (at_tmp 1 _) (cells_agg _) rfl) (sS (sT1 rfl) sB0 (sF1 rfl)) ?_
  refine AL_cons (LR_assign (at_c (v' := U64 (0#64)) rfl) rfl) (sS sT0 sB0 sF0) ?_
  refine AL_cons (LR_assign (at_c (v' := U8 (0#8)) rfl) rfl) (sS sT0 sB0 sF0) ?_
  refine AL_nil ?_
  refine thenN ?_
  refine AW_seq1 ?_
  refine AW_cut (σ := Bool) (fun v => ⟨[(2, .inl (is (U8 a2))), (3, .inl (is (U64 a3))), (4, .inr (.inl (4, 0))), (5, .inr (.inl (5, 0))), (18, .inl (is (Bl v)))], [(4, pb 23 [is (U8 a0_0), is (U8 a0_1)]), (5, pb 23 [is (U8 a1_0), is (U8 a1_1)])]⟩) (fun v => some r = F114_1 N a0_0 a0_1 a1_0 a1_1 a2 a3 v) ?_ ?_
  · skip
    refine AW_region ?_
    refine AL_cons (LR_loads (at_tmp 4 _) ag23 sz23 rfl rfl rfl) (sS (sT1 rfl) (sB1 rfl) sF0) ?_
    obtain ⟨y20, hy20, hr⟩ := lt_some hr
    refine AL_cons (LR_call Hfaa.func40 rfl rfl (C40 a0_0 a0_1 y20 hy20) (all_cons (at_tmp 11 _) all_nil) rfl) (sS (sA (sT1 rfl) sT0) sB0 sF0) ?_
    refine AL_cons (LR_un (at_tmp 12 _) (not_Bl y20) rfl) (sS (sT1 rfl) sB0 sF0) ?_
    refine AL_cons (LR_move (at_tmp 13 _) rfl) (sS (sT1 rfl) sB0 sF0) ?_
    refine AL_cutAt 4 ⟨[(0, .inl (agg [is (U8 a0_0), is (U8 a0_1)])), (1, .inl (agg [is (U8 a1_0), is (U8 a1_1)])), (2, .inl (is (U8 a2))), (3, .inl (is (U64 a3))), (4, .inr (.inl (4, 0))), (5, .inr (.inl (5, 0))), (8, .inl (is (U64 (0#64)))), (9, .inl (is (U8 (0#8)))), (11, .inl (agg [is (U8 a0_0), is (U8 a0_1)])), (12, .inl (is (Bl y20))), (13, .inl (is (Bl (!y20)))), (14, .inl (is (Bl (!y20)))), (18, .inl (is (Bl ((!y20) || (!(F40 a1_0 a1_1))))))], [(4, pb 23 [is (U8 a0_0), is (U8 a0_1)]), (5, pb 23 [is (U8 a1_0), is (U8 a1_1)])]⟩ ?_ ?_
    · cases hb : !y20
      · skip
        refine AL_cons (LR_on rfl rfl rfl (LR_loads (at_tmp 5 _) ag23 sz23 rfl rfl rfl)) (sS (sT rfl (sT1 rfl)) (sB1 rfl) sF0) ?_
        refine AL_cons (LR_on rfl rfl rfl (LR_call Hfaa.func40 rfl rfl (C40 a1_0 a1_1 _ rfl) (all_cons (at_tmp 15 _) all_nil) rfl)) (sS (sT rfl (sA (sT1 rfl) sT0)) sB0 sF0) ?_
        refine AL_cons (LR_on rfl rfl rfl (LR_un (at_tmp 16 _) (not_Bl (F40 a1_0 a1_1)) rfl)) (sS (sT rfl (sT1 rfl)) sB0 sF0) ?_
        refine AL_cons (LR_pick (b := false) (at_tmp 14 _) (at_c (v' := Bl true) rfl) (at_tmp 17 _) rfl) (sS (sA (sT1 rfl) (sA sT0 (sT1 rfl))) sB0 sF0) ?_
        exact AL_nil ⟨rfl, weak0 ((sT rfl (sT rfl (sT rfl (sT rfl (sT rfl (sT rfl (sT rfl (sT rfl (sT rfl (sT rfl (sT rfl (sT rfl (sT rfl sT0)))))))))))))) (sub_keep (sub_keep sub_nil))⟩
      · skip
        refine AL_cons (LR_off (b := true) rfl rfl rfl rfl) (sS (sT1 rfl) sB0 sF0) ?_
        refine AL_cons (LR_off (b := true) rfl rfl rfl rfl) (sS (sT1 rfl) sB0 sF0) ?_
        refine AL_cons (LR_off (b := true) rfl rfl rfl rfl) (sS (sT1 rfl) sB0 sF0) ?_
        refine AL_cons (LR_pick (b := true) (at_tmp 14 _) (at_c (v' := Bl true) rfl) (at_tmp 17 _) rfl) (sS (sA (sT1 rfl) (sA sT0 (sT1 rfl))) sB0 sF0) ?_
        exact AL_nil ⟨rfl, weak0 ((sT rfl (sT rfl (sT rfl (sT rfl (sT rfl (sT rfl (sT rfl (sT rfl (sT rfl (sT rfl (sT rfl (sT rfl (sT rfl sT0)))))))))))))) (sub_keep (sub_keep sub_nil))⟩
    refine AL_nil ?_
    exact thenN (cutLeaf (v := (!y20) || (!(F40 a1_0 a1_1))) hr (weak0 ((sT rfl (sT rfl (sT rfl (sT rfl (sT rfl sT0)))))) (sub_keep (sub_keep sub_nil))))
  · rintro x1 hr
    show AW Hfaa.prog _ _ _ ⟨[(2, .inl (is (U8 a2))), (3, .inl (is (U64 a3))), (4, .inr (.inl (4, 0))), (5, .inr (.inl (5, 0))), (18, .inl (is (Bl x1)))], [(4, pb 23 [is (U8 a0_0), is (U8 a0_1)]), (5, pb 23 [is (U8 a1_0), is (U8 a1_1)])]⟩
    have hr : some r = F114_1 N a0_0 a0_1 a1_0 a1_1 a2 a3 x1 := hr
    refine AW_condT (b := x1) rfl (fun h => ?_) (fun h => ?_)
    · have hr := hr.trans (cond_t h)
      clear h
      refine AW_seq1 ?_
      refine AW_region ?_
      refine AL_cons (LR_assign (at_c (v' := U64 (0#64)) rfl) rfl) (sS sT0 sB0 sF0) ?_
      refine AL_cons (LR_assign (at_c (v' := U8 (0#8)) rfl) rfl) (sS sT0 sB0 sF0) ?_
      refine AL_nil ?_
      refine thenN ?_
      refine AW_ret ?_
      refine thenR ?_
      obtain rfl := Option.some.inj hr
      exact res2 rfl (rvT rfl) (rvT rfl)
    · have hr := hr.trans (cond_f h)
      clear h
      refine AW_skip ?_
      refine thenN ?_
      refine AW_cut (σ := BitVec 64 × Bool × Int × Bool × Nat × Nat) (fun v => ⟨[(2, .inl (is (U8 a2))), (3, .inl (is (U64 a3))), (4, .inr (.inl (4, 0))), (5, .inr (.inl (5, 0))), (10, .inr (.inl (10, 0)))], [(4, pb 23 [is (U8 a0_0), is (U8 a0_1)]), (5, pb 23 [is (U8 a1_0), is (U8 a1_1)]), (10, pb 175 [is (U64 v.1), is (Bl v.2.1), is (I8 v.2.2.1), is (Bl v.2.2.2.1), big v.2.2.2.2.1, big v.2.2.2.2.2])]⟩) (fun v => some r = F114_2 N a0_0 a0_1 a1_0 a1_1 a2 a3 v.1 v.2.1 v.2.2.1 v.2.2.2.1 v.2.2.2.2.1 v.2.2.2.2.2) ?_ ?_
      · skip
        refine AW_region ?_
        refine AL_cons (LR_loads (at_tmp 4 _) ag23 sz23 rfl rfl rfl) (sS (sT1 rfl) (sB1 rfl) sF0) ?_
        refine AL_cons (LR_move (at_tmp 3 _) rfl) (sS (sT1 rfl) sB0 sF0) ?_
        obtain ⟨y19, hy19, hr⟩ := bind_some hr
        refine AL_cons (LR_call Hfaa.func144 rfl rfl (C144 N a0_0 a0_1 a3 y19 hy19) (all_cons (at_tmp 19 _) (all_cons (at_tmp 20 _) all_nil)) rfl) (sS (sA (sT1 rfl) (sA (sT1 rfl) sT0)) sB0 sF0) ?_
        refine AL_cons (zl175 rfl) (sS sT0 sB0 (sF1 rfl)) ?_
        refine AL_cons (LR_store (at_tmp 10 _) (at_tmp 21 _) (cells_agg _) (onC (one_is rfl) (onC (one_is rfl) (onC (one_is rfl) (onC (one_is rfl) (onC (one_big _) (onC (one_big _) onN)))))) sz175 rfl rfl) (sS (sA (sT1 rfl) (sT1 rfl)) (sB1 rfl) sF0) ?_
        refine AL_nil ?_
        exact thenN (cutLeaf (v := (y19.1, y19.2.1, y19.2.2.1, y19.2.2.2.1, y19.2.2.2.2.1, y19.2.2.2.2.2)) hr (weak0 ((sT rfl (sT rfl (sT rfl (sT rfl (sT rfl sT0)))))) (sub_keep (sub_keep (sub_keep sub_nil)))))
      · rintro ⟨x2, x3, x4, x5, x6, x7⟩ hr
        show AW Hfaa.prog _ _ _ ⟨[(2, .inl (is (U8 a2))), (3, .inl (is (U64 a3))), (4, .inr (.inl (4, 0))), (5, .inr (.inl (5, 0))), (10, .inr (.inl (10, 0)))], [(4, pb 23 [is (U8 a0_0), is (U8 a0_1)]), (5, pb 23 [is (U8 a1_0), is (U8 a1_1)]), (10, pb 175 [is (U64 x2), is (Bl x3), is (I8 x4), is (Bl x5), big x6, big x7])]⟩
        have hr : some r = F114_2 N a0_0 a0_1 a1_0 a1_1 a2 a3 x2 x3 x4 x5 x6 x7 := hr
        refine AW_seq1 ?_
        refine AW_seq1 ?_
        refine AW_region ?_
        refine AL_cons (LR_fieldAddr (off := 0) (o := 2) (at_tmp 10 _) (fun b w => fa175_2 b 0 w) rfl) (sS (sT1 rfl) sB0 sF0) ?_
        refine AL_cons (LR_load (at_tmp 22 _) na110 rfl rfl) (sS (sT1 rfl) (sB1 rfl) sF0) ?_
        refine AL_nil ?_
        refine thenN ?_
        refine AW_block ?_
        refine AW_cut (σ := Bool) (fun v => ⟨[(2, .inl (is (U8 a2))), (3, .inl (is (U64 a3))), (4, .inr (.inl (4, 0))), (5, .inr (.inl (5, 0))), (10, .inr (.inl (10, 0))), (23, .inl (is (I8 x4))), (24, .inl (is (Bl v)))], [(4, pb 23 [is (U8 a0_0), is (U8 a0_1)]), (5, pb 23 [is (U8 a1_0), is (U8 a1_1)]), (10, pb 175 [is (U64 x2), is (Bl x3), is (I8 x4), is (Bl x5), big x6, big x7])]⟩) (fun v => some r = F114_3 N a0_0 a0_1 a1_0 a1_1 a2 a3 x2 x3 x4 x5 x6 x7 v) ?_ ?_
        · skip
          refine AW_region ?_
          refine AL_cons (LR_bin (at_tmp 23 _) (at_c (v' := I8 4) rfl) (eql_I8 x4 4) rfl) (sS (sA (sT1 rfl) sT0) sB0 sF0) ?_
          refine AL_cons (LR_assign (at_tmp 25 _) rfl) (sS (sT1 rfl) sB0 sF0) ?_
          refine AL_nil ?_
          exact thenN (cutLeaf (v := x4 == 4) hr (weak0 ((sT rfl (sT rfl (sT rfl (sT rfl (sT rfl (sT rfl (sT rfl sT0)))))))) (sub_keep (sub_keep (sub_keep sub_nil)))))
        · rintro x8 hr
          show AW Hfaa.prog _ _ _ ⟨[(2, .inl (is (U8 a2))), (3, .inl (is (U64 a3))), (4, .inr (.inl (4, 0))), (5, .inr (.inl (5, 0))), (10, .inr (.inl (10, 0))), (23, .inl (is (I8 x4))), (24, .inl (is (Bl x8)))], [(4, pb 23 [is (U8 a0_0), is (U8 a0_1)]), (5, pb 23 [is (U8 a1_0), is (U8 a1_1)]), (10, pb 175 [is (U64 x2), is (Bl x3), is (I8 x4), is (Bl x5), big x6, big x7])]⟩
          have hr : some r = F114_3 N a0_0 a0_1 a1_0 a1_1 a2 a3 x2 x3 x4 x5 x6 x7 x8 := hr
          refine AW_condT (b := x8) rfl (fun h => ?_) (fun h => ?_)
          · have hr := hr.trans (cond_t h)
            clear h
            refine AW_seq1 ?_
            obtain ⟨y13, hy13, hr⟩ := lt_some hr
            obtain ⟨y14, hy14, hr⟩ := lt_some hr
            refine AW_draw mixed
              (lrC (LR_loads (at_tmp 5 _) ag23 sz23 rfl rfl rfl)
              (lrC (LR_call Hfaa.func66 rfl rfl (C66 a1_0 a1_1 y13 hy13) (all_cons (at_tmp 26 _) all_nil) rfl)
              (lrC (LR_loads (at_tmp 4 _) ag23 sz23 rfl rfl rfl)
              (lrC (LR_move (at_tmp 3 _) rfl)
              (lrC (LR_move (at_tmp 3 _) rfl)
              (lrC (LR_call Hfaa.func216 rfl rfl (C216 a0_0 a0_1 a3 a3 y14 hy14) (all_cons (at_tmp 28 _) (all_cons (at_tmp 29 _) (all_cons (at_tmp 30 _) all_nil))) rfl)
              (lrC (LR_assign (at_tmp 27 _) rfl)
              (lrC (LR_assign (at_tmp 31 _) rfl)
              lrN))))))))
              (by kernel_rfl)
              (saC (sS (sT1 rfl) (sB1 rfl) sF0) (saC (sS (sA (sT1 rfl) sT0) sB0 sF0) (saC (sS (sT1 rfl) (sB1 rfl) sF0) (saC (sS (sT1 rfl) sB0 sF0) (saC (sS (sT1 rfl) sB0 sF0) (saC (sS (sA (sT1 rfl) (sA (sT1 rfl) (sA (sT1 rfl) sT0))) sB0 sF0) (saC (sS (sT1 rfl) sB0 sF0) (saC (sS (sT1 rfl) sB0 sF0) saN)))))))) ?_
            refine thenN ?_
            refine AW_ret ?_
            refine blR ?_
            refine thenR ?_
            obtain rfl := Option.some.inj hr
            exact res2 rfl (rvT rfl) (rvT rfl)
          · have hr := hr.trans (cond_f h)
            clear h
            refine AW_cut (σ := Bool) (fun v => ⟨[(2, .inl (is (U8 a2))), (5, .inr (.inl (5, 0))), (10, .inr (.inl (10, 0))), (32, .inl (is (Bl v)))], [(5, pb 23 [is (U8 a1_0), is (U8 a1_1)]), (10, pb 175 [is (U64 x2), is (Bl x3), is (I8 x4), is (Bl x5), big x6, big x7])]⟩) (fun v => some r = F114_4 N a1_0 a1_1 a2 x2 x3 x4 x5 x6 x7 v) ?_ ?_
            · skip
              refine AW_region ?_
              refine AL_cons (LR_bin (at_tmp 23 _) (at_c (v' := I8 3) rfl) (eql_I8 x4 3) rfl) (sS (sA (sT1 rfl) sT0) sB0 sF0) ?_
              refine AL_cons (LR_assign (at_tmp 33 _) rfl) (sS (sT1 rfl) sB0 sF0) ?_
              refine AL_nil ?_
              exact thenN (cutLeaf (v := x4 == 3) hr (weak0 ((sT rfl (sT rfl (sT rfl (sT rfl sT0))))) (sub_drop (sub_keep (sub_keep sub_nil)))))
            · rintro x9 hr
              show AW Hfaa.prog _ _ _ ⟨[(2, .inl (is (U8 a2))), (5, .inr (.inl (5, 0))), (10, .inr (.inl (10, 0))), (32, .inl (is (Bl x9)))], [(5, pb 23 [is (U8 a1_0), is (U8 a1_1)]), (10, pb 175 [is (U64 x2), is (Bl x3), is (I8 x4), is (Bl x5), big x6, big x7])]⟩
              have hr : some r = F114_4 N a1_0 a1_1 a2 x2 x3 x4 x5 x6 x7 x9 := hr
              refine AW_condT (b := x9) rfl (fun h => ?_) (fun h => ?_)
              · have hr := hr.trans (cond_t h)
                clear h
                refine AW_seq1 ?_
                refine AW_region ?_
                refine AL_cons (LR_loads (at_tmp 5 _) ag23 sz23 rfl rfl rfl) (sS (sT1 rfl) (sB1 rfl) sF0) ?_
                refine AL_cons (LR_fieldAddr (off := 0) (o := 1) (at_tmp 10 _) (fun b w => fa175_1 b 0 w) rfl) (sS (sT1 rfl) sB0 sF0) ?_
                refine AL_cons (LR_load (at_tmp 35 _) na4 rfl rfl) (sS (sT1 rfl) (sB1 rfl) sF0) ?_
                obtain ⟨y16, hy16, hr⟩ := lt_some hr
                refine AL_cons (LR_call Hfaa.func67 rfl rfl (C67 a1_0 a1_1 x3 y16 hy16) (all_cons (at_tmp 34 _) (all_cons (at_tmp 36 _) all_nil)) rfl) (sS (sA (sT1 rfl) (sA (sT1 rfl) sT0)) sB0 sF0) ?_
                refine AL_cons (LR_assign (at_tmp 37 _) rfl) (sS (sT1 rfl) sB0 sF0) ?_
                refine AL_cons (LR_assign (at_c (v' := U8 (0#8)) rfl) rfl) (sS sT0 sB0 sF0) ?_
                refine AL_nil ?_
                refine thenN ?_
                refine AW_ret ?_
                refine blR ?_
                refine thenR ?_
                obtain rfl := Option.some.inj hr
                exact res2 rfl (rvT rfl) (rvT rfl)
              · have hr := hr.trans (cond_f h)
                clear h
                refine AW_skip ?_
                refine blN ?_
                refine thenN ?_
                refine AW_seq1 ?_
                refine AW_region ?_
                refine AL_cons (LR_loads (at_tmp 5 _) ag23 sz23 rfl rfl rfl) (sS (sT1 rfl) (sB1 rfl) sF0) ?_
                refine AL_cons (LR_move (at_tmp 2 _) rfl) (sS (sT1 rfl) sB0 sF0) ?_
                refine AL_cons (LR_fieldAddr (off := 0) (o := 3) (at_tmp 10 _) (fun b w => fa175_3 b 0 w) rfl) (sS (sT1 rfl) sB0 sF0) ?_
                refine AL_cons (LR_loads (at_tmp 40 _) ag119 sz119 rfl rfl rfl) (sS (sT1 rfl) (sB1 rfl) sF0) ?_
                obtain ⟨y18, hy18, hr⟩ := bind_some hr
                refine AL_cons (LR_call Hfaa.func136 rfl rfl (C136 N a1_0 a1_1 a2 x5 x6 x7 y18 hy18) (all_cons (at_tmp 38 _) (all_cons (at_tmp 39 _) (all_cons (at_tmp 41 _) all_nil))) rfl) (sS (sA (sT1 rfl) (sA (sT1 rfl) (sA (sT1 rfl) sT0))) sB0 sF0) ?_
                refine AL_cons (LR_extract (at_tmp 42 _) rfl rfl) (sS (sT1 rfl) sB0 sF0) ?_
                refine AL_cons (LR_extract (at_tmp 42 _) rfl rfl) (sS (sT1 rfl) sB0 sF0) ?_
                refine AL_cons (LR_assign (at_tmp 43 _) rfl) (sS (sT1 rfl) sB0 sF0) ?_
                refine AL_cons (LR_assign (at_tmp 44 _) rfl) (sS (sT1 rfl) sB0 sF0) ?_
                refine AL_nil ?_
                refine thenN ?_
                refine AW_ret ?_
                obtain rfl := Option.some.inj hr
                exact res2 rfl (rvT rfl) (rvT rfl)
/-- exact.Convert -/
def F48_1 (N : Nat) (x1 : BitVec 64) : Option (BitVec 64) := some x1
def F48 (N : Nat) (a0_0 : BitVec 8) (a0_1 : BitVec 8) (a1_0 : BitVec 8) (a1_1 : BitVec 8) (a2 : BitVec 8) (a3 : BitVec 64) : Option (BitVec 64) := (F114 N a0_0 a0_1 a1_0 a1_1 a2 a3).bind fun y2 => F48_1 N y2.1
theorem C48 (N : Nat) (a0_0 : BitVec 8) (a0_1 : BitVec 8) (a1_0 : BitVec 8) (a1_1 : BitVec 8) (a2 : BitVec 8) (a3 : BitVec 64) (r : BitVec 64) (hr : some r = F48 N a0_0 a0_1 a1_0 a1_1 a2 a3) : Aw.Fn Hfaa.prog 48 [agg [is (U8 a0_0), is (U8 a0_1)], agg [is (U8 a1_0), is (U8 a1_1)], is (U8 a2), is (U64 a3)] (is (U64 r)) := by
  refine fn_intro Hfaa.func48 rfl rfl rfl ?_
  intro bn0 w0 H0
  refine AW_seq1 ?_
  refine AW_region ?_
  refine AL_cons (LR_box (at_tmp 0 _) (cells_agg _) rfl) (sS (sT1 rfl) sB0 (sF1 rfl)) ?_
  refine AL_cons (LR_box (at_tmp 1 _) (cells_agg _) rfl) (sS (sT1 rfl) sB0 (sF1 rfl)) ?_
  refine AL_cons (LR_assign (at_c (v' := U64 (0#64)) rfl) rfl) (sS sT0 sB0 sF0) ?_
  refine AL_nil ?_
  refine thenN ?_
  refine AW_cut (σ := BitVec 64) (fun v => ⟨[(9, .inl (is (U64 v)))], []⟩) (fun v => some r = F48_1 N v) ?_ ?_
  · skip
    refine AW_region ?_
    refine AL_cons (LR_loads (at_tmp 4 _) ag23 sz23 rfl rfl rfl) (sS (sT1 rfl) (sB1 rfl) sF0) ?_
    refine AL_cons (LR_loads (at_tmp 5 _) ag23 sz23 rfl rfl rfl) (sS (sT1 rfl) (sB1 rfl) sF0) ?_
    refine AL_cons (LR_move (at_tmp 2 _) rfl) (sS (sT1 rfl) sB0 sF0) ?_
    refine AL_cons (LR_move (at_tmp 3 _) rfl) (sS (sT1 rfl) sB0 sF0) ?_
    obtain ⟨y2, hy2, hr⟩ := bind_some hr
    refine AL_cons (LR_call Hfaa.func114 rfl rfl (C114 N a0_0 a0_1 a1_0 a1_1 a2 a3 y2 hy2) (all_cons (at_tmp 12 _) (all_cons (at_tmp 13 _) (all_cons (at_tmp 14 _) (all_cons (at_tmp 15 _) all_nil)))) rfl) (sS (sA (sT1 rfl) (sA (sT1 rfl) (sA (sT1 rfl) (sA (sT1 rfl) sT0)))) sB0 sF0) ?_
    refine AL_cons (LR_move (at_tmp 16 _) rfl) (sS (sT1 rfl) sB0 sF0) ?_
    refine AL_cons (LR_extract (at_tmp 11 _) rfl rfl) (sS (sT1 rfl) sB0 sF0) ?_
    refine AL_cons (LR_extract (at_tmp 11 _) rfl rfl) (sS (sT1 rfl) sB0 sF0) ?_
    refine AL_cons (LR_assign (at_tmp 17 _) rfl) (sS (sT1 rfl) sB0 sF0) ?_
    refine AL_cons (LR_assign (at_tmp 18 _) rfl) (sS (sT1 rfl) sB0 sF0) ?_
    refine AL_nil ?_
    exact thenN (cutLeaf (v := y2.1) hr (weak0 ((sT rfl sT0)) (sub_drop (sub_drop sub_nil))))
  · rintro x1 hr
    show AW Hfaa.prog _ _ _ ⟨[(9, .inl (is (U64 x1)))], []⟩
    have hr : some r = F48_1 N x1 := hr
    refine AW_seq1 ?_
    refine AW_region ?_
    refine AL_cons (LR_move (at_tmp 9 _) rfl) (sS (sT1 rfl) sB0 sF0) ?_
    refine AL_cons (LR_assign (at_tmp 19 _) rfl) (sS (sT1 rfl) sB0 sF0) ?_
    refine AL_nil ?_
    refine thenN ?_
    refine AW_ret ?_
    obtain rfl := Option.some.inj hr
    exact res1 rfl (rvT rfl)
/-- dec/dmodel.matched -/
def F375_1 (N : Nat) (x1 : Int) : Option (Int) := some x1
def F375_3 (N : Nat) (a0 : List UInt8) (a1 : List UInt8) (x2 : Int) (x3 : Bool) : Option ((Int) ⊕ (Int)) := bif x3 then some (.inl (w64 (x2 + 1))) else (F375_1 N x2).map Sum.inr
def F375_L2b (N : Nat) (a0 : List UInt8) (a1 : List UInt8) (x2 : Int) : Option ((Int) ⊕ (Int)) := bif decide (x2 < (a0.length : Int)) then bif decide (x2 < (a1.length : Int)) then bif (decide (0 ≤ (x2 : Int)) && decide ((x2 : Int) < (a0.length : Int))) then bif (decide (0 ≤ (x2 : Int)) && decide ((x2 : Int) < (a1.length : Int))) then F375_3 N a0 a1 x2 ((((a0.getD ((x2 : Int)).toNat 0).toBitVec) ||| (32#8)) == ((a1.getD ((x2 : Int)).toNat 0).toBitVec)) else none else none else F375_3 N a0 a1 x2 false else F375_3 N a0 a1 x2 false
def F375_L2 (N : Nat) (a0 : List UInt8) (a1 : List UInt8) : (Int) → Option ((Int) ⊕ (Int)) := fun v => F375_L2b N a0 a1 v
def F375 (N : Nat) (a0 : List UInt8) (a1 : List UInt8) : Option (Int) := iterL (F375_L2 N a0 a1) N 0
theorem C375 (N : Nat) (a0 : List UInt8) (a1 : List UInt8) (r : Int) (hr : some r = F375 N a0 a1) : Aw.Fn Hfaa.prog 375 [is (Sv a0), is (Sv a1)] (is (I64 r)) := by
  refine fn_intro Hfaa.func375 rfl rfl rfl ?_
  intro bn0 w0 H0
  refine AW_seq1 ?_
  refine AW_region ?_
  refine AL_cons (LR_assign (at_c (v' := I64 0) rfl) rfl) (sS sT0 sB0 sF0) ?_
  refine AL_nil ?_
  refine thenN ?_
  refine AW_seq1 ?_
  refine AW_region ?_
  refine AL_cons (LR_assign (at_c (v' := I64 0) rfl) rfl) (sS sT0 sB0 sF0) ?_
  refine AL_nil ?_
  refine thenN ?_
  refine AW_cut (σ := Int) (fun v => ⟨[(5, .inl (is (I64 v)))], []⟩) (fun v => some r = F375_1 N v) ?_ ?_
  · skip
    refine AW_block ?_
    refine AW_iterR (σ := Int) (r := r) (x0 := 0) (emb := fun v => ⟨[(0, .inl (is (Sv a0))), (1, .inl (is (Sv a1))), (5, .inl (is (I64 v)))], []⟩) ?_ hr ?_
    · exact weak0 ((sT rfl (sT rfl (sT rfl sT0)))) sub_nil
    rintro x2 out2 hr
    show AW Hfaa.prog _ _ _ ⟨[(0, .inl (is (Sv a0))), (1, .inl (is (Sv a1))), (5, .inl (is (I64 x2)))], []⟩
    have hr : some out2 = F375_L2b N a0 a1 x2 := hr
    refine AW_seq1 ?_
    refine AW_cut (σ := Bool) (fun v => ⟨[(0, .inl (is (Sv a0))), (1, .inl (is (Sv a1))), (5, .inl (is (I64 x2))), (25, .inl (is (Bl v)))], []⟩) (fun v => some out2 = F375_3 N a0 a1 x2 v) ?_ ?_
    · skip
      rcases bool_em (decide (x2 < (a0.length : Int))) with hb31 | hb31
      · have hr := hr.trans (cond_f hb31)
        refine AW_draw mixed
          (lrC (LR_move (at_tmp 5 _) rfl)
          (lrC (LR_move (at_tmp 0 _) rfl)
          (lrC (LR_bi1 (at_tmp 7 _) (len_S Hfaa.underlying9 a0) rfl)
          (lrC (LR_asB (LR_bin (at_tmp 6 _) (at_tmp 8 _) (lss_I64 x2 (a0.length : Int)) rfl) hb31)
          (lrC (LR_move (at_tmp 9 _) rfl)
          (lrC (LR_off (b := false) rfl rfl rfl rfl)
          (lrC (LR_off (b := false) rfl rfl rfl rfl)
          (lrC (LR_off (b := false) rfl rfl rfl rfl)
          (lrC (LR_off (b := false) rfl rfl rfl rfl)
          (lrC (LR_pick (b := false) (at_tmp 10 _) (at_tmp 14 _) (at_c (v' := Bl false) rfl) rfl)
          (lrC (LR_move (at_tmp 15 _) rfl)
          (lrC (LR_off (b := false) rfl rfl rfl rfl)
          (lrC (LR_off (b := false) rfl rfl rfl rfl)
          (lrC (LR_off (b := false) rfl rfl rfl rfl)
          (lrC (LR_off (b := false) rfl rfl rfl rfl)
          (lrC (LR_off (b := false) rfl rfl rfl rfl)
          (lrC (LR_off (b := false) rfl rfl rfl rfl)
          (lrC (LR_off (b := false) rfl rfl rfl rfl)
          (lrC (LR_off (b := false) rfl rfl rfl rfl)
          (lrC (LR_pick (b := false) (at_tmp 16 _) (at_tmp 24 _) (at_c (v' := Bl false) rfl) rfl)
          lrN))))))))))))))))))))
          (by kernel_rfl)
          (saC (sS (sT1 rfl) sB0 sF0) (saC (sS (sT1 rfl) sB0 sF0) (saC (sS (sT1 rfl) sB0 sF0) (saC (sS (sA (sT1 rfl) (sT1 rfl)) sB0 sF0) (saC (sS (sT1 rfl) sB0 sF0) (saC (sS (sT1 rfl) sB0 sF0) (saC (sS (sT1 rfl) sB0 sF0) (saC (sS (sT1 rfl) sB0 sF0) (saC (sS (sT1 rfl) sB0 sF0) (saC (sS (sA (sT1 rfl) (sA (sT1 rfl) sT0)) sB0 sF0) (saC (sS (sT1 rfl) sB0 sF0) (saC (sS (sT1 rfl) sB0 sF0) (saC (sS (sT1 rfl) sB0 sF0) (saC (sS (sT1 rfl) sB0 sF0) (saC (sS (sT1 rfl) sB0 sF0) (saC (sS (sT1 rfl) sB0 sF0) (saC (sS (sT1 rfl) sB0 sF0) (saC (sS (sT1 rfl) sB0 sF0) (saC (sS (sT1 rfl) sB0 sF0) (saC (sS (sA (sT1 rfl) (sA (sT1 rfl) sT0)) sB0 sF0) saN)))))))))))))))))))) ?_
        exact thenN (cutLeaf (v := false) hr (weak0 ((sT rfl (sT rfl (sT rfl (sT rfl sT0))))) sub_nil))
      · have hr := hr.trans (cond_t hb31)
        rcases bool_em (decide (x2 < (a1.length : Int))) with hb32 | hb32
        · have hr := hr.trans (cond_f hb32)
          refine AW_draw mixed
            (lrC (LR_move (at_tmp 5 _) rfl)
            (lrC (LR_move (at_tmp 0 _) rfl)
            (lrC (LR_bi1 (at_tmp 7 _) (len_S Hfaa.underlying9 a0) rfl)
            (lrC (LR_asB (LR_bin (at_tmp 6 _) (at_tmp 8 _) (lss_I64 x2 (a0.length : Int)) rfl) hb31)
            (lrC (LR_move (at_tmp 9 _) rfl)
            (lrC (LR_on rfl rfl rfl (LR_move (at_tmp 5 _) rfl))
            (lrC (LR_on rfl rfl rfl (LR_move (at_tmp 1 _) rfl))
            (lrC (LR_on rfl rfl rfl (LR_bi1 (at_tmp 12 _) (len_S Hfaa.underlying9 a1) rfl))
            (lrC (LR_on rfl rfl rfl (LR_asB (LR_bin (at_tmp 11 _) (at_tmp 13 _) (lss_I64 x2 (a1.length : Int)) rfl) hb32))
            (lrC (LR_pick (b := true) (at_tmp 10 _) (at_tmp 14 _) (at_c (v' := Bl false) rfl) rfl)
            (lrC (LR_move (at_tmp 15 _) rfl)
            (lrC (LR_off (b := false) rfl rfl rfl rfl)
            (lrC (LR_off (b := false) rfl rfl rfl rfl)
            (lrC (LR_off (b := false) rfl rfl rfl rfl)
            (lrC (LR_off (b := false) rfl rfl rfl rfl)
            (lrC (LR_off (b := false) rfl rfl rfl rfl)
            (lrC (LR_off (b := false) rfl rfl rfl rfl)
            (lrC (LR_off (b := false) rfl rfl rfl rfl)
            (lrC (LR_off (b := false) rfl rfl rfl rfl)
            (lrC (LR_pick (b := false) (at_tmp 16 _) (at_tmp 24 _) (at_c (v' := Bl false) rfl) rfl)
            lrN))))))))))))))))))))
            (by kernel_rfl)
            (saC (sS (sT1 rfl) sB0 sF0) (saC (sS (sT1 rfl) sB0 sF0) (saC (sS (sT1 rfl) sB0 sF0) (saC (sS (sA (sT1 rfl) (sT1 rfl)) sB0 sF0) (saC (sS (sT1 rfl) sB0 sF0) (saC (sS (sT rfl (sT1 rfl)) sB0 sF0) (saC (sS (sT rfl (sT1 rfl)) sB0 sF0) (saC (sS (sT rfl (sT1 rfl)) sB0 sF0) (saC (sS (sT rfl (sA (sT1 rfl) (sT1 rfl))) sB0 sF0) (saC (sS (sA (sT1 rfl) (sA (sT1 rfl) sT0)) sB0 sF0) (saC (sS (sT1 rfl) sB0 sF0) (saC (sS (sT1 rfl) sB0 sF0) (saC (sS (sT1 rfl) sB0 sF0) (saC (sS (sT1 rfl) sB0 sF0) (saC (sS (sT1 rfl) sB0 sF0) (saC (sS (sT1 rfl) sB0 sF0) (saC (sS (sT1 rfl) sB0 sF0) (saC (sS (sT1 rfl) sB0 sF0) (saC (sS (sT1 rfl) sB0 sF0) (saC (sS (sA (sT1 rfl) (sA (sT1 rfl) sT0)) sB0 sF0) saN)))))))))))))))))))) ?_
          exact thenN (cutLeaf (v := false) hr (weak0 ((sT rfl (sT rfl (sT rfl (sT rfl sT0))))) sub_nil))
        · have hr := hr.trans (cond_t hb32)
          obtain ⟨hg31, hr⟩ := guard_some hr
          obtain ⟨hg32, hr⟩ := guard_some hr
          refine AW_draw mixed
            (lrC (LR_move (at_tmp 5 _) rfl)
            (lrC (LR_move (at_tmp 0 _) rfl)
            (lrC (LR_bi1 (at_tmp 7 _) (len_S Hfaa.underlying9 a0) rfl)
            (lrC (LR_asB (LR_bin (at_tmp 6 _) (at_tmp 8 _) (lss_I64 x2 (a0.length : Int)) rfl) hb31)
            (lrC (LR_move (at_tmp 9 _) rfl)
            (lrC (LR_on rfl rfl rfl (LR_move (at_tmp 5 _) rfl))
            (lrC (LR_on rfl rfl rfl (LR_move (at_tmp 1 _) rfl))
            (lrC (LR_on rfl rfl rfl (LR_bi1 (at_tmp 12 _) (len_S Hfaa.underlying9 a1) rfl))
            (lrC (LR_on rfl rfl rfl (LR_asB (LR_bin (at_tmp 11 _) (at_tmp 13 _) (lss_I64 x2 (a1.length : Int)) rfl) hb32))
            (lrC (LR_pick (b := true) (at_tmp 10 _) (at_tmp 14 _) (at_c (v' := Bl false) rfl) rfl)
            (lrC (LR_move (at_tmp 15 _) rfl)
            (lrC (LR_on rfl rfl rfl (LR_move (at_tmp 0 _) rfl))
            (lrC (LR_on rfl rfl rfl (LR_move (at_tmp 5 _) rfl))
            (lrC (LR_on rfl rfl rfl (LR_indexS (i := (x2 : Int)) Hfaa.underlying9 (at_tmp 17 _) (at_tmp 18 _) (dand hg31) rfl))
            (lrC (LR_on rfl rfl rfl (LR_bin (at_tmp 19 _) (at_c (v' := U8 (32#8)) rfl) (or_U8 ((a0.getD ((x2 : Int)).toNat 0).toBitVec) (32#8)) rfl))
            (lrC (LR_on rfl rfl rfl (LR_move (at_tmp 1 _) rfl))
            (lrC (LR_on rfl rfl rfl (LR_move (at_tmp 5 _) rfl))
            (lrC (LR_on rfl rfl rfl (LR_indexS (i := (x2 : Int)) Hfaa.underlying9 (at_tmp 21 _) (at_tmp 22 _) (dand hg32) rfl))
            (lrC (LR_on rfl rfl rfl (LR_bin (at_tmp 20 _) (at_tmp 23 _) (eql_U8 (((a0.getD ((x2 : Int)).toNat 0).toBitVec) ||| (32#8)) ((a1.getD ((x2 : Int)).toNat 0).toBitVec)) rfl))
            (lrC (LR_pick (b := true) (at_tmp 16 _) (at_tmp 24 _) (at_c (v' := Bl false) rfl) rfl)
            lrN))))))))))))))))))))
            (by kernel_rfl)
            (saC (sS (sT1 rfl) sB0 sF0) (saC (sS (sT1 rfl) sB0 sF0) (saC (sS (sT1 rfl) sB0 sF0) (saC (sS (sA (sT1 rfl) (sT1 rfl)) sB0 sF0) (saC (sS (sT1 rfl) sB0 sF0) (saC (sS (sT rfl (sT1 rfl)) sB0 sF0) (saC (sS (sT rfl (sT1 rfl)) sB0 sF0) (saC (sS (sT rfl (sT1 rfl)) sB0 sF0) (saC (sS (sT rfl (sA (sT1 rfl) (sT1 rfl))) sB0 sF0) (saC (sS (sA (sT1 rfl) (sA (sT1 rfl) sT0)) sB0 sF0) (saC (sS (sT1 rfl) sB0 sF0) (saC (sS (sT rfl (sT1 rfl)) sB0 sF0) (saC (sS (sT rfl (sT1 rfl)) sB0 sF0) (saC (sS (sT rfl (sA (sT1 rfl) (sT1 rfl))) sB0 sF0) (saC (sS (sT rfl (sA (sT1 rfl) sT0)) sB0 sF0) (saC (sS (sT rfl (sT1 rfl)) sB0 sF0) (saC (sS (sT rfl (sT1 rfl)) sB0 sF0) (saC (sS (sT rfl (sA (sT1 rfl) (sT1 rfl))) sB0 sF0) (saC (sS (sT rfl (sA (sT1 rfl) (sT1 rfl))) sB0 sF0) (saC (sS (sA (sT1 rfl) (sA (sT1 rfl) sT0)) sB0 sF0) saN)))))))))))))))))))) ?_
          exact thenN (cutLeaf (v := (((a0.getD ((x2 : Int)).toNat 0).toBitVec) ||| (32#8)) == ((a1.getD ((x2 : Int)).toNat 0).toBitVec)) hr (weak0 ((sT rfl (sT rfl (sT rfl (sT rfl sT0))))) sub_nil))
    · rintro x3 hr
      show AW Hfaa.prog _ _ _ ⟨[(0, .inl (is (Sv a0))), (1, .inl (is (Sv a1))), (5, .inl (is (I64 x2))), (25, .inl (is (Bl x3)))], []⟩
      have hr : some out2 = F375_3 N a0 a1 x2 x3 := hr
      refine AW_condT (b := x3) rfl (fun h => ?_) (fun h => ?_)
      · have hr := hr.trans (cond_t h)
        clear h
        refine AW_skip ?_
        refine thenN ?_
        refine AW_block ?_
        refine AW_region ?_
        refine AL_cons (LR_move (at_tmp 5 _) rfl) (sS (sT1 rfl) sB0 sF0) ?_
        refine AL_cons (LR_bin (at_tmp 26 _) (at_c (v' := I64 1) rfl) (add_I64 x2 1) rfl) (sS (sA (sT1 rfl) sT0) sB0 sF0) ?_
        refine AL_cons (LR_assign (at_tmp 27 _) rfl) (sS (sT1 rfl) sB0 sF0) ?_
        refine AL_nil ?_
        refine blN ?_
        exact thenN (loopNext (x' := w64 (x2 + 1)) hr (weak0 ((sT rfl (sT rfl (sT rfl sT0)))) sub_nil))
      · have hr := hr.trans (cond_f h)
        clear h
        refine AW_exit ?_
        refine thenX ?_
        obtain ⟨r', hro, hr⟩ := map_inr hr
        refine thenX (loopOut hro (fun he => ?_))
        rw [he] at hr
        refine blH ?_
        exact thenN (cutLeaf (v := x2) hr (weak0 ((sT rfl sT0)) sub_nil))
  · rintro x1 hr
    show AW Hfaa.prog _ _ _ ⟨[(5, .inl (is (I64 x1)))], []⟩
    have hr : some r = F375_1 N x1 := hr
    refine AW_seq1 ?_
    refine AW_region ?_
    refine AL_cons (LR_move (at_tmp 5 _) rfl) (sS (sT1 rfl) sB0 sF0) ?_
    refine AL_cons (LR_assign (at_tmp 28 _) rfl) (sS (sT1 rfl) sB0 sF0) ?_
    refine AL_nil ?_
    refine thenN ?_
    refine AW_ret ?_
    obtain rfl := Option.some.inj hr
    exact res1 rfl (rvT rfl)
/-- dec/dmodel.wrong -/
def F376_3 (N : Nat) (a1 : Int) (x2 : Int) : Option ((Unit) ⊕ (BitVec 8 × Bool × List UInt8 × Int × Int × Int)) := (some ((3#8, false, ([] : List UInt8), 0, a1, x2))).map Sum.inr
def F376_2 (N : Nat) (a0 : List UInt8) (a1 : Int) (x1 : Bool) : Option ((Unit) ⊕ (BitVec 8 × Bool × List UInt8 × Int × Int × Int)) := bif x1 then bif Nat.blt 0 ((a0.drop ((a1 : Int)).toNat).take (((a0.length : Int)).toNat - ((a1 : Int)).toNat)).length then F376_3 N a1 (runeAt ((a0.drop ((a1 : Int)).toNat).take (((a0.length : Int)).toNat - ((a1 : Int)).toNat)) 0) else none else (some ((3#8, false, ([] : List UInt8), 0, a1, (-1)))).map Sum.inr
def F376_L1b (N : Nat) (a0 : List UInt8) (a1 : Int) : Option ((Unit) ⊕ (BitVec 8 × Bool × List UInt8 × Int × Int × Int)) := F376_2 N a0 a1 (Nat.blt 0 ((a0.drop ((a1 : Int)).toNat).take (((a0.length : Int)).toNat - ((a1 : Int)).toNat)).length)
def F376_L1 (N : Nat) (a0 : List UInt8) (a1 : Int) : (Unit) → Option ((Unit) ⊕ (BitVec 8 × Bool × List UInt8 × Int × Int × Int)) := fun _ => F376_L1b N a0 a1
def F376 (N : Nat) (a0 : List UInt8) (a1 : Int) : Option (BitVec 8 × Bool × List UInt8 × Int × Int × Int) := bif (decide (0 ≤ (a1 : Int)) && (decide ((a1 : Int) ≤ (a0.length : Int)) && decide ((a0.length : Int) ≤ (a0.length : Int)))) then iterL (F376_L1 N a0 a1) N () else none
theorem C376 (N : Nat) (a0 : List UInt8) (a1 : Int) (r : BitVec 8 × Bool × List UInt8 × Int × Int × Int) (hr : some r = F376 N a0 a1) : Aw.Fn Hfaa.prog 376 [is (Sv a0), is (I64 a1)] (agg [is (U8 r.1), is (Bl r.2.1), is (Sv r.2.2.1), is (I16 r.2.2.2.1), is (I64 r.2.2.2.2.1), is (I32 r.2.2.2.2.2)]) := by
  refine fn_intro Hfaa.func376 rfl rfl rfl ?_
  intro bn0 w0 H0
  refine AW_seq1 ?_
  refine AW_region ?_
  refine AL_cons (zl297 rfl) (sS sT0 sB0 (sF1 rfl)) ?_
  refine AL_nil ?_
  refine thenN ?_
  refine AW_seq1 ?_
  refine AW_seq1 ?_
  refine AW_region ?_
  refine AL_cons (LR_move (at_tmp 0 _) rfl) (sS (sT1 rfl) sB0 sF0) ?_
  refine AL_cons (LR_move (at_tmp 1 _) rfl) (sS (sT1 rfl) sB0 sF0) ?_
  obtain ⟨hg8, hr⟩ := guard_some hr
  refine AL_cons (LR_sliceS (i := (a1 : Int)) (j := (a0.length : Int)) Hfaa.underlying9 (at_tmp 7 _) (fun B bn s a w hs hr => .inr ⟨_, congrArg some ((at_tmp 8 (.inl (is (I64 a1)))) B bn s a w hs hr)⟩) (fun _ _ _ _ _ _ _ => .inl ⟨rfl, rfl⟩) (dand3 hg8) rfl) (sS (sA (sT1 rfl) (sA (sT1 rfl) sT0)) sB0 sF0) ?_
  refine AL_cons (LR_range Hfaa.underlying9 (at_tmp 9 _) rfl) (sS (sT1 rfl) sB0 (sF1 rfl)) ?_
  refine AL_nil ?_
  refine thenN ?_
  refine AW_block ?_
  refine AW_iterR (σ := Unit) (r := r) (x0 := ()) (emb := fun _ => ⟨[(1, .inl (is (I64 a1))), (4, .inr (.inl (4, 0))), (10, .inr (.inl (10, 0)))], [(4, pb 297 [is (U8 (0#8)), is (Bl false), is (Sv ([] : List UInt8)), is (I16 0), is (I64 0), is (I32 0)]), (10, itc ((a0.drop ((a1 : Int)).toNat).take (((a0.length : Int)).toNat - ((a1 : Int)).toNat)) 0)]⟩) ?_ hr ?_
  · exact weak0 ((sT rfl (sT rfl (sT rfl sT0)))) (sub_keep (sub_keep sub_nil))
  rintro _ out2 hr
  show AW Hfaa.prog _ _ _ ⟨[(1, .inl (is (I64 a1))), (4, .inr (.inl (4, 0))), (10, .inr (.inl (10, 0)))], [(4, pb 297 [is (U8 (0#8)), is (Bl false), is (Sv ([] : List UInt8)), is (I16 0), is (I64 0), is (I32 0)]), (10, itc ((a0.drop ((a1 : Int)).toNat).take (((a0.length : Int)).toNat - ((a1 : Int)).toNat)) 0)]⟩
  have hr : some out2 = F376_L1b N a0 a1 := hr
  refine AW_cut (σ := Bool) (fun v => ⟨[(1, .inl (is (I64 a1))), (4, .inr (.inl (4, 0))), (11, .inl (nx ((a0.drop ((a1 : Int)).toNat).take (((a0.length : Int)).toNat - ((a1 : Int)).toNat)) 0)), (12, .inl (is (Bl v)))], [(4, pb 297 [is (U8 (0#8)), is (Bl false), is (Sv ([] : List UInt8)), is (I16 0), is (I64 0), is (I32 0)])]⟩) (fun v => some out2 = F376_2 N a0 a1 v) ?_ ?_
  · skip
    refine AW_region ?_
    refine AL_cons (LR_next (at_tmp 10 _) rfl) (sS (sT1 rfl) (sB1 rfl) sF0) ?_
    refine AL_cons (LR_nx0 (at_tmp 11 _) rfl) (sS (sT1 rfl) sB0 sF0) ?_
    refine AL_nil ?_
    exact thenN (cutLeaf (v := Nat.blt 0 ((a0.drop ((a1 : Int)).toNat).take (((a0.length : Int)).toNat - ((a1 : Int)).toNat)).length) hr (weak0 ((sT rfl (sT rfl (sT rfl (sT rfl sT0))))) (sub_keep (sub_drop sub_nil))))
  · rintro x1 hr
    show AW Hfaa.prog _ _ _ ⟨[(1, .inl (is (I64 a1))), (4, .inr (.inl (4, 0))), (11, .inl (nx ((a0.drop ((a1 : Int)).toNat).take (((a0.length : Int)).toNat - ((a1 : Int)).toNat)) 0)), (12, .inl (is (Bl x1)))], [(4, pb 297 [is (U8 (0#8)), is (Bl false), is (Sv ([] : List UInt8)), is (I16 0), is (I64 0), is (I32 0)])]⟩
    have hr : some out2 = F376_2 N a0 a1 x1 := hr
    refine AW_seq1 ?_
    refine AW_condT (b := x1) rfl (fun h => ?_) (fun h => ?_)
    · have hr := hr.trans (cond_t h)
      clear h
      refine AW_skip ?_
      refine thenN ?_
      refine AW_block ?_
      refine AW_cut (σ := Int) (fun v => ⟨[(1, .inl (is (I64 a1))), (4, .inr (.inl (4, 0))), (6, .inl (is (I32 v)))], [(4, pb 297 [is (U8 (0#8)), is (Bl false), is (Sv ([] : List UInt8)), is (I16 0), is (I64 0), is (I32 0)])]⟩) (fun v => some out2 = F376_3 N a1 v) ?_ ?_
      · skip
        refine AW_region ?_
        obtain ⟨hg12, hr⟩ := guard_some hr
        refine AL_cons (LR_nx2 (at_tmp 11 _) hg12 rfl) (sS (sT1 rfl) sB0 sF0) ?_
        refine AL_cons (LR_assign (at_tmp 13 _) rfl) (sS (sT1 rfl) sB0 sF0) ?_
        refine AL_nil ?_
        exact thenN (cutLeaf (v := runeAt ((a0.drop ((a1 : Int)).toNat).take (((a0.length : Int)).toNat - ((a1 : Int)).toNat)) 0) hr (weak0 ((sT rfl (sT rfl (sT rfl sT0)))) (sub_keep sub_nil)))
      · rintro x2 hr
        show AW Hfaa.prog _ _ _ ⟨[(1, .inl (is (I64 a1))), (4, .inr (.inl (4, 0))), (6, .inl (is (I32 x2)))], [(4, pb 297 [is (U8 (0#8)), is (Bl false), is (Sv ([] : List UInt8)), is (I16 0), is (I64 0), is (I32 0)])]⟩
        have hr : some out2 = F376_3 N a1 x2 := hr
        refine AW_seq1 ?_
        refine AW_region ?_
        refine AL_cons (LR_move (at_tmp 1 _) rfl) (sS (sT1 rfl) sB0 sF0) ?_
        refine AL_cons (LR_move (at_tmp 6 _) rfl) (sS (sT1 rfl) sB0 sF0) ?_
        refine AL_cons (bl297 (parts_cons (i := 0) (off := 0) (at_c (v' := U8 (3#8)) rfl) (cells_one (one_is rfl)) rfl rfl (parts_cons (i := 2) (off := 4) (at_tmp 14 _) (cells_one (one_is rfl)) rfl rfl (parts_cons (i := 3) (off := 5) (at_tmp 15 _) (cells_one (one_is rfl)) rfl rfl parts_nil))) rfl rfl) (sS (sA sT0 (sA (sT1 rfl) (sA (sT1 rfl) sT0))) sB0 sF0) ?_
        refine AL_cons (LR_store (at_tmp 4 _) (at_tmp 16 _) (cells_agg _) (onC (one_is rfl) (onC (one_is rfl) (onC (one_is rfl) (onC (one_is rfl) (onC (one_is rfl) (onC (one_is rfl) onN)))))) sz297 rfl rfl) (sS (sA (sT1 rfl) (sT1 rfl)) (sB1 rfl) sF0) ?_
        refine AL_nil ?_
        refine thenN ?_
        refine AW_ret ?_
        refine blR ?_
        obtain ⟨r', hro, hr⟩ := map_inr hr
        refine thenR (loopOut hro (fun he => ?_))
        rw [he] at hr
        refine blR ?_
        refine thenR ?_
        obtain rfl := Option.some.inj hr
        exact res1 rfl (rvC rfl rfl ag297 sz297 rfl)
    · have hr := hr.trans (cond_f h)
      clear h
      refine AW_exit ?_
      refine thenX ?_
      obtain ⟨r', hro, hr⟩ := map_inr hr
      refine thenX (loopOut hro (fun he => ?_))
      rw [he] at hr
      refine blH ?_
      refine thenN ?_
      refine AW_seq1 ?_
      refine AW_region ?_
      refine AL_cons (LR_move (at_tmp 1 _) rfl) (sS (sT1 rfl) sB0 sF0) ?_
      refine AL_cons (bl297 (parts_cons (i := 0) (off := 0) (at_c (v' := U8 (3#8)) rfl) (cells_one (one_is rfl)) rfl rfl (parts_cons (i := 2) (off := 4) (at_tmp 17 _) (cells_one (one_is rfl)) rfl rfl (parts_cons (i := 3) (off := 5) (at_c (v' := I32 (-1)) rfl) (cells_one (one_is rfl)) rfl rfl parts_nil))) rfl rfl) (sS (sA sT0 (sA (sT1 rfl) (sA sT0 sT0))) sB0 sF0) ?_
      refine AL_cons (LR_store (at_tmp 4 _) (at_tmp 18 _) (cells_agg _) (onC (one_is rfl) (onC (one_is rfl) (onC (one_is rfl) (onC (one_is rfl) (onC (one_is rfl) (onC (one_is rfl) onN)))))) sz297 rfl rfl) (sS (sA (sT1 rfl) (sT1 rfl)) (sB1 rfl) sF0) ?_
      refine AL_nil ?_
      refine thenN ?_
      refine AW_ret ?_
      obtain rfl := Option.some.inj hr
      exact res1 rfl (rvC rfl rfl ag297 sz297 rfl)
end Go.Proofs.YfwaawGreat
