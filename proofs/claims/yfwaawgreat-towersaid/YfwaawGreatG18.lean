import Derived.Test.YfwaawGreatG1
import Derived.Test.YfwaawGreatG2
import Derived.Test.YfwaawGreatG8
import Derived.Test.YfwaawGreatG12
import Derived.Test.YfwaawGreatG13
import Derived.Test.YfwaawGreatG17
namespace Go.Proofs.YfwaawGreat
open Go.Aw
set_option linter.unusedVariables false
set_option maxRecDepth 100000
set_option maxHeartbeats 1000000
/-- exact.zeros -/
def F196_2 (N : Nat) (a0 : Int) (x2 : Nat → BitVec 8) : Option (List UInt8) := bif decide (a0.toNat ≤ a0.toNat) then some (bys a0.toNat x2) else none
def F196_6 (N : Nat) (a0 : Int) (x3 : Int) (x4 : Int) (x7 : Nat → BitVec 8) : Option ((Int × (Nat → BitVec 8)) ⊕ (List UInt8)) := some (.inl ((w64 (x4 + 1), x7)))
def F196_5 (N : Nat) (a0 : Int) (x3 : Int) (x4 : Int) (x5 : Nat → BitVec 8) (x6 : Bool) : Option ((Int × (Nat → BitVec 8)) ⊕ (List UInt8)) := bif x6 then bif (decide (0 ≤ x4) && decide (x4 < (a0.toNat : Int))) then F196_6 N a0 x3 x4 (upd x5 x4.toNat (48#8)) else none else (F196_2 N a0 x5).map Sum.inr
def F196_L4b (N : Nat) (a0 : Int) (x3 : Int) (x4 : Int) (x5 : Nat → BitVec 8) : Option ((Int × (Nat → BitVec 8)) ⊕ (List UInt8)) := F196_5 N a0 x3 x4 x5 (decide (x4 < x3))
def F196_L4 (N : Nat) (a0 : Int) (x3 : Int) : (Int × (Nat → BitVec 8)) → Option ((Int × (Nat → BitVec 8)) ⊕ (List UInt8)) := fun v => F196_L4b N a0 x3 v.1 v.2
def F196_3 (N : Nat) (a0 : Int) (x1 : Nat → BitVec 8) (x3 : Int) : Option (List UInt8) := iterL (F196_L4 N a0 x3) N (0, x1)
def F196_1 (N : Nat) (a0 : Int) (x1 : Nat → BitVec 8) : Option (List UInt8) := F196_3 N a0 x1 (a0.toNat : Int)
def F196 (N : Nat) (a0 : Int) : Option (List UInt8) := bif (decide (0 ≤ a0) && decide (a0 ≤ 1099511627776)) then F196_1 N a0 (fun _ => 0#8) else none
theorem C196 (N : Nat) (a0 : Int) (r : List UInt8) (hr : some r = F196 N a0) : Aw.Fn Hfaa.prog 196 [is (I64 a0)] (is (Sv r)) := by
  refine fn_intro Hfaa.func196 rfl rfl rfl ?_
  intro bn0 w0 H0
  refine AW_seq1 ?_
  refine AW_region ?_
  refine AL_cons (LR_assign (at_c (v' := Sv ([] : List UInt8)) rfl) rfl) (sS sT0 sB0 sF0) ?_
  refine AL_nil ?_
  refine thenN ?_
  refine AW_cut (σ := (Nat → BitVec 8)) (fun v => ⟨[(3, .inr (.inr (.inl (6, 0, a0.toNat, a0.toNat))))], [(6, pb 5 (ar U8 a0.toNat v ++ []))]⟩) (fun v => some r = F196_1 N a0 v) ?_ ?_
  · skip
    refine AW_region ?_
    refine AL_cons (LR_move (at_tmp 0 _) rfl) (sS (sT1 rfl) sB0 sF0) ?_
    obtain ⟨hg16, hr⟩ := guard_some hr
    refine AL_cons (LR_makeSlice Hfaa.underlying227 el5 (at_tmp 5 _) (dand hg16) rfl) (sS (sT1 rfl) sB0 (sF1 rfl)) ?_
    refine AL_cons (LR_assign (at_tmp 6 _) rfl) (sS (sT1 rfl) sB0 sF0) ?_
    refine AL_nil ?_
    exact thenN (cutLeaf (v := fun _ => 0#8) hr (weak0 ((sT rfl sT0)) (sub_keep sub_nil)))
  · rintro x1 hr
    show AW Hfaa.prog _ _ _ ⟨[(3, .inr (.inr (.inl (6, 0, a0.toNat, a0.toNat))))], [(6, pb 5 (ar U8 a0.toNat x1 ++ []))]⟩
    have hr : some r = F196_1 N a0 x1 := hr
    refine AW_cut (σ := (Nat → BitVec 8)) (fun v => ⟨[(3, .inr (.inr (.inl (6, 0, a0.toNat, a0.toNat))))], [(6, pb 5 (ar U8 a0.toNat v ++ []))]⟩) (fun v => some r = F196_2 N a0 v) ?_ ?_
    · skip
      refine AW_cut (σ := Int) (fun v => ⟨[(3, .inr (.inr (.inl (6, 0, a0.toNat, a0.toNat)))), (8, .inl (is (I64 v))), (9, .inl (is (I64 0)))], [(6, pb 5 (ar U8 a0.toNat x1 ++ []))]⟩) (fun v => some r = F196_3 N a0 x1 v) ?_ ?_
      · skip
        refine AW_region ?_
        refine AL_cons (LR_move (at_tmp 3 _) rfl) (sS (sT1 rfl) sB0 sF0) ?_
        refine AL_cons (LR_lenT (at_tmp 7 _) Hfaa.underlying227 rfl) (sS (sT1 rfl) sB0 sF0) ?_
        refine AL_cons (LR_move (at_c (v' := I64 0) rfl) rfl) (sS sT0 sB0 sF0) ?_
        refine AL_nil ?_
        exact thenN (cutLeaf (v := (a0.toNat : Int)) hr (weak0 ((sT rfl (sT rfl (sT rfl sT0)))) (sub_keep sub_nil)))
      · rintro x3 hr
        show AW Hfaa.prog _ _ _ ⟨[(3, .inr (.inr (.inl (6, 0, a0.toNat, a0.toNat)))), (8, .inl (is (I64 x3))), (9, .inl (is (I64 0)))], [(6, pb 5 (ar U8 a0.toNat x1 ++ []))]⟩
        have hr : some r = F196_3 N a0 x1 x3 := hr
        refine AW_block ?_
        refine AW_iterR (σ := Int × (Nat → BitVec 8)) (r := r) (x0 := (0, x1)) (emb := fun v => ⟨[(3, .inr (.inr (.inl (6, 0, a0.toNat, a0.toNat)))), (8, .inl (is (I64 x3))), (9, .inl (is (I64 v.1)))], [(6, pb 5 (ar U8 a0.toNat v.2 ++ []))]⟩) ?_ hr ?_
        · exact weak0 ((sT rfl (sT rfl (sT rfl sT0)))) (sub_keep sub_nil)
        rintro ⟨x4, x5⟩ out2 hr
        show AW Hfaa.prog _ _ _ ⟨[(3, .inr (.inr (.inl (6, 0, a0.toNat, a0.toNat)))), (8, .inl (is (I64 x3))), (9, .inl (is (I64 x4)))], [(6, pb 5 (ar U8 a0.toNat x5 ++ []))]⟩
        have hr : some out2 = F196_L4b N a0 x3 x4 x5 := hr
        refine AW_cut (σ := Bool) (fun v => ⟨[(3, .inr (.inr (.inl (6, 0, a0.toNat, a0.toNat)))), (8, .inl (is (I64 x3))), (9, .inl (is (I64 x4))), (10, .inl (is (Bl v)))], [(6, pb 5 (ar U8 a0.toNat x5 ++ []))]⟩) (fun v => some out2 = F196_5 N a0 x3 x4 x5 v) ?_ ?_
        · skip
          refine AW_region ?_
          refine AL_cons (LR_bin (at_tmp 9 _) (at_tmp 8 _) (lss_I64 x4 x3) rfl) (sS (sA (sT1 rfl) (sT1 rfl)) sB0 sF0) ?_
          refine AL_nil ?_
          exact thenN (cutLeaf (v := decide (x4 < x3)) hr (weak0 ((sT rfl (sT rfl (sT rfl (sT rfl sT0))))) (sub_keep sub_nil)))
        · rintro x6 hr
          show AW Hfaa.prog _ _ _ ⟨[(3, .inr (.inr (.inl (6, 0, a0.toNat, a0.toNat)))), (8, .inl (is (I64 x3))), (9, .inl (is (I64 x4))), (10, .inl (is (Bl x6)))], [(6, pb 5 (ar U8 a0.toNat x5 ++ []))]⟩
          have hr : some out2 = F196_5 N a0 x3 x4 x5 x6 := hr
          refine AW_seq1 ?_
          refine AW_condT (b := x6) rfl (fun h => ?_) (fun h => ?_)
          · have hr := hr.trans (cond_t h)
            clear h
            refine AW_skip ?_
            refine thenN ?_
            refine AW_cut (σ := (Nat → BitVec 8)) (fun v => ⟨[(3, .inr (.inr (.inl (6, 0, a0.toNat, a0.toNat)))), (8, .inl (is (I64 x3))), (9, .inl (is (I64 x4)))], [(6, pb 5 (ar U8 a0.toNat v ++ []))]⟩) (fun v => some out2 = F196_6 N a0 x3 x4 v) ?_ ?_
            · skip
              refine AW_block ?_
              refine AW_seq1 ?_
              refine AW_region ?_
              refine AL_cons (LR_move (at_tmp 9 _) rfl) (sS (sT1 rfl) sB0 sF0) ?_
              refine AL_cons (LR_assign (at_tmp 11 _) rfl) (sS (sT1 rfl) sB0 sF0) ?_
              refine AL_nil ?_
              refine thenN ?_
              refine AW_region ?_
              refine AL_cons (LR_move (at_tmp 3 _) rfl) (sS (sT1 rfl) sB0 sF0) ?_
              refine AL_cons (LR_move (at_tmp 4 _) rfl) (sS (sT1 rfl) sB0 sF0) ?_
              obtain ⟨hg15, hr⟩ := guard_some hr
              refine AL_cons (LR_indexAddrS (o := x4.toNat) Hfaa.underlying227 sz5 (at_tmp 12 _) (at_tmp 13 _) (dand hg15) (by first | rfl | omega) rfl) (sS (sA (sT1 rfl) (sT1 rfl)) sB0 sF0) ?_
              refine AL_cons (LR_storeA (at_tmp 14 _) (at_c (v' := U8 (48#8)) rfl) (cells_one (one_is rfl)) (onC (one_is rfl) onN) sz5 rfl (ble_dyn (lnA ln0) (by have := (ltn (dand hg15)); omega)) (stA (ltn (dand hg15)))) (sS (sA (sT1 rfl) sT0) (sB1 rfl) sF0) ?_
              refine AL_nil ?_
              refine blN ?_
              exact thenN (cutLeaf (v := upd x5 x4.toNat (48#8)) hr (weak0 ((sT rfl (sT rfl (sT rfl sT0)))) (sub_keep sub_nil)))
            · rintro x7 hr
              show AW Hfaa.prog _ _ _ ⟨[(3, .inr (.inr (.inl (6, 0, a0.toNat, a0.toNat)))), (8, .inl (is (I64 x3))), (9, .inl (is (I64 x4)))], [(6, pb 5 (ar U8 a0.toNat x7 ++ []))]⟩
              have hr : some out2 = F196_6 N a0 x3 x4 x7 := hr
              refine AW_region ?_
              refine AL_cons (LR_bin (at_tmp 9 _) (at_c (v' := I64 1) rfl) (add_I64 x4 1) rfl) (sS (sA (sT1 rfl) sT0) sB0 sF0) ?_
              refine AL_cons (LR_move (at_tmp 15 _) rfl) (sS (sT1 rfl) sB0 sF0) ?_
              refine AL_nil ?_
              exact thenN (loopNext (x' := (w64 (x4 + 1), x7)) hr (weak0 ((sT rfl (sT rfl (sT rfl sT0)))) (sub_keep sub_nil)))
          · have hr := hr.trans (cond_f h)
            clear h
            refine AW_exit ?_
            refine thenX ?_
            obtain ⟨r', hro, hr⟩ := map_inr hr
            refine thenX (loopOut hro (fun he => ?_))
            rw [he] at hr
            refine blH ?_
            exact thenN (cutLeaf (v := x5) hr (weak0 ((sT rfl sT0)) (sub_keep sub_nil)))
    · rintro x2 hr
      show AW Hfaa.prog _ _ _ ⟨[(3, .inr (.inr (.inl (6, 0, a0.toNat, a0.toNat))))], [(6, pb 5 (ar U8 a0.toNat x2 ++ []))]⟩
      have hr : some r = F196_2 N a0 x2 := hr
      refine AW_seq1 ?_
      refine AW_region ?_
      refine AL_cons (LR_move (at_tmp 3 _) rfl) (sS (sT1 rfl) sB0 sF0) ?_
      obtain ⟨hg9, hr⟩ := guard_some hr
      refine AL_cons (LR_convT (f := x2) Hfaa.underlying227 Hfaa.underlying5 Hfaa.underlying9 (at_tmp 16 _) (fun i hi => (zadd _).symm ▸ gA (Nat.lt_of_lt_of_le hi (of_decide_eq_true hg9))) rfl) (sS (sT1 rfl) (sB1 rfl) sF0) ?_
      refine AL_cons (LR_assign (at_tmp 17 _) rfl) (sS (sT1 rfl) sB0 sF0) ?_
      refine AL_nil ?_
      refine thenN ?_
      refine AW_ret ?_
      obtain rfl := Option.some.inj hr
      exact res1 rfl (rvT rfl)
/-- exact.DigitsE -/
def F99_8 (N : Nat) (a2 : BitVec 16) (x10 : Int) (x12 : List UInt8) (x13 : Bool) : Option (List UInt8 × Int) := bif x13 then bif (decide (0 ≤ (0 : Int)) && (decide ((0 : Int) ≤ ((a2 + (1#16)).toNat : Int)) && decide (((a2 + (1#16)).toNat : Int) ≤ (x12.length : Int)))) then some (((x12.drop ((0 : Int)).toNat).take ((((a2 + (1#16)).toNat : Int)).toNat - ((0 : Int)).toNat), w16 (w64 (x10 + 1)))) else none else some (x12, w16 x10)
def F99_7 (N : Nat) (a2 : BitVec 16) (x10 : Int) (x12 : List UInt8) : Option (List UInt8 × Int) := F99_8 N a2 x10 x12 (decide ((x12.length : Int) > (w64 ((w64 (a2.toNat : Int)) + 1))))
def F99_6 (N : Nat) (a2 : BitVec 16) (x10 : Int) (x11 : Nat) : Option (List UInt8 × Int) := (F198 N x11).bind fun y12 => F99_7 N a2 x10 y12
def F99_5 (N : Nat) (a2 : BitVec 16) (x2 : BitVec 64) (x3 : Bool) (x4 : Int) (x5 : Bool) (x6 : Nat) (x7 : Nat) (x10 : Int) : Option (List UInt8 × Int) := (F197 N x5 x6 x7 (w64 (x10 - (w64 (a2.toNat : Int))))).bind fun y13 => F99_6 N a2 x10 y13
def F99_4 (N : Nat) (a2 : BitVec 16) (x2 : BitVec 64) (x3 : Bool) (x4 : Int) (x5 : Bool) (x6 : Nat) (x7 : Nat) (x9 : Bool) : Option (List UInt8 × Int) := bif x9 then some ((([] : List UInt8), 0)) else (F147 N x5 x6 x7).bind fun y14 => F99_5 N a2 x2 x3 x4 x5 x6 x7 y14
def F99_9 (N : Nat) (a2 : BitVec 16) (x2 : BitVec 64) (x3 : Bool) (x4 : Int) (x5 : Bool) (x6 : Nat) (x7 : Nat) (x14 : Bool) : Option (List UInt8 × Int) := bif x14 then F99_4 N a2 x2 x3 x4 x5 x6 x7 x14 else F99_4 N a2 x2 x3 x4 x5 x6 x7 (x4 == 4)
def F99_3 (N : Nat) (a2 : BitVec 16) (x2 : BitVec 64) (x3 : Bool) (x4 : Int) (x5 : Bool) (x6 : Nat) (x7 : Nat) (x8 : Bool) : Option (List UInt8 × Int) := bif x8 then (F196 N (w64 ((w64 (a2.toNat : Int)) + 1))).bind fun y8 => some (y8, 0) else F99_9 N a2 x2 x3 x4 x5 x6 x7 (x4 == 3)
def F99_2 (N : Nat) (a2 : BitVec 16) (x2 : BitVec 64) (x3 : Bool) (x4 : Int) (x5 : Bool) (x6 : Nat) (x7 : Nat) : Option (List UInt8 × Int) := F99_3 N a2 x2 x3 x4 x5 x6 x7 (x4 == 0)
def F99_1 (N : Nat) (a0_0 : BitVec 8) (a0_1 : BitVec 8) (a1 : BitVec 64) (a2 : BitVec 16) (x1 : Bool) : Option (List UInt8 × Int) := bif x1 then some ((([] : List UInt8), 0)) else (F144 N a0_0 a0_1 a1).bind fun y15 => F99_2 N a2 y15.1 y15.2.1 y15.2.2.1 y15.2.2.2.1 y15.2.2.2.2.1 y15.2.2.2.2.2
def F99 (N : Nat) (a0_0 : BitVec 8) (a0_1 : BitVec 8) (a1 : BitVec 64) (a2 : BitVec 16) : Option (List UInt8 × Int) := lt (F40 a0_0 a0_1) fun y16 => F99_1 N a0_0 a0_1 a1 a2 ((!y16) || (decide ((2000#16).toNat < a2.toNat)))
theorem C99 (N : Nat) (a0_0 : BitVec 8) (a0_1 : BitVec 8) (a1 : BitVec 64) (a2 : BitVec 16) (r : List UInt8 × Int) (hr : some r = F99 N a0_0 a0_1 a1 a2) : Aw.Fn Hfaa.prog 99 [agg [is (U8 a0_0), is (U8 a0_1)], is (U64 a1), is (U16 a2)] (tup [is (Sv r.1), is (I16 r.2)]) := by
  refine fn_intro Hfaa.func99 rfl rfl rfl ?_
  intro bn0 w0 H0
  refine AW_seq1 ?_
  refine AW_region ?_
  refine AL_cons (LR_box (at_tmp 0 _) (cells_agg _) rfl) (sS (sT1 rfl) sB0 (sF1 rfl)) ?_
  refine AL_cons (LR_assign (at_c (v' := Sv ([] : List UInt8)) rfl) rfl) (sS sT0 sB0 sF0) ?_
  refine AL_cons (LR_assign (at_c (v' := I16 0) rfl) rfl) (sS sT0 sB0 sF0) ?_
  refine AL_nil ?_
  refine thenN ?_
  refine AW_seq1 ?_
  refine AW_cut (σ := Bool) (fun v => ⟨[(1, .inl (is (U64 a1))), (2, .inl (is (U16 a2))), (3, .inr (.inl (3, 0))), (17, .inl (is (Bl v)))], [(3, pb 23 [is (U8 a0_0), is (U8 a0_1)])]⟩) (fun v => some r = F99_1 N a0_0 a0_1 a1 a2 v) ?_ ?_
  · skip
    refine AW_region ?_
    refine AL_cons (LR_loads (at_tmp 3 _) ag23 sz23 rfl rfl rfl) (sS (sT1 rfl) (sB1 rfl) sF0) ?_
    obtain ⟨y16, hy16, hr⟩ := lt_some hr
    refine AL_cons (LR_call Hfaa.func40 rfl rfl (C40 a0_0 a0_1 y16 hy16) (all_cons (at_tmp 11 _) all_nil) rfl) (sS (sA (sT1 rfl) sT0) sB0 sF0) ?_
    refine AL_cons (LR_un (at_tmp 12 _) (not_Bl y16) rfl) (sS (sT1 rfl) sB0 sF0) ?_
    refine AL_cons (LR_move (at_tmp 13 _) rfl) (sS (sT1 rfl) sB0 sF0) ?_
    refine AL_cutAt 3 ⟨[(0, .inl (agg [is (U8 a0_0), is (U8 a0_1)])), (1, .inl (is (U64 a1))), (2, .inl (is (U16 a2))), (3, .inr (.inl (3, 0))), (6, .inl (is (Sv ([] : List UInt8)))), (7, .inl (is (I16 0))), (11, .inl (agg [is (U8 a0_0), is (U8 a0_1)])), (12, .inl (is (Bl y16))), (13, .inl (is (Bl (!y16)))), (14, .inl (is (Bl (!y16)))), (17, .inl (is (Bl ((!y16) || (decide ((2000#16).toNat < a2.toNat))))))], [(3, pb 23 [is (U8 a0_0), is (U8 a0_1)])]⟩ ?_ ?_
    · cases hb : !y16
      · skip
        refine AL_cons (LR_on rfl rfl rfl (LR_move (at_tmp 2 _) rfl)) (sS (sT rfl (sT1 rfl)) sB0 sF0) ?_
        refine AL_cons (LR_on rfl rfl rfl (LR_bin (at_tmp 15 _) (at_c (v' := U16 (2000#16)) rfl) (gtr_U16 a2 (2000#16)) rfl)) (sS (sT rfl (sA (sT1 rfl) sT0)) sB0 sF0) ?_
        refine AL_cons (LR_pick (b := false) (at_tmp 14 _) (at_c (v' := Bl true) rfl) (at_tmp 16 _) rfl) (sS (sA (sT1 rfl) (sA sT0 (sT1 rfl))) sB0 sF0) ?_
        exact AL_nil ⟨rfl, weak0 ((sT rfl (sT rfl (sT rfl (sT rfl (sT rfl (sT rfl (sT rfl (sT rfl (sT rfl (sT rfl (sT rfl sT0)))))))))))) (sub_keep sub_nil)⟩
      · skip
        refine AL_cons (LR_off (b := true) rfl rfl rfl rfl) (sS (sT1 rfl) sB0 sF0) ?_
        refine AL_cons (LR_off (b := true) rfl rfl rfl rfl) (sS (sT1 rfl) sB0 sF0) ?_
        refine AL_cons (LR_pick (b := true) (at_tmp 14 _) (at_c (v' := Bl true) rfl) (at_tmp 16 _) rfl) (sS (sA (sT1 rfl) (sA sT0 (sT1 rfl))) sB0 sF0) ?_
        exact AL_nil ⟨rfl, weak0 ((sT rfl (sT rfl (sT rfl (sT rfl (sT rfl (sT rfl (sT rfl (sT rfl (sT rfl (sT rfl (sT rfl sT0)))))))))))) (sub_keep sub_nil)⟩
    refine AL_nil ?_
    exact thenN (cutLeaf (v := (!y16) || (decide ((2000#16).toNat < a2.toNat))) hr (weak0 ((sT rfl (sT rfl (sT rfl (sT rfl sT0))))) (sub_keep sub_nil)))
  · rintro x1 hr
    show AW Hfaa.prog _ _ _ ⟨[(1, .inl (is (U64 a1))), (2, .inl (is (U16 a2))), (3, .inr (.inl (3, 0))), (17, .inl (is (Bl x1)))], [(3, pb 23 [is (U8 a0_0), is (U8 a0_1)])]⟩
    have hr : some r = F99_1 N a0_0 a0_1 a1 a2 x1 := hr
    refine AW_condT (b := x1) rfl (fun h => ?_) (fun h => ?_)
    · have hr := hr.trans (cond_t h)
      clear h
      refine AW_seq1 ?_
      refine AW_region ?_
      refine AL_cons (LR_assign (at_c (v' := Sv ([] : List UInt8)) rfl) rfl) (sS sT0 sB0 sF0) ?_
      refine AL_cons (LR_assign (at_c (v' := I16 0) rfl) rfl) (sS sT0 sB0 sF0) ?_
      refine AL_nil ?_
      refine thenN ?_
      refine AW_ret ?_
      refine thenR ?_
      obtain rfl := Option.some.inj hr
      exact res2 rfl (rvT rfl) (rvT rfl)
    · have hr := hr.trans (cond_f h)
      clear h
      refine AW_skip ?_
      refine thenN ?_
      refine AW_cut (σ := BitVec 64 × Bool × Int × Bool × Nat × Nat) (fun v => ⟨[(2, .inl (is (U16 a2))), (8, .inr (.inl (8, 0)))], [(8, pb 175 [is (U64 v.1), is (Bl v.2.1), is (I8 v.2.2.1), is (Bl v.2.2.2.1), big v.2.2.2.2.1, big v.2.2.2.2.2])]⟩) (fun v => some r = F99_2 N a2 v.1 v.2.1 v.2.2.1 v.2.2.2.1 v.2.2.2.2.1 v.2.2.2.2.2) ?_ ?_
      · skip
        refine AW_region ?_
        refine AL_cons (LR_loads (at_tmp 3 _) ag23 sz23 rfl rfl rfl) (sS (sT1 rfl) (sB1 rfl) sF0) ?_
        refine AL_cons (LR_move (at_tmp 1 _) rfl) (sS (sT1 rfl) sB0 sF0) ?_
        obtain ⟨y15, hy15, hr⟩ := bind_some hr
        refine AL_cons (LR_call Hfaa.func144 rfl rfl (C144 N a0_0 a0_1 a1 y15 hy15) (all_cons (at_tmp 18 _) (all_cons (at_tmp 19 _) all_nil)) rfl) (sS (sA (sT1 rfl) (sA (sT1 rfl) sT0)) sB0 sF0) ?_
        refine AL_cons (zl175 rfl) (sS sT0 sB0 (sF1 rfl)) ?_
        refine AL_cons (LR_store (at_tmp 8 _) (at_tmp 20 _) (cells_agg _) (onC (one_is rfl) (onC (one_is rfl) (onC (one_is rfl) (onC (one_is rfl) (onC (one_big _) (onC (one_big _) onN)))))) sz175 rfl rfl) (sS (sA (sT1 rfl) (sT1 rfl)) (sB1 rfl) sF0) ?_
        refine AL_nil ?_
        exact thenN (cutLeaf (v := (y15.1, y15.2.1, y15.2.2.1, y15.2.2.2.1, y15.2.2.2.2.1, y15.2.2.2.2.2)) hr (weak0 ((sT rfl (sT rfl sT0))) (sub_drop (sub_keep sub_nil))))
      · rintro ⟨x2, x3, x4, x5, x6, x7⟩ hr
        show AW Hfaa.prog _ _ _ ⟨[(2, .inl (is (U16 a2))), (8, .inr (.inl (8, 0)))], [(8, pb 175 [is (U64 x2), is (Bl x3), is (I8 x4), is (Bl x5), big x6, big x7])]⟩
        have hr : some r = F99_2 N a2 x2 x3 x4 x5 x6 x7 := hr
        refine AW_seq1 ?_
        refine AW_seq1 ?_
        refine AW_region ?_
        refine AL_cons (LR_fieldAddr (off := 0) (o := 2) (at_tmp 8 _) (fun b w => fa175_2 b 0 w) rfl) (sS (sT1 rfl) sB0 sF0) ?_
        refine AL_cons (LR_load (at_tmp 21 _) na110 rfl rfl) (sS (sT1 rfl) (sB1 rfl) sF0) ?_
        refine AL_nil ?_
        refine thenN ?_
        refine AW_block ?_
        refine AW_cut (σ := Bool) (fun v => ⟨[(2, .inl (is (U16 a2))), (8, .inr (.inl (8, 0))), (22, .inl (is (I8 x4))), (23, .inl (is (Bl v)))], [(8, pb 175 [is (U64 x2), is (Bl x3), is (I8 x4), is (Bl x5), big x6, big x7])]⟩) (fun v => some r = F99_3 N a2 x2 x3 x4 x5 x6 x7 v) ?_ ?_
        · skip
          refine AW_region ?_
          refine AL_cons (LR_bin (at_tmp 22 _) (at_c (v' := I8 0) rfl) (eql_I8 x4 0) rfl) (sS (sA (sT1 rfl) sT0) sB0 sF0) ?_
          refine AL_cons (LR_assign (at_tmp 24 _) rfl) (sS (sT1 rfl) sB0 sF0) ?_
          refine AL_nil ?_
          exact thenN (cutLeaf (v := x4 == 0) hr (weak0 ((sT rfl (sT rfl (sT rfl (sT rfl sT0))))) (sub_keep sub_nil)))
        · rintro x8 hr
          show AW Hfaa.prog _ _ _ ⟨[(2, .inl (is (U16 a2))), (8, .inr (.inl (8, 0))), (22, .inl (is (I8 x4))), (23, .inl (is (Bl x8)))], [(8, pb 175 [is (U64 x2), is (Bl x3), is (I8 x4), is (Bl x5), big x6, big x7])]⟩
          have hr : some r = F99_3 N a2 x2 x3 x4 x5 x6 x7 x8 := hr
          refine AW_condT (b := x8) rfl (fun h => ?_) (fun h => ?_)
          · have hr := hr.trans (cond_t h)
            clear h
            refine AW_seq1 ?_
            refine AW_region ?_
            refine AL_cons (LR_move (at_tmp 2 _) rfl) (sS (sT1 rfl) sB0 sF0) ?_
            refine AL_cons (LR_conv (vx := U16 a2) (at_tmp 25 _) (conv_I64 Hfaa.underlying71 Hfaa.underlying3 (a2.toNat : Int)) rfl) (sS (sT1 rfl) sB0 sF0) ?_
            refine AL_cons (LR_bin (at_tmp 26 _) (at_c (v' := I64 1) rfl) (add_I64 (w64 (a2.toNat : Int)) 1) rfl) (sS (sA (sT1 rfl) sT0) sB0 sF0) ?_
            obtain ⟨y8, hy8, hr⟩ := bind_some hr
            refine AL_cons (LR_call Hfaa.func196 rfl rfl (C196 N (w64 ((w64 (a2.toNat : Int)) + 1)) y8 hy8) (all_cons (at_tmp 27 _) all_nil) rfl) (sS (sA (sT1 rfl) sT0) sB0 sF0) ?_
            refine AL_cons (LR_assign (at_tmp 28 _) rfl) (sS (sT1 rfl) sB0 sF0) ?_
            refine AL_cons (LR_assign (at_c (v' := I16 0) rfl) rfl) (sS sT0 sB0 sF0) ?_
            refine AL_nil ?_
            refine thenN ?_
            refine AW_ret ?_
            refine blR ?_
            refine thenR ?_
            obtain rfl := Option.some.inj hr
            exact res2 rfl (rvT rfl) (rvT rfl)
          · have hr := hr.trans (cond_f h)
            clear h
            refine AW_cut (σ := Bool) (fun v => ⟨[(2, .inl (is (U16 a2))), (8, .inr (.inl (8, 0))), (29, .inl (is (Bl v)))], [(8, pb 175 [is (U64 x2), is (Bl x3), is (I8 x4), is (Bl x5), big x6, big x7])]⟩) (fun v => some r = F99_4 N a2 x2 x3 x4 x5 x6 x7 v) ?_ ?_
            · skip
              refine AW_cut (σ := Bool) (fun v => ⟨[(2, .inl (is (U16 a2))), (8, .inr (.inl (8, 0))), (22, .inl (is (I8 x4))), (29, .inl (is (Bl v)))], [(8, pb 175 [is (U64 x2), is (Bl x3), is (I8 x4), is (Bl x5), big x6, big x7])]⟩) (fun v => some r = F99_9 N a2 x2 x3 x4 x5 x6 x7 v) ?_ ?_
              · skip
                refine AW_region ?_
                refine AL_cons (LR_bin (at_tmp 22 _) (at_c (v' := I8 3) rfl) (eql_I8 x4 3) rfl) (sS (sA (sT1 rfl) sT0) sB0 sF0) ?_
                refine AL_cons (LR_assign (at_tmp 30 _) rfl) (sS (sT1 rfl) sB0 sF0) ?_
                refine AL_nil ?_
                exact thenN (cutLeaf (v := x4 == 3) hr (weak0 ((sT rfl (sT rfl (sT rfl (sT rfl sT0))))) (sub_keep sub_nil)))
              · rintro x14 hr
                show AW Hfaa.prog _ _ _ ⟨[(2, .inl (is (U16 a2))), (8, .inr (.inl (8, 0))), (22, .inl (is (I8 x4))), (29, .inl (is (Bl x14)))], [(8, pb 175 [is (U64 x2), is (Bl x3), is (I8 x4), is (Bl x5), big x6, big x7])]⟩
                have hr : some r = F99_9 N a2 x2 x3 x4 x5 x6 x7 x14 := hr
                refine AW_condT (b := x14) rfl (fun h => ?_) (fun h => ?_)
                · have hr := hr.trans (cond_t h)
                  clear h
                  refine AW_skip ?_
                  exact thenN (cutLeaf (v := x14) hr (weak0 ((sT rfl (sT rfl (sT rfl sT0)))) (sub_keep sub_nil)))
                · have hr := hr.trans (cond_f h)
                  clear h
                  refine AW_region ?_
                  refine AL_cons (LR_bin (at_tmp 22 _) (at_c (v' := I8 4) rfl) (eql_I8 x4 4) rfl) (sS (sA (sT1 rfl) sT0) sB0 sF0) ?_
                  refine AL_cons (LR_assign (at_tmp 31 _) rfl) (sS (sT1 rfl) sB0 sF0) ?_
                  refine AL_nil ?_
                  exact thenN (cutLeaf (v := x4 == 4) hr (weak0 ((sT rfl (sT rfl (sT rfl sT0)))) (sub_keep sub_nil)))
            · rintro x9 hr
              show AW Hfaa.prog _ _ _ ⟨[(2, .inl (is (U16 a2))), (8, .inr (.inl (8, 0))), (29, .inl (is (Bl x9)))], [(8, pb 175 [is (U64 x2), is (Bl x3), is (I8 x4), is (Bl x5), big x6, big x7])]⟩
              have hr : some r = F99_4 N a2 x2 x3 x4 x5 x6 x7 x9 := hr
              refine AW_condT (b := x9) rfl (fun h => ?_) (fun h => ?_)
              · have hr := hr.trans (cond_t h)
                clear h
                refine AW_seq1 ?_
                refine AW_region ?_
                refine AL_cons (LR_assign (at_c (v' := Sv ([] : List UInt8)) rfl) rfl) (sS sT0 sB0 sF0) ?_
                refine AL_cons (LR_assign (at_c (v' := I16 0) rfl) rfl) (sS sT0 sB0 sF0) ?_
                refine AL_nil ?_
                refine thenN ?_
                refine AW_ret ?_
                refine blR ?_
                refine thenR ?_
                obtain rfl := Option.some.inj hr
                exact res2 rfl (rvT rfl) (rvT rfl)
              · have hr := hr.trans (cond_f h)
                clear h
                refine AW_skip ?_
                refine blN ?_
                refine thenN ?_
                refine AW_cut (σ := Int) (fun v => ⟨[(2, .inl (is (U16 a2))), (8, .inr (.inl (8, 0))), (9, .inl (is (I64 v)))], [(8, pb 175 [is (U64 x2), is (Bl x3), is (I8 x4), is (Bl x5), big x6, big x7])]⟩) (fun v => some r = F99_5 N a2 x2 x3 x4 x5 x6 x7 v) ?_ ?_
                · skip
                  refine AW_region ?_
                  refine AL_cons (LR_fieldAddr (off := 0) (o := 3) (at_tmp 8 _) (fun b w => fa175_3 b 0 w) rfl) (sS (sT1 rfl) sB0 sF0) ?_
                  refine AL_cons (LR_loads (at_tmp 32 _) ag119 sz119 rfl rfl rfl) (sS (sT1 rfl) (sB1 rfl) sF0) ?_
                  obtain ⟨y14, hy14, hr⟩ := bind_some hr
                  refine AL_cons (LR_call Hfaa.func147 rfl rfl (C147 N x5 x6 x7 y14 hy14) (all_cons (at_tmp 33 _) all_nil) rfl) (sS (sA (sT1 rfl) sT0) sB0 sF0) ?_
                  refine AL_cons (LR_assign (at_tmp 34 _) rfl) (sS (sT1 rfl) sB0 sF0) ?_
                  refine AL_nil ?_
                  exact thenN (cutLeaf (v := y14) hr (weak0 ((sT rfl (sT rfl (sT rfl sT0)))) (sub_keep sub_nil)))
                · rintro x10 hr
                  show AW Hfaa.prog _ _ _ ⟨[(2, .inl (is (U16 a2))), (8, .inr (.inl (8, 0))), (9, .inl (is (I64 x10)))], [(8, pb 175 [is (U64 x2), is (Bl x3), is (I8 x4), is (Bl x5), big x6, big x7])]⟩
                  have hr : some r = F99_5 N a2 x2 x3 x4 x5 x6 x7 x10 := hr
                  refine AW_cut (σ := Nat) (fun v => ⟨[(2, .inl (is (U16 a2))), (9, .inl (is (I64 x10))), (10, .inl (big v))], []⟩) (fun v => some r = F99_6 N a2 x10 v) ?_ ?_
                  · skip
                    refine AW_region ?_
                    refine AL_cons (LR_fieldAddr (off := 0) (o := 3) (at_tmp 8 _) (fun b w => fa175_3 b 0 w) rfl) (sS (sT1 rfl) sB0 sF0) ?_
                    refine AL_cons (LR_loads (at_tmp 35 _) ag119 sz119 rfl rfl rfl) (sS (sT1 rfl) (sB1 rfl) sF0) ?_
                    refine AL_cons (LR_move (at_tmp 9 _) rfl) (sS (sT1 rfl) sB0 sF0) ?_
                    refine AL_cons (LR_move (at_tmp 2 _) rfl) (sS (sT1 rfl) sB0 sF0) ?_
                    refine AL_cons (LR_conv (vx := U16 a2) (at_tmp 38 _) (conv_I64 Hfaa.underlying71 Hfaa.underlying3 (a2.toNat : Int)) rfl) (sS (sT1 rfl) sB0 sF0) ?_
                    refine AL_cons (LR_bin (at_tmp 37 _) (at_tmp 39 _) (sub_I64 x10 (w64 (a2.toNat : Int))) rfl) (sS (sA (sT1 rfl) (sT1 rfl)) sB0 sF0) ?_
                    obtain ⟨y13, hy13, hr⟩ := bind_some hr
                    refine AL_cons (LR_call Hfaa.func197 rfl rfl (C197 N x5 x6 x7 (w64 (x10 - (w64 (a2.toNat : Int)))) y13 hy13) (all_cons (at_tmp 36 _) (all_cons (at_tmp 40 _) all_nil)) rfl) (sS (sA (sT1 rfl) (sA (sT1 rfl) sT0)) sB0 sF0) ?_
                    refine AL_cons (LR_assign (at_tmp 41 _) rfl) (sS (sT1 rfl) sB0 sF0) ?_
                    refine AL_nil ?_
                    exact thenN (cutLeaf (v := y13) hr (weak0 ((sT rfl (sT rfl (sT rfl sT0)))) (sub_drop sub_nil)))
                  · rintro x11 hr
                    show AW Hfaa.prog _ _ _ ⟨[(2, .inl (is (U16 a2))), (9, .inl (is (I64 x10))), (10, .inl (big x11))], []⟩
                    have hr : some r = F99_6 N a2 x10 x11 := hr
                    refine AW_cut (σ := List UInt8) (fun v => ⟨[(2, .inl (is (U16 a2))), (9, .inl (is (I64 x10))), (6, .inl (is (Sv v)))], []⟩) (fun v => some r = F99_7 N a2 x10 v) ?_ ?_
                    · skip
                      refine AW_region ?_
                      refine AL_cons (LR_move (at_tmp 10 _) rfl) (sS (sT1 rfl) sB0 sF0) ?_
                      obtain ⟨y12, hy12, hr⟩ := bind_some hr
                      refine AL_cons (LR_call Hfaa.func198 rfl rfl (C198 N x11 y12 hy12) (all_cons (at_tmp 42 _) all_nil) rfl) (sS (sA (sT1 rfl) sT0) sB0 sF0) ?_
                      refine AL_cons (LR_assign (at_tmp 43 _) rfl) (sS (sT1 rfl) sB0 sF0) ?_
                      refine AL_nil ?_
                      exact thenN (cutLeaf (v := y12) hr (weak0 ((sT rfl (sT rfl (sT rfl sT0)))) sub_nil))
                    · rintro x12 hr
                      show AW Hfaa.prog _ _ _ ⟨[(2, .inl (is (U16 a2))), (9, .inl (is (I64 x10))), (6, .inl (is (Sv x12)))], []⟩
                      have hr : some r = F99_7 N a2 x10 x12 := hr
                      refine AW_seq1 ?_
                      refine AW_cut (σ := Bool) (fun v => ⟨[(2, .inl (is (U16 a2))), (9, .inl (is (I64 x10))), (6, .inl (is (Sv x12))), (49, .inl (is (Bl v)))], []⟩) (fun v => some r = F99_8 N a2 x10 x12 v) ?_ ?_
                      · skip
                        refine AW_region ?_
                        refine AL_cons (LR_move (at_tmp 6 _) rfl) (sS (sT1 rfl) sB0 sF0) ?_
                        refine AL_cons (LR_bi1 (at_tmp 44 _) (len_S Hfaa.underlying9 x12) rfl) (sS (sT1 rfl) sB0 sF0) ?_
                        refine AL_cons (LR_move (at_tmp 2 _) rfl) (sS (sT1 rfl) sB0 sF0) ?_
                        refine AL_cons (LR_conv (vx := U16 a2) (at_tmp 46 _) (conv_I64 Hfaa.underlying71 Hfaa.underlying3 (a2.toNat : Int)) rfl) (sS (sT1 rfl) sB0 sF0) ?_
                        refine AL_cons (LR_bin (at_tmp 47 _) (at_c (v' := I64 1) rfl) (add_I64 (w64 (a2.toNat : Int)) 1) rfl) (sS (sA (sT1 rfl) sT0) sB0 sF0) ?_
                        refine AL_cons (LR_bin (at_tmp 45 _) (at_tmp 48 _) (gtr_I64 (x12.length : Int) (w64 ((w64 (a2.toNat : Int)) + 1))) rfl) (sS (sA (sT1 rfl) (sT1 rfl)) sB0 sF0) ?_
                        refine AL_nil ?_
                        exact thenN (cutLeaf (v := decide ((x12.length : Int) > (w64 ((w64 (a2.toNat : Int)) + 1)))) hr (weak0 ((sT rfl (sT rfl (sT rfl (sT rfl sT0))))) sub_nil))
                      · rintro x13 hr
                        show AW Hfaa.prog _ _ _ ⟨[(2, .inl (is (U16 a2))), (9, .inl (is (I64 x10))), (6, .inl (is (Sv x12))), (49, .inl (is (Bl x13)))], []⟩
                        have hr : some r = F99_8 N a2 x10 x12 x13 := hr
                        refine AW_condT (b := x13) rfl (fun h => ?_) (fun h => ?_)
                        · have hr := hr.trans (cond_t h)
                          clear h
                          refine AW_seq1 ?_
                          refine AW_region ?_
                          refine AL_cons (LR_move (at_tmp 6 _) rfl) (sS (sT1 rfl) sB0 sF0) ?_
                          refine AL_cons (LR_move (at_tmp 2 _) rfl) (sS (sT1 rfl) sB0 sF0) ?_
                          refine AL_cons (LR_bin (at_tmp 51 _) (at_c (v' := U16 (1#16)) rfl) (add_U16 a2 (1#16)) rfl) (sS (sA (sT1 rfl) sT0) sB0 sF0) ?_
                          obtain ⟨hg4, hr⟩ := guard_some hr
                          refine AL_cons (LR_sliceS (i := (0 : Int)) (j := ((a2 + (1#16)).toNat : Int)) Hfaa.underlying9 (at_tmp 50 _) (fun _ _ _ _ _ _ _ => .inl ⟨rfl, rfl⟩) (fun B bn s a w hs hr => .inr ⟨_, congrArg some ((at_tmp 52 (.inl (is (U16 (a2 + (1#16)))))) B bn s a w hs hr)⟩) (dand3 hg4) rfl) (sS (sA (sT1 rfl) (sA sT0 (sT1 rfl))) sB0 sF0) ?_
                          refine AL_cons (LR_move (at_tmp 9 _) rfl) (sS (sT1 rfl) sB0 sF0) ?_
                          refine AL_cons (LR_bin (at_tmp 54 _) (at_c (v' := I64 1) rfl) (add_I64 x10 1) rfl) (sS (sA (sT1 rfl) sT0) sB0 sF0) ?_
                          refine AL_cons (LR_conv (vx := I64 (w64 (x10 + 1))) (at_tmp 55 _) (conv_I16 Hfaa.underlying3 Hfaa.underlying44 (w64 (x10 + 1))) rfl) (sS (sT1 rfl) sB0 sF0) ?_
                          refine AL_cons (LR_assign (at_tmp 53 _) rfl) (sS (sT1 rfl) sB0 sF0) ?_
                          refine AL_cons (LR_assign (at_tmp 56 _) rfl) (sS (sT1 rfl) sB0 sF0) ?_
                          refine AL_nil ?_
                          refine thenN ?_
                          refine AW_ret ?_
                          refine thenR ?_
                          obtain rfl := Option.some.inj hr
                          exact res2 rfl (rvT rfl) (rvT rfl)
                        · have hr := hr.trans (cond_f h)
                          clear h
                          refine AW_skip ?_
                          refine thenN ?_
                          refine AW_seq1 ?_
                          refine AW_region ?_
                          refine AL_cons (LR_move (at_tmp 6 _) rfl) (sS (sT1 rfl) sB0 sF0) ?_
                          refine AL_cons (LR_move (at_tmp 9 _) rfl) (sS (sT1 rfl) sB0 sF0) ?_
                          refine AL_cons (LR_conv (vx := I64 x10) (at_tmp 58 _) (conv_I16 Hfaa.underlying3 Hfaa.underlying44 x10) rfl) (sS (sT1 rfl) sB0 sF0) ?_
                          refine AL_cons (LR_assign (at_tmp 57 _) rfl) (sS (sT1 rfl) sB0 sF0) ?_
                          refine AL_cons (LR_assign (at_tmp 59 _) rfl) (sS (sT1 rfl) sB0 sF0) ?_
                          refine AL_nil ?_
                          refine thenN ?_
                          refine AW_ret ?_
                          obtain rfl := Option.some.inj hr
                          exact res2 rfl (rvT rfl) (rvT rfl)
/-- dec.TextE -/
def F379_7 (N : Nat) (x4 : List UInt8) (x6 : Int) (x8 : List UInt8) : Option (List UInt8) := bif decide (x4.length + x8.length ≤ 9223372036854775807) then (F170 N x6).bind fun y2 => bif decide ((x4 ++ x8).length + y2.length ≤ 9223372036854775807) then some ((x4 ++ x8) ++ y2) else none else none
def F379_8 (N : Nat) (x4 : List UInt8) (x6 : Int) (x7 : List UInt8) (x9 : Bool) : Option (List UInt8) := bif x9 then bif decide (x7.length + ([48] : List UInt8).length ≤ 9223372036854775807) then F379_7 N x4 x6 (x7 ++ ([48] : List UInt8)) else none else F379_7 N x4 x6 x7
def F379_6 (N : Nat) (x4 : List UInt8) (x6 : Int) (x7 : List UInt8) : Option (List UInt8) := F379_8 N x4 x6 x7 (decide (x6 < 10))
def F379_9 (N : Nat) (x4 : List UInt8) (x5 : Int) (x10 : Bool) : Option (List UInt8) := bif x10 then F379_6 N x4 (w64 (0 - x5)) ([101, 45] : List UInt8) else F379_6 N x4 x5 ([101, 43] : List UInt8)
def F379_5 (N : Nat) (x4 : List UInt8) (x5 : Int) : Option (List UInt8) := F379_9 N x4 x5 (decide (x5 < 0))
def F379_4 (N : Nat) (a2 : Int) (x4 : List UInt8) : Option (List UInt8) := F379_5 N x4 (w64 a2)
def F379_10 (N : Nat) (a1 : List UInt8) (a2 : Int) (x3 : List UInt8) (x11 : Bool) : Option (List UInt8) := bif x11 then bif (decide (0 ≤ (1 : Int)) && (decide ((1 : Int) ≤ (a1.length : Int)) && decide ((a1.length : Int) ≤ (a1.length : Int)))) then bif decide (([46] : List UInt8).length + ((a1.drop ((1 : Int)).toNat).take (((a1.length : Int)).toNat - ((1 : Int)).toNat)).length ≤ 9223372036854775807) then bif decide (x3.length + (([46] : List UInt8) ++ ((a1.drop ((1 : Int)).toNat).take (((a1.length : Int)).toNat - ((1 : Int)).toNat))).length ≤ 9223372036854775807) then F379_4 N a2 (x3 ++ (([46] : List UInt8) ++ ((a1.drop ((1 : Int)).toNat).take (((a1.length : Int)).toNat - ((1 : Int)).toNat)))) else none else none else none else F379_4 N a2 x3
def F379_3 (N : Nat) (a1 : List UInt8) (a2 : Int) (x3 : List UInt8) : Option (List UInt8) := F379_10 N a1 a2 x3 (decide ((a1.length : Int) > 1))
def F379_2 (N : Nat) (a0 : Bool) (a1 : List UInt8) (a2 : Int) (x2 : List UInt8) : Option (List UInt8) := bif a0 then bif decide (([45] : List UInt8).length + x2.length ≤ 9223372036854775807) then F379_3 N a1 a2 (([45] : List UInt8) ++ x2) else none else F379_3 N a1 a2 x2
def F379_1 (N : Nat) (a0 : Bool) (a1 : List UInt8) (a2 : Int) (x1 : Bool) : Option (List UInt8) := bif x1 then some ([] : List UInt8) else bif (decide (0 ≤ (0 : Int)) && (decide ((0 : Int) ≤ (1 : Int)) && decide ((1 : Int) ≤ (a1.length : Int)))) then F379_2 N a0 a1 a2 ((a1.drop ((0 : Int)).toNat).take (((1 : Int)).toNat - ((0 : Int)).toNat)) else none
def F379 (N : Nat) (a0 : Bool) (a1 : List UInt8) (a2 : Int) : Option (List UInt8) := F379_1 N a0 a1 a2 (a1 == ([] : List UInt8))
theorem C379 (N : Nat) (a0 : Bool) (a1 : List UInt8) (a2 : Int) (r : List UInt8) (hr : some r = F379 N a0 a1 a2) : Aw.Fn Hfaa.prog 379 [is (Bl a0), is (Sv a1), is (I16 a2)] (is (Sv r)) := by
  refine fn_intro Hfaa.func379 rfl rfl rfl ?_
  intro bn0 w0 H0
  refine AW_seq1 ?_
  refine AW_region ?_
  refine AL_cons (LR_assign (at_c (v' := Sv ([] : List UInt8)) rfl) rfl) (sS sT0 sB0 sF0) ?_
  refine AL_nil ?_
  refine thenN ?_
  refine AW_seq1 ?_
  refine AW_cut (σ := Bool) (fun v => ⟨[(0, .inl (is (Bl a0))), (1, .inl (is (Sv a1))), (2, .inl (is (I16 a2))), (11, .inl (is (Bl v)))], []⟩) (fun v => some r = F379_1 N a0 a1 a2 v) ?_ ?_
  · skip
    refine AW_region ?_
    refine AL_cons (LR_move (at_tmp 1 _) rfl) (sS (sT1 rfl) sB0 sF0) ?_
    refine AL_cons (LR_bin (at_tmp 10 _) (at_c (v' := Sv ([] : List UInt8)) rfl) (eql_S a1 ([] : List UInt8)) rfl) (sS (sA (sT1 rfl) sT0) sB0 sF0) ?_
    refine AL_nil ?_
    exact thenN (cutLeaf (v := a1 == ([] : List UInt8)) hr (weak0 ((sT rfl (sT rfl (sT rfl (sT rfl sT0))))) sub_nil))
  · rintro x1 hr
    show AW Hfaa.prog _ _ _ ⟨[(0, .inl (is (Bl a0))), (1, .inl (is (Sv a1))), (2, .inl (is (I16 a2))), (11, .inl (is (Bl x1)))], []⟩
    have hr : some r = F379_1 N a0 a1 a2 x1 := hr
    refine AW_condT (b := x1) rfl (fun h => ?_) (fun h => ?_)
    · have hr := hr.trans (cond_t h)
      clear h
      refine AW_seq1 ?_
      refine AW_region ?_
      refine AL_cons (LR_assign (at_c (v' := Sv ([] : List UInt8)) rfl) rfl) (sS sT0 sB0 sF0) ?_
      refine AL_nil ?_
      refine thenN ?_
      refine AW_ret ?_
      refine thenR ?_
      obtain rfl := Option.some.inj hr
      exact res1 rfl (rvT rfl)
    · have hr := hr.trans (cond_f h)
      clear h
      refine AW_skip ?_
      refine thenN ?_
      refine AW_cut (σ := List UInt8) (fun v => ⟨[(0, .inl (is (Bl a0))), (1, .inl (is (Sv a1))), (2, .inl (is (I16 a2))), (7, .inl (is (Sv v)))], []⟩) (fun v => some r = F379_2 N a0 a1 a2 v) ?_ ?_
      · skip
        refine AW_region ?_
        refine AL_cons (LR_move (at_tmp 1 _) rfl) (sS (sT1 rfl) sB0 sF0) ?_
        obtain ⟨hg16, hr⟩ := guard_some hr
        refine AL_cons (LR_sliceS (i := (0 : Int)) (j := (1 : Int)) Hfaa.underlying9 (at_tmp 12 _) (fun _ _ _ _ _ _ _ => .inl ⟨rfl, rfl⟩) (fun B bn s a w hs hr => .inr ⟨_, congrArg some ((at_c (v' := I64 1) rfl) B bn s a w hs hr)⟩) (dand3 hg16) rfl) (sS (sA (sT1 rfl) (sA sT0 sT0)) sB0 sF0) ?_
        refine AL_cons (LR_assign (at_tmp 13 _) rfl) (sS (sT1 rfl) sB0 sF0) ?_
        refine AL_nil ?_
        exact thenN (cutLeaf (v := (a1.drop ((0 : Int)).toNat).take (((1 : Int)).toNat - ((0 : Int)).toNat)) hr (weak0 ((sT rfl (sT rfl (sT rfl (sT rfl sT0))))) sub_nil))
      · rintro x2 hr
        show AW Hfaa.prog _ _ _ ⟨[(0, .inl (is (Bl a0))), (1, .inl (is (Sv a1))), (2, .inl (is (I16 a2))), (7, .inl (is (Sv x2)))], []⟩
        have hr : some r = F379_2 N a0 a1 a2 x2 := hr
        refine AW_cut (σ := List UInt8) (fun v => ⟨[(1, .inl (is (Sv a1))), (2, .inl (is (I16 a2))), (7, .inl (is (Sv v)))], []⟩) (fun v => some r = F379_3 N a1 a2 v) ?_ ?_
        · skip
          refine AW_seq1 ?_
          refine AW_region ?_
          refine AL_cons (LR_move (at_tmp 0 _) rfl) (sS (sT1 rfl) sB0 sF0) ?_
          refine AL_nil ?_
          refine thenN ?_
          refine AW_condT (b := a0) rfl (fun h => ?_) (fun h => ?_)
          · have hr := hr.trans (cond_t h)
            clear h
            refine AW_region ?_
            refine AL_cons (LR_move (at_tmp 7 _) rfl) (sS (sT1 rfl) sB0 sF0) ?_
            obtain ⟨hg15, hr⟩ := guard_some hr
            refine AL_cons (LR_bin (at_c (v' := Sv ([45] : List UInt8)) rfl) (at_tmp 15 _) (add_S ([45] : List UInt8) x2 (of_decide_eq_true hg15)) rfl) (sS (sA sT0 (sT1 rfl)) sB0 sF0) ?_
            refine AL_cons (LR_assign (at_tmp 16 _) rfl) (sS (sT1 rfl) sB0 sF0) ?_
            refine AL_nil ?_
            exact thenN (cutLeaf (v := ([45] : List UInt8) ++ x2) hr (weak0 ((sT rfl (sT rfl (sT rfl sT0)))) sub_nil))
          · have hr := hr.trans (cond_f h)
            clear h
            refine AW_skip ?_
            exact thenN (cutLeaf (v := x2) hr (weak0 ((sT rfl (sT rfl (sT rfl sT0)))) sub_nil))
        · rintro x3 hr
          show AW Hfaa.prog _ _ _ ⟨[(1, .inl (is (Sv a1))), (2, .inl (is (I16 a2))), (7, .inl (is (Sv x3)))], []⟩
          have hr : some r = F379_3 N a1 a2 x3 := hr
          refine AW_cut (σ := List UInt8) (fun v => ⟨[(2, .inl (is (I16 a2))), (7, .inl (is (Sv v)))], []⟩) (fun v => some r = F379_4 N a2 v) ?_ ?_
          · skip
            refine AW_cut (σ := Bool) (fun v => ⟨[(1, .inl (is (Sv a1))), (2, .inl (is (I16 a2))), (7, .inl (is (Sv x3))), (19, .inl (is (Bl v)))], []⟩) (fun v => some r = F379_10 N a1 a2 x3 v) ?_ ?_
            · skip
              refine AW_region ?_
              refine AL_cons (LR_move (at_tmp 1 _) rfl) (sS (sT1 rfl) sB0 sF0) ?_
              refine AL_cons (LR_bi1 (at_tmp 17 _) (len_S Hfaa.underlying9 a1) rfl) (sS (sT1 rfl) sB0 sF0) ?_
              refine AL_cons (LR_bin (at_tmp 18 _) (at_c (v' := I64 1) rfl) (gtr_I64 (a1.length : Int) 1) rfl) (sS (sA (sT1 rfl) sT0) sB0 sF0) ?_
              refine AL_nil ?_
              exact thenN (cutLeaf (v := decide ((a1.length : Int) > 1)) hr (weak0 ((sT rfl (sT rfl (sT rfl (sT rfl sT0))))) sub_nil))
            · rintro x11 hr
              show AW Hfaa.prog _ _ _ ⟨[(1, .inl (is (Sv a1))), (2, .inl (is (I16 a2))), (7, .inl (is (Sv x3))), (19, .inl (is (Bl x11)))], []⟩
              have hr : some r = F379_10 N a1 a2 x3 x11 := hr
              refine AW_condT (b := x11) rfl (fun h => ?_) (fun h => ?_)
              · have hr := hr.trans (cond_t h)
                clear h
                refine AW_region ?_
                refine AL_cons (LR_move (at_tmp 7 _) rfl) (sS (sT1 rfl) sB0 sF0) ?_
                refine AL_cons (LR_move (at_tmp 1 _) rfl) (sS (sT1 rfl) sB0 sF0) ?_
                obtain ⟨hg12, hr⟩ := guard_some hr
                refine AL_cons (LR_sliceS (i := (1 : Int)) (j := (a1.length : Int)) Hfaa.underlying9 (at_tmp 21 _) (fun B bn s a w hs hr => .inr ⟨_, congrArg some ((at_c (v' := I64 1) rfl) B bn s a w hs hr)⟩) (fun _ _ _ _ _ _ _ => .inl ⟨rfl, rfl⟩) (dand3 hg12) rfl) (sS (sA (sT1 rfl) (sA sT0 sT0)) sB0 sF0) ?_
                obtain ⟨hg13, hr⟩ := guard_some hr
                refine AL_cons (LR_bin (at_c (v' := Sv ([46] : List UInt8)) rfl) (at_tmp 22 _) (add_S ([46] : List UInt8) ((a1.drop ((1 : Int)).toNat).take (((a1.length : Int)).toNat - ((1 : Int)).toNat)) (of_decide_eq_true hg13)) rfl) (sS (sA sT0 (sT1 rfl)) sB0 sF0) ?_
                obtain ⟨hg14, hr⟩ := guard_some hr
                refine AL_cons (LR_bin (at_tmp 20 _) (at_tmp 23 _) (add_S x3 (([46] : List UInt8) ++ ((a1.drop ((1 : Int)).toNat).take (((a1.length : Int)).toNat - ((1 : Int)).toNat))) (of_decide_eq_true hg14)) rfl) (sS (sA (sT1 rfl) (sT1 rfl)) sB0 sF0) ?_
                refine AL_cons (LR_assign (at_tmp 24 _) rfl) (sS (sT1 rfl) sB0 sF0) ?_
                refine AL_nil ?_
                exact thenN (cutLeaf (v := x3 ++ (([46] : List UInt8) ++ ((a1.drop ((1 : Int)).toNat).take (((a1.length : Int)).toNat - ((1 : Int)).toNat)))) hr (weak0 ((sT rfl (sT rfl sT0))) sub_nil))
              · have hr := hr.trans (cond_f h)
                clear h
                refine AW_skip ?_
                exact thenN (cutLeaf (v := x3) hr (weak0 ((sT rfl (sT rfl sT0))) sub_nil))
          · rintro x4 hr
            show AW Hfaa.prog _ _ _ ⟨[(2, .inl (is (I16 a2))), (7, .inl (is (Sv x4)))], []⟩
            have hr : some r = F379_4 N a2 x4 := hr
            refine AW_cut (σ := Int) (fun v => ⟨[(7, .inl (is (Sv x4))), (8, .inl (is (I64 v))), (9, .inl (is (Sv ([101, 43] : List UInt8))))], []⟩) (fun v => some r = F379_5 N x4 v) ?_ ?_
            · skip
              refine AW_region ?_
              refine AL_cons (LR_move (at_tmp 2 _) rfl) (sS (sT1 rfl) sB0 sF0) ?_
              refine AL_cons (LR_conv (vx := I16 a2) (at_tmp 25 _) (conv_I64 Hfaa.underlying44 Hfaa.underlying2 a2) rfl) (sS (sT1 rfl) sB0 sF0) ?_
              refine AL_cons (LR_assign (at_tmp 26 _) rfl) (sS (sT1 rfl) sB0 sF0) ?_
              refine AL_cons (LR_assign (at_c (v' := Sv ([101, 43] : List UInt8)) rfl) rfl) (sS sT0 sB0 sF0) ?_
              refine AL_nil ?_
              exact thenN (cutLeaf (v := w64 a2) hr (weak0 ((sT rfl (sT rfl (sT rfl sT0)))) sub_nil))
            · rintro x5 hr
              show AW Hfaa.prog _ _ _ ⟨[(7, .inl (is (Sv x4))), (8, .inl (is (I64 x5))), (9, .inl (is (Sv ([101, 43] : List UInt8))))], []⟩
              have hr : some r = F379_5 N x4 x5 := hr
              refine AW_cut (σ := Int × List UInt8) (fun v => ⟨[(7, .inl (is (Sv x4))), (8, .inl (is (I64 v.1))), (9, .inl (is (Sv v.2)))], []⟩) (fun v => some r = F379_6 N x4 v.1 v.2) ?_ ?_
              · skip
                refine AW_cut (σ := Bool) (fun v => ⟨[(7, .inl (is (Sv x4))), (8, .inl (is (I64 x5))), (9, .inl (is (Sv ([101, 43] : List UInt8)))), (28, .inl (is (Bl v)))], []⟩) (fun v => some r = F379_9 N x4 x5 v) ?_ ?_
                · skip
                  refine AW_region ?_
                  refine AL_cons (LR_move (at_tmp 8 _) rfl) (sS (sT1 rfl) sB0 sF0) ?_
                  refine AL_cons (LR_bin (at_tmp 27 _) (at_c (v' := I64 0) rfl) (lss_I64 x5 0) rfl) (sS (sA (sT1 rfl) sT0) sB0 sF0) ?_
                  refine AL_nil ?_
                  exact thenN (cutLeaf (v := decide (x5 < 0)) hr (weak0 ((sT rfl (sT rfl (sT rfl (sT rfl sT0))))) sub_nil))
                · rintro x10 hr
                  show AW Hfaa.prog _ _ _ ⟨[(7, .inl (is (Sv x4))), (8, .inl (is (I64 x5))), (9, .inl (is (Sv ([101, 43] : List UInt8)))), (28, .inl (is (Bl x10)))], []⟩
                  have hr : some r = F379_9 N x4 x5 x10 := hr
                  refine AW_condT (b := x10) rfl (fun h => ?_) (fun h => ?_)
                  · have hr := hr.trans (cond_t h)
                    clear h
                    refine AW_region ?_
                    refine AL_cons (LR_move (at_tmp 8 _) rfl) (sS (sT1 rfl) sB0 sF0) ?_
                    refine AL_cons (LR_un (at_tmp 29 _) (neg_I64 x5) rfl) (sS (sT1 rfl) sB0 sF0) ?_
                    refine AL_cons (LR_assign (at_tmp 30 _) rfl) (sS (sT1 rfl) sB0 sF0) ?_
                    refine AL_cons (LR_assign (at_c (v' := Sv ([101, 45] : List UInt8)) rfl) rfl) (sS sT0 sB0 sF0) ?_
                    refine AL_nil ?_
                    exact thenN (cutLeaf (v := (w64 (0 - x5), ([101, 45] : List UInt8))) hr (weak0 ((sT rfl (sT rfl (sT rfl sT0)))) sub_nil))
                  · have hr := hr.trans (cond_f h)
                    clear h
                    refine AW_skip ?_
                    exact thenN (cutLeaf (v := (x5, ([101, 43] : List UInt8))) hr (weak0 ((sT rfl (sT rfl (sT rfl sT0)))) sub_nil))
              · rintro ⟨x6, x7⟩ hr
                show AW Hfaa.prog _ _ _ ⟨[(7, .inl (is (Sv x4))), (8, .inl (is (I64 x6))), (9, .inl (is (Sv x7)))], []⟩
                have hr : some r = F379_6 N x4 x6 x7 := hr
                refine AW_cut (σ := List UInt8) (fun v => ⟨[(7, .inl (is (Sv x4))), (8, .inl (is (I64 x6))), (9, .inl (is (Sv v)))], []⟩) (fun v => some r = F379_7 N x4 x6 v) ?_ ?_
                · skip
                  refine AW_cut (σ := Bool) (fun v => ⟨[(7, .inl (is (Sv x4))), (8, .inl (is (I64 x6))), (9, .inl (is (Sv x7))), (32, .inl (is (Bl v)))], []⟩) (fun v => some r = F379_8 N x4 x6 x7 v) ?_ ?_
                  · skip
                    refine AW_region ?_
                    refine AL_cons (LR_move (at_tmp 8 _) rfl) (sS (sT1 rfl) sB0 sF0) ?_
                    refine AL_cons (LR_bin (at_tmp 31 _) (at_c (v' := I64 10) rfl) (lss_I64 x6 10) rfl) (sS (sA (sT1 rfl) sT0) sB0 sF0) ?_
                    refine AL_nil ?_
                    exact thenN (cutLeaf (v := decide (x6 < 10)) hr (weak0 ((sT rfl (sT rfl (sT rfl (sT rfl sT0))))) sub_nil))
                  · rintro x9 hr
                    show AW Hfaa.prog _ _ _ ⟨[(7, .inl (is (Sv x4))), (8, .inl (is (I64 x6))), (9, .inl (is (Sv x7))), (32, .inl (is (Bl x9)))], []⟩
                    have hr : some r = F379_8 N x4 x6 x7 x9 := hr
                    refine AW_condT (b := x9) rfl (fun h => ?_) (fun h => ?_)
                    · have hr := hr.trans (cond_t h)
                      clear h
                      refine AW_region ?_
                      refine AL_cons (LR_move (at_tmp 9 _) rfl) (sS (sT1 rfl) sB0 sF0) ?_
                      obtain ⟨hg11, hr⟩ := guard_some hr
                      refine AL_cons (LR_bin (at_tmp 33 _) (at_c (v' := Sv ([48] : List UInt8)) rfl) (add_S x7 ([48] : List UInt8) (of_decide_eq_true hg11)) rfl) (sS (sA (sT1 rfl) sT0) sB0 sF0) ?_
                      refine AL_cons (LR_assign (at_tmp 34 _) rfl) (sS (sT1 rfl) sB0 sF0) ?_
                      refine AL_nil ?_
                      exact thenN (cutLeaf (v := x7 ++ ([48] : List UInt8)) hr (weak0 ((sT rfl (sT rfl (sT rfl sT0)))) sub_nil))
                    · have hr := hr.trans (cond_f h)
                      clear h
                      refine AW_skip ?_
                      exact thenN (cutLeaf (v := x7) hr (weak0 ((sT rfl (sT rfl (sT rfl sT0)))) sub_nil))
                · rintro x8 hr
                  show AW Hfaa.prog _ _ _ ⟨[(7, .inl (is (Sv x4))), (8, .inl (is (I64 x6))), (9, .inl (is (Sv x8)))], []⟩
                  have hr : some r = F379_7 N x4 x6 x8 := hr
                  refine AW_seq1 ?_
                  refine AW_region ?_
                  refine AL_cons (LR_move (at_tmp 7 _) rfl) (sS (sT1 rfl) sB0 sF0) ?_
                  refine AL_cons (LR_move (at_tmp 9 _) rfl) (sS (sT1 rfl) sB0 sF0) ?_
                  obtain ⟨hg9, hr⟩ := guard_some hr
                  refine AL_cons (LR_bin (at_tmp 35 _) (at_tmp 36 _) (add_S x4 x8 (of_decide_eq_true hg9)) rfl) (sS (sA (sT1 rfl) (sT1 rfl)) sB0 sF0) ?_
                  refine AL_cons (LR_move (at_tmp 8 _) rfl) (sS (sT1 rfl) sB0 sF0) ?_
                  obtain ⟨y2, hy2, hr⟩ := bind_some hr
                  refine AL_cons (LR_call Hfaa.func170 rfl rfl (C170 N x6 y2 hy2) (all_cons (at_tmp 38 _) all_nil) rfl) (sS (sA (sT1 rfl) sT0) sB0 sF0) ?_
                  obtain ⟨hg10, hr⟩ := guard_some hr
                  refine AL_cons (LR_bin (at_tmp 37 _) (at_tmp 39 _) (add_S (x4 ++ x8) y2 (of_decide_eq_true hg10)) rfl) (sS (sA (sT1 rfl) (sT1 rfl)) sB0 sF0) ?_
                  refine AL_cons (LR_assign (at_tmp 40 _) rfl) (sS (sT1 rfl) sB0 sF0) ?_
                  refine AL_nil ?_
                  refine thenN ?_
                  refine AW_ret ?_
                  obtain rfl := Option.some.inj hr
                  exact res1 rfl (rvT rfl)
/-- calc/ex.digits -/
def F303_3 (N : Nat) (a0_0 : BitVec 8) (a0_1 : BitVec 8) (a1 : BitVec 64) (x2 : Bool) (x4 : List UInt8) (x5 : Int) : Option (List UInt8) := (F379 N x2 x4 x5).bind fun y17 => lt (F292 a0_0 a0_1 a1 y17) fun y18 => some y18
def F303_2 (N : Nat) (a0_0 : BitVec 8) (a0_1 : BitVec 8) (a1 : BitVec 64) (x1 : BitVec 16) (x2 : Bool) (x3 : Bool) : Option (List UInt8) := bif x3 then (F103 N a0_0 a0_1 a1 x1).bind fun y11 => (F378 N x2 y11 x1).bind fun y12 => lt (F292 a0_0 a0_1 a1 y12) fun y13 => some y13 else (F99 N a0_0 a0_1 a1 x1).bind fun y19 => F303_3 N a0_0 a0_1 a1 x2 y19.1 y19.2
def F303_1 (N : Nat) (a0_0 : BitVec 8) (a0_1 : BitVec 8) (a1 : BitVec 64) (a2_0 : BitVec 8) (a2_1 : BitVec 8) (a2_2 : BitVec 8) (a2_3 : BitVec 8) (a2_4 : BitVec 64) (a2_5 : List UInt8) (x1 : BitVec 16) (x2 : Bool) : Option (List UInt8) := F303_2 N a0_0 a0_1 a1 x1 x2 (a2_0 == (24#8))
def F303 (N : Nat) (a0_0 : BitVec 8) (a0_1 : BitVec 8) (a1 : BitVec 64) (a2_0 : BitVec 8) (a2_1 : BitVec 8) (a2_2 : BitVec 8) (a2_3 : BitVec 8) (a2_4 : BitVec 64) (a2_5 : List UInt8) : Option (List UInt8) := lt (F70 a0_0 a0_1) fun y20 => F303_1 N a0_0 a0_1 a1 a2_0 a2_1 a2_2 a2_3 a2_4 a2_5 (BitVec.ofInt 16 ((a2_4 % (2001#64)).toNat : Int)) ((a1 &&& y20) != (0#64))
theorem C303 (N : Nat) (a0_0 : BitVec 8) (a0_1 : BitVec 8) (a1 : BitVec 64) (a2_0 : BitVec 8) (a2_1 : BitVec 8) (a2_2 : BitVec 8) (a2_3 : BitVec 8) (a2_4 : BitVec 64) (a2_5 : List UInt8) (r : List UInt8) (hr : some r = F303 N a0_0 a0_1 a1 a2_0 a2_1 a2_2 a2_3 a2_4 a2_5) : Aw.Fn Hfaa.prog 303 [agg [is (U8 a0_0), is (U8 a0_1)], is (U64 a1), agg [is (U8 a2_0), is (U8 a2_1), is (U8 a2_2), is (U8 a2_3), is (U64 a2_4), is (Sv a2_5)]] (is (Sv r)) := by
  refine fn_intro Hfaa.func303 rfl rfl rfl ?_
  intro bn0 w0 H0
  refine AW_seq1 ?_
  refine AW_region ?_
  refine AL_cons (LR_box (at_tmp 0 _) (cells_agg _) rfl) (sS (sT1 rfl) sB0 (sF1 rfl)) ?_
  refine AL_cons (LR_box (at_tmp 2 _) (cells_agg _) rfl) (sS (sT1 rfl) sB0 (sF1 rfl)) ?_
  refine AL_cons (LR_assign (at_c (v' := Sv ([] : List UInt8)) rfl) rfl) (sS sT0 sB0 sF0) ?_
  refine AL_nil ?_
  refine thenN ?_
  refine AW_cut (σ := BitVec 16 × Bool) (fun v => ⟨[(1, .inl (is (U64 a1))), (3, .inr (.inl (3, 0))), (5, .inr (.inl (5, 0))), (7, .inl (is (U16 v.1))), (8, .inl (is (Bl v.2)))], [(3, pb 23 [is (U8 a0_0), is (U8 a0_1)]), (5, pb 96 [is (U8 a2_0), is (U8 a2_1), is (U8 a2_2), is (U8 a2_3), is (U64 a2_4), is (Sv a2_5)])]⟩) (fun v => some r = F303_1 N a0_0 a0_1 a1 a2_0 a2_1 a2_2 a2_3 a2_4 a2_5 v.1 v.2) ?_ ?_
  · skip
    obtain ⟨y20, hy20, hr⟩ := lt_some hr
    refine AW_draw mixed
      (lrC (LR_fieldAddr (off := 0) (o := 4) (at_tmp 5 _) (fun b w => fa96_4 b 0 w) rfl)
      (lrC (LR_load (at_tmp 11 _) na30 rfl rfl)
      (lrC (LR_bin (at_tmp 12 _) (at_c (v' := U64 (2001#64)) rfl) (rem_U64 a2_4 (2001#64) (by decide)) rfl)
      (lrC (LR_conv (vx := U64 (a2_4 % (2001#64))) (at_tmp 13 _) (conv_U16 Hfaa.underlying30 Hfaa.underlying71 ((a2_4 % (2001#64)).toNat : Int)) rfl)
      (lrC (LR_move (at_tmp 1 _) rfl)
      (lrC (LR_loads (at_tmp 3 _) ag23 sz23 rfl rfl rfl)
      (lrC (LR_call Hfaa.func70 rfl rfl (C70 a0_0 a0_1 y20 hy20) (all_cons (at_tmp 16 _) all_nil) rfl)
      (lrC (LR_bin (at_tmp 15 _) (at_tmp 17 _) (and_U64 a1 y20) rfl)
      (lrC (LR_bin (at_tmp 18 _) (at_c (v' := U64 (0#64)) rfl) (neq_U64 (a1 &&& y20) (0#64)) rfl)
      (lrC (LR_assign (at_tmp 14 _) rfl)
      (lrC (LR_assign (at_tmp 19 _) rfl)
      lrN)))))))))))
      (by kernel_rfl)
      (saC (sS (sT1 rfl) sB0 sF0) (saC (sS (sT1 rfl) (sB1 rfl) sF0) (saC (sS (sA (sT1 rfl) sT0) sB0 sF0) (saC (sS (sT1 rfl) sB0 sF0) (saC (sS (sT1 rfl) sB0 sF0) (saC (sS (sT1 rfl) (sB1 rfl) sF0) (saC (sS (sA (sT1 rfl) sT0) sB0 sF0) (saC (sS (sA (sT1 rfl) (sT1 rfl)) sB0 sF0) (saC (sS (sA (sT1 rfl) sT0) sB0 sF0) (saC (sS (sT1 rfl) sB0 sF0) (saC (sS (sT1 rfl) sB0 sF0) saN))))))))))) ?_
    exact thenN (cutLeaf (v := (BitVec.ofInt 16 ((a2_4 % (2001#64)).toNat : Int), (a1 &&& y20) != (0#64))) hr (weak0 ((sT rfl (sT rfl (sT rfl (sT rfl (sT rfl sT0)))))) (sub_keep (sub_keep sub_nil))))
  · rintro ⟨x1, x2⟩ hr
    show AW Hfaa.prog _ _ _ ⟨[(1, .inl (is (U64 a1))), (3, .inr (.inl (3, 0))), (5, .inr (.inl (5, 0))), (7, .inl (is (U16 x1))), (8, .inl (is (Bl x2)))], [(3, pb 23 [is (U8 a0_0), is (U8 a0_1)]), (5, pb 96 [is (U8 a2_0), is (U8 a2_1), is (U8 a2_2), is (U8 a2_3), is (U64 a2_4), is (Sv a2_5)])]⟩
    have hr : some r = F303_1 N a0_0 a0_1 a1 a2_0 a2_1 a2_2 a2_3 a2_4 a2_5 x1 x2 := hr
    refine AW_seq1 ?_
    refine AW_cut (σ := Bool) (fun v => ⟨[(1, .inl (is (U64 a1))), (3, .inr (.inl (3, 0))), (7, .inl (is (U16 x1))), (8, .inl (is (Bl x2))), (22, .inl (is (Bl v)))], [(3, pb 23 [is (U8 a0_0), is (U8 a0_1)])]⟩) (fun v => some r = F303_2 N a0_0 a0_1 a1 x1 x2 v) ?_ ?_
    · skip
      refine AW_region ?_
      refine AL_cons (LR_fieldAddr (off := 0) (o := 0) (at_tmp 5 _) (fun b w => fa96_0 b 0 w) rfl) (sS (sT1 rfl) sB0 sF0) ?_
      refine AL_cons (LR_load (at_tmp 20 _) na5 rfl rfl) (sS (sT1 rfl) (sB1 rfl) sF0) ?_
      refine AL_cons (LR_bin (at_tmp 21 _) (at_c (v' := U8 (24#8)) rfl) (eql_U8 a2_0 (24#8)) rfl) (sS (sA (sT1 rfl) sT0) sB0 sF0) ?_
      refine AL_nil ?_
      exact thenN (cutLeaf (v := a2_0 == (24#8)) hr (weak0 ((sT rfl (sT rfl (sT rfl (sT rfl (sT rfl sT0)))))) (sub_keep (sub_drop sub_nil))))
    · rintro x3 hr
      show AW Hfaa.prog _ _ _ ⟨[(1, .inl (is (U64 a1))), (3, .inr (.inl (3, 0))), (7, .inl (is (U16 x1))), (8, .inl (is (Bl x2))), (22, .inl (is (Bl x3)))], [(3, pb 23 [is (U8 a0_0), is (U8 a0_1)])]⟩
      have hr : some r = F303_2 N a0_0 a0_1 a1 x1 x2 x3 := hr
      refine AW_condT (b := x3) rfl (fun h => ?_) (fun h => ?_)
      · have hr := hr.trans (cond_t h)
        clear h
        refine AW_seq1 ?_
        obtain ⟨y11, hy11, hr⟩ := bind_some hr
        obtain ⟨y12, hy12, hr⟩ := bind_some hr
        obtain ⟨y13, hy13, hr⟩ := lt_some hr
        refine AW_draw mixed
          (lrC (LR_loads (at_tmp 3 _) ag23 sz23 rfl rfl rfl)
          (lrC (LR_move (at_tmp 1 _) rfl)
          (lrC (LR_move (at_tmp 8 _) rfl)
          (lrC (LR_loads (at_tmp 3 _) ag23 sz23 rfl rfl rfl)
          (lrC (LR_move (at_tmp 1 _) rfl)
          (lrC (LR_move (at_tmp 7 _) rfl)
          (lrC (LR_call Hfaa.func103 rfl rfl (C103 N a0_0 a0_1 a1 x1 y11 hy11) (all_cons (at_tmp 26 _) (all_cons (at_tmp 27 _) (all_cons (at_tmp 28 _) all_nil))) rfl)
          (lrC (LR_move (at_tmp 7 _) rfl)
          (lrC (LR_call Hfaa.func378 rfl rfl (C378 N x2 y11 x1 y12 hy12) (all_cons (at_tmp 25 _) (all_cons (at_tmp 29 _) (all_cons (at_tmp 30 _) all_nil))) rfl)
          (lrC (LR_call Hfaa.func292 rfl rfl (C292 a0_0 a0_1 a1 y12 y13 hy13) (all_cons (at_tmp 23 _) (all_cons (at_tmp 24 _) (all_cons (at_tmp 31 _) all_nil))) rfl)
          (lrC (LR_assign (at_tmp 32 _) rfl)
          lrN)))))))))))
          (by kernel_rfl)
          (saC (sS (sT1 rfl) (sB1 rfl) sF0) (saC (sS (sT1 rfl) sB0 sF0) (saC (sS (sT1 rfl) sB0 sF0) (saC (sS (sT1 rfl) (sB1 rfl) sF0) (saC (sS (sT1 rfl) sB0 sF0) (saC (sS (sT1 rfl) sB0 sF0) (saC (sS (sA (sT1 rfl) (sA (sT1 rfl) (sA (sT1 rfl) sT0))) sB0 sF0) (saC (sS (sT1 rfl) sB0 sF0) (saC (sS (sA (sT1 rfl) (sA (sT1 rfl) (sA (sT1 rfl) sT0))) sB0 sF0) (saC (sS (sA (sT1 rfl) (sA (sT1 rfl) (sA (sT1 rfl) sT0))) sB0 sF0) (saC (sS (sT1 rfl) sB0 sF0) saN))))))))))) ?_
        refine thenN ?_
        refine AW_ret ?_
        refine thenR ?_
        obtain rfl := Option.some.inj hr
        exact res1 rfl (rvT rfl)
      · have hr := hr.trans (cond_f h)
        clear h
        refine AW_skip ?_
        refine thenN ?_
        refine AW_cut (σ := List UInt8 × Int) (fun v => ⟨[(1, .inl (is (U64 a1))), (3, .inr (.inl (3, 0))), (8, .inl (is (Bl x2))), (9, .inl (is (Sv v.1))), (10, .inl (is (I16 v.2)))], [(3, pb 23 [is (U8 a0_0), is (U8 a0_1)])]⟩) (fun v => some r = F303_3 N a0_0 a0_1 a1 x2 v.1 v.2) ?_ ?_
        · skip
          refine AW_region ?_
          refine AL_cons (LR_loads (at_tmp 3 _) ag23 sz23 rfl rfl rfl) (sS (sT1 rfl) (sB1 rfl) sF0) ?_
          refine AL_cons (LR_move (at_tmp 1 _) rfl) (sS (sT1 rfl) sB0 sF0) ?_
          refine AL_cons (LR_move (at_tmp 7 _) rfl) (sS (sT1 rfl) sB0 sF0) ?_
          obtain ⟨y19, hy19, hr⟩ := bind_some hr
          refine AL_cons (LR_call Hfaa.func99 rfl rfl (C99 N a0_0 a0_1 a1 x1 y19 hy19) (all_cons (at_tmp 34 _) (all_cons (at_tmp 35 _) (all_cons (at_tmp 36 _) all_nil))) rfl) (sS (sA (sT1 rfl) (sA (sT1 rfl) (sA (sT1 rfl) sT0))) sB0 sF0) ?_
          refine AL_cons (LR_move (at_tmp 37 _) rfl) (sS (sT1 rfl) sB0 sF0) ?_
          refine AL_cons (LR_extract (at_tmp 33 _) rfl rfl) (sS (sT1 rfl) sB0 sF0) ?_
          refine AL_cons (LR_extract (at_tmp 33 _) rfl rfl) (sS (sT1 rfl) sB0 sF0) ?_
          refine AL_cons (LR_assign (at_tmp 38 _) rfl) (sS (sT1 rfl) sB0 sF0) ?_
          refine AL_cons (LR_assign (at_tmp 39 _) rfl) (sS (sT1 rfl) sB0 sF0) ?_
          refine AL_nil ?_
          exact thenN (cutLeaf (v := (y19.1, y19.2)) hr (weak0 ((sT rfl (sT rfl (sT rfl (sT rfl (sT rfl sT0)))))) (sub_keep sub_nil)))
        · rintro ⟨x4, x5⟩ hr
          show AW Hfaa.prog _ _ _ ⟨[(1, .inl (is (U64 a1))), (3, .inr (.inl (3, 0))), (8, .inl (is (Bl x2))), (9, .inl (is (Sv x4))), (10, .inl (is (I16 x5)))], [(3, pb 23 [is (U8 a0_0), is (U8 a0_1)])]⟩
          have hr : some r = F303_3 N a0_0 a0_1 a1 x2 x4 x5 := hr
          refine AW_seq1 ?_
          obtain ⟨y17, hy17, hr⟩ := bind_some hr
          obtain ⟨y18, hy18, hr⟩ := lt_some hr
          refine AW_draw mixed
            (lrC (LR_loads (at_tmp 3 _) ag23 sz23 rfl rfl rfl)
            (lrC (LR_move (at_tmp 1 _) rfl)
            (lrC (LR_move (at_tmp 8 _) rfl)
            (lrC (LR_move (at_tmp 9 _) rfl)
            (lrC (LR_move (at_tmp 10 _) rfl)
            (lrC (LR_call Hfaa.func379 rfl rfl (C379 N x2 x4 x5 y17 hy17) (all_cons (at_tmp 42 _) (all_cons (at_tmp 43 _) (all_cons (at_tmp 44 _) all_nil))) rfl)
            (lrC (LR_call Hfaa.func292 rfl rfl (C292 a0_0 a0_1 a1 y17 y18 hy18) (all_cons (at_tmp 40 _) (all_cons (at_tmp 41 _) (all_cons (at_tmp 45 _) all_nil))) rfl)
            (lrC (LR_assign (at_tmp 46 _) rfl)
            lrN))))))))
            (by kernel_rfl)
            (saC (sS (sT1 rfl) (sB1 rfl) sF0) (saC (sS (sT1 rfl) sB0 sF0) (saC (sS (sT1 rfl) sB0 sF0) (saC (sS (sT1 rfl) sB0 sF0) (saC (sS (sT1 rfl) sB0 sF0) (saC (sS (sA (sT1 rfl) (sA (sT1 rfl) (sA (sT1 rfl) sT0))) sB0 sF0) (saC (sS (sA (sT1 rfl) (sA (sT1 rfl) (sA (sT1 rfl) sT0))) sB0 sF0) (saC (sS (sT1 rfl) sB0 sF0) saN)))))))) ?_
          refine thenN ?_
          refine AW_ret ?_
          obtain rfl := Option.some.inj hr
          exact res1 rfl (rvT rfl)
/-- exact.hexDigit -/
def F211 (N : Nat) (a0 : BitVec 64) : Option (List UInt8) := bif (decide (0 ≤ ((a0 &&& (15#64)).toNat : Int)) && (decide (((a0 &&& (15#64)).toNat : Int) ≤ (((a0 &&& (15#64)) + (1#64)).toNat : Int)) && decide ((((a0 &&& (15#64)) + (1#64)).toNat : Int) ≤ (str1.length : Int)))) then some ((str1.drop (((a0 &&& (15#64)).toNat : Int)).toNat).take (((((a0 &&& (15#64)) + (1#64)).toNat : Int)).toNat - (((a0 &&& (15#64)).toNat : Int)).toNat)) else none
theorem C211 (N : Nat) (a0 : BitVec 64) (r : List UInt8) (hr : some r = F211 N a0) : Aw.Fn Hfaa.prog 211 [is (U64 a0)] (is (Sv r)) := by
  refine fn_intro Hfaa.func211 rfl rfl rfl ?_
  intro bn0 w0 H0
  refine AW_seq1 ?_
  refine AW_region ?_
  refine AL_cons (LR_assign (at_c (v' := Sv ([] : List UInt8)) rfl) rfl) (sS sT0 sB0 sF0) ?_
  refine AL_nil ?_
  refine thenN ?_
  refine AW_seq1 ?_
  refine AW_region ?_
  refine AL_cons (LR_move (at_tmp 0 _) rfl) (sS (sT1 rfl) sB0 sF0) ?_
  refine AL_cons (LR_bin (at_tmp 3 _) (at_c (v' := U64 (15#64)) rfl) (and_U64 a0 (15#64)) rfl) (sS (sA (sT1 rfl) sT0) sB0 sF0) ?_
  refine AL_cons (LR_move (at_tmp 0 _) rfl) (sS (sT1 rfl) sB0 sF0) ?_
  refine AL_cons (LR_bin (at_tmp 5 _) (at_c (v' := U64 (15#64)) rfl) (and_U64 a0 (15#64)) rfl) (sS (sA (sT1 rfl) sT0) sB0 sF0) ?_
  refine AL_cons (LR_bin (at_tmp 6 _) (at_c (v' := U64 (1#64)) rfl) (add_U64 (a0 &&& (15#64)) (1#64)) rfl) (sS (sA (sT1 rfl) sT0) sB0 sF0) ?_
  obtain ⟨hg2, hr⟩ := guard_some hr
  refine AL_cons (LR_sliceS (i := ((a0 &&& (15#64)).toNat : Int)) (j := (((a0 &&& (15#64)) + (1#64)).toNat : Int)) Hfaa.underlying9 (at_c (v' := Sv str1) rfl) (fun B bn s a w hs hr => .inr ⟨_, congrArg some ((at_tmp 4 (.inl (is (U64 (a0 &&& (15#64)))))) B bn s a w hs hr)⟩) (fun B bn s a w hs hr => .inr ⟨_, congrArg some ((at_tmp 7 (.inl (is (U64 ((a0 &&& (15#64)) + (1#64)))))) B bn s a w hs hr)⟩) (dand3 hg2) rfl) (sS (sA sT0 (sA (sT1 rfl) (sT1 rfl))) sB0 sF0) ?_
  refine AL_cons (LR_assign (at_tmp 8 _) rfl) (sS (sT1 rfl) sB0 sF0) ?_
  refine AL_nil ?_
  refine thenN ?_
  refine AW_ret ?_
  obtain rfl := Option.some.inj hr
  exact res1 rfl (rvT rfl)
end Go.Proofs.YfwaawGreat
