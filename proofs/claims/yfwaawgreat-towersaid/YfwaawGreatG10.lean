import Derived.Test.YfwaawGreatG8
import Derived.Test.YfwaawGreatG9
namespace Go.Proofs.YfwaawGreat
open Go.Aw
set_option linter.unusedVariables false
set_option maxRecDepth 100000
set_option maxHeartbeats 1000000
/-- dec/dmodel.Scan -/
def F291_7 (N : Nat) (a0 : List UInt8) (x2 : Int) (x3 : Bool) (x6 : Int) (x7 : Bool) : Option (BitVec 8 × Bool × List UInt8 × Int × Int × Int) := bif x7 then some ((1#8, x3, ([] : List UInt8), 0, 0, 0)) else (F376 N a0 (w64 (x2 + x6))).bind fun y16 => some (y16.1, y16.2.1, y16.2.2.1, y16.2.2.2.1, y16.2.2.2.2.1, y16.2.2.2.2.2)
def F291_6 (N : Nat) (a0 : List UInt8) (x2 : Int) (x3 : Bool) (x4 : List UInt8) (x6 : Int) : Option (BitVec 8 × Bool × List UInt8 × Int × Int × Int) := F291_7 N a0 x2 x3 x6 ((x6 == (x4.length : Int)) && ((x6 == 3) || (x6 == 8)))
def F291_10 (N : Nat) (a0 : List UInt8) (x2 : Int) (x9 : Int) (x10 : Bool) : Option (BitVec 8 × Bool × List UInt8 × Int × Int × Int) := bif x10 then some ((2#8, false, ([] : List UInt8), 0, 0, 0)) else (F376 N a0 (w64 (x2 + x9))).bind fun y21 => some (y21.1, y21.2.1, y21.2.2.1, y21.2.2.2.1, y21.2.2.2.2.1, y21.2.2.2.2.2)
def F291_9 (N : Nat) (a0 : List UInt8) (x2 : Int) (x4 : List UInt8) (x9 : Int) : Option (BitVec 8 × Bool × List UInt8 × Int × Int × Int) := F291_10 N a0 x2 x9 ((x9 == (x4.length : Int)) && (x9 == 3))
def F291_8 (N : Nat) (a0 : List UInt8) (x2 : Int) (x3 : Bool) (x4 : List UInt8) (x8 : Bool) : Option (BitVec 8 × Bool × List UInt8 × Int × Int × Int) := bif x8 then (F375 N x4 ([110, 97, 110] : List UInt8)).bind fun y22 => F291_9 N a0 x2 x4 y22 else (F377 N a0 x4 x2 x3).bind fun y24 => some (y24.1, y24.2.1, y24.2.2.1, y24.2.2.2.1, y24.2.2.2.2.1, y24.2.2.2.2.2)
def F291_5 (N : Nat) (a0 : List UInt8) (x2 : Int) (x3 : Bool) (x4 : List UInt8) (x5 : Bool) : Option (BitVec 8 × Bool × List UInt8 × Int × Int × Int) := bif x5 then (F375 N x4 ([105, 110, 102, 105, 110, 105, 116, 121] : List UInt8)).bind fun y17 => F291_6 N a0 x2 x3 x4 y17 else (F375 N x4 ([110] : List UInt8)).bind fun y25 => F291_8 N a0 x2 x3 x4 (y25 == 1)
def F291_4 (N : Nat) (a0 : List UInt8) (x2 : Int) (x3 : Bool) (x4 : List UInt8) : Option (BitVec 8 × Bool × List UInt8 × Int × Int × Int) := (F375 N x4 ([105] : List UInt8)).bind fun y26 => F291_5 N a0 x2 x3 x4 (y26 == 1)
def F291_3 (N : Nat) (a0 : List UInt8) (x2 : Int) (x3 : Bool) : Option (BitVec 8 × Bool × List UInt8 × Int × Int × Int) := bif (decide (0 ≤ (x2 : Int)) && (decide ((x2 : Int) ≤ (a0.length : Int)) && decide ((a0.length : Int) ≤ (a0.length : Int)))) then F291_4 N a0 x2 x3 ((a0.drop ((x2 : Int)).toNat).take (((a0.length : Int)).toNat - ((x2 : Int)).toNat)) else none
def F291_2 (N : Nat) (a0 : List UInt8) (x2 : Int) : Option (BitVec 8 × Bool × List UInt8 × Int × Int × Int) := bif x2 == 1 then bif (decide (0 ≤ (0 : Int)) && decide ((0 : Int) < (a0.length : Int))) then F291_3 N a0 x2 (((a0.getD ((0 : Int)).toNat 0).toBitVec) == (45#8)) else none else F291_3 N a0 x2 false
def F291_11 (N : Nat) (a0 : List UInt8) (x11 : Bool) : Option (BitVec 8 × Bool × List UInt8 × Int × Int × Int) := bif x11 then F291_2 N a0 1 else F291_2 N a0 0
def F291_1 (N : Nat) (a0 : List UInt8) (x1 : Bool) : Option (BitVec 8 × Bool × List UInt8 × Int × Int × Int) := bif x1 then some ((4#8, false, ([] : List UInt8), 0, 0, 0)) else bif a0 != ([] : List UInt8) then bif (decide (0 ≤ (0 : Int)) && decide ((0 : Int) < (a0.length : Int))) then bif ((a0.getD ((0 : Int)).toNat 0).toBitVec) == (43#8) then F291_11 N a0 true else bif (decide (0 ≤ (0 : Int)) && decide ((0 : Int) < (a0.length : Int))) then F291_11 N a0 (((a0.getD ((0 : Int)).toNat 0).toBitVec) == (45#8)) else none else none else F291_11 N a0 false
def F291 (N : Nat) (a0 : List UInt8) : Option (BitVec 8 × Bool × List UInt8 × Int × Int × Int) := F291_1 N a0 (decide ((a0.length : Int) > 1024))
theorem C291 (N : Nat) (a0 : List UInt8) (r : BitVec 8 × Bool × List UInt8 × Int × Int × Int) (hr : some r = F291 N a0) : Aw.Fn Hfaa.prog 291 [is (Sv a0)] (agg [is (U8 r.1), is (Bl r.2.1), is (Sv r.2.2.1), is (I16 r.2.2.2.1), is (I64 r.2.2.2.2.1), is (I32 r.2.2.2.2.2)]) := by
  refine fn_intro Hfaa.func291 rfl rfl rfl ?_
  intro bn0 w0 H0
  refine AW_seq1 ?_
  refine AW_region ?_
  refine AL_cons (zl297 rfl) (sS sT0 sB0 (sF1 rfl)) ?_
  refine AL_nil ?_
  refine thenN ?_
  refine AW_seq1 ?_
  refine AW_cut (σ := Bool) (fun v => ⟨[(0, .inl (is (Sv a0))), (2, .inr (.inl (2, 0))), (10, .inl (is (Bl v)))], [(2, pb 297 [is (U8 (0#8)), is (Bl false), is (Sv ([] : List UInt8)), is (I16 0), is (I64 0), is (I32 0)])]⟩) (fun v => some r = F291_1 N a0 v) ?_ ?_
  · skip
    refine AW_region ?_
    refine AL_cons (LR_move (at_tmp 0 _) rfl) (sS (sT1 rfl) sB0 sF0) ?_
    refine AL_cons (LR_bi1 (at_tmp 8 _) (len_S Hfaa.underlying9 a0) rfl) (sS (sT1 rfl) sB0 sF0) ?_
    refine AL_cons (LR_bin (at_tmp 9 _) (at_c (v' := I64 1024) rfl) (gtr_I64 (a0.length : Int) 1024) rfl) (sS (sA (sT1 rfl) sT0) sB0 sF0) ?_
    refine AL_nil ?_
    exact thenN (cutLeaf (v := decide ((a0.length : Int) > 1024)) hr (weak0 ((sT rfl (sT rfl (sT rfl sT0)))) (sub_keep sub_nil)))
  · rintro x1 hr
    show AW Hfaa.prog _ _ _ ⟨[(0, .inl (is (Sv a0))), (2, .inr (.inl (2, 0))), (10, .inl (is (Bl x1)))], [(2, pb 297 [is (U8 (0#8)), is (Bl false), is (Sv ([] : List UInt8)), is (I16 0), is (I64 0), is (I32 0)])]⟩
    have hr : some r = F291_1 N a0 x1 := hr
    refine AW_condT (b := x1) rfl (fun h => ?_) (fun h => ?_)
    · have hr := hr.trans (cond_t h)
      clear h
      refine AW_seq1 ?_
      refine AW_region ?_
      refine AL_cons (bl297 (parts_cons (i := 0) (off := 0) (at_c (v' := U8 (4#8)) rfl) (cells_one (one_is rfl)) rfl rfl parts_nil) rfl rfl) (sS (sA sT0 sT0) sB0 sF0) ?_
      refine AL_cons (LR_store (at_tmp 2 _) (at_tmp 11 _) (cells_agg _) (onC (one_is rfl) (onC (one_is rfl) (onC (one_is rfl) (onC (one_is rfl) (onC (one_is rfl) (onC (one_is rfl) onN)))))) sz297 rfl rfl) (sS (sA (sT1 rfl) (sT1 rfl)) (sB1 rfl) sF0) ?_
      refine AL_nil ?_
      refine thenN ?_
      refine AW_ret ?_
      refine thenR ?_
      obtain rfl := Option.some.inj hr
      exact res1 rfl (rvC rfl rfl ag297 sz297 rfl)
    · have hr := hr.trans (cond_f h)
      clear h
      refine AW_skip ?_
      refine thenN ?_
      refine AW_seq1 ?_
      refine AW_region ?_
      refine AL_cons (LR_assign (at_c (v' := I64 0) rfl) rfl) (sS sT0 sB0 sF0) ?_
      refine AL_nil ?_
      refine thenN ?_
      refine AW_cut (σ := Int) (fun v => ⟨[(0, .inl (is (Sv a0))), (2, .inr (.inl (2, 0))), (3, .inl (is (I64 v)))], [(2, pb 297 [is (U8 (0#8)), is (Bl false), is (Sv ([] : List UInt8)), is (I16 0), is (I64 0), is (I32 0)])]⟩) (fun v => some r = F291_2 N a0 v) ?_ ?_
      · skip
        refine AW_cut (σ := Bool) (fun v => ⟨[(0, .inl (is (Sv a0))), (2, .inr (.inl (2, 0))), (3, .inl (is (I64 0))), (23, .inl (is (Bl v)))], [(2, pb 297 [is (U8 (0#8)), is (Bl false), is (Sv ([] : List UInt8)), is (I16 0), is (I64 0), is (I32 0)])]⟩) (fun v => some r = F291_11 N a0 v) ?_ ?_
        · skip
          refine AW_region ?_
          refine AL_cons (LR_move (at_tmp 0 _) rfl) (sS (sT1 rfl) sB0 sF0) ?_
          refine AL_cons (LR_bin (at_tmp 12 _) (at_c (v' := Sv ([] : List UInt8)) rfl) (neq_S a0 ([] : List UInt8)) rfl) (sS (sA (sT1 rfl) sT0) sB0 sF0) ?_
          refine AL_cons (LR_move (at_tmp 13 _) rfl) (sS (sT1 rfl) sB0 sF0) ?_
          cases hb : a0 != ([] : List UInt8)
          · have hr := hr.trans (cond_f hb)
            refine AL_cons (LR_off (b := false) rfl rfl rfl rfl) (sS (sT1 rfl) sB0 sF0) ?_
            refine AL_cons (LR_off (b := false) rfl rfl rfl rfl) (sS (sT1 rfl) sB0 sF0) ?_
            refine AL_cons (LR_off (b := false) rfl rfl rfl rfl) (sS (sT1 rfl) sB0 sF0) ?_
            refine AL_cons (LR_off (b := false) rfl rfl rfl rfl) (sS (sT1 rfl) sB0 sF0) ?_
            refine AL_cons (LR_offU rfl rfl rfl rfl) (sS (sT1 rfl) sB0 sF0) ?_
            refine AL_cons (LR_offU rfl rfl rfl rfl) (sS (sT1 rfl) sB0 sF0) ?_
            refine AL_cons (LR_offU rfl rfl rfl rfl) (sS (sT1 rfl) sB0 sF0) ?_
            refine AL_cons (LR_off (b := false) rfl rfl rfl rfl) (sS (sT1 rfl) sB0 sF0) ?_
            refine AL_cons (LR_pick (b := false) (at_tmp 14 _) (at_tmp 22 _) (at_c (v' := Bl false) rfl) rfl) (sS (sA (sT1 rfl) (sA (sT1 rfl) sT0)) sB0 sF0) ?_
            refine AL_nil ?_
            exact thenN (cutLeaf (v := false) hr (weak0 ((sT rfl (sT rfl (sT rfl (sT rfl sT0))))) (sub_keep sub_nil)))
          · have hr := hr.trans (cond_t hb)
            refine AL_cons (LR_on rfl rfl rfl (LR_move (at_tmp 0 _) rfl)) (sS (sT rfl (sT1 rfl)) sB0 sF0) ?_
            obtain ⟨hg20, hr⟩ := guard_some hr
            refine AL_cons (LR_on rfl rfl rfl (LR_indexS (i := (0 : Int)) Hfaa.underlying9 (at_tmp 15 _) (at_c (v' := I64 0) rfl) (dand hg20) rfl)) (sS (sT rfl (sA (sT1 rfl) sT0)) sB0 sF0) ?_
            refine AL_cons (LR_on rfl rfl rfl (LR_bin (at_tmp 16 _) (at_c (v' := U8 (43#8)) rfl) (eql_U8 ((a0.getD ((0 : Int)).toNat 0).toBitVec) (43#8)) rfl)) (sS (sT rfl (sA (sT1 rfl) sT0)) sB0 sF0) ?_
            refine AL_cons (LR_on rfl rfl rfl (LR_move (at_tmp 17 _) rfl)) (sS (sT rfl (sT1 rfl)) sB0 sF0) ?_
            cases hb : ((a0.getD ((0 : Int)).toNat 0).toBitVec) == (43#8)
            · have hr := hr.trans (cond_f hb)
              refine AL_cons (LR_on rfl rfl rfl (LR_move (at_tmp 0 _) rfl)) (sS (sT rfl (sT1 rfl)) sB0 sF0) ?_
              obtain ⟨hg22, hr⟩ := guard_some hr
              refine AL_cons (LR_on rfl rfl rfl (LR_indexS (i := (0 : Int)) Hfaa.underlying9 (at_tmp 19 _) (at_c (v' := I64 0) rfl) (dand hg22) rfl)) (sS (sT rfl (sA (sT1 rfl) sT0)) sB0 sF0) ?_
              refine AL_cons (LR_on rfl rfl rfl (LR_bin (at_tmp 20 _) (at_c (v' := U8 (45#8)) rfl) (eql_U8 ((a0.getD ((0 : Int)).toNat 0).toBitVec) (45#8)) rfl)) (sS (sT rfl (sA (sT1 rfl) sT0)) sB0 sF0) ?_
              refine AL_cons (LR_on rfl rfl rfl (LR_pick (b := false) (at_tmp 18 _) (at_c (v' := Bl true) rfl) (at_tmp 21 _) rfl)) (sS (sT rfl (sA (sT1 rfl) (sA sT0 (sT1 rfl)))) sB0 sF0) ?_
              refine AL_cons (LR_pick (b := true) (at_tmp 14 _) (at_tmp 22 _) (at_c (v' := Bl false) rfl) rfl) (sS (sA (sT1 rfl) (sA (sT1 rfl) sT0)) sB0 sF0) ?_
              refine AL_nil ?_
              exact thenN (cutLeaf (v := ((a0.getD ((0 : Int)).toNat 0).toBitVec) == (45#8)) hr (weak0 ((sT rfl (sT rfl (sT rfl (sT rfl sT0))))) (sub_keep sub_nil)))
            · have hr := hr.trans (cond_t hb)
              refine AL_cons (LR_off (b := true) rfl rfl rfl rfl) (sS (sT1 rfl) sB0 sF0) ?_
              refine AL_cons (LR_off (b := true) rfl rfl rfl rfl) (sS (sT1 rfl) sB0 sF0) ?_
              refine AL_cons (LR_off (b := true) rfl rfl rfl rfl) (sS (sT1 rfl) sB0 sF0) ?_
              refine AL_cons (LR_on rfl rfl rfl (LR_pick (b := true) (at_tmp 18 _) (at_c (v' := Bl true) rfl) (at_tmp 21 _) rfl)) (sS (sT rfl (sA (sT1 rfl) (sA sT0 (sT1 rfl)))) sB0 sF0) ?_
              refine AL_cons (LR_pick (b := true) (at_tmp 14 _) (at_tmp 22 _) (at_c (v' := Bl false) rfl) rfl) (sS (sA (sT1 rfl) (sA (sT1 rfl) sT0)) sB0 sF0) ?_
              refine AL_nil ?_
              exact thenN (cutLeaf (v := true) hr (weak0 ((sT rfl (sT rfl (sT rfl (sT rfl sT0))))) (sub_keep sub_nil)))
        · rintro x11 hr
          show AW Hfaa.prog _ _ _ ⟨[(0, .inl (is (Sv a0))), (2, .inr (.inl (2, 0))), (3, .inl (is (I64 0))), (23, .inl (is (Bl x11)))], [(2, pb 297 [is (U8 (0#8)), is (Bl false), is (Sv ([] : List UInt8)), is (I16 0), is (I64 0), is (I32 0)])]⟩
          have hr : some r = F291_11 N a0 x11 := hr
          refine AW_condT (b := x11) rfl (fun h => ?_) (fun h => ?_)
          · have hr := hr.trans (cond_t h)
            clear h
            refine AW_region ?_
            refine AL_cons (LR_assign (at_c (v' := I64 1) rfl) rfl) (sS sT0 sB0 sF0) ?_
            refine AL_nil ?_
            exact thenN (cutLeaf (v := 1) hr (weak0 ((sT rfl (sT rfl (sT rfl sT0)))) (sub_keep sub_nil)))
          · have hr := hr.trans (cond_f h)
            clear h
            refine AW_skip ?_
            exact thenN (cutLeaf (v := 0) hr (weak0 ((sT rfl (sT rfl (sT rfl sT0)))) (sub_keep sub_nil)))
      · rintro x2 hr
        show AW Hfaa.prog _ _ _ ⟨[(0, .inl (is (Sv a0))), (2, .inr (.inl (2, 0))), (3, .inl (is (I64 x2)))], [(2, pb 297 [is (U8 (0#8)), is (Bl false), is (Sv ([] : List UInt8)), is (I16 0), is (I64 0), is (I32 0)])]⟩
        have hr : some r = F291_2 N a0 x2 := hr
        refine AW_cut (σ := Bool) (fun v => ⟨[(0, .inl (is (Sv a0))), (2, .inr (.inl (2, 0))), (3, .inl (is (I64 x2))), (4, .inl (is (Bl v)))], [(2, pb 297 [is (U8 (0#8)), is (Bl false), is (Sv ([] : List UInt8)), is (I16 0), is (I64 0), is (I32 0)])]⟩) (fun v => some r = F291_3 N a0 x2 v) ?_ ?_
        · skip
          refine AW_region ?_
          refine AL_cons (LR_move (at_tmp 3 _) rfl) (sS (sT1 rfl) sB0 sF0) ?_
          refine AL_cons (LR_bin (at_tmp 24 _) (at_c (v' := I64 1) rfl) (eql_I64 x2 1) rfl) (sS (sA (sT1 rfl) sT0) sB0 sF0) ?_
          refine AL_cons (LR_move (at_tmp 25 _) rfl) (sS (sT1 rfl) sB0 sF0) ?_
          cases hb : x2 == 1
          · have hr := hr.trans (cond_f hb)
            refine AL_cons (LR_off (b := false) rfl rfl rfl rfl) (sS (sT1 rfl) sB0 sF0) ?_
            refine AL_cons (LR_off (b := false) rfl rfl rfl rfl) (sS (sT1 rfl) sB0 sF0) ?_
            refine AL_cons (LR_off (b := false) rfl rfl rfl rfl) (sS (sT1 rfl) sB0 sF0) ?_
            refine AL_cons (LR_pick (b := false) (at_tmp 26 _) (at_tmp 29 _) (at_c (v' := Bl false) rfl) rfl) (sS (sA (sT1 rfl) (sA (sT1 rfl) sT0)) sB0 sF0) ?_
            refine AL_cons (LR_assign (at_tmp 30 _) rfl) (sS (sT1 rfl) sB0 sF0) ?_
            refine AL_nil ?_
            exact thenN (cutLeaf (v := false) hr (weak0 ((sT rfl (sT rfl (sT rfl (sT rfl sT0))))) (sub_keep sub_nil)))
          · have hr := hr.trans (cond_t hb)
            refine AL_cons (LR_on rfl rfl rfl (LR_move (at_tmp 0 _) rfl)) (sS (sT rfl (sT1 rfl)) sB0 sF0) ?_
            obtain ⟨hg14, hr⟩ := guard_some hr
            refine AL_cons (LR_on rfl rfl rfl (LR_indexS (i := (0 : Int)) Hfaa.underlying9 (at_tmp 27 _) (at_c (v' := I64 0) rfl) (dand hg14) rfl)) (sS (sT rfl (sA (sT1 rfl) sT0)) sB0 sF0) ?_
            refine AL_cons (LR_on rfl rfl rfl (LR_bin (at_tmp 28 _) (at_c (v' := U8 (45#8)) rfl) (eql_U8 ((a0.getD ((0 : Int)).toNat 0).toBitVec) (45#8)) rfl)) (sS (sT rfl (sA (sT1 rfl) sT0)) sB0 sF0) ?_
            refine AL_cons (LR_pick (b := true) (at_tmp 26 _) (at_tmp 29 _) (at_c (v' := Bl false) rfl) rfl) (sS (sA (sT1 rfl) (sA (sT1 rfl) sT0)) sB0 sF0) ?_
            refine AL_cons (LR_assign (at_tmp 30 _) rfl) (sS (sT1 rfl) sB0 sF0) ?_
            refine AL_nil ?_
            exact thenN (cutLeaf (v := ((a0.getD ((0 : Int)).toNat 0).toBitVec) == (45#8)) hr (weak0 ((sT rfl (sT rfl (sT rfl (sT rfl sT0))))) (sub_keep sub_nil)))
        · rintro x3 hr
          show AW Hfaa.prog _ _ _ ⟨[(0, .inl (is (Sv a0))), (2, .inr (.inl (2, 0))), (3, .inl (is (I64 x2))), (4, .inl (is (Bl x3)))], [(2, pb 297 [is (U8 (0#8)), is (Bl false), is (Sv ([] : List UInt8)), is (I16 0), is (I64 0), is (I32 0)])]⟩
          have hr : some r = F291_3 N a0 x2 x3 := hr
          refine AW_cut (σ := List UInt8) (fun v => ⟨[(0, .inl (is (Sv a0))), (2, .inr (.inl (2, 0))), (3, .inl (is (I64 x2))), (4, .inl (is (Bl x3))), (5, .inl (is (Sv v)))], [(2, pb 297 [is (U8 (0#8)), is (Bl false), is (Sv ([] : List UInt8)), is (I16 0), is (I64 0), is (I32 0)])]⟩) (fun v => some r = F291_4 N a0 x2 x3 v) ?_ ?_
          · skip
            refine AW_region ?_
            refine AL_cons (LR_move (at_tmp 0 _) rfl) (sS (sT1 rfl) sB0 sF0) ?_
            refine AL_cons (LR_move (at_tmp 3 _) rfl) (sS (sT1 rfl) sB0 sF0) ?_
            obtain ⟨hg12, hr⟩ := guard_some hr
            refine AL_cons (LR_sliceS (i := (x2 : Int)) (j := (a0.length : Int)) Hfaa.underlying9 (at_tmp 31 _) (fun B bn s a w hs hr => .inr ⟨_, congrArg some ((at_tmp 32 (.inl (is (I64 x2)))) B bn s a w hs hr)⟩) (fun _ _ _ _ _ _ _ => .inl ⟨rfl, rfl⟩) (dand3 hg12) rfl) (sS (sA (sT1 rfl) (sA (sT1 rfl) sT0)) sB0 sF0) ?_
            refine AL_cons (LR_assign (at_tmp 33 _) rfl) (sS (sT1 rfl) sB0 sF0) ?_
            refine AL_nil ?_
            exact thenN (cutLeaf (v := (a0.drop ((x2 : Int)).toNat).take (((a0.length : Int)).toNat - ((x2 : Int)).toNat)) hr (weak0 ((sT rfl (sT rfl (sT rfl (sT rfl (sT rfl sT0)))))) (sub_keep sub_nil)))
          · rintro x4 hr
            show AW Hfaa.prog _ _ _ ⟨[(0, .inl (is (Sv a0))), (2, .inr (.inl (2, 0))), (3, .inl (is (I64 x2))), (4, .inl (is (Bl x3))), (5, .inl (is (Sv x4)))], [(2, pb 297 [is (U8 (0#8)), is (Bl false), is (Sv ([] : List UInt8)), is (I16 0), is (I64 0), is (I32 0)])]⟩
            have hr : some r = F291_4 N a0 x2 x3 x4 := hr
            refine AW_seq1 ?_
            refine AW_block ?_
            refine AW_cut (σ := Bool) (fun v => ⟨[(0, .inl (is (Sv a0))), (2, .inr (.inl (2, 0))), (3, .inl (is (I64 x2))), (4, .inl (is (Bl x3))), (5, .inl (is (Sv x4))), (34, .inl (is (Bl v)))], [(2, pb 297 [is (U8 (0#8)), is (Bl false), is (Sv ([] : List UInt8)), is (I16 0), is (I64 0), is (I32 0)])]⟩) (fun v => some r = F291_5 N a0 x2 x3 x4 v) ?_ ?_
            · skip
              refine AW_region ?_
              refine AL_cons (LR_move (at_tmp 5 _) rfl) (sS (sT1 rfl) sB0 sF0) ?_
              obtain ⟨y26, hy26, hr⟩ := bind_some hr
              refine AL_cons (LR_call Hfaa.func375 rfl rfl (C375 N x4 ([105] : List UInt8) y26 hy26) (all_cons (at_tmp 35 _) (all_cons (at_c (v' := Sv ([105] : List UInt8)) rfl) all_nil)) rfl) (sS (sA (sT1 rfl) (sA sT0 sT0)) sB0 sF0) ?_
              refine AL_cons (LR_bin (at_tmp 36 _) (at_c (v' := I64 1) rfl) (eql_I64 y26 1) rfl) (sS (sA (sT1 rfl) sT0) sB0 sF0) ?_
              refine AL_cons (LR_assign (at_tmp 37 _) rfl) (sS (sT1 rfl) sB0 sF0) ?_
              refine AL_nil ?_
              exact thenN (cutLeaf (v := y26 == 1) hr (weak0 ((sT rfl (sT rfl (sT rfl (sT rfl (sT rfl (sT rfl sT0))))))) (sub_keep sub_nil)))
            · rintro x5 hr
              show AW Hfaa.prog _ _ _ ⟨[(0, .inl (is (Sv a0))), (2, .inr (.inl (2, 0))), (3, .inl (is (I64 x2))), (4, .inl (is (Bl x3))), (5, .inl (is (Sv x4))), (34, .inl (is (Bl x5)))], [(2, pb 297 [is (U8 (0#8)), is (Bl false), is (Sv ([] : List UInt8)), is (I16 0), is (I64 0), is (I32 0)])]⟩
              have hr : some r = F291_5 N a0 x2 x3 x4 x5 := hr
              refine AW_condT (b := x5) rfl (fun h => ?_) (fun h => ?_)
              · have hr := hr.trans (cond_t h)
                clear h
                refine AW_cut (σ := Int) (fun v => ⟨[(0, .inl (is (Sv a0))), (2, .inr (.inl (2, 0))), (3, .inl (is (I64 x2))), (4, .inl (is (Bl x3))), (5, .inl (is (Sv x4))), (6, .inl (is (I64 v)))], [(2, pb 297 [is (U8 (0#8)), is (Bl false), is (Sv ([] : List UInt8)), is (I16 0), is (I64 0), is (I32 0)])]⟩) (fun v => some r = F291_6 N a0 x2 x3 x4 v) ?_ ?_
                · skip
                  refine AW_region ?_
                  refine AL_cons (LR_move (at_tmp 5 _) rfl) (sS (sT1 rfl) sB0 sF0) ?_
                  obtain ⟨y17, hy17, hr⟩ := bind_some hr
                  refine AL_cons (LR_call Hfaa.func375 rfl rfl (C375 N x4 ([105, 110, 102, 105, 110, 105, 116, 121] : List UInt8) y17 hy17) (all_cons (at_tmp 38 _) (all_cons (at_c (v' := Sv ([105, 110, 102, 105, 110, 105, 116, 121] : List UInt8)) rfl) all_nil)) rfl) (sS (sA (sT1 rfl) (sA sT0 sT0)) sB0 sF0) ?_
                  refine AL_cons (LR_assign (at_tmp 39 _) rfl) (sS (sT1 rfl) sB0 sF0) ?_
                  refine AL_nil ?_
                  exact thenN (cutLeaf (v := y17) hr (weak0 ((sT rfl (sT rfl (sT rfl (sT rfl (sT rfl (sT rfl sT0))))))) (sub_keep sub_nil)))
                · rintro x6 hr
                  show AW Hfaa.prog _ _ _ ⟨[(0, .inl (is (Sv a0))), (2, .inr (.inl (2, 0))), (3, .inl (is (I64 x2))), (4, .inl (is (Bl x3))), (5, .inl (is (Sv x4))), (6, .inl (is (I64 x6)))], [(2, pb 297 [is (U8 (0#8)), is (Bl false), is (Sv ([] : List UInt8)), is (I16 0), is (I64 0), is (I32 0)])]⟩
                  have hr : some r = F291_6 N a0 x2 x3 x4 x6 := hr
                  refine AW_seq1 ?_
                  refine AW_cut (σ := Bool) (fun v => ⟨[(0, .inl (is (Sv a0))), (2, .inr (.inl (2, 0))), (3, .inl (is (I64 x2))), (4, .inl (is (Bl x3))), (6, .inl (is (I64 x6))), (51, .inl (is (Bl v)))], [(2, pb 297 [is (U8 (0#8)), is (Bl false), is (Sv ([] : List UInt8)), is (I16 0), is (I64 0), is (I32 0)])]⟩) (fun v => some r = F291_7 N a0 x2 x3 x6 v) ?_ ?_
                  · skip
                    refine AW_region ?_
                    refine AL_cons (LR_move (at_tmp 6 _) rfl) (sS (sT1 rfl) sB0 sF0) ?_
                    refine AL_cons (LR_move (at_tmp 5 _) rfl) (sS (sT1 rfl) sB0 sF0) ?_
                    refine AL_cons (LR_bi1 (at_tmp 41 _) (len_S Hfaa.underlying9 x4) rfl) (sS (sT1 rfl) sB0 sF0) ?_
                    refine AL_cons (LR_bin (at_tmp 40 _) (at_tmp 42 _) (eql_I64 x6 (x4.length : Int)) rfl) (sS (sA (sT1 rfl) (sT1 rfl)) sB0 sF0) ?_
                    refine AL_cons (LR_move (at_tmp 43 _) rfl) (sS (sT1 rfl) sB0 sF0) ?_
                    refine AL_cutAt 7 ⟨[(0, .inl (is (Sv a0))), (2, .inr (.inl (2, 0))), (3, .inl (is (I64 x2))), (4, .inl (is (Bl x3))), (5, .inl (is (Sv x4))), (6, .inl (is (I64 x6))), (40, .inl (is (I64 x6))), (41, .inl (is (Sv x4))), (42, .inl (is (I64 (x4.length : Int)))), (43, .inl (is (Bl (x6 == (x4.length : Int))))), (44, .inl (is (Bl (x6 == (x4.length : Int))))), (51, .inl (is (Bl ((x6 == (x4.length : Int)) && ((x6 == 3) || (x6 == 8))))))], [(2, pb 297 [is (U8 (0#8)), is (Bl false), is (Sv ([] : List UInt8)), is (I16 0), is (I64 0), is (I32 0)])]⟩ ?_ ?_
                    · cases hb : x6 == (x4.length : Int)
                      · skip
                        refine AL_cons (LR_off (b := false) rfl rfl rfl rfl) (sS (sT1 rfl) sB0 sF0) ?_
                        refine AL_cons (LR_off (b := false) rfl rfl rfl rfl) (sS (sT1 rfl) sB0 sF0) ?_
                        refine AL_cons (LR_off (b := false) rfl rfl rfl rfl) (sS (sT1 rfl) sB0 sF0) ?_
                        refine AL_cons (LR_offU rfl rfl rfl rfl) (sS (sT1 rfl) sB0 sF0) ?_
                        refine AL_cons (LR_offU rfl rfl rfl rfl) (sS (sT1 rfl) sB0 sF0) ?_
                        refine AL_cons (LR_off (b := false) rfl rfl rfl rfl) (sS (sT1 rfl) sB0 sF0) ?_
                        refine AL_cons (LR_pick (b := false) (at_tmp 44 _) (at_tmp 50 _) (at_c (v' := Bl false) rfl) rfl) (sS (sA (sT1 rfl) (sA (sT1 rfl) sT0)) sB0 sF0) ?_
                        exact AL_nil ⟨rfl, weak0 ((sT rfl (sT rfl (sT rfl (sT rfl (sT rfl (sT rfl (sT rfl (sT rfl (sT rfl (sT rfl (sT rfl (sT rfl sT0))))))))))))) (sub_keep sub_nil)⟩
                      · skip
                        refine AL_cons (LR_on rfl rfl rfl (LR_move (at_tmp 6 _) rfl)) (sS (sT rfl (sT1 rfl)) sB0 sF0) ?_
                        refine AL_cons (LR_on rfl rfl rfl (LR_bin (at_tmp 45 _) (at_c (v' := I64 3) rfl) (eql_I64 x6 3) rfl)) (sS (sT rfl (sA (sT1 rfl) sT0)) sB0 sF0) ?_
                        refine AL_cons (LR_on rfl rfl rfl (LR_move (at_tmp 46 _) rfl)) (sS (sT rfl (sT1 rfl)) sB0 sF0) ?_
                        refine AL_cutAt 3 ⟨[(0, .inl (is (Sv a0))), (2, .inr (.inl (2, 0))), (3, .inl (is (I64 x2))), (4, .inl (is (Bl x3))), (5, .inl (is (Sv x4))), (6, .inl (is (I64 x6))), (40, .inl (is (I64 x6))), (41, .inl (is (Sv x4))), (42, .inl (is (I64 (x4.length : Int)))), (43, .inl (is (Bl true))), (44, .inl (is (Bl true))), (45, .inl (is (I64 x6))), (46, .inl (is (Bl (x6 == 3)))), (47, .inl (is (Bl (x6 == 3)))), (50, .inl (is (Bl ((x6 == 3) || (x6 == 8)))))], [(2, pb 297 [is (U8 (0#8)), is (Bl false), is (Sv ([] : List UInt8)), is (I16 0), is (I64 0), is (I32 0)])]⟩ ?_ ?_
                        · cases hb : x6 == 3
                          · skip
                            refine AL_cons (LR_on rfl rfl rfl (LR_move (at_tmp 6 _) rfl)) (sS (sT rfl (sT1 rfl)) sB0 sF0) ?_
                            refine AL_cons (LR_on rfl rfl rfl (LR_bin (at_tmp 48 _) (at_c (v' := I64 8) rfl) (eql_I64 x6 8) rfl)) (sS (sT rfl (sA (sT1 rfl) sT0)) sB0 sF0) ?_
                            refine AL_cons (LR_on rfl rfl rfl (LR_pick (b := false) (at_tmp 47 _) (at_c (v' := Bl true) rfl) (at_tmp 49 _) rfl)) (sS (sT rfl (sA (sT1 rfl) (sA sT0 (sT1 rfl)))) sB0 sF0) ?_
                            exact AL_nil ⟨rfl, weak0 ((sT rfl (sT rfl (sT rfl (sT rfl (sT rfl (sT rfl (sT rfl (sT rfl (sT rfl (sT rfl (sT rfl (sT rfl (sT rfl (sT rfl (sT rfl sT0)))))))))))))))) (sub_keep sub_nil)⟩
                          · skip
                            refine AL_cons (LR_off (b := true) rfl rfl rfl rfl) (sS (sT1 rfl) sB0 sF0) ?_
                            refine AL_cons (LR_off (b := true) rfl rfl rfl rfl) (sS (sT1 rfl) sB0 sF0) ?_
                            refine AL_cons (LR_on rfl rfl rfl (LR_pick (b := true) (at_tmp 47 _) (at_c (v' := Bl true) rfl) (at_tmp 49 _) rfl)) (sS (sT rfl (sA (sT1 rfl) (sA sT0 (sT1 rfl)))) sB0 sF0) ?_
                            exact AL_nil ⟨rfl, weak0 ((sT rfl (sT rfl (sT rfl (sT rfl (sT rfl (sT rfl (sT rfl (sT rfl (sT rfl (sT rfl (sT rfl (sT rfl (sT rfl (sT rfl (sT rfl sT0)))))))))))))))) (sub_keep sub_nil)⟩
                        refine AL_cons (LR_pick (b := true) (at_tmp 44 _) (at_tmp 50 _) (at_c (v' := Bl false) rfl) rfl) (sS (sA (sT1 rfl) (sA (sT1 rfl) sT0)) sB0 sF0) ?_
                        exact AL_nil ⟨rfl, weak0 ((sT rfl (sT rfl (sT rfl (sT rfl (sT rfl (sT rfl (sT rfl (sT rfl (sT rfl (sT rfl (sT rfl (sT rfl sT0))))))))))))) (sub_keep sub_nil)⟩
                    refine AL_nil ?_
                    exact thenN (cutLeaf (v := (x6 == (x4.length : Int)) && ((x6 == 3) || (x6 == 8))) hr (weak0 ((sT rfl (sT rfl (sT rfl (sT rfl (sT rfl (sT rfl sT0))))))) (sub_keep sub_nil)))
                  · rintro x7 hr
                    show AW Hfaa.prog _ _ _ ⟨[(0, .inl (is (Sv a0))), (2, .inr (.inl (2, 0))), (3, .inl (is (I64 x2))), (4, .inl (is (Bl x3))), (6, .inl (is (I64 x6))), (51, .inl (is (Bl x7)))], [(2, pb 297 [is (U8 (0#8)), is (Bl false), is (Sv ([] : List UInt8)), is (I16 0), is (I64 0), is (I32 0)])]⟩
                    have hr : some r = F291_7 N a0 x2 x3 x6 x7 := hr
                    refine AW_condT (b := x7) rfl (fun h => ?_) (fun h => ?_)
                    · have hr := hr.trans (cond_t h)
                      clear h
                      refine AW_seq1 ?_
                      refine AW_region ?_
                      refine AL_cons (LR_move (at_tmp 4 _) rfl) (sS (sT1 rfl) sB0 sF0) ?_
                      refine AL_cons (bl76 (parts_cons (i := 0) (off := 0) (at_tmp 52 _) (cells_one (one_is rfl)) rfl rfl parts_nil) rfl rfl) (sS (sA (sT1 rfl) sT0) sB0 sF0) ?_
                      refine AL_cons (bl297 (parts_cons (i := 0) (off := 0) (at_c (v' := U8 (1#8)) rfl) (cells_one (one_is rfl)) rfl rfl (parts_cons (i := 1) (off := 1) (at_tmp 53 _) (cells_agg _) rfl rfl parts_nil)) rfl rfl) (sS (sA sT0 (sA (sT1 rfl) sT0)) sB0 sF0) ?_
                      refine AL_cons (LR_store (at_tmp 2 _) (at_tmp 54 _) (cells_agg _) (onC (one_is rfl) (onC (one_is rfl) (onC (one_is rfl) (onC (one_is rfl) (onC (one_is rfl) (onC (one_is rfl) onN)))))) sz297 rfl rfl) (sS (sA (sT1 rfl) (sT1 rfl)) (sB1 rfl) sF0) ?_
                      refine AL_nil ?_
                      refine thenN ?_
                      refine AW_ret ?_
                      refine thenR ?_
                      refine blR ?_
                      refine thenR ?_
                      obtain rfl := Option.some.inj hr
                      exact res1 rfl (rvC rfl rfl ag297 sz297 rfl)
                    · have hr := hr.trans (cond_f h)
                      clear h
                      refine AW_skip ?_
                      refine thenN ?_
                      refine AW_seq1 ?_
                      refine AW_region ?_
                      refine AL_cons (LR_move (at_tmp 0 _) rfl) (sS (sT1 rfl) sB0 sF0) ?_
                      refine AL_cons (LR_move (at_tmp 3 _) rfl) (sS (sT1 rfl) sB0 sF0) ?_
                      refine AL_cons (LR_move (at_tmp 6 _) rfl) (sS (sT1 rfl) sB0 sF0) ?_
                      refine AL_cons (LR_bin (at_tmp 56 _) (at_tmp 57 _) (add_I64 x2 x6) rfl) (sS (sA (sT1 rfl) (sT1 rfl)) sB0 sF0) ?_
                      obtain ⟨y16, hy16, hr⟩ := bind_some hr
                      refine AL_cons (LR_call Hfaa.func376 rfl rfl (C376 N a0 (w64 (x2 + x6)) y16 hy16) (all_cons (at_tmp 55 _) (all_cons (at_tmp 58 _) all_nil)) rfl) (sS (sA (sT1 rfl) (sA (sT1 rfl) sT0)) sB0 sF0) ?_
                      refine AL_cons (LR_store (at_tmp 2 _) (at_tmp 59 _) (cells_agg _) (onC (one_is rfl) (onC (one_is rfl) (onC (one_is rfl) (onC (one_is rfl) (onC (one_is rfl) (onC (one_is rfl) onN)))))) sz297 rfl rfl) (sS (sA (sT1 rfl) (sT1 rfl)) (sB1 rfl) sF0) ?_
                      refine AL_nil ?_
                      refine thenN ?_
                      refine AW_ret ?_
                      refine blR ?_
                      refine thenR ?_
                      obtain rfl := Option.some.inj hr
                      exact res1 rfl (rvC rfl rfl ag297 sz297 rfl)
              · have hr := hr.trans (cond_f h)
                clear h
                refine AW_cut (σ := Bool) (fun v => ⟨[(0, .inl (is (Sv a0))), (2, .inr (.inl (2, 0))), (3, .inl (is (I64 x2))), (4, .inl (is (Bl x3))), (5, .inl (is (Sv x4))), (60, .inl (is (Bl v)))], [(2, pb 297 [is (U8 (0#8)), is (Bl false), is (Sv ([] : List UInt8)), is (I16 0), is (I64 0), is (I32 0)])]⟩) (fun v => some r = F291_8 N a0 x2 x3 x4 v) ?_ ?_
                · skip
                  refine AW_region ?_
                  refine AL_cons (LR_move (at_tmp 5 _) rfl) (sS (sT1 rfl) sB0 sF0) ?_
                  obtain ⟨y25, hy25, hr⟩ := bind_some hr
                  refine AL_cons (LR_call Hfaa.func375 rfl rfl (C375 N x4 ([110] : List UInt8) y25 hy25) (all_cons (at_tmp 61 _) (all_cons (at_c (v' := Sv ([110] : List UInt8)) rfl) all_nil)) rfl) (sS (sA (sT1 rfl) (sA sT0 sT0)) sB0 sF0) ?_
                  refine AL_cons (LR_bin (at_tmp 62 _) (at_c (v' := I64 1) rfl) (eql_I64 y25 1) rfl) (sS (sA (sT1 rfl) sT0) sB0 sF0) ?_
                  refine AL_cons (LR_assign (at_tmp 63 _) rfl) (sS (sT1 rfl) sB0 sF0) ?_
                  refine AL_nil ?_
                  exact thenN (cutLeaf (v := y25 == 1) hr (weak0 ((sT rfl (sT rfl (sT rfl (sT rfl (sT rfl (sT rfl sT0))))))) (sub_keep sub_nil)))
                · rintro x8 hr
                  show AW Hfaa.prog _ _ _ ⟨[(0, .inl (is (Sv a0))), (2, .inr (.inl (2, 0))), (3, .inl (is (I64 x2))), (4, .inl (is (Bl x3))), (5, .inl (is (Sv x4))), (60, .inl (is (Bl x8)))], [(2, pb 297 [is (U8 (0#8)), is (Bl false), is (Sv ([] : List UInt8)), is (I16 0), is (I64 0), is (I32 0)])]⟩
                  have hr : some r = F291_8 N a0 x2 x3 x4 x8 := hr
                  refine AW_condT (b := x8) rfl (fun h => ?_) (fun h => ?_)
                  · have hr := hr.trans (cond_t h)
                    clear h
                    refine AW_cut (σ := Int) (fun v => ⟨[(0, .inl (is (Sv a0))), (2, .inr (.inl (2, 0))), (3, .inl (is (I64 x2))), (5, .inl (is (Sv x4))), (7, .inl (is (I64 v)))], [(2, pb 297 [is (U8 (0#8)), is (Bl false), is (Sv ([] : List UInt8)), is (I16 0), is (I64 0), is (I32 0)])]⟩) (fun v => some r = F291_9 N a0 x2 x4 v) ?_ ?_
                    · skip
                      refine AW_region ?_
                      refine AL_cons (LR_move (at_tmp 5 _) rfl) (sS (sT1 rfl) sB0 sF0) ?_
                      obtain ⟨y22, hy22, hr⟩ := bind_some hr
                      refine AL_cons (LR_call Hfaa.func375 rfl rfl (C375 N x4 ([110, 97, 110] : List UInt8) y22 hy22) (all_cons (at_tmp 64 _) (all_cons (at_c (v' := Sv ([110, 97, 110] : List UInt8)) rfl) all_nil)) rfl) (sS (sA (sT1 rfl) (sA sT0 sT0)) sB0 sF0) ?_
                      refine AL_cons (LR_assign (at_tmp 65 _) rfl) (sS (sT1 rfl) sB0 sF0) ?_
                      refine AL_nil ?_
                      exact thenN (cutLeaf (v := y22) hr (weak0 ((sT rfl (sT rfl (sT rfl (sT rfl (sT rfl sT0)))))) (sub_keep sub_nil)))
                    · rintro x9 hr
                      show AW Hfaa.prog _ _ _ ⟨[(0, .inl (is (Sv a0))), (2, .inr (.inl (2, 0))), (3, .inl (is (I64 x2))), (5, .inl (is (Sv x4))), (7, .inl (is (I64 x9)))], [(2, pb 297 [is (U8 (0#8)), is (Bl false), is (Sv ([] : List UInt8)), is (I16 0), is (I64 0), is (I32 0)])]⟩
                      have hr : some r = F291_9 N a0 x2 x4 x9 := hr
                      refine AW_seq1 ?_
                      refine AW_cut (σ := Bool) (fun v => ⟨[(0, .inl (is (Sv a0))), (2, .inr (.inl (2, 0))), (3, .inl (is (I64 x2))), (7, .inl (is (I64 x9))), (73, .inl (is (Bl v)))], [(2, pb 297 [is (U8 (0#8)), is (Bl false), is (Sv ([] : List UInt8)), is (I16 0), is (I64 0), is (I32 0)])]⟩) (fun v => some r = F291_10 N a0 x2 x9 v) ?_ ?_
                      · skip
                        refine AW_region ?_
                        refine AL_cons (LR_move (at_tmp 7 _) rfl) (sS (sT1 rfl) sB0 sF0) ?_
                        refine AL_cons (LR_move (at_tmp 5 _) rfl) (sS (sT1 rfl) sB0 sF0) ?_
                        refine AL_cons (LR_bi1 (at_tmp 67 _) (len_S Hfaa.underlying9 x4) rfl) (sS (sT1 rfl) sB0 sF0) ?_
                        refine AL_cons (LR_bin (at_tmp 66 _) (at_tmp 68 _) (eql_I64 x9 (x4.length : Int)) rfl) (sS (sA (sT1 rfl) (sT1 rfl)) sB0 sF0) ?_
                        refine AL_cons (LR_move (at_tmp 69 _) rfl) (sS (sT1 rfl) sB0 sF0) ?_
                        refine AL_cutAt 3 ⟨[(0, .inl (is (Sv a0))), (2, .inr (.inl (2, 0))), (3, .inl (is (I64 x2))), (5, .inl (is (Sv x4))), (7, .inl (is (I64 x9))), (66, .inl (is (I64 x9))), (67, .inl (is (Sv x4))), (68, .inl (is (I64 (x4.length : Int)))), (69, .inl (is (Bl (x9 == (x4.length : Int))))), (70, .inl (is (Bl (x9 == (x4.length : Int))))), (73, .inl (is (Bl ((x9 == (x4.length : Int)) && (x9 == 3)))))], [(2, pb 297 [is (U8 (0#8)), is (Bl false), is (Sv ([] : List UInt8)), is (I16 0), is (I64 0), is (I32 0)])]⟩ ?_ ?_
                        · cases hb : x9 == (x4.length : Int)
                          · skip
                            refine AL_cons (LR_off (b := false) rfl rfl rfl rfl) (sS (sT1 rfl) sB0 sF0) ?_
                            refine AL_cons (LR_off (b := false) rfl rfl rfl rfl) (sS (sT1 rfl) sB0 sF0) ?_
                            refine AL_cons (LR_pick (b := false) (at_tmp 70 _) (at_tmp 72 _) (at_c (v' := Bl false) rfl) rfl) (sS (sA (sT1 rfl) (sA (sT1 rfl) sT0)) sB0 sF0) ?_
                            exact AL_nil ⟨rfl, weak0 ((sT rfl (sT rfl (sT rfl (sT rfl (sT rfl (sT rfl (sT rfl (sT rfl (sT rfl (sT rfl (sT rfl sT0)))))))))))) (sub_keep sub_nil)⟩
                          · skip
                            refine AL_cons (LR_on rfl rfl rfl (LR_move (at_tmp 7 _) rfl)) (sS (sT rfl (sT1 rfl)) sB0 sF0) ?_
                            refine AL_cons (LR_on rfl rfl rfl (LR_bin (at_tmp 71 _) (at_c (v' := I64 3) rfl) (eql_I64 x9 3) rfl)) (sS (sT rfl (sA (sT1 rfl) sT0)) sB0 sF0) ?_
                            refine AL_cons (LR_pick (b := true) (at_tmp 70 _) (at_tmp 72 _) (at_c (v' := Bl false) rfl) rfl) (sS (sA (sT1 rfl) (sA (sT1 rfl) sT0)) sB0 sF0) ?_
                            exact AL_nil ⟨rfl, weak0 ((sT rfl (sT rfl (sT rfl (sT rfl (sT rfl (sT rfl (sT rfl (sT rfl (sT rfl (sT rfl (sT rfl sT0)))))))))))) (sub_keep sub_nil)⟩
                        refine AL_nil ?_
                        exact thenN (cutLeaf (v := (x9 == (x4.length : Int)) && (x9 == 3)) hr (weak0 ((sT rfl (sT rfl (sT rfl (sT rfl (sT rfl sT0)))))) (sub_keep sub_nil)))
                      · rintro x10 hr
                        show AW Hfaa.prog _ _ _ ⟨[(0, .inl (is (Sv a0))), (2, .inr (.inl (2, 0))), (3, .inl (is (I64 x2))), (7, .inl (is (I64 x9))), (73, .inl (is (Bl x10)))], [(2, pb 297 [is (U8 (0#8)), is (Bl false), is (Sv ([] : List UInt8)), is (I16 0), is (I64 0), is (I32 0)])]⟩
                        have hr : some r = F291_10 N a0 x2 x9 x10 := hr
                        refine AW_condT (b := x10) rfl (fun h => ?_) (fun h => ?_)
                        · have hr := hr.trans (cond_t h)
                          clear h
                          refine AW_seq1 ?_
                          refine AW_region ?_
                          refine AL_cons (bl297 (parts_cons (i := 0) (off := 0) (at_c (v' := U8 (2#8)) rfl) (cells_one (one_is rfl)) rfl rfl parts_nil) rfl rfl) (sS (sA sT0 sT0) sB0 sF0) ?_
                          refine AL_cons (LR_store (at_tmp 2 _) (at_tmp 74 _) (cells_agg _) (onC (one_is rfl) (onC (one_is rfl) (onC (one_is rfl) (onC (one_is rfl) (onC (one_is rfl) (onC (one_is rfl) onN)))))) sz297 rfl rfl) (sS (sA (sT1 rfl) (sT1 rfl)) (sB1 rfl) sF0) ?_
                          refine AL_nil ?_
                          refine thenN ?_
                          refine AW_ret ?_
                          refine thenR ?_
                          refine blR ?_
                          refine thenR ?_
                          obtain rfl := Option.some.inj hr
                          exact res1 rfl (rvC rfl rfl ag297 sz297 rfl)
                        · have hr := hr.trans (cond_f h)
                          clear h
                          refine AW_skip ?_
                          refine thenN ?_
                          refine AW_seq1 ?_
                          refine AW_region ?_
                          refine AL_cons (LR_move (at_tmp 0 _) rfl) (sS (sT1 rfl) sB0 sF0) ?_
                          refine AL_cons (LR_move (at_tmp 3 _) rfl) (sS (sT1 rfl) sB0 sF0) ?_
                          refine AL_cons (LR_move (at_tmp 7 _) rfl) (sS (sT1 rfl) sB0 sF0) ?_
                          refine AL_cons (LR_bin (at_tmp 76 _) (at_tmp 77 _) (add_I64 x2 x9) rfl) (sS (sA (sT1 rfl) (sT1 rfl)) sB0 sF0) ?_
                          obtain ⟨y21, hy21, hr⟩ := bind_some hr
                          refine AL_cons (LR_call Hfaa.func376 rfl rfl (C376 N a0 (w64 (x2 + x9)) y21 hy21) (all_cons (at_tmp 75 _) (all_cons (at_tmp 78 _) all_nil)) rfl) (sS (sA (sT1 rfl) (sA (sT1 rfl) sT0)) sB0 sF0) ?_
                          refine AL_cons (LR_store (at_tmp 2 _) (at_tmp 79 _) (cells_agg _) (onC (one_is rfl) (onC (one_is rfl) (onC (one_is rfl) (onC (one_is rfl) (onC (one_is rfl) (onC (one_is rfl) onN)))))) sz297 rfl rfl) (sS (sA (sT1 rfl) (sT1 rfl)) (sB1 rfl) sF0) ?_
                          refine AL_nil ?_
                          refine thenN ?_
                          refine AW_ret ?_
                          refine blR ?_
                          refine thenR ?_
                          obtain rfl := Option.some.inj hr
                          exact res1 rfl (rvC rfl rfl ag297 sz297 rfl)
                  · have hr := hr.trans (cond_f h)
                    clear h
                    refine AW_skip ?_
                    refine blN ?_
                    refine thenN ?_
                    refine AW_seq1 ?_
                    refine AW_region ?_
                    refine AL_cons (LR_move (at_tmp 0 _) rfl) (sS (sT1 rfl) sB0 sF0) ?_
                    refine AL_cons (LR_move (at_tmp 5 _) rfl) (sS (sT1 rfl) sB0 sF0) ?_
                    refine AL_cons (LR_move (at_tmp 3 _) rfl) (sS (sT1 rfl) sB0 sF0) ?_
                    refine AL_cons (LR_move (at_tmp 4 _) rfl) (sS (sT1 rfl) sB0 sF0) ?_
                    obtain ⟨y24, hy24, hr⟩ := bind_some hr
                    refine AL_cons (LR_call Hfaa.func377 rfl rfl (C377 N a0 x4 x2 x3 y24 hy24) (all_cons (at_tmp 80 _) (all_cons (at_tmp 81 _) (all_cons (at_tmp 82 _) (all_cons (at_tmp 83 _) all_nil)))) rfl) (sS (sA (sT1 rfl) (sA (sT1 rfl) (sA (sT1 rfl) (sA (sT1 rfl) sT0)))) sB0 sF0) ?_
                    refine AL_cons (LR_store (at_tmp 2 _) (at_tmp 84 _) (cells_agg _) (onC (one_is rfl) (onC (one_is rfl) (onC (one_is rfl) (onC (one_is rfl) (onC (one_is rfl) (onC (one_is rfl) onN)))))) sz297 rfl rfl) (sS (sA (sT1 rfl) (sT1 rfl)) (sB1 rfl) sF0) ?_
                    refine AL_nil ?_
                    refine thenN ?_
                    refine AW_ret ?_
                    obtain rfl := Option.some.inj hr
                    exact res1 rfl (rvC rfl rfl ag297 sz297 rfl)
/-- (dec.Dec).Ok -/
def F137_6 (N : Nat) (a0_0 : Bool) (a0_1 : List UInt8) (a0_2 : Int) (x1 : Int) (x4 : Int) (x6 : Bool) : Option ((Int) ⊕ (Bool)) := bif x6 then (some false).map Sum.inr else some (.inl (w64 (x4 + 1)))
def F137_7 (N : Nat) (x7 : Bool) : Option (Bool) := some x7
def F137_5 (N : Nat) (a0_0 : Bool) (a0_1 : List UInt8) (a0_2 : Int) (x1 : Int) (x4 : Int) (x5 : Bool) : Option ((Int) ⊕ (Bool)) := bif x5 then bif (decide (0 ≤ (x4 : Int)) && decide ((x4 : Int) < (a0_1.length : Int))) then bif decide (((a0_1.getD ((x4 : Int)).toNat 0).toBitVec).toNat < (48#8).toNat) then F137_6 N a0_0 a0_1 a0_2 x1 x4 true else bif (decide (0 ≤ (x4 : Int)) && decide ((x4 : Int) < (a0_1.length : Int))) then F137_6 N a0_0 a0_1 a0_2 x1 x4 (decide ((57#8).toNat < ((a0_1.getD ((x4 : Int)).toNat 0).toBitVec).toNat)) else none else none else (bif (decide (0 ≤ (0 : Int)) && decide ((0 : Int) < (a0_1.length : Int))) then bif ((a0_1.getD ((0 : Int)).toNat 0).toBitVec) != (48#8) then bif (decide (0 ≤ (w64 (x1 - 1) : Int)) && decide ((w64 (x1 - 1) : Int) < (a0_1.length : Int))) then F137_7 N (((((a0_1.getD ((w64 (x1 - 1) : Int)).toNat 0).toBitVec) != (48#8)) && (decide ((-2000) ≤ a0_2))) && (decide (a0_2 ≤ 2000))) else none else F137_7 N false else none).map Sum.inr
def F137_L4b (N : Nat) (a0_0 : Bool) (a0_1 : List UInt8) (a0_2 : Int) (x1 : Int) (x4 : Int) : Option ((Int) ⊕ (Bool)) := F137_5 N a0_0 a0_1 a0_2 x1 x4 (decide (x4 < x1))
def F137_L4 (N : Nat) (a0_0 : Bool) (a0_1 : List UInt8) (a0_2 : Int) (x1 : Int) : (Int) → Option ((Int) ⊕ (Bool)) := fun v => F137_L4b N a0_0 a0_1 a0_2 x1 v
def F137_3 (N : Nat) (a0_0 : Bool) (a0_1 : List UInt8) (a0_2 : Int) (x1 : Int) (x3 : Bool) : Option (Bool) := bif x3 then some false else iterL (F137_L4 N a0_0 a0_1 a0_2 x1) N 0
def F137_2 (N : Nat) (a0_0 : Bool) (a0_1 : List UInt8) (a0_2 : Int) (x1 : Int) (x2 : Bool) : Option (Bool) := bif x2 then some (a0_2 == 0) else F137_3 N a0_0 a0_1 a0_2 x1 (decide (x1 > 800))
def F137_1 (N : Nat) (a0_0 : Bool) (a0_1 : List UInt8) (a0_2 : Int) (x1 : Int) : Option (Bool) := F137_2 N a0_0 a0_1 a0_2 x1 (x1 == 0)
def F137 (N : Nat) (a0_0 : Bool) (a0_1 : List UInt8) (a0_2 : Int) : Option (Bool) := F137_1 N a0_0 a0_1 a0_2 (a0_1.length : Int)
theorem C137 (N : Nat) (a0_0 : Bool) (a0_1 : List UInt8) (a0_2 : Int) (r : Bool) (hr : some r = F137 N a0_0 a0_1 a0_2) : Aw.Fn Hfaa.prog 137 [agg [is (Bl a0_0), is (Sv a0_1), is (I16 a0_2)]] (is (Bl r)) := by
  refine fn_intro Hfaa.func137 rfl rfl rfl ?_
  intro bn0 w0 H0
  refine AW_seq1 ?_
  refine AW_region ?_
  refine AL_cons (LR_box (at_tmp 0 _) (cells_agg _) rfl) (sS (sT1 rfl) sB0 (sF1 rfl)) ?_
  refine AL_cons (LR_assign (at_c (v' := Bl false) rfl) rfl) (sS sT0 sB0 sF0) ?_
  refine AL_nil ?_
  refine thenN ?_
  refine AW_cut (σ := Int) (fun v => ⟨[(1, .inr (.inl (1, 0))), (3, .inl (is (I64 v)))], [(1, pb 76 [is (Bl a0_0), is (Sv a0_1), is (I16 a0_2)])]⟩) (fun v => some r = F137_1 N a0_0 a0_1 a0_2 v) ?_ ?_
  · skip
    refine AW_region ?_
    refine AL_cons (LR_fieldAddr (off := 0) (o := 1) (at_tmp 1 _) (fun b w => fa76_1 b 0 w) rfl) (sS (sT1 rfl) sB0 sF0) ?_
    refine AL_cons (LR_load (at_tmp 5 _) na9 rfl rfl) (sS (sT1 rfl) (sB1 rfl) sF0) ?_
    refine AL_cons (LR_bi1 (at_tmp 6 _) (len_S Hfaa.underlying9 a0_1) rfl) (sS (sT1 rfl) sB0 sF0) ?_
    refine AL_cons (LR_assign (at_tmp 7 _) rfl) (sS (sT1 rfl) sB0 sF0) ?_
    refine AL_nil ?_
    exact thenN (cutLeaf (v := (a0_1.length : Int)) hr (weak0 ((sT rfl (sT rfl sT0))) (sub_keep sub_nil)))
  · rintro x1 hr
    show AW Hfaa.prog _ _ _ ⟨[(1, .inr (.inl (1, 0))), (3, .inl (is (I64 x1)))], [(1, pb 76 [is (Bl a0_0), is (Sv a0_1), is (I16 a0_2)])]⟩
    have hr : some r = F137_1 N a0_0 a0_1 a0_2 x1 := hr
    refine AW_seq1 ?_
    refine AW_cut (σ := Bool) (fun v => ⟨[(1, .inr (.inl (1, 0))), (3, .inl (is (I64 x1))), (9, .inl (is (Bl v)))], [(1, pb 76 [is (Bl a0_0), is (Sv a0_1), is (I16 a0_2)])]⟩) (fun v => some r = F137_2 N a0_0 a0_1 a0_2 x1 v) ?_ ?_
    · skip
      refine AW_region ?_
      refine AL_cons (LR_move (at_tmp 3 _) rfl) (sS (sT1 rfl) sB0 sF0) ?_
      refine AL_cons (LR_bin (at_tmp 8 _) (at_c (v' := I64 0) rfl) (eql_I64 x1 0) rfl) (sS (sA (sT1 rfl) sT0) sB0 sF0) ?_
      refine AL_nil ?_
      exact thenN (cutLeaf (v := x1 == 0) hr (weak0 ((sT rfl (sT rfl (sT rfl sT0)))) (sub_keep sub_nil)))
    · rintro x2 hr
      show AW Hfaa.prog _ _ _ ⟨[(1, .inr (.inl (1, 0))), (3, .inl (is (I64 x1))), (9, .inl (is (Bl x2)))], [(1, pb 76 [is (Bl a0_0), is (Sv a0_1), is (I16 a0_2)])]⟩
      have hr : some r = F137_2 N a0_0 a0_1 a0_2 x1 x2 := hr
      refine AW_condT (b := x2) rfl (fun h => ?_) (fun h => ?_)
      · have hr := hr.trans (cond_t h)
        clear h
        refine AW_seq1 ?_
        refine AW_region ?_
        refine AL_cons (LR_fieldAddr (off := 0) (o := 2) (at_tmp 1 _) (fun b w => fa76_2 b 0 w) rfl) (sS (sT1 rfl) sB0 sF0) ?_
        refine AL_cons (LR_load (at_tmp 10 _) na44 rfl rfl) (sS (sT1 rfl) (sB1 rfl) sF0) ?_
        refine AL_cons (LR_bin (at_tmp 11 _) (at_c (v' := I16 0) rfl) (eql_I16 a0_2 0) rfl) (sS (sA (sT1 rfl) sT0) sB0 sF0) ?_
        refine AL_cons (LR_assign (at_tmp 12 _) rfl) (sS (sT1 rfl) sB0 sF0) ?_
        refine AL_nil ?_
        refine thenN ?_
        refine AW_ret ?_
        refine thenR ?_
        obtain rfl := Option.some.inj hr
        exact res1 rfl (rvT rfl)
      · have hr := hr.trans (cond_f h)
        clear h
        refine AW_skip ?_
        refine thenN ?_
        refine AW_seq1 ?_
        refine AW_cut (σ := Bool) (fun v => ⟨[(1, .inr (.inl (1, 0))), (3, .inl (is (I64 x1))), (14, .inl (is (Bl v)))], [(1, pb 76 [is (Bl a0_0), is (Sv a0_1), is (I16 a0_2)])]⟩) (fun v => some r = F137_3 N a0_0 a0_1 a0_2 x1 v) ?_ ?_
        · skip
          refine AW_region ?_
          refine AL_cons (LR_move (at_tmp 3 _) rfl) (sS (sT1 rfl) sB0 sF0) ?_
          refine AL_cons (LR_bin (at_tmp 13 _) (at_c (v' := I64 800) rfl) (gtr_I64 x1 800) rfl) (sS (sA (sT1 rfl) sT0) sB0 sF0) ?_
          refine AL_nil ?_
          exact thenN (cutLeaf (v := decide (x1 > 800)) hr (weak0 ((sT rfl (sT rfl (sT rfl sT0)))) (sub_keep sub_nil)))
        · rintro x3 hr
          show AW Hfaa.prog _ _ _ ⟨[(1, .inr (.inl (1, 0))), (3, .inl (is (I64 x1))), (14, .inl (is (Bl x3)))], [(1, pb 76 [is (Bl a0_0), is (Sv a0_1), is (I16 a0_2)])]⟩
          have hr : some r = F137_3 N a0_0 a0_1 a0_2 x1 x3 := hr
          refine AW_condT (b := x3) rfl (fun h => ?_) (fun h => ?_)
          · have hr := hr.trans (cond_t h)
            clear h
            refine AW_seq1 ?_
            refine AW_region ?_
            refine AL_cons (LR_assign (at_c (v' := Bl false) rfl) rfl) (sS sT0 sB0 sF0) ?_
            refine AL_nil ?_
            refine thenN ?_
            refine AW_ret ?_
            refine thenR ?_
            obtain rfl := Option.some.inj hr
            exact res1 rfl (rvT rfl)
          · have hr := hr.trans (cond_f h)
            clear h
            refine AW_skip ?_
            refine thenN ?_
            refine AW_seq1 ?_
            refine AW_seq1 ?_
            refine AW_region ?_
            refine AL_cons (LR_assign (at_c (v' := I64 0) rfl) rfl) (sS sT0 sB0 sF0) ?_
            refine AL_nil ?_
            refine thenN ?_
            refine AW_block ?_
            refine AW_iterR (σ := Int) (r := r) (x0 := 0) (emb := fun v => ⟨[(1, .inr (.inl (1, 0))), (3, .inl (is (I64 x1))), (4, .inl (is (I64 v)))], [(1, pb 76 [is (Bl a0_0), is (Sv a0_1), is (I16 a0_2)])]⟩) ?_ hr ?_
            · exact weak0 ((sT rfl (sT rfl (sT rfl sT0)))) (sub_keep sub_nil)
            rintro x4 out2 hr
            show AW Hfaa.prog _ _ _ ⟨[(1, .inr (.inl (1, 0))), (3, .inl (is (I64 x1))), (4, .inl (is (I64 x4)))], [(1, pb 76 [is (Bl a0_0), is (Sv a0_1), is (I16 a0_2)])]⟩
            have hr : some out2 = F137_L4b N a0_0 a0_1 a0_2 x1 x4 := hr
            refine AW_seq1 ?_
            refine AW_cut (σ := Bool) (fun v => ⟨[(1, .inr (.inl (1, 0))), (3, .inl (is (I64 x1))), (4, .inl (is (I64 x4))), (17, .inl (is (Bl v)))], [(1, pb 76 [is (Bl a0_0), is (Sv a0_1), is (I16 a0_2)])]⟩) (fun v => some out2 = F137_5 N a0_0 a0_1 a0_2 x1 x4 v) ?_ ?_
            · skip
              refine AW_region ?_
              refine AL_cons (LR_move (at_tmp 4 _) rfl) (sS (sT1 rfl) sB0 sF0) ?_
              refine AL_cons (LR_move (at_tmp 3 _) rfl) (sS (sT1 rfl) sB0 sF0) ?_
              refine AL_cons (LR_bin (at_tmp 15 _) (at_tmp 16 _) (lss_I64 x4 x1) rfl) (sS (sA (sT1 rfl) (sT1 rfl)) sB0 sF0) ?_
              refine AL_nil ?_
              exact thenN (cutLeaf (v := decide (x4 < x1)) hr (weak0 ((sT rfl (sT rfl (sT rfl (sT rfl sT0))))) (sub_keep sub_nil)))
            · rintro x5 hr
              show AW Hfaa.prog _ _ _ ⟨[(1, .inr (.inl (1, 0))), (3, .inl (is (I64 x1))), (4, .inl (is (I64 x4))), (17, .inl (is (Bl x5)))], [(1, pb 76 [is (Bl a0_0), is (Sv a0_1), is (I16 a0_2)])]⟩
              have hr : some out2 = F137_5 N a0_0 a0_1 a0_2 x1 x4 x5 := hr
              refine AW_condT (b := x5) rfl (fun h => ?_) (fun h => ?_)
              · have hr := hr.trans (cond_t h)
                clear h
                refine AW_skip ?_
                refine thenN ?_
                refine AW_seq1 ?_
                refine AW_block ?_
                refine AW_cut (σ := Bool) (fun v => ⟨[(1, .inr (.inl (1, 0))), (3, .inl (is (I64 x1))), (4, .inl (is (I64 x4))), (31, .inl (is (Bl v)))], [(1, pb 76 [is (Bl a0_0), is (Sv a0_1), is (I16 a0_2)])]⟩) (fun v => some out2 = F137_6 N a0_0 a0_1 a0_2 x1 x4 v) ?_ ?_
                · skip
                  refine AW_region ?_
                  refine AL_cons (LR_fieldAddr (off := 0) (o := 1) (at_tmp 1 _) (fun b w => fa76_1 b 0 w) rfl) (sS (sT1 rfl) sB0 sF0) ?_
                  refine AL_cons (LR_load (at_tmp 20 _) na9 rfl rfl) (sS (sT1 rfl) (sB1 rfl) sF0) ?_
                  refine AL_cons (LR_move (at_tmp 4 _) rfl) (sS (sT1 rfl) sB0 sF0) ?_
                  obtain ⟨hg46, hr⟩ := guard_some hr
                  refine AL_cons (LR_indexS (i := (x4 : Int)) Hfaa.underlying9 (at_tmp 21 _) (at_tmp 22 _) (dand hg46) rfl) (sS (sA (sT1 rfl) (sT1 rfl)) sB0 sF0) ?_
                  refine AL_cons (LR_bin (at_tmp 23 _) (at_c (v' := U8 (48#8)) rfl) (lss_U8 ((a0_1.getD ((x4 : Int)).toNat 0).toBitVec) (48#8)) rfl) (sS (sA (sT1 rfl) sT0) sB0 sF0) ?_
                  refine AL_cons (LR_move (at_tmp 24 _) rfl) (sS (sT1 rfl) sB0 sF0) ?_
                  cases hb : decide (((a0_1.getD ((x4 : Int)).toNat 0).toBitVec).toNat < (48#8).toNat)
                  · have hr := hr.trans (cond_f hb)
                    refine AL_cons (LR_on rfl rfl rfl (LR_fieldAddr (off := 0) (o := 1) (at_tmp 1 _) (fun b w => fa76_1 b 0 w) rfl)) (sS (sT rfl (sT1 rfl)) sB0 sF0) ?_
                    refine AL_cons (LR_on rfl rfl rfl (LR_load (at_tmp 26 _) na9 rfl rfl)) (sS (sT rfl (sT1 rfl)) (sB1 rfl) sF0) ?_
                    refine AL_cons (LR_on rfl rfl rfl (LR_move (at_tmp 4 _) rfl)) (sS (sT rfl (sT1 rfl)) sB0 sF0) ?_
                    obtain ⟨hg48, hr⟩ := guard_some hr
                    refine AL_cons (LR_on rfl rfl rfl (LR_indexS (i := (x4 : Int)) Hfaa.underlying9 (at_tmp 27 _) (at_tmp 28 _) (dand hg48) rfl)) (sS (sT rfl (sA (sT1 rfl) (sT1 rfl))) sB0 sF0) ?_
                    refine AL_cons (LR_on rfl rfl rfl (LR_bin (at_tmp 29 _) (at_c (v' := U8 (57#8)) rfl) (gtr_U8 ((a0_1.getD ((x4 : Int)).toNat 0).toBitVec) (57#8)) rfl)) (sS (sT rfl (sA (sT1 rfl) sT0)) sB0 sF0) ?_
                    refine AL_cons (LR_pick (b := false) (at_tmp 25 _) (at_c (v' := Bl true) rfl) (at_tmp 30 _) rfl) (sS (sA (sT1 rfl) (sA sT0 (sT1 rfl))) sB0 sF0) ?_
                    refine AL_nil ?_
                    exact thenN (cutLeaf (v := decide ((57#8).toNat < ((a0_1.getD ((x4 : Int)).toNat 0).toBitVec).toNat)) hr (weak0 ((sT rfl (sT rfl (sT rfl (sT rfl sT0))))) (sub_keep sub_nil)))
                  · have hr := hr.trans (cond_t hb)
                    refine AL_cons (LR_off (b := true) rfl rfl rfl rfl) (sS (sT1 rfl) sB0 sF0) ?_
                    refine AL_cons (LR_off (b := true) rfl rfl rfl rfl) (sS (sT1 rfl) sB0 sF0) ?_
                    refine AL_cons (LR_off (b := true) rfl rfl rfl rfl) (sS (sT1 rfl) sB0 sF0) ?_
                    refine AL_cons (LR_off (b := true) rfl rfl rfl rfl) (sS (sT1 rfl) sB0 sF0) ?_
                    refine AL_cons (LR_off (b := true) rfl rfl rfl rfl) (sS (sT1 rfl) sB0 sF0) ?_
                    refine AL_cons (LR_pick (b := true) (at_tmp 25 _) (at_c (v' := Bl true) rfl) (at_tmp 30 _) rfl) (sS (sA (sT1 rfl) (sA sT0 (sT1 rfl))) sB0 sF0) ?_
                    refine AL_nil ?_
                    exact thenN (cutLeaf (v := true) hr (weak0 ((sT rfl (sT rfl (sT rfl (sT rfl sT0))))) (sub_keep sub_nil)))
                · rintro x6 hr
                  show AW Hfaa.prog _ _ _ ⟨[(1, .inr (.inl (1, 0))), (3, .inl (is (I64 x1))), (4, .inl (is (I64 x4))), (31, .inl (is (Bl x6)))], [(1, pb 76 [is (Bl a0_0), is (Sv a0_1), is (I16 a0_2)])]⟩
                  have hr : some out2 = F137_6 N a0_0 a0_1 a0_2 x1 x4 x6 := hr
                  refine AW_condT (b := x6) rfl (fun h => ?_) (fun h => ?_)
                  · have hr := hr.trans (cond_t h)
                    clear h
                    refine AW_seq1 ?_
                    refine AW_region ?_
                    refine AL_cons (LR_assign (at_c (v' := Bl false) rfl) rfl) (sS sT0 sB0 sF0) ?_
                    refine AL_nil ?_
                    refine thenN ?_
                    refine AW_ret ?_
                    refine blR ?_
                    refine thenR ?_
                    obtain ⟨r', hro, hr⟩ := map_inr hr
                    refine thenR (loopOut hro (fun he => ?_))
                    rw [he] at hr
                    refine blR ?_
                    refine thenR ?_
                    obtain rfl := Option.some.inj hr
                    exact res1 rfl (rvT rfl)
                  · have hr := hr.trans (cond_f h)
                    clear h
                    refine AW_skip ?_
                    refine blN ?_
                    refine thenN ?_
                    refine AW_region ?_
                    refine AL_cons (LR_move (at_tmp 4 _) rfl) (sS (sT1 rfl) sB0 sF0) ?_
                    refine AL_cons (LR_bin (at_tmp 18 _) (at_c (v' := I64 1) rfl) (add_I64 x4 1) rfl) (sS (sA (sT1 rfl) sT0) sB0 sF0) ?_
                    refine AL_cons (LR_assign (at_tmp 19 _) rfl) (sS (sT1 rfl) sB0 sF0) ?_
                    refine AL_nil ?_
                    exact thenN (loopNext (x' := w64 (x4 + 1)) hr (weak0 ((sT rfl (sT rfl (sT rfl sT0)))) (sub_keep sub_nil)))
              · have hr := hr.trans (cond_f h)
                clear h
                refine AW_exit ?_
                refine thenX ?_
                obtain ⟨r', hro, hr⟩ := map_inr hr
                refine thenX (loopOut hro (fun he => ?_))
                rw [he] at hr
                refine blH ?_
                refine thenN ?_
                refine AW_cut (σ := Bool) (fun v => ⟨[(2, .inl (is (Bl v)))], []⟩) (fun v => some r = F137_7 N v) ?_ ?_
                · skip
                  refine AW_region ?_
                  refine AL_cons (LR_fieldAddr (off := 0) (o := 1) (at_tmp 1 _) (fun b w => fa76_1 b 0 w) rfl) (sS (sT1 rfl) sB0 sF0) ?_
                  refine AL_cons (LR_load (at_tmp 32 _) na9 rfl rfl) (sS (sT1 rfl) (sB1 rfl) sF0) ?_
                  obtain ⟨hg52, hr⟩ := guard_some hr
                  refine AL_cons (LR_indexS (i := (0 : Int)) Hfaa.underlying9 (at_tmp 33 _) (at_c (v' := I64 0) rfl) (dand hg52) rfl) (sS (sA (sT1 rfl) sT0) sB0 sF0) ?_
                  refine AL_cons (LR_bin (at_tmp 34 _) (at_c (v' := U8 (48#8)) rfl) (neq_U8 ((a0_1.getD ((0 : Int)).toNat 0).toBitVec) (48#8)) rfl) (sS (sA (sT1 rfl) sT0) sB0 sF0) ?_
                  refine AL_cons (LR_move (at_tmp 35 _) rfl) (sS (sT1 rfl) sB0 sF0) ?_
                  cases hb : ((a0_1.getD ((0 : Int)).toNat 0).toBitVec) != (48#8)
                  · have hr := hr.trans (cond_f hb)
                    refine AL_cons (LR_off (b := false) rfl rfl rfl rfl) (sS (sT1 rfl) sB0 sF0) ?_
                    refine AL_cons (LR_off (b := false) rfl rfl rfl rfl) (sS (sT1 rfl) sB0 sF0) ?_
                    refine AL_cons (LR_off (b := false) rfl rfl rfl rfl) (sS (sT1 rfl) sB0 sF0) ?_
                    refine AL_cons (LR_off (b := false) rfl rfl rfl rfl) (sS (sT1 rfl) sB0 sF0) ?_
                    refine AL_cons (LR_off (b := false) rfl rfl rfl rfl) (sS (sT1 rfl) sB0 sF0) ?_
                    refine AL_cons (LR_off (b := false) rfl rfl rfl rfl) (sS (sT1 rfl) sB0 sF0) ?_
                    refine AL_cons (LR_pick (b := false) (at_tmp 36 _) (at_tmp 42 _) (at_c (v' := Bl false) rfl) rfl) (sS (sA (sT1 rfl) (sA (sT1 rfl) sT0)) sB0 sF0) ?_
                    refine AL_cons (LR_move (at_tmp 43 _) rfl) (sS (sT1 rfl) sB0 sF0) ?_
                    refine AL_cons (LR_off (b := false) rfl rfl rfl rfl) (sS (sT1 rfl) sB0 sF0) ?_
                    refine AL_cons (LR_off (b := false) rfl rfl rfl rfl) (sS (sT1 rfl) sB0 sF0) ?_
                    refine AL_cons (LR_off (b := false) rfl rfl rfl rfl) (sS (sT1 rfl) sB0 sF0) ?_
                    refine AL_cons (LR_pick (b := false) (at_tmp 44 _) (at_tmp 47 _) (at_c (v' := Bl false) rfl) rfl) (sS (sA (sT1 rfl) (sA (sT1 rfl) sT0)) sB0 sF0) ?_
                    refine AL_cons (LR_move (at_tmp 48 _) rfl) (sS (sT1 rfl) sB0 sF0) ?_
                    refine AL_cons (LR_off (b := false) rfl rfl rfl rfl) (sS (sT1 rfl) sB0 sF0) ?_
                    refine AL_cons (LR_off (b := false) rfl rfl rfl rfl) (sS (sT1 rfl) sB0 sF0) ?_
                    refine AL_cons (LR_off (b := false) rfl rfl rfl rfl) (sS (sT1 rfl) sB0 sF0) ?_
                    refine AL_cons (LR_pick (b := false) (at_tmp 49 _) (at_tmp 52 _) (at_c (v' := Bl false) rfl) rfl) (sS (sA (sT1 rfl) (sA (sT1 rfl) sT0)) sB0 sF0) ?_
                    refine AL_cons (LR_assign (at_tmp 53 _) rfl) (sS (sT1 rfl) sB0 sF0) ?_
                    refine AL_nil ?_
                    exact thenN (cutLeaf (v := false) hr (weak0 ((sT rfl sT0)) (sub_drop sub_nil)))
                  · have hr := hr.trans (cond_t hb)
                    refine AL_cons (LR_on rfl rfl rfl (LR_fieldAddr (off := 0) (o := 1) (at_tmp 1 _) (fun b w => fa76_1 b 0 w) rfl)) (sS (sT rfl (sT1 rfl)) sB0 sF0) ?_
                    refine AL_cons (LR_on rfl rfl rfl (LR_load (at_tmp 37 _) na9 rfl rfl)) (sS (sT rfl (sT1 rfl)) (sB1 rfl) sF0) ?_
                    refine AL_cons (LR_on rfl rfl rfl (LR_move (at_tmp 3 _) rfl)) (sS (sT rfl (sT1 rfl)) sB0 sF0) ?_
                    refine AL_cons (LR_on rfl rfl rfl (LR_bin (at_tmp 39 _) (at_c (v' := I64 1) rfl) (sub_I64 x1 1) rfl)) (sS (sT rfl (sA (sT1 rfl) sT0)) sB0 sF0) ?_
                    obtain ⟨hg54, hr⟩ := guard_some hr
                    refine AL_cons (LR_on rfl rfl rfl (LR_indexS (i := (w64 (x1 - 1) : Int)) Hfaa.underlying9 (at_tmp 38 _) (at_tmp 40 _) (dand hg54) rfl)) (sS (sT rfl (sA (sT1 rfl) (sT1 rfl))) sB0 sF0) ?_
                    refine AL_cons (LR_on rfl rfl rfl (LR_bin (at_tmp 41 _) (at_c (v' := U8 (48#8)) rfl) (neq_U8 ((a0_1.getD ((w64 (x1 - 1) : Int)).toNat 0).toBitVec) (48#8)) rfl)) (sS (sT rfl (sA (sT1 rfl) sT0)) sB0 sF0) ?_
                    refine AL_cons (LR_pick (b := true) (at_tmp 36 _) (at_tmp 42 _) (at_c (v' := Bl false) rfl) rfl) (sS (sA (sT1 rfl) (sA (sT1 rfl) sT0)) sB0 sF0) ?_
                    refine AL_cons (LR_move (at_tmp 43 _) rfl) (sS (sT1 rfl) sB0 sF0) ?_
                    refine AL_cutAt 4 ⟨[(1, .inr (.inl (1, 0))), (3, .inl (is (I64 x1))), (4, .inl (is (I64 x4))), (17, .inl (is (Bl x5))), (32, .inr (.inl (1, 1))), (33, .inl (is (Sv a0_1))), (34, .inl (is (U8 ((a0_1.getD ((0 : Int)).toNat 0).toBitVec)))), (35, .inl (is (Bl true))), (36, .inl (is (Bl true))), (37, .inr (.inl (1, 1))), (38, .inl (is (Sv a0_1))), (39, .inl (is (I64 x1))), (40, .inl (is (I64 (w64 (x1 - 1))))), (41, .inl (is (U8 ((a0_1.getD ((w64 (x1 - 1) : Int)).toNat 0).toBitVec)))), (42, .inl (is (Bl (((a0_1.getD ((w64 (x1 - 1) : Int)).toNat 0).toBitVec) != (48#8))))), (43, .inl (is (Bl (((a0_1.getD ((w64 (x1 - 1) : Int)).toNat 0).toBitVec) != (48#8))))), (44, .inl (is (Bl (((a0_1.getD ((w64 (x1 - 1) : Int)).toNat 0).toBitVec) != (48#8))))), (48, .inl (is (Bl ((((a0_1.getD ((w64 (x1 - 1) : Int)).toNat 0).toBitVec) != (48#8)) && (decide ((-2000) ≤ a0_2))))))], [(1, pb 76 [is (Bl a0_0), is (Sv a0_1), is (I16 a0_2)])]⟩ ?_ ?_
                    · cases hb : ((a0_1.getD ((w64 (x1 - 1) : Int)).toNat 0).toBitVec) != (48#8)
                      · skip
                        refine AL_cons (LR_off (b := false) rfl rfl rfl rfl) (sS (sT1 rfl) sB0 sF0) ?_
                        refine AL_cons (LR_off (b := false) rfl rfl rfl rfl) (sS (sT1 rfl) sB0 sF0) ?_
                        refine AL_cons (LR_off (b := false) rfl rfl rfl rfl) (sS (sT1 rfl) sB0 sF0) ?_
                        refine AL_cons (LR_pick (b := false) (at_tmp 44 _) (at_tmp 47 _) (at_c (v' := Bl false) rfl) rfl) (sS (sA (sT1 rfl) (sA (sT1 rfl) sT0)) sB0 sF0) ?_
                        exact AL_nil ⟨rfl, weak0 ((sT rfl (sT rfl (sT rfl (sT rfl (sT rfl (sT rfl (sT rfl (sT rfl (sT rfl (sT rfl (sT rfl (sT rfl (sT rfl (sT rfl (sT rfl (sT rfl (sT rfl (sT rfl sT0))))))))))))))))))) (sub_keep sub_nil)⟩
                      · skip
                        refine AL_cons (LR_on rfl rfl rfl (LR_fieldAddr (off := 0) (o := 2) (at_tmp 1 _) (fun b w => fa76_2 b 0 w) rfl)) (sS (sT rfl (sT1 rfl)) sB0 sF0) ?_
                        refine AL_cons (LR_on rfl rfl rfl (LR_load (at_tmp 45 _) na44 rfl rfl)) (sS (sT rfl (sT1 rfl)) (sB1 rfl) sF0) ?_
                        refine AL_cons (LR_on rfl rfl rfl (LR_bin (at_c (v' := I16 (-2000)) rfl) (at_tmp 46 _) (leq_I16 (-2000) a0_2) rfl)) (sS (sT rfl (sA sT0 (sT1 rfl))) sB0 sF0) ?_
                        refine AL_cons (LR_pick (b := true) (at_tmp 44 _) (at_tmp 47 _) (at_c (v' := Bl false) rfl) rfl) (sS (sA (sT1 rfl) (sA (sT1 rfl) sT0)) sB0 sF0) ?_
                        exact AL_nil ⟨rfl, weak0 ((sT rfl (sT rfl (sT rfl (sT rfl (sT rfl (sT rfl (sT rfl (sT rfl (sT rfl (sT rfl (sT rfl (sT rfl (sT rfl (sT rfl (sT rfl (sT rfl (sT rfl (sT rfl sT0))))))))))))))))))) (sub_keep sub_nil)⟩
                    refine AL_cons (LR_move (at_tmp 48 _) rfl) (sS (sT1 rfl) sB0 sF0) ?_
                    refine AL_cutAt 4 ⟨[(1, .inr (.inl (1, 0))), (3, .inl (is (I64 x1))), (4, .inl (is (I64 x4))), (17, .inl (is (Bl x5))), (32, .inr (.inl (1, 1))), (33, .inl (is (Sv a0_1))), (34, .inl (is (U8 ((a0_1.getD ((0 : Int)).toNat 0).toBitVec)))), (35, .inl (is (Bl true))), (36, .inl (is (Bl true))), (37, .inr (.inl (1, 1))), (38, .inl (is (Sv a0_1))), (39, .inl (is (I64 x1))), (40, .inl (is (I64 (w64 (x1 - 1))))), (41, .inl (is (U8 ((a0_1.getD ((w64 (x1 - 1) : Int)).toNat 0).toBitVec)))), (42, .inl (is (Bl (((a0_1.getD ((w64 (x1 - 1) : Int)).toNat 0).toBitVec) != (48#8))))), (43, .inl (is (Bl (((a0_1.getD ((w64 (x1 - 1) : Int)).toNat 0).toBitVec) != (48#8))))), (44, .inl (is (Bl (((a0_1.getD ((w64 (x1 - 1) : Int)).toNat 0).toBitVec) != (48#8))))), (48, .inl (is (Bl ((((a0_1.getD ((w64 (x1 - 1) : Int)).toNat 0).toBitVec) != (48#8)) && (decide ((-2000) ≤ a0_2)))))), (49, .inl (is (Bl ((((a0_1.getD ((w64 (x1 - 1) : Int)).toNat 0).toBitVec) != (48#8)) && (decide ((-2000) ≤ a0_2)))))), (53, .inl (is (Bl (((((a0_1.getD ((w64 (x1 - 1) : Int)).toNat 0).toBitVec) != (48#8)) && (decide ((-2000) ≤ a0_2))) && (decide (a0_2 ≤ 2000))))))], [(1, pb 76 [is (Bl a0_0), is (Sv a0_1), is (I16 a0_2)])]⟩ ?_ ?_
                    · cases hb : (((a0_1.getD ((w64 (x1 - 1) : Int)).toNat 0).toBitVec) != (48#8)) && (decide ((-2000) ≤ a0_2))
                      · skip
                        refine AL_cons (LR_off (b := false) rfl rfl rfl rfl) (sS (sT1 rfl) sB0 sF0) ?_
                        refine AL_cons (LR_off (b := false) rfl rfl rfl rfl) (sS (sT1 rfl) sB0 sF0) ?_
                        refine AL_cons (LR_off (b := false) rfl rfl rfl rfl) (sS (sT1 rfl) sB0 sF0) ?_
                        refine AL_cons (LR_pick (b := false) (at_tmp 49 _) (at_tmp 52 _) (at_c (v' := Bl false) rfl) rfl) (sS (sA (sT1 rfl) (sA (sT1 rfl) sT0)) sB0 sF0) ?_
                        exact AL_nil ⟨rfl, weak0 ((sT rfl (sT rfl (sT rfl (sT rfl (sT rfl (sT rfl (sT rfl (sT rfl (sT rfl (sT rfl (sT rfl (sT rfl (sT rfl (sT rfl (sT rfl (sT rfl (sT rfl (sT rfl (sT rfl (sT rfl sT0))))))))))))))))))))) (sub_keep sub_nil)⟩
                      · skip
                        refine AL_cons (LR_on rfl rfl rfl (LR_fieldAddr (off := 0) (o := 2) (at_tmp 1 _) (fun b w => fa76_2 b 0 w) rfl)) (sS (sT rfl (sT1 rfl)) sB0 sF0) ?_
                        refine AL_cons (LR_on rfl rfl rfl (LR_load (at_tmp 50 _) na44 rfl rfl)) (sS (sT rfl (sT1 rfl)) (sB1 rfl) sF0) ?_
                        refine AL_cons (LR_on rfl rfl rfl (LR_bin (at_tmp 51 _) (at_c (v' := I16 2000) rfl) (leq_I16 a0_2 2000) rfl)) (sS (sT rfl (sA (sT1 rfl) sT0)) sB0 sF0) ?_
                        refine AL_cons (LR_pick (b := true) (at_tmp 49 _) (at_tmp 52 _) (at_c (v' := Bl false) rfl) rfl) (sS (sA (sT1 rfl) (sA (sT1 rfl) sT0)) sB0 sF0) ?_
                        exact AL_nil ⟨rfl, weak0 ((sT rfl (sT rfl (sT rfl (sT rfl (sT rfl (sT rfl (sT rfl (sT rfl (sT rfl (sT rfl (sT rfl (sT rfl (sT rfl (sT rfl (sT rfl (sT rfl (sT rfl (sT rfl (sT rfl (sT rfl sT0))))))))))))))))))))) (sub_keep sub_nil)⟩
                    refine AL_cons (LR_assign (at_tmp 53 _) rfl) (sS (sT1 rfl) sB0 sF0) ?_
                    refine AL_nil ?_
                    exact thenN (cutLeaf (v := ((((a0_1.getD ((w64 (x1 - 1) : Int)).toNat 0).toBitVec) != (48#8)) && (decide ((-2000) ≤ a0_2))) && (decide (a0_2 ≤ 2000))) hr (weak0 ((sT rfl sT0)) (sub_drop sub_nil)))
                · rintro x7 hr
                  show AW Hfaa.prog _ _ _ ⟨[(2, .inl (is (Bl x7)))], []⟩
                  have hr : some r = F137_7 N x7 := hr
                  refine AW_ret ?_
                  obtain rfl := Option.some.inj hr
                  exact res1 rfl (rvT rfl)
end Go.Proofs.YfwaawGreat
