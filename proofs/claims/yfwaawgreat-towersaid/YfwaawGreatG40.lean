import Derived.Test.YfwaawGreatG1
import Derived.Test.YfwaawGreatG10
import Derived.Test.YfwaawGreatG34
import Derived.Test.YfwaawGreatG38
import Derived.Test.YfwaawGreatG39
namespace Go.Proofs.YfwaawGreat
open Go.Aw
set_option linter.unusedVariables false
set_option maxRecDepth 100000
set_option maxHeartbeats 1000000
/-- parse/clinger.bits32 -/
def F162 (N : Nat) (a0 : Option Nat) : Option (BitVec 32) := bif a0.isSome then some (BitVec.ofNat 32 (a0.getD 0)) else none
theorem C162 (N : Nat) (a0 : Option Nat) (r : BitVec 32) (hr : some r = F162 N a0) : Aw.Fn Hfaa.prog 162 [fl .f32 a0] (is (U32 r)) := by
  refine fn_intro Hfaa.func162 rfl rfl rfl ?_
  intro bn0 w0 H0
  refine AW_seq1 ?_
  refine AW_region ?_
  refine AL_cons (LR_assign (at_c (v' := U32 (0#32)) rfl) rfl) (sS sT0 sB0 sF0) ?_
  refine AL_nil ?_
  refine thenN ?_
  refine AW_seq1 ?_
  refine AW_region ?_
  refine AL_cons (LR_move (at_tmp 0 _) rfl) (sS (sT1 rfl) sB0 sF0) ?_
  obtain ⟨hg2, hr⟩ := guard_some hr
  refine AL_cons (LR_ext (ex263 a0 hg2) (all_cons (at_tmp 3 _) all_nil) rfl) (sS (sA (sT1 rfl) sT0) sB0 sF0) ?_
  refine AL_cons (LR_assign (at_tmp 4 _) rfl) (sS (sT1 rfl) sB0 sF0) ?_
  refine AL_nil ?_
  refine thenN ?_
  refine AW_ret ?_
  obtain rfl := Option.some.inj hr
  exact res1 rfl (rvT rfl)
/-- parse/clinger.Clinger -/
def F90_2 (N : Nat) (a1 : BitVec 64) (a2 : Int) (x2 : Bool) : Option (BitVec 64 × Bool) := bif x2 then lt (F161 (w16 (0 - a2))) fun y36 => (F160 N (fbits .quo .f64 (some (FloatKind.f64.nearest (a1.toNat : Int))) y36)).bind fun y37 => some (y37, true) else lt (F161 a2) fun y40 => (F160 N (fbits .mul .f64 (some (FloatKind.f64.nearest (a1.toNat : Int))) y40)).bind fun y41 => some (y41, true)
def F90_4 (N : Nat) (a1 : BitVec 64) (a2 : Int) (x4 : Bool) : Option (BitVec 64 × Bool) := bif x4 then lt (F163 (w16 (0 - a2))) fun y49 => (F162 N (fbits .quo .f32 (some (FloatKind.f32.nearest (a1.toNat : Int))) y49)).bind fun y50 => some ((BitVec.ofInt 64 (y50.toNat : Int), true)) else lt (F163 a2) fun y53 => (F162 N (fbits .mul .f32 (some (FloatKind.f32.nearest (a1.toNat : Int))) y53)).bind fun y54 => some ((BitVec.ofInt 64 (y54.toNat : Int), true))
def F90_3 (N : Nat) (a1 : BitVec 64) (a2 : Int) (x3 : Bool) : Option (BitVec 64 × Bool) := bif x3 then F90_4 N a1 a2 (decide (a2 < 0)) else some (0#64, false)
def F90_1 (N : Nat) (a0_0 : BitVec 8) (a0_1 : BitVec 8) (a1 : BitVec 64) (a2 : Int) (x1 : Bool) : Option (BitVec 64 × Bool) := bif x1 then F90_2 N a1 a2 (decide (a2 < 0)) else bif (a0_0 == F14.1) && (a0_1 == F14.2) then bif decide (a1.toNat ≤ (16777216#64).toNat) then bif decide ((-10) ≤ a2) then F90_3 N a1 a2 (decide (a2 ≤ 10)) else F90_3 N a1 a2 false else F90_3 N a1 a2 false else F90_3 N a1 a2 false
def F90 (N : Nat) (a0_0 : BitVec 8) (a0_1 : BitVec 8) (a1 : BitVec 64) (a2 : Int) : Option (BitVec 64 × Bool) := bif (a0_0 == F13.1) && (a0_1 == F13.2) then bif decide (a1.toNat ≤ (9007199254740992#64).toNat) then bif decide ((-22) ≤ a2) then F90_1 N a0_0 a0_1 a1 a2 (decide (a2 ≤ 22)) else F90_1 N a0_0 a0_1 a1 a2 false else F90_1 N a0_0 a0_1 a1 a2 false else F90_1 N a0_0 a0_1 a1 a2 false
theorem C90 (N : Nat) (a0_0 : BitVec 8) (a0_1 : BitVec 8) (a1 : BitVec 64) (a2 : Int) (r : BitVec 64 × Bool) (hr : some r = F90 N a0_0 a0_1 a1 a2) : Aw.Fn Hfaa.prog 90 [agg [is (U8 a0_0), is (U8 a0_1)], is (U64 a1), is (I16 a2)] (tup [is (U64 r.1), is (Bl r.2)]) := by
  refine fn_intro Hfaa.func90 rfl rfl rfl ?_
  intro bn0 w0 H0
  refine AW_seq1 ?_
  refine AW_region ?_
  refine AL_cons (LR_box (at_tmp 0 _) (cells_agg _) rfl) (sS (sT1 rfl) sB0 (sF1 rfl)) ?_
  refine AL_cons (LR_assign (at_c (v' := U64 (0#64)) rfl) rfl) (sS sT0 sB0 sF0) ?_
  refine AL_cons (LR_assign (at_c (v' := Bl false) rfl) rfl) (sS sT0 sB0 sF0) ?_
  refine AL_nil ?_
  refine thenN ?_
  refine AW_seq1 ?_
  refine AW_block ?_
  refine AW_cut (σ := Bool) (fun v => ⟨[(1, .inl (is (U64 a1))), (2, .inl (is (I16 a2))), (3, .inr (.inl (3, 0))), (8, .inl (is (Bl v)))], [(3, pb 23 [is (U8 a0_0), is (U8 a0_1)])]⟩) (fun v => some r = F90_1 N a0_0 a0_1 a1 a2 v) ?_ ?_
  · skip
    rcases bool_em ((a0_0 == F13.1) && (a0_1 == F13.2)) with hb22 | hb22
    · have hr := hr.trans (cond_f hb22)
      refine AW_draw mixed
        (lrC (LR_loads (at_tmp 3 _) ag23 sz23 rfl rfl rfl)
        (lrC (LR_call Hfaa.func13 rfl rfl (C13 _ rfl) all_nil rfl)
        (lrC (LR_asB (LR_binA (at_tmp 9 _) (at_tmp 10 _) (eqlA23 a0_0 a0_1 F13.1 F13.2) rfl) hb22)
        (lrC (LR_move (at_tmp 11 _) rfl)
        (lrC (LR_off (b := false) rfl rfl rfl rfl)
        (lrC (LR_off (b := false) rfl rfl rfl rfl)
        (lrC (LR_pick (b := false) (at_tmp 12 _) (at_tmp 14 _) (at_c (v' := Bl false) rfl) rfl)
        (lrC (LR_move (at_tmp 15 _) rfl)
        (lrC (LR_off (b := false) rfl rfl rfl rfl)
        (lrC (LR_off (b := false) rfl rfl rfl rfl)
        (lrC (LR_pick (b := false) (at_tmp 16 _) (at_tmp 18 _) (at_c (v' := Bl false) rfl) rfl)
        (lrC (LR_move (at_tmp 19 _) rfl)
        (lrC (LR_off (b := false) rfl rfl rfl rfl)
        (lrC (LR_off (b := false) rfl rfl rfl rfl)
        (lrC (LR_pick (b := false) (at_tmp 20 _) (at_tmp 22 _) (at_c (v' := Bl false) rfl) rfl)
        (lrC (LR_assign (at_tmp 23 _) rfl)
        lrN))))))))))))))))
        (by kernel_rfl)
        (saC (sS (sT1 rfl) (sB1 rfl) sF0) (saC (sS sT0 sB0 sF0) (saC (sS (sA (sT1 rfl) (sT1 rfl)) sB0 sF0) (saC (sS (sT1 rfl) sB0 sF0) (saC (sS (sT1 rfl) sB0 sF0) (saC (sS (sT1 rfl) sB0 sF0) (saC (sS (sA (sT1 rfl) (sA (sT1 rfl) sT0)) sB0 sF0) (saC (sS (sT1 rfl) sB0 sF0) (saC (sS (sT1 rfl) sB0 sF0) (saC (sS (sT1 rfl) sB0 sF0) (saC (sS (sA (sT1 rfl) (sA (sT1 rfl) sT0)) sB0 sF0) (saC (sS (sT1 rfl) sB0 sF0) (saC (sS (sT1 rfl) sB0 sF0) (saC (sS (sT1 rfl) sB0 sF0) (saC (sS (sA (sT1 rfl) (sA (sT1 rfl) sT0)) sB0 sF0) (saC (sS (sT1 rfl) sB0 sF0) saN)))))))))))))))) ?_
      exact thenN (cutLeaf (v := false) hr (weak0 ((sT rfl (sT rfl (sT rfl (sT rfl sT0))))) (sub_keep sub_nil)))
    · have hr := hr.trans (cond_t hb22)
      rcases bool_em (decide (a1.toNat ≤ (9007199254740992#64).toNat)) with hb23 | hb23
      · have hr := hr.trans (cond_f hb23)
        refine AW_draw mixed
          (lrC (LR_loads (at_tmp 3 _) ag23 sz23 rfl rfl rfl)
          (lrC (LR_call Hfaa.func13 rfl rfl (C13 _ rfl) all_nil rfl)
          (lrC (LR_asB (LR_binA (at_tmp 9 _) (at_tmp 10 _) (eqlA23 a0_0 a0_1 F13.1 F13.2) rfl) hb22)
          (lrC (LR_move (at_tmp 11 _) rfl)
          (lrC (LR_on rfl rfl rfl (LR_move (at_tmp 1 _) rfl))
          (lrC (LR_on rfl rfl rfl (LR_asB (LR_bin (at_tmp 13 _) (at_c (v' := U64 (9007199254740992#64)) rfl) (leq_U64 a1 (9007199254740992#64)) rfl) hb23))
          (lrC (LR_pick (b := true) (at_tmp 12 _) (at_tmp 14 _) (at_c (v' := Bl false) rfl) rfl)
          (lrC (LR_move (at_tmp 15 _) rfl)
          (lrC (LR_off (b := false) rfl rfl rfl rfl)
          (lrC (LR_off (b := false) rfl rfl rfl rfl)
          (lrC (LR_pick (b := false) (at_tmp 16 _) (at_tmp 18 _) (at_c (v' := Bl false) rfl) rfl)
          (lrC (LR_move (at_tmp 19 _) rfl)
          (lrC (LR_off (b := false) rfl rfl rfl rfl)
          (lrC (LR_off (b := false) rfl rfl rfl rfl)
          (lrC (LR_pick (b := false) (at_tmp 20 _) (at_tmp 22 _) (at_c (v' := Bl false) rfl) rfl)
          (lrC (LR_assign (at_tmp 23 _) rfl)
          lrN))))))))))))))))
          (by kernel_rfl)
          (saC (sS (sT1 rfl) (sB1 rfl) sF0) (saC (sS sT0 sB0 sF0) (saC (sS (sA (sT1 rfl) (sT1 rfl)) sB0 sF0) (saC (sS (sT1 rfl) sB0 sF0) (saC (sS (sT rfl (sT1 rfl)) sB0 sF0) (saC (sS (sT rfl (sA (sT1 rfl) sT0)) sB0 sF0) (saC (sS (sA (sT1 rfl) (sA (sT1 rfl) sT0)) sB0 sF0) (saC (sS (sT1 rfl) sB0 sF0) (saC (sS (sT1 rfl) sB0 sF0) (saC (sS (sT1 rfl) sB0 sF0) (saC (sS (sA (sT1 rfl) (sA (sT1 rfl) sT0)) sB0 sF0) (saC (sS (sT1 rfl) sB0 sF0) (saC (sS (sT1 rfl) sB0 sF0) (saC (sS (sT1 rfl) sB0 sF0) (saC (sS (sA (sT1 rfl) (sA (sT1 rfl) sT0)) sB0 sF0) (saC (sS (sT1 rfl) sB0 sF0) saN)))))))))))))))) ?_
        exact thenN (cutLeaf (v := false) hr (weak0 ((sT rfl (sT rfl (sT rfl (sT rfl sT0))))) (sub_keep sub_nil)))
      · have hr := hr.trans (cond_t hb23)
        rcases bool_em (decide ((-22) ≤ a2)) with hb24 | hb24
        · have hr := hr.trans (cond_f hb24)
          refine AW_draw mixed
            (lrC (LR_loads (at_tmp 3 _) ag23 sz23 rfl rfl rfl)
            (lrC (LR_call Hfaa.func13 rfl rfl (C13 _ rfl) all_nil rfl)
            (lrC (LR_asB (LR_binA (at_tmp 9 _) (at_tmp 10 _) (eqlA23 a0_0 a0_1 F13.1 F13.2) rfl) hb22)
            (lrC (LR_move (at_tmp 11 _) rfl)
            (lrC (LR_on rfl rfl rfl (LR_move (at_tmp 1 _) rfl))
            (lrC (LR_on rfl rfl rfl (LR_asB (LR_bin (at_tmp 13 _) (at_c (v' := U64 (9007199254740992#64)) rfl) (leq_U64 a1 (9007199254740992#64)) rfl) hb23))
            (lrC (LR_pick (b := true) (at_tmp 12 _) (at_tmp 14 _) (at_c (v' := Bl false) rfl) rfl)
            (lrC (LR_move (at_tmp 15 _) rfl)
            (lrC (LR_on rfl rfl rfl (LR_move (at_tmp 2 _) rfl))
            (lrC (LR_on rfl rfl rfl (LR_asB (LR_bin (at_c (v' := I16 (-22)) rfl) (at_tmp 17 _) (leq_I16 (-22) a2) rfl) hb24))
            (lrC (LR_pick (b := true) (at_tmp 16 _) (at_tmp 18 _) (at_c (v' := Bl false) rfl) rfl)
            (lrC (LR_move (at_tmp 19 _) rfl)
            (lrC (LR_off (b := false) rfl rfl rfl rfl)
            (lrC (LR_off (b := false) rfl rfl rfl rfl)
            (lrC (LR_pick (b := false) (at_tmp 20 _) (at_tmp 22 _) (at_c (v' := Bl false) rfl) rfl)
            (lrC (LR_assign (at_tmp 23 _) rfl)
            lrN))))))))))))))))
            (by kernel_rfl)
            (saC (sS (sT1 rfl) (sB1 rfl) sF0) (saC (sS sT0 sB0 sF0) (saC (sS (sA (sT1 rfl) (sT1 rfl)) sB0 sF0) (saC (sS (sT1 rfl) sB0 sF0) (saC (sS (sT rfl (sT1 rfl)) sB0 sF0) (saC (sS (sT rfl (sA (sT1 rfl) sT0)) sB0 sF0) (saC (sS (sA (sT1 rfl) (sA (sT1 rfl) sT0)) sB0 sF0) (saC (sS (sT1 rfl) sB0 sF0) (saC (sS (sT rfl (sT1 rfl)) sB0 sF0) (saC (sS (sT rfl (sA sT0 (sT1 rfl))) sB0 sF0) (saC (sS (sA (sT1 rfl) (sA (sT1 rfl) sT0)) sB0 sF0) (saC (sS (sT1 rfl) sB0 sF0) (saC (sS (sT1 rfl) sB0 sF0) (saC (sS (sT1 rfl) sB0 sF0) (saC (sS (sA (sT1 rfl) (sA (sT1 rfl) sT0)) sB0 sF0) (saC (sS (sT1 rfl) sB0 sF0) saN)))))))))))))))) ?_
          exact thenN (cutLeaf (v := false) hr (weak0 ((sT rfl (sT rfl (sT rfl (sT rfl sT0))))) (sub_keep sub_nil)))
        · have hr := hr.trans (cond_t hb24)
          refine AW_draw mixed
            (lrC (LR_loads (at_tmp 3 _) ag23 sz23 rfl rfl rfl)
            (lrC (LR_call Hfaa.func13 rfl rfl (C13 _ rfl) all_nil rfl)
            (lrC (LR_asB (LR_binA (at_tmp 9 _) (at_tmp 10 _) (eqlA23 a0_0 a0_1 F13.1 F13.2) rfl) hb22)
            (lrC (LR_move (at_tmp 11 _) rfl)
            (lrC (LR_on rfl rfl rfl (LR_move (at_tmp 1 _) rfl))
            (lrC (LR_on rfl rfl rfl (LR_asB (LR_bin (at_tmp 13 _) (at_c (v' := U64 (9007199254740992#64)) rfl) (leq_U64 a1 (9007199254740992#64)) rfl) hb23))
            (lrC (LR_pick (b := true) (at_tmp 12 _) (at_tmp 14 _) (at_c (v' := Bl false) rfl) rfl)
            (lrC (LR_move (at_tmp 15 _) rfl)
            (lrC (LR_on rfl rfl rfl (LR_move (at_tmp 2 _) rfl))
            (lrC (LR_on rfl rfl rfl (LR_asB (LR_bin (at_c (v' := I16 (-22)) rfl) (at_tmp 17 _) (leq_I16 (-22) a2) rfl) hb24))
            (lrC (LR_pick (b := true) (at_tmp 16 _) (at_tmp 18 _) (at_c (v' := Bl false) rfl) rfl)
            (lrC (LR_move (at_tmp 19 _) rfl)
            (lrC (LR_on rfl rfl rfl (LR_move (at_tmp 2 _) rfl))
            (lrC (LR_on rfl rfl rfl (LR_bin (at_tmp 21 _) (at_c (v' := I16 22) rfl) (leq_I16 a2 22) rfl))
            (lrC (LR_pick (b := true) (at_tmp 20 _) (at_tmp 22 _) (at_c (v' := Bl false) rfl) rfl)
            (lrC (LR_assign (at_tmp 23 _) rfl)
            lrN))))))))))))))))
            (by kernel_rfl)
            (saC (sS (sT1 rfl) (sB1 rfl) sF0) (saC (sS sT0 sB0 sF0) (saC (sS (sA (sT1 rfl) (sT1 rfl)) sB0 sF0) (saC (sS (sT1 rfl) sB0 sF0) (saC (sS (sT rfl (sT1 rfl)) sB0 sF0) (saC (sS (sT rfl (sA (sT1 rfl) sT0)) sB0 sF0) (saC (sS (sA (sT1 rfl) (sA (sT1 rfl) sT0)) sB0 sF0) (saC (sS (sT1 rfl) sB0 sF0) (saC (sS (sT rfl (sT1 rfl)) sB0 sF0) (saC (sS (sT rfl (sA sT0 (sT1 rfl))) sB0 sF0) (saC (sS (sA (sT1 rfl) (sA (sT1 rfl) sT0)) sB0 sF0) (saC (sS (sT1 rfl) sB0 sF0) (saC (sS (sT rfl (sT1 rfl)) sB0 sF0) (saC (sS (sT rfl (sA (sT1 rfl) sT0)) sB0 sF0) (saC (sS (sA (sT1 rfl) (sA (sT1 rfl) sT0)) sB0 sF0) (saC (sS (sT1 rfl) sB0 sF0) saN)))))))))))))))) ?_
          exact thenN (cutLeaf (v := decide (a2 ≤ 22)) hr (weak0 ((sT rfl (sT rfl (sT rfl (sT rfl sT0))))) (sub_keep sub_nil)))
  · rintro x1 hr
    show AW Hfaa.prog _ _ _ ⟨[(1, .inl (is (U64 a1))), (2, .inl (is (I16 a2))), (3, .inr (.inl (3, 0))), (8, .inl (is (Bl x1)))], [(3, pb 23 [is (U8 a0_0), is (U8 a0_1)])]⟩
    have hr : some r = F90_1 N a0_0 a0_1 a1 a2 x1 := hr
    refine AW_condT (b := x1) rfl (fun h => ?_) (fun h => ?_)
    · have hr := hr.trans (cond_t h)
      clear h
      refine AW_seq1 ?_
      refine AW_cut (σ := Bool) (fun v => ⟨[(1, .inl (is (U64 a1))), (2, .inl (is (I16 a2))), (25, .inl (is (Bl v)))], []⟩) (fun v => some r = F90_2 N a1 a2 v) ?_ ?_
      · skip
        refine AW_region ?_
        refine AL_cons (LR_move (at_tmp 2 _) rfl) (sS (sT1 rfl) sB0 sF0) ?_
        refine AL_cons (LR_bin (at_tmp 24 _) (at_c (v' := I16 0) rfl) (lss_I16 a2 0) rfl) (sS (sA (sT1 rfl) sT0) sB0 sF0) ?_
        refine AL_nil ?_
        exact thenN (cutLeaf (v := decide (a2 < 0)) hr (weak0 ((sT rfl (sT rfl (sT rfl sT0)))) (sub_drop sub_nil)))
      · rintro x2 hr
        show AW Hfaa.prog _ _ _ ⟨[(1, .inl (is (U64 a1))), (2, .inl (is (I16 a2))), (25, .inl (is (Bl x2)))], []⟩
        have hr : some r = F90_2 N a1 a2 x2 := hr
        refine AW_condT (b := x2) rfl (fun h => ?_) (fun h => ?_)
        · have hr := hr.trans (cond_t h)
          clear h
          refine AW_seq1 ?_
          refine AW_region ?_
          refine AL_cons (LR_move (at_tmp 1 _) rfl) (sS (sT1 rfl) sB0 sF0) ?_
          refine AL_cons (LR_convIF (q := .u64) (i := (a1.toNat : Int)) Hfaa.underlying30 Hfaa.underlying188 (at_tmp 26 _) rfl) (sS (sT1 rfl) sB0 sF0) ?_
          refine AL_cons (LR_move (at_tmp 2 _) rfl) (sS (sT1 rfl) sB0 sF0) ?_
          refine AL_cons (LR_un (at_tmp 28 _) (neg_I16 a2) rfl) (sS (sT1 rfl) sB0 sF0) ?_
          obtain ⟨y36, hy36, hr⟩ := lt_some hr
          refine AL_cons (LR_call Hfaa.func161 rfl rfl (C161 (w16 (0 - a2)) y36 hy36) (all_cons (at_tmp 29 _) all_nil) rfl) (sS (sA (sT1 rfl) sT0) sB0 sF0) ?_
          refine AL_cons (LR_fbin rfl (at_tmp 27 _) (at_tmp 30 _) rfl) (sS (sA (sT1 rfl) (sT1 rfl)) sB0 sF0) ?_
          obtain ⟨y37, hy37, hr⟩ := bind_some hr
          refine AL_cons (LR_call Hfaa.func160 rfl rfl (C160 N (fbits .quo .f64 (some (FloatKind.f64.nearest (a1.toNat : Int))) y36) y37 hy37) (all_cons (at_tmp 31 _) all_nil) rfl) (sS (sA (sT1 rfl) sT0) sB0 sF0) ?_
          refine AL_cons (LR_assign (at_tmp 32 _) rfl) (sS (sT1 rfl) sB0 sF0) ?_
          refine AL_cons (LR_assign (at_c (v' := Bl true) rfl) rfl) (sS sT0 sB0 sF0) ?_
          refine AL_nil ?_
          refine thenN ?_
          refine AW_ret ?_
          refine thenR ?_
          refine blR ?_
          refine thenR ?_
          obtain rfl := Option.some.inj hr
          exact res2 rfl (rvT rfl) (rvT rfl)
        · have hr := hr.trans (cond_f h)
          clear h
          refine AW_skip ?_
          refine thenN ?_
          refine AW_seq1 ?_
          refine AW_region ?_
          refine AL_cons (LR_move (at_tmp 1 _) rfl) (sS (sT1 rfl) sB0 sF0) ?_
          refine AL_cons (LR_convIF (q := .u64) (i := (a1.toNat : Int)) Hfaa.underlying30 Hfaa.underlying188 (at_tmp 33 _) rfl) (sS (sT1 rfl) sB0 sF0) ?_
          refine AL_cons (LR_move (at_tmp 2 _) rfl) (sS (sT1 rfl) sB0 sF0) ?_
          obtain ⟨y40, hy40, hr⟩ := lt_some hr
          refine AL_cons (LR_call Hfaa.func161 rfl rfl (C161 a2 y40 hy40) (all_cons (at_tmp 35 _) all_nil) rfl) (sS (sA (sT1 rfl) sT0) sB0 sF0) ?_
          refine AL_cons (LR_fbin rfl (at_tmp 34 _) (at_tmp 36 _) rfl) (sS (sA (sT1 rfl) (sT1 rfl)) sB0 sF0) ?_
          obtain ⟨y41, hy41, hr⟩ := bind_some hr
          refine AL_cons (LR_call Hfaa.func160 rfl rfl (C160 N (fbits .mul .f64 (some (FloatKind.f64.nearest (a1.toNat : Int))) y40) y41 hy41) (all_cons (at_tmp 37 _) all_nil) rfl) (sS (sA (sT1 rfl) sT0) sB0 sF0) ?_
          refine AL_cons (LR_assign (at_tmp 38 _) rfl) (sS (sT1 rfl) sB0 sF0) ?_
          refine AL_cons (LR_assign (at_c (v' := Bl true) rfl) rfl) (sS sT0 sB0 sF0) ?_
          refine AL_nil ?_
          refine thenN ?_
          refine AW_ret ?_
          refine blR ?_
          refine thenR ?_
          obtain rfl := Option.some.inj hr
          exact res2 rfl (rvT rfl) (rvT rfl)
    · have hr := hr.trans (cond_f h)
      clear h
      refine AW_cut (σ := Bool) (fun v => ⟨[(1, .inl (is (U64 a1))), (2, .inl (is (I16 a2))), (39, .inl (is (Bl v)))], []⟩) (fun v => some r = F90_3 N a1 a2 v) ?_ ?_
      · skip
        rcases bool_em ((a0_0 == F14.1) && (a0_1 == F14.2)) with hb19 | hb19
        · have hr := hr.trans (cond_f hb19)
          refine AW_draw mixed
            (lrC (LR_loads (at_tmp 3 _) ag23 sz23 rfl rfl rfl)
            (lrC (LR_call Hfaa.func14 rfl rfl (C14 _ rfl) all_nil rfl)
            (lrC (LR_asB (LR_binA (at_tmp 40 _) (at_tmp 41 _) (eqlA23 a0_0 a0_1 F14.1 F14.2) rfl) hb19)
            (lrC (LR_move (at_tmp 42 _) rfl)
            (lrC (LR_off (b := false) rfl rfl rfl rfl)
            (lrC (LR_off (b := false) rfl rfl rfl rfl)
            (lrC (LR_pick (b := false) (at_tmp 43 _) (at_tmp 45 _) (at_c (v' := Bl false) rfl) rfl)
            (lrC (LR_move (at_tmp 46 _) rfl)
            (lrC (LR_off (b := false) rfl rfl rfl rfl)
            (lrC (LR_off (b := false) rfl rfl rfl rfl)
            (lrC (LR_pick (b := false) (at_tmp 47 _) (at_tmp 49 _) (at_c (v' := Bl false) rfl) rfl)
            (lrC (LR_move (at_tmp 50 _) rfl)
            (lrC (LR_off (b := false) rfl rfl rfl rfl)
            (lrC (LR_off (b := false) rfl rfl rfl rfl)
            (lrC (LR_pick (b := false) (at_tmp 51 _) (at_tmp 53 _) (at_c (v' := Bl false) rfl) rfl)
            (lrC (LR_assign (at_tmp 54 _) rfl)
            lrN))))))))))))))))
            (by kernel_rfl)
            (saC (sS (sT1 rfl) (sB1 rfl) sF0) (saC (sS sT0 sB0 sF0) (saC (sS (sA (sT1 rfl) (sT1 rfl)) sB0 sF0) (saC (sS (sT1 rfl) sB0 sF0) (saC (sS (sT1 rfl) sB0 sF0) (saC (sS (sT1 rfl) sB0 sF0) (saC (sS (sA (sT1 rfl) (sA (sT1 rfl) sT0)) sB0 sF0) (saC (sS (sT1 rfl) sB0 sF0) (saC (sS (sT1 rfl) sB0 sF0) (saC (sS (sT1 rfl) sB0 sF0) (saC (sS (sA (sT1 rfl) (sA (sT1 rfl) sT0)) sB0 sF0) (saC (sS (sT1 rfl) sB0 sF0) (saC (sS (sT1 rfl) sB0 sF0) (saC (sS (sT1 rfl) sB0 sF0) (saC (sS (sA (sT1 rfl) (sA (sT1 rfl) sT0)) sB0 sF0) (saC (sS (sT1 rfl) sB0 sF0) saN)))))))))))))))) ?_
          exact thenN (cutLeaf (v := false) hr (weak0 ((sT rfl (sT rfl (sT rfl sT0)))) (sub_drop sub_nil)))
        · have hr := hr.trans (cond_t hb19)
          rcases bool_em (decide (a1.toNat ≤ (16777216#64).toNat)) with hb20 | hb20
          · have hr := hr.trans (cond_f hb20)
            refine AW_draw mixed
              (lrC (LR_loads (at_tmp 3 _) ag23 sz23 rfl rfl rfl)
              (lrC (LR_call Hfaa.func14 rfl rfl (C14 _ rfl) all_nil rfl)
              (lrC (LR_asB (LR_binA (at_tmp 40 _) (at_tmp 41 _) (eqlA23 a0_0 a0_1 F14.1 F14.2) rfl) hb19)
              (lrC (LR_move (at_tmp 42 _) rfl)
              (lrC (LR_on rfl rfl rfl (LR_move (at_tmp 1 _) rfl))
              (lrC (LR_on rfl rfl rfl (LR_asB (LR_bin (at_tmp 44 _) (at_c (v' := U64 (16777216#64)) rfl) (leq_U64 a1 (16777216#64)) rfl) hb20))
              (lrC (LR_pick (b := true) (at_tmp 43 _) (at_tmp 45 _) (at_c (v' := Bl false) rfl) rfl)
              (lrC (LR_move (at_tmp 46 _) rfl)
              (lrC (LR_off (b := false) rfl rfl rfl rfl)
              (lrC (LR_off (b := false) rfl rfl rfl rfl)
              (lrC (LR_pick (b := false) (at_tmp 47 _) (at_tmp 49 _) (at_c (v' := Bl false) rfl) rfl)
              (lrC (LR_move (at_tmp 50 _) rfl)
              (lrC (LR_off (b := false) rfl rfl rfl rfl)
              (lrC (LR_off (b := false) rfl rfl rfl rfl)
              (lrC (LR_pick (b := false) (at_tmp 51 _) (at_tmp 53 _) (at_c (v' := Bl false) rfl) rfl)
              (lrC (LR_assign (at_tmp 54 _) rfl)
              lrN))))))))))))))))
              (by kernel_rfl)
              (saC (sS (sT1 rfl) (sB1 rfl) sF0) (saC (sS sT0 sB0 sF0) (saC (sS (sA (sT1 rfl) (sT1 rfl)) sB0 sF0) (saC (sS (sT1 rfl) sB0 sF0) (saC (sS (sT rfl (sT1 rfl)) sB0 sF0) (saC (sS (sT rfl (sA (sT1 rfl) sT0)) sB0 sF0) (saC (sS (sA (sT1 rfl) (sA (sT1 rfl) sT0)) sB0 sF0) (saC (sS (sT1 rfl) sB0 sF0) (saC (sS (sT1 rfl) sB0 sF0) (saC (sS (sT1 rfl) sB0 sF0) (saC (sS (sA (sT1 rfl) (sA (sT1 rfl) sT0)) sB0 sF0) (saC (sS (sT1 rfl) sB0 sF0) (saC (sS (sT1 rfl) sB0 sF0) (saC (sS (sT1 rfl) sB0 sF0) (saC (sS (sA (sT1 rfl) (sA (sT1 rfl) sT0)) sB0 sF0) (saC (sS (sT1 rfl) sB0 sF0) saN)))))))))))))))) ?_
            exact thenN (cutLeaf (v := false) hr (weak0 ((sT rfl (sT rfl (sT rfl sT0)))) (sub_drop sub_nil)))
          · have hr := hr.trans (cond_t hb20)
            rcases bool_em (decide ((-10) ≤ a2)) with hb21 | hb21
            · have hr := hr.trans (cond_f hb21)
              refine AW_draw mixed
                (lrC (LR_loads (at_tmp 3 _) ag23 sz23 rfl rfl rfl)
                (lrC (LR_call Hfaa.func14 rfl rfl (C14 _ rfl) all_nil rfl)
                (lrC (LR_asB (LR_binA (at_tmp 40 _) (at_tmp 41 _) (eqlA23 a0_0 a0_1 F14.1 F14.2) rfl) hb19)
                (lrC (LR_move (at_tmp 42 _) rfl)
                (lrC (LR_on rfl rfl rfl (LR_move (at_tmp 1 _) rfl))
                (lrC (LR_on rfl rfl rfl (LR_asB (LR_bin (at_tmp 44 _) (at_c (v' := U64 (16777216#64)) rfl) (leq_U64 a1 (16777216#64)) rfl) hb20))
                (lrC (LR_pick (b := true) (at_tmp 43 _) (at_tmp 45 _) (at_c (v' := Bl false) rfl) rfl)
                (lrC (LR_move (at_tmp 46 _) rfl)
                (lrC (LR_on rfl rfl rfl (LR_move (at_tmp 2 _) rfl))
                (lrC (LR_on rfl rfl rfl (LR_asB (LR_bin (at_c (v' := I16 (-10)) rfl) (at_tmp 48 _) (leq_I16 (-10) a2) rfl) hb21))
                (lrC (LR_pick (b := true) (at_tmp 47 _) (at_tmp 49 _) (at_c (v' := Bl false) rfl) rfl)
                (lrC (LR_move (at_tmp 50 _) rfl)
                (lrC (LR_off (b := false) rfl rfl rfl rfl)
                (lrC (LR_off (b := false) rfl rfl rfl rfl)
                (lrC (LR_pick (b := false) (at_tmp 51 _) (at_tmp 53 _) (at_c (v' := Bl false) rfl) rfl)
                (lrC (LR_assign (at_tmp 54 _) rfl)
                lrN))))))))))))))))
                (by kernel_rfl)
                (saC (sS (sT1 rfl) (sB1 rfl) sF0) (saC (sS sT0 sB0 sF0) (saC (sS (sA (sT1 rfl) (sT1 rfl)) sB0 sF0) (saC (sS (sT1 rfl) sB0 sF0) (saC (sS (sT rfl (sT1 rfl)) sB0 sF0) (saC (sS (sT rfl (sA (sT1 rfl) sT0)) sB0 sF0) (saC (sS (sA (sT1 rfl) (sA (sT1 rfl) sT0)) sB0 sF0) (saC (sS (sT1 rfl) sB0 sF0) (saC (sS (sT rfl (sT1 rfl)) sB0 sF0) (saC (sS (sT rfl (sA sT0 (sT1 rfl))) sB0 sF0) (saC (sS (sA (sT1 rfl) (sA (sT1 rfl) sT0)) sB0 sF0) (saC (sS (sT1 rfl) sB0 sF0) (saC (sS (sT1 rfl) sB0 sF0) (saC (sS (sT1 rfl) sB0 sF0) (saC (sS (sA (sT1 rfl) (sA (sT1 rfl) sT0)) sB0 sF0) (saC (sS (sT1 rfl) sB0 sF0) saN)))))))))))))))) ?_
              exact thenN (cutLeaf (v := false) hr (weak0 ((sT rfl (sT rfl (sT rfl sT0)))) (sub_drop sub_nil)))
            · have hr := hr.trans (cond_t hb21)
              refine AW_draw mixed
                (lrC (LR_loads (at_tmp 3 _) ag23 sz23 rfl rfl rfl)
                (lrC (LR_call Hfaa.func14 rfl rfl (C14 _ rfl) all_nil rfl)
                (lrC (LR_asB (LR_binA (at_tmp 40 _) (at_tmp 41 _) (eqlA23 a0_0 a0_1 F14.1 F14.2) rfl) hb19)
                (lrC (LR_move (at_tmp 42 _) rfl)
                (lrC (LR_on rfl rfl rfl (LR_move (at_tmp 1 _) rfl))
                (lrC (LR_on rfl rfl rfl (LR_asB (LR_bin (at_tmp 44 _) (at_c (v' := U64 (16777216#64)) rfl) (leq_U64 a1 (16777216#64)) rfl) hb20))
                (lrC (LR_pick (b := true) (at_tmp 43 _) (at_tmp 45 _) (at_c (v' := Bl false) rfl) rfl)
                (lrC (LR_move (at_tmp 46 _) rfl)
                (lrC (LR_on rfl rfl rfl (LR_move (at_tmp 2 _) rfl))
                (lrC (LR_on rfl rfl rfl (LR_asB (LR_bin (at_c (v' := I16 (-10)) rfl) (at_tmp 48 _) (leq_I16 (-10) a2) rfl) hb21))
                (lrC (LR_pick (b := true) (at_tmp 47 _) (at_tmp 49 _) (at_c (v' := Bl false) rfl) rfl)
                (lrC (LR_move (at_tmp 50 _) rfl)
                (lrC (LR_on rfl rfl rfl (LR_move (at_tmp 2 _) rfl))
                (lrC (LR_on rfl rfl rfl (LR_bin (at_tmp 52 _) (at_c (v' := I16 10) rfl) (leq_I16 a2 10) rfl))
                (lrC (LR_pick (b := true) (at_tmp 51 _) (at_tmp 53 _) (at_c (v' := Bl false) rfl) rfl)
                (lrC (LR_assign (at_tmp 54 _) rfl)
                lrN))))))))))))))))
                (by kernel_rfl)
                (saC (sS (sT1 rfl) (sB1 rfl) sF0) (saC (sS sT0 sB0 sF0) (saC (sS (sA (sT1 rfl) (sT1 rfl)) sB0 sF0) (saC (sS (sT1 rfl) sB0 sF0) (saC (sS (sT rfl (sT1 rfl)) sB0 sF0) (saC (sS (sT rfl (sA (sT1 rfl) sT0)) sB0 sF0) (saC (sS (sA (sT1 rfl) (sA (sT1 rfl) sT0)) sB0 sF0) (saC (sS (sT1 rfl) sB0 sF0) (saC (sS (sT rfl (sT1 rfl)) sB0 sF0) (saC (sS (sT rfl (sA sT0 (sT1 rfl))) sB0 sF0) (saC (sS (sA (sT1 rfl) (sA (sT1 rfl) sT0)) sB0 sF0) (saC (sS (sT1 rfl) sB0 sF0) (saC (sS (sT rfl (sT1 rfl)) sB0 sF0) (saC (sS (sT rfl (sA (sT1 rfl) sT0)) sB0 sF0) (saC (sS (sA (sT1 rfl) (sA (sT1 rfl) sT0)) sB0 sF0) (saC (sS (sT1 rfl) sB0 sF0) saN)))))))))))))))) ?_
              exact thenN (cutLeaf (v := decide (a2 ≤ 10)) hr (weak0 ((sT rfl (sT rfl (sT rfl sT0)))) (sub_drop sub_nil)))
      · rintro x3 hr
        show AW Hfaa.prog _ _ _ ⟨[(1, .inl (is (U64 a1))), (2, .inl (is (I16 a2))), (39, .inl (is (Bl x3)))], []⟩
        have hr : some r = F90_3 N a1 a2 x3 := hr
        refine AW_condT (b := x3) rfl (fun h => ?_) (fun h => ?_)
        · have hr := hr.trans (cond_t h)
          clear h
          refine AW_seq1 ?_
          refine AW_cut (σ := Bool) (fun v => ⟨[(1, .inl (is (U64 a1))), (2, .inl (is (I16 a2))), (56, .inl (is (Bl v)))], []⟩) (fun v => some r = F90_4 N a1 a2 v) ?_ ?_
          · skip
            refine AW_region ?_
            refine AL_cons (LR_move (at_tmp 2 _) rfl) (sS (sT1 rfl) sB0 sF0) ?_
            refine AL_cons (LR_bin (at_tmp 55 _) (at_c (v' := I16 0) rfl) (lss_I16 a2 0) rfl) (sS (sA (sT1 rfl) sT0) sB0 sF0) ?_
            refine AL_nil ?_
            exact thenN (cutLeaf (v := decide (a2 < 0)) hr (weak0 ((sT rfl (sT rfl (sT rfl sT0)))) sub_nil))
          · rintro x4 hr
            show AW Hfaa.prog _ _ _ ⟨[(1, .inl (is (U64 a1))), (2, .inl (is (I16 a2))), (56, .inl (is (Bl x4)))], []⟩
            have hr : some r = F90_4 N a1 a2 x4 := hr
            refine AW_condT (b := x4) rfl (fun h => ?_) (fun h => ?_)
            · have hr := hr.trans (cond_t h)
              clear h
              refine AW_seq1 ?_
              refine AW_region ?_
              refine AL_cons (LR_move (at_tmp 1 _) rfl) (sS (sT1 rfl) sB0 sF0) ?_
              refine AL_cons (LR_convIF (q := .u64) (i := (a1.toNat : Int)) Hfaa.underlying30 Hfaa.underlying191 (at_tmp 57 _) rfl) (sS (sT1 rfl) sB0 sF0) ?_
              refine AL_cons (LR_move (at_tmp 2 _) rfl) (sS (sT1 rfl) sB0 sF0) ?_
              refine AL_cons (LR_un (at_tmp 59 _) (neg_I16 a2) rfl) (sS (sT1 rfl) sB0 sF0) ?_
              obtain ⟨y49, hy49, hr⟩ := lt_some hr
              refine AL_cons (LR_call Hfaa.func163 rfl rfl (C163 (w16 (0 - a2)) y49 hy49) (all_cons (at_tmp 60 _) all_nil) rfl) (sS (sA (sT1 rfl) sT0) sB0 sF0) ?_
              refine AL_cons (LR_fbin rfl (at_tmp 58 _) (at_tmp 61 _) rfl) (sS (sA (sT1 rfl) (sT1 rfl)) sB0 sF0) ?_
              obtain ⟨y50, hy50, hr⟩ := bind_some hr
              refine AL_cons (LR_call Hfaa.func162 rfl rfl (C162 N (fbits .quo .f32 (some (FloatKind.f32.nearest (a1.toNat : Int))) y49) y50 hy50) (all_cons (at_tmp 62 _) all_nil) rfl) (sS (sA (sT1 rfl) sT0) sB0 sF0) ?_
              refine AL_cons (LR_conv (vx := U32 y50) (at_tmp 63 _) (conv_U64 Hfaa.underlying65 Hfaa.underlying30 (y50.toNat : Int)) rfl) (sS (sT1 rfl) sB0 sF0) ?_
              refine AL_cons (LR_assign (at_tmp 64 _) rfl) (sS (sT1 rfl) sB0 sF0) ?_
              refine AL_cons (LR_assign (at_c (v' := Bl true) rfl) rfl) (sS sT0 sB0 sF0) ?_
              refine AL_nil ?_
              refine thenN ?_
              refine AW_ret ?_
              refine thenR ?_
              refine blR ?_
              refine thenR ?_
              obtain rfl := Option.some.inj hr
              exact res2 rfl (rvT rfl) (rvT rfl)
            · have hr := hr.trans (cond_f h)
              clear h
              refine AW_skip ?_
              refine thenN ?_
              refine AW_seq1 ?_
              refine AW_region ?_
              refine AL_cons (LR_move (at_tmp 1 _) rfl) (sS (sT1 rfl) sB0 sF0) ?_
              refine AL_cons (LR_convIF (q := .u64) (i := (a1.toNat : Int)) Hfaa.underlying30 Hfaa.underlying191 (at_tmp 65 _) rfl) (sS (sT1 rfl) sB0 sF0) ?_
              refine AL_cons (LR_move (at_tmp 2 _) rfl) (sS (sT1 rfl) sB0 sF0) ?_
              obtain ⟨y53, hy53, hr⟩ := lt_some hr
              refine AL_cons (LR_call Hfaa.func163 rfl rfl (C163 a2 y53 hy53) (all_cons (at_tmp 67 _) all_nil) rfl) (sS (sA (sT1 rfl) sT0) sB0 sF0) ?_
              refine AL_cons (LR_fbin rfl (at_tmp 66 _) (at_tmp 68 _) rfl) (sS (sA (sT1 rfl) (sT1 rfl)) sB0 sF0) ?_
              obtain ⟨y54, hy54, hr⟩ := bind_some hr
              refine AL_cons (LR_call Hfaa.func162 rfl rfl (C162 N (fbits .mul .f32 (some (FloatKind.f32.nearest (a1.toNat : Int))) y53) y54 hy54) (all_cons (at_tmp 69 _) all_nil) rfl) (sS (sA (sT1 rfl) sT0) sB0 sF0) ?_
              refine AL_cons (LR_conv (vx := U32 y54) (at_tmp 70 _) (conv_U64 Hfaa.underlying65 Hfaa.underlying30 (y54.toNat : Int)) rfl) (sS (sT1 rfl) sB0 sF0) ?_
              refine AL_cons (LR_assign (at_tmp 71 _) rfl) (sS (sT1 rfl) sB0 sF0) ?_
              refine AL_cons (LR_assign (at_c (v' := Bl true) rfl) rfl) (sS sT0 sB0 sF0) ?_
              refine AL_nil ?_
              refine thenN ?_
              refine AW_ret ?_
              refine blR ?_
              refine thenR ?_
              obtain rfl := Option.some.inj hr
              exact res2 rfl (rvT rfl) (rvT rfl)
        · have hr := hr.trans (cond_f h)
          clear h
          refine AW_skip ?_
          refine blN ?_
          refine thenN ?_
          refine AW_seq1 ?_
          refine AW_region ?_
          refine AL_cons (LR_assign (at_c (v' := U64 (0#64)) rfl) rfl) (sS sT0 sB0 sF0) ?_
          refine AL_cons (LR_assign (at_c (v' := Bl false) rfl) rfl) (sS sT0 sB0 sF0) ?_
          refine AL_nil ?_
          refine thenN ?_
          refine AW_ret ?_
          obtain rfl := Option.some.inj hr
          exact res2 rfl (rvT rfl) (rvT rfl)
/-- parse.Parse -/
def F89_11 (N : Nat) (a1_0 : BitVec 8) (a1_1 : BitVec 8) (a2 : BitVec 8) (a3_0 : Bool) (a3_1 : List UInt8) (a3_2 : Int) (x2 : BitVec 64) (x9 : BitVec 64) (x13 : Bool) : Option (BitVec 64 × BitVec 8) := bif x13 then some (x9 ||| x2, 3#8) else (F92 N a1_0 a1_1 a2 a3_0 a3_1 a3_2).bind fun y31 => some (y31, 4#8)
def F89_10 (N : Nat) (a1_0 : BitVec 8) (a1_1 : BitVec 8) (a2 : BitVec 8) (a3_0 : Bool) (a3_1 : List UInt8) (a3_2 : Int) (x2 : BitVec 64) (x9 : BitVec 64) (x10 : Bool) (x11 : BitVec 64) (x12 : Bool) : Option (BitVec 64 × BitVec 8) := F89_11 N a1_0 a1_1 a2 a3_0 a3_1 a3_2 x2 x9 ((x10 && x12) && (x9 == x11))
def F89_9 (N : Nat) (a0 : Tab) (a1_0 : BitVec 8) (a1_1 : BitVec 8) (a2 : BitVec 8) (a3_0 : Bool) (a3_1 : List UInt8) (a3_2 : Int) (x2 : BitVec 64) (x6 : BitVec 64) (x8 : Int) (x9 : BitVec 64) (x10 : Bool) : Option (BitVec 64 × BitVec 8) := (F91 N a0 a1_0 a1_1 (x6 + (1#64)) x8).bind fun y32 => F89_10 N a1_0 a1_1 a2 a3_0 a3_1 a3_2 x2 x9 x10 y32.1 y32.2
def F89_8 (N : Nat) (a0 : Tab) (a1_0 : BitVec 8) (a1_1 : BitVec 8) (a2 : BitVec 8) (a3_0 : Bool) (a3_1 : List UInt8) (a3_2 : Int) (x2 : BitVec 64) (x6 : BitVec 64) (x8 : Int) : Option (BitVec 64 × BitVec 8) := (F91 N a0 a1_0 a1_1 x6 x8).bind fun y33 => F89_9 N a0 a1_0 a1_1 a2 a3_0 a3_1 a3_2 x2 x6 x8 y33.1 y33.2
def F89_13 (N : Nat) (a1_0 : BitVec 8) (a1_1 : BitVec 8) (a2 : BitVec 8) (a3_0 : Bool) (a3_1 : List UInt8) (a3_2 : Int) (x2 : BitVec 64) (x14 : BitVec 64) (x15 : Bool) : Option (BitVec 64 × BitVec 8) := bif x15 then some (x14 ||| x2, 2#8) else (F92 N a1_0 a1_1 a2 a3_0 a3_1 a3_2).bind fun y40 => some (y40, 4#8)
def F89_12 (N : Nat) (a0 : Tab) (a1_0 : BitVec 8) (a1_1 : BitVec 8) (a2 : BitVec 8) (a3_0 : Bool) (a3_1 : List UInt8) (a3_2 : Int) (x2 : BitVec 64) (x6 : BitVec 64) : Option (BitVec 64 × BitVec 8) := (F91 N a0 a1_0 a1_1 x6 a3_2).bind fun y41 => F89_13 N a1_0 a1_1 a2 a3_0 a3_1 a3_2 x2 y41.1 y41.2
def F89_14 (N : Nat) (a0 : Tab) (a1_0 : BitVec 8) (a1_1 : BitVec 8) (a2 : BitVec 8) (a3_0 : Bool) (a3_1 : List UInt8) (a3_2 : Int) (x2 : BitVec 64) (x6 : BitVec 64) (x16 : BitVec 64) (x17 : Bool) : Option (BitVec 64 × BitVec 8) := bif x17 then some (x16 ||| x2, 1#8) else F89_12 N a0 a1_0 a1_1 a2 a3_0 a3_1 a3_2 x2 x6
def F89_7 (N : Nat) (a0 : Tab) (a1_0 : BitVec 8) (a1_1 : BitVec 8) (a2 : BitVec 8) (a3_0 : Bool) (a3_1 : List UInt8) (a3_2 : Int) (a4 : Bool) (x2 : BitVec 64) (x3 : Int) (x6 : BitVec 64) (x7 : Bool) : Option (BitVec 64 × BitVec 8) := bif x7 then F89_8 N a0 a1_0 a1_1 a2 a3_0 a3_1 a3_2 x2 x6 (w16 (a3_2 + (w16 (w64 (x3 - 19))))) else bif a4 then (F90 N a1_0 a1_1 x6 a3_2).bind fun y43 => F89_14 N a0 a1_0 a1_1 a2 a3_0 a3_1 a3_2 x2 x6 y43.1 y43.2 else F89_12 N a0 a1_0 a1_1 a2 a3_0 a3_1 a3_2 x2 x6
def F89_6 (N : Nat) (a0 : Tab) (a1_0 : BitVec 8) (a1_1 : BitVec 8) (a2 : BitVec 8) (a3_0 : Bool) (a3_1 : List UInt8) (a3_2 : Int) (a4 : Bool) (x2 : BitVec 64) (x3 : Int) (x6 : BitVec 64) : Option (BitVec 64 × BitVec 8) := F89_7 N a0 a1_0 a1_1 a2 a3_0 a3_1 a3_2 a4 x2 x3 x6 (decide (x3 > 19))
def F89_5 (N : Nat) (a0 : Tab) (a1_0 : BitVec 8) (a1_1 : BitVec 8) (a2 : BitVec 8) (a3_0 : Bool) (a3_1 : List UInt8) (a3_2 : Int) (a4 : Bool) (x2 : BitVec 64) (x3 : Int) (x5 : Bool) : Option (BitVec 64 × BitVec 8) := bif x5 then (F92 N a1_0 a1_1 a2 a3_0 a3_1 a3_2).bind fun y20 => some (y20, 4#8) else (F159 N a3_1).bind fun y44 => F89_6 N a0 a1_0 a1_1 a2 a3_0 a3_1 a3_2 a4 x2 x3 y44
def F89_15 (N : Nat) (a0 : Tab) (a1_0 : BitVec 8) (a1_1 : BitVec 8) (a2 : BitVec 8) (a3_0 : Bool) (a3_1 : List UInt8) (a3_2 : Int) (a4 : Bool) (x2 : BitVec 64) (x3 : Int) (x18 : Bool) : Option (BitVec 64 × BitVec 8) := bif x18 then F89_5 N a0 a1_0 a1_1 a2 a3_0 a3_1 a3_2 a4 x2 x3 x18 else F89_5 N a0 a1_0 a1_1 a2 a3_0 a3_1 a3_2 a4 x2 x3 ((a2 != (0#8)) && (decide (a2.toNat ≤ (4#8).toNat)))
def F89_4 (N : Nat) (a0 : Tab) (a1_0 : BitVec 8) (a1_1 : BitVec 8) (a2 : BitVec 8) (a3_0 : Bool) (a3_1 : List UInt8) (a3_2 : Int) (a4 : Bool) (x2 : BitVec 64) (x3 : Int) (x4 : Bool) : Option (BitVec 64 × BitVec 8) := bif x4 then some (x2, 0#8) else bif !((a1_0 == F13.1) && (a1_1 == F13.2)) then F89_15 N a0 a1_0 a1_1 a2 a3_0 a3_1 a3_2 a4 x2 x3 (!((a1_0 == F14.1) && (a1_1 == F14.2))) else F89_15 N a0 a1_0 a1_1 a2 a3_0 a3_1 a3_2 a4 x2 x3 false
def F89_3 (N : Nat) (a0 : Tab) (a1_0 : BitVec 8) (a1_1 : BitVec 8) (a2 : BitVec 8) (a3_0 : Bool) (a3_1 : List UInt8) (a3_2 : Int) (a4 : Bool) (x2 : BitVec 64) (x3 : Int) : Option (BitVec 64 × BitVec 8) := F89_4 N a0 a1_0 a1_1 a2 a3_0 a3_1 a3_2 a4 x2 x3 (x3 == 0)
def F89_2 (N : Nat) (a0 : Tab) (a1_0 : BitVec 8) (a1_1 : BitVec 8) (a2 : BitVec 8) (a3_0 : Bool) (a3_1 : List UInt8) (a3_2 : Int) (a4 : Bool) (x2 : BitVec 64) : Option (BitVec 64 × BitVec 8) := F89_3 N a0 a1_0 a1_1 a2 a3_0 a3_1 a3_2 a4 x2 (a3_1.length : Int)
def F89_1 (N : Nat) (a0 : Tab) (a1_0 : BitVec 8) (a1_1 : BitVec 8) (a2 : BitVec 8) (a3_0 : Bool) (a3_1 : List UInt8) (a3_2 : Int) (a4 : Bool) (x1 : Bool) : Option (BitVec 64 × BitVec 8) := bif x1 then some (0#64, 0#8) else bif a3_0 then lt (F70 a1_0 a1_1) fun y47 => F89_2 N a0 a1_0 a1_1 a2 a3_0 a3_1 a3_2 a4 y47 else F89_2 N a0 a1_0 a1_1 a2 a3_0 a3_1 a3_2 a4 (0#64)
def F89 (N : Nat) (a0 : Tab) (a1_0 : BitVec 8) (a1_1 : BitVec 8) (a2 : BitVec 8) (a3_0 : Bool) (a3_1 : List UInt8) (a3_2 : Int) (a4 : Bool) : Option (BitVec 64 × BitVec 8) := lt (F40 a1_0 a1_1) fun y48 => bif !y48 then F89_1 N a0 a1_0 a1_1 a2 a3_0 a3_1 a3_2 a4 true else (F137 N a3_0 a3_1 a3_2).bind fun y50 => F89_1 N a0 a1_0 a1_1 a2 a3_0 a3_1 a3_2 a4 (!y50)
theorem C89 (N : Nat) (a0 : Tab) (a1_0 : BitVec 8) (a1_1 : BitVec 8) (a2 : BitVec 8) (a3_0 : Bool) (a3_1 : List UInt8) (a3_2 : Int) (a4 : Bool) (r : BitVec 64 × BitVec 8) (hr : some r = F89 N a0 a1_0 a1_1 a2 a3_0 a3_1 a3_2 a4) : Aw.Fn Hfaa.prog 89 [tabp a0, agg [is (U8 a1_0), is (U8 a1_1)], is (U8 a2), agg [is (Bl a3_0), is (Sv a3_1), is (I16 a3_2)], is (Bl a4)] (tup [is (U64 r.1), is (U8 r.2)]) := by
  refine fn_intro Hfaa.func89 rfl rfl rfl ?_
  intro bn0 w0 H0
  refine AW_seq1 ?_
  refine AW_region ?_
  refine AL_cons (LR_box (at_tmp 1 _) (cells_agg _) rfl) (sS (sT1 rfl) sB0 (sF1 rfl)) ?_
  refine AL_cons (LR_box (at_tmp 3 _) (cells_agg _) rfl) (sS (sT1 rfl) sB0 (sF1 rfl)) ?_
  refine AL_cons (LR_assign (at_c (v' := U64 (0#64)) rfl) rfl) (sS sT0 sB0 sF0) ?_
  refine AL_cons (LR_assign (at_c (v' := U8 (0#8)) rfl) rfl) (sS sT0 sB0 sF0) ?_
  refine AL_nil ?_
  refine thenN ?_
  refine AW_seq1 ?_
  refine AW_cut (σ := Bool) (fun v => ⟨[(0, .inl (tabp a0)), (2, .inl (is (U8 a2))), (4, .inl (is (Bl a4))), (6, .inr (.inl (6, 0))), (8, .inr (.inl (8, 0))), (35, .inl (is (Bl v)))], [(6, pb 23 [is (U8 a1_0), is (U8 a1_1)]), (8, pb 76 [is (Bl a3_0), is (Sv a3_1), is (I16 a3_2)])]⟩) (fun v => some r = F89_1 N a0 a1_0 a1_1 a2 a3_0 a3_1 a3_2 a4 v) ?_ ?_
  · skip
    refine AW_region ?_
    refine AL_cons (LR_move (at_tmp 0 _) rfl) (sS (sT1 rfl) sB0 sF0) ?_
    refine AL_cons (LR_binA (at_tmp 24 _) (at_c (v' := .pointer none) rfl) (eqTabNil Hfaa.underlying27 a0) rfl) (sS (sA (sT1 rfl) sT0) sB0 sF0) ?_
    refine AL_cons (LR_move (at_tmp 25 _) rfl) (sS (sT1 rfl) sB0 sF0) ?_
    refine AL_cons (LR_on rfl rfl rfl (LR_loads (at_tmp 6 _) ag23 sz23 rfl rfl rfl)) (sS (sT rfl (sT1 rfl)) (sB1 rfl) sF0) ?_
    obtain ⟨y48, hy48, hr⟩ := lt_some hr
    refine AL_cons (LR_on rfl rfl rfl (LR_call Hfaa.func40 rfl rfl (C40 a1_0 a1_1 y48 hy48) (all_cons (at_tmp 27 _) all_nil) rfl)) (sS (sT rfl (sA (sT1 rfl) sT0)) sB0 sF0) ?_
    refine AL_cons (LR_on rfl rfl rfl (LR_un (at_tmp 28 _) (not_Bl y48) rfl)) (sS (sT rfl (sT1 rfl)) sB0 sF0) ?_
    refine AL_cons (LR_pick (b := false) (at_tmp 26 _) (at_c (v' := Bl true) rfl) (at_tmp 29 _) rfl) (sS (sA (sT1 rfl) (sA sT0 (sT1 rfl))) sB0 sF0) ?_
    refine AL_cons (LR_move (at_tmp 30 _) rfl) (sS (sT1 rfl) sB0 sF0) ?_
    cases hb : !y48
    · have hr := hr.trans (cond_f hb)
      refine AL_cons (LR_on rfl rfl rfl (LR_loads (at_tmp 8 _) ag76 sz76 rfl rfl rfl)) (sS (sT rfl (sT1 rfl)) (sB1 rfl) sF0) ?_
      obtain ⟨y50, hy50, hr⟩ := bind_some hr
      refine AL_cons (LR_on rfl rfl rfl (LR_call Hfaa.func137 rfl rfl (C137 N a3_0 a3_1 a3_2 y50 hy50) (all_cons (at_tmp 32 _) all_nil) rfl)) (sS (sT rfl (sA (sT1 rfl) sT0)) sB0 sF0) ?_
      refine AL_cons (LR_on rfl rfl rfl (LR_un (at_tmp 33 _) (not_Bl y50) rfl)) (sS (sT rfl (sT1 rfl)) sB0 sF0) ?_
      refine AL_cons (LR_pick (b := false) (at_tmp 31 _) (at_c (v' := Bl true) rfl) (at_tmp 34 _) rfl) (sS (sA (sT1 rfl) (sA sT0 (sT1 rfl))) sB0 sF0) ?_
      refine AL_nil ?_
      exact thenN (cutLeaf (v := !y50) hr (weak0 ((sT rfl (sT rfl (sT rfl (sT rfl (sT rfl (sT rfl sT0))))))) (sub_keep (sub_keep sub_nil))))
    · have hr := hr.trans (cond_t hb)
      refine AL_cons (LR_off (b := true) rfl rfl rfl rfl) (sS (sT1 rfl) sB0 sF0) ?_
      refine AL_cons (LR_off (b := true) rfl rfl rfl rfl) (sS (sT1 rfl) sB0 sF0) ?_
      refine AL_cons (LR_off (b := true) rfl rfl rfl rfl) (sS (sT1 rfl) sB0 sF0) ?_
      refine AL_cons (LR_pick (b := true) (at_tmp 31 _) (at_c (v' := Bl true) rfl) (at_tmp 34 _) rfl) (sS (sA (sT1 rfl) (sA sT0 (sT1 rfl))) sB0 sF0) ?_
      refine AL_nil ?_
      exact thenN (cutLeaf (v := true) hr (weak0 ((sT rfl (sT rfl (sT rfl (sT rfl (sT rfl (sT rfl sT0))))))) (sub_keep (sub_keep sub_nil))))
  · rintro x1 hr
    show AW Hfaa.prog _ _ _ ⟨[(0, .inl (tabp a0)), (2, .inl (is (U8 a2))), (4, .inl (is (Bl a4))), (6, .inr (.inl (6, 0))), (8, .inr (.inl (8, 0))), (35, .inl (is (Bl x1)))], [(6, pb 23 [is (U8 a1_0), is (U8 a1_1)]), (8, pb 76 [is (Bl a3_0), is (Sv a3_1), is (I16 a3_2)])]⟩
    have hr : some r = F89_1 N a0 a1_0 a1_1 a2 a3_0 a3_1 a3_2 a4 x1 := hr
    refine AW_condT (b := x1) rfl (fun h => ?_) (fun h => ?_)
    · have hr := hr.trans (cond_t h)
      clear h
      refine AW_seq1 ?_
      refine AW_region ?_
      refine AL_cons (LR_assign (at_c (v' := U64 (0#64)) rfl) rfl) (sS sT0 sB0 sF0) ?_
      refine AL_cons (LR_assign (at_c (v' := U8 (0#8)) rfl) rfl) (sS sT0 sB0 sF0) ?_
      refine AL_nil ?_
      refine thenN ?_
      refine AW_ret ?_
      refine thenR ?_
      obtain rfl := Option.some.inj hr
      exact res2 rfl (rvT rfl) (rvT rfl)
    · have hr := hr.trans (cond_f h)
      clear h
      refine AW_skip ?_
      refine thenN ?_
      refine AW_seq1 ?_
      refine AW_region ?_
      refine AL_cons (LR_assign (at_c (v' := U64 (0#64)) rfl) rfl) (sS sT0 sB0 sF0) ?_
      refine AL_nil ?_
      refine thenN ?_
      refine AW_cut (σ := BitVec 64) (fun v => ⟨[(0, .inl (tabp a0)), (2, .inl (is (U8 a2))), (4, .inl (is (Bl a4))), (6, .inr (.inl (6, 0))), (8, .inr (.inl (8, 0))), (12, .inl (is (U64 v)))], [(6, pb 23 [is (U8 a1_0), is (U8 a1_1)]), (8, pb 76 [is (Bl a3_0), is (Sv a3_1), is (I16 a3_2)])]⟩) (fun v => some r = F89_2 N a0 a1_0 a1_1 a2 a3_0 a3_1 a3_2 a4 v) ?_ ?_
      · skip
        refine AW_seq1 ?_
        refine AW_region ?_
        refine AL_cons (LR_fieldAddr (off := 0) (o := 0) (at_tmp 8 _) (fun b w => fa76_0 b 0 w) rfl) (sS (sT1 rfl) sB0 sF0) ?_
        refine AL_cons (LR_load (at_tmp 36 _) na4 rfl rfl) (sS (sT1 rfl) (sB1 rfl) sF0) ?_
        refine AL_nil ?_
        refine thenN ?_
        refine AW_condT (b := a3_0) rfl (fun h => ?_) (fun h => ?_)
        · have hr := hr.trans (cond_t h)
          clear h
          refine AW_region ?_
          refine AL_cons (LR_loads (at_tmp 6 _) ag23 sz23 rfl rfl rfl) (sS (sT1 rfl) (sB1 rfl) sF0) ?_
          obtain ⟨y47, hy47, hr⟩ := lt_some hr
          refine AL_cons (LR_call Hfaa.func70 rfl rfl (C70 a1_0 a1_1 y47 hy47) (all_cons (at_tmp 38 _) all_nil) rfl) (sS (sA (sT1 rfl) sT0) sB0 sF0) ?_
          refine AL_cons (LR_assign (at_tmp 39 _) rfl) (sS (sT1 rfl) sB0 sF0) ?_
          refine AL_nil ?_
          exact thenN (cutLeaf (v := y47) hr (weak0 ((sT rfl (sT rfl (sT rfl (sT rfl (sT rfl (sT rfl sT0))))))) (sub_keep (sub_keep sub_nil))))
        · have hr := hr.trans (cond_f h)
          clear h
          refine AW_skip ?_
          exact thenN (cutLeaf (v := 0#64) hr (weak0 ((sT rfl (sT rfl (sT rfl (sT rfl (sT rfl (sT rfl sT0))))))) (sub_keep (sub_keep sub_nil))))
      · rintro x2 hr
        show AW Hfaa.prog _ _ _ ⟨[(0, .inl (tabp a0)), (2, .inl (is (U8 a2))), (4, .inl (is (Bl a4))), (6, .inr (.inl (6, 0))), (8, .inr (.inl (8, 0))), (12, .inl (is (U64 x2)))], [(6, pb 23 [is (U8 a1_0), is (U8 a1_1)]), (8, pb 76 [is (Bl a3_0), is (Sv a3_1), is (I16 a3_2)])]⟩
        have hr : some r = F89_2 N a0 a1_0 a1_1 a2 a3_0 a3_1 a3_2 a4 x2 := hr
        refine AW_cut (σ := Int) (fun v => ⟨[(0, .inl (tabp a0)), (2, .inl (is (U8 a2))), (4, .inl (is (Bl a4))), (6, .inr (.inl (6, 0))), (8, .inr (.inl (8, 0))), (12, .inl (is (U64 x2))), (13, .inl (is (I64 v)))], [(6, pb 23 [is (U8 a1_0), is (U8 a1_1)]), (8, pb 76 [is (Bl a3_0), is (Sv a3_1), is (I16 a3_2)])]⟩) (fun v => some r = F89_3 N a0 a1_0 a1_1 a2 a3_0 a3_1 a3_2 a4 x2 v) ?_ ?_
        · skip
          refine AW_region ?_
          refine AL_cons (LR_fieldAddr (off := 0) (o := 1) (at_tmp 8 _) (fun b w => fa76_1 b 0 w) rfl) (sS (sT1 rfl) sB0 sF0) ?_
          refine AL_cons (LR_load (at_tmp 40 _) na9 rfl rfl) (sS (sT1 rfl) (sB1 rfl) sF0) ?_
          refine AL_cons (LR_bi1 (at_tmp 41 _) (len_S Hfaa.underlying9 a3_1) rfl) (sS (sT1 rfl) sB0 sF0) ?_
          refine AL_cons (LR_assign (at_tmp 42 _) rfl) (sS (sT1 rfl) sB0 sF0) ?_
          refine AL_nil ?_
          exact thenN (cutLeaf (v := (a3_1.length : Int)) hr (weak0 ((sT rfl (sT rfl (sT rfl (sT rfl (sT rfl (sT rfl (sT rfl sT0)))))))) (sub_keep (sub_keep sub_nil))))
        · rintro x3 hr
          show AW Hfaa.prog _ _ _ ⟨[(0, .inl (tabp a0)), (2, .inl (is (U8 a2))), (4, .inl (is (Bl a4))), (6, .inr (.inl (6, 0))), (8, .inr (.inl (8, 0))), (12, .inl (is (U64 x2))), (13, .inl (is (I64 x3)))], [(6, pb 23 [is (U8 a1_0), is (U8 a1_1)]), (8, pb 76 [is (Bl a3_0), is (Sv a3_1), is (I16 a3_2)])]⟩
          have hr : some r = F89_3 N a0 a1_0 a1_1 a2 a3_0 a3_1 a3_2 a4 x2 x3 := hr
          refine AW_seq1 ?_
          refine AW_block ?_
          refine AW_cut (σ := Bool) (fun v => ⟨[(0, .inl (tabp a0)), (2, .inl (is (U8 a2))), (4, .inl (is (Bl a4))), (6, .inr (.inl (6, 0))), (8, .inr (.inl (8, 0))), (12, .inl (is (U64 x2))), (13, .inl (is (I64 x3))), (43, .inl (is (Bl v)))], [(6, pb 23 [is (U8 a1_0), is (U8 a1_1)]), (8, pb 76 [is (Bl a3_0), is (Sv a3_1), is (I16 a3_2)])]⟩) (fun v => some r = F89_4 N a0 a1_0 a1_1 a2 a3_0 a3_1 a3_2 a4 x2 x3 v) ?_ ?_
          · skip
            refine AW_region ?_
            refine AL_cons (LR_move (at_tmp 13 _) rfl) (sS (sT1 rfl) sB0 sF0) ?_
            refine AL_cons (LR_bin (at_tmp 44 _) (at_c (v' := I64 0) rfl) (eql_I64 x3 0) rfl) (sS (sA (sT1 rfl) sT0) sB0 sF0) ?_
            refine AL_cons (LR_assign (at_tmp 45 _) rfl) (sS (sT1 rfl) sB0 sF0) ?_
            refine AL_nil ?_
            exact thenN (cutLeaf (v := x3 == 0) hr (weak0 ((sT rfl (sT rfl (sT rfl (sT rfl (sT rfl (sT rfl (sT rfl (sT rfl sT0))))))))) (sub_keep (sub_keep sub_nil))))
          · rintro x4 hr
            show AW Hfaa.prog _ _ _ ⟨[(0, .inl (tabp a0)), (2, .inl (is (U8 a2))), (4, .inl (is (Bl a4))), (6, .inr (.inl (6, 0))), (8, .inr (.inl (8, 0))), (12, .inl (is (U64 x2))), (13, .inl (is (I64 x3))), (43, .inl (is (Bl x4)))], [(6, pb 23 [is (U8 a1_0), is (U8 a1_1)]), (8, pb 76 [is (Bl a3_0), is (Sv a3_1), is (I16 a3_2)])]⟩
            have hr : some r = F89_4 N a0 a1_0 a1_1 a2 a3_0 a3_1 a3_2 a4 x2 x3 x4 := hr
            refine AW_condT (b := x4) rfl (fun h => ?_) (fun h => ?_)
            · have hr := hr.trans (cond_t h)
              clear h
              refine AW_seq1 ?_
              refine AW_region ?_
              refine AL_cons (LR_move (at_tmp 12 _) rfl) (sS (sT1 rfl) sB0 sF0) ?_
              refine AL_cons (LR_assign (at_tmp 46 _) rfl) (sS (sT1 rfl) sB0 sF0) ?_
              refine AL_cons (LR_assign (at_c (v' := U8 (0#8)) rfl) rfl) (sS sT0 sB0 sF0) ?_
              refine AL_nil ?_
              refine thenN ?_
              refine AW_ret ?_
              refine blR ?_
              refine thenR ?_
              obtain rfl := Option.some.inj hr
              exact res2 rfl (rvT rfl) (rvT rfl)
            · have hr := hr.trans (cond_f h)
              clear h
              refine AW_cut (σ := Bool) (fun v => ⟨[(0, .inl (tabp a0)), (2, .inl (is (U8 a2))), (4, .inl (is (Bl a4))), (6, .inr (.inl (6, 0))), (8, .inr (.inl (8, 0))), (12, .inl (is (U64 x2))), (13, .inl (is (I64 x3))), (47, .inl (is (Bl v)))], [(6, pb 23 [is (U8 a1_0), is (U8 a1_1)]), (8, pb 76 [is (Bl a3_0), is (Sv a3_1), is (I16 a3_2)])]⟩) (fun v => some r = F89_5 N a0 a1_0 a1_1 a2 a3_0 a3_1 a3_2 a4 x2 x3 v) ?_ ?_
              · skip
                refine AW_cut (σ := Bool) (fun v => ⟨[(0, .inl (tabp a0)), (2, .inl (is (U8 a2))), (4, .inl (is (Bl a4))), (6, .inr (.inl (6, 0))), (8, .inr (.inl (8, 0))), (12, .inl (is (U64 x2))), (13, .inl (is (I64 x3))), (47, .inl (is (Bl v)))], [(6, pb 23 [is (U8 a1_0), is (U8 a1_1)]), (8, pb 76 [is (Bl a3_0), is (Sv a3_1), is (I16 a3_2)])]⟩) (fun v => some r = F89_15 N a0 a1_0 a1_1 a2 a3_0 a3_1 a3_2 a4 x2 x3 v) ?_ ?_
                · skip
                  rcases bool_em (!((a1_0 == F13.1) && (a1_1 == F13.2))) with hb8 | hb8
                  · have hr := hr.trans (cond_f hb8)
                    refine AW_draw mixed
                      (lrC (LR_loads (at_tmp 6 _) ag23 sz23 rfl rfl rfl)
                      (lrC (LR_call Hfaa.func13 rfl rfl (C13 _ rfl) all_nil rfl)
                      (lrC (LR_asB (LR_binA (at_tmp 48 _) (at_tmp 49 _) (neqA23 a1_0 a1_1 F13.1 F13.2) rfl) hb8)
                      (lrC (LR_move (at_tmp 50 _) rfl)
                      (lrC (LR_off (b := false) rfl rfl rfl rfl)
                      (lrC (LR_off (b := false) rfl rfl rfl rfl)
                      (lrC (LR_off (b := false) rfl rfl rfl rfl)
                      (lrC (LR_pick (b := false) (at_tmp 51 _) (at_tmp 54 _) (at_c (v' := Bl false) rfl) rfl)
                      (lrC (LR_assign (at_tmp 55 _) rfl)
                      lrN)))))))))
                      (by kernel_rfl)
                      (saC (sS (sT1 rfl) (sB1 rfl) sF0) (saC (sS sT0 sB0 sF0) (saC (sS (sA (sT1 rfl) (sT1 rfl)) sB0 sF0) (saC (sS (sT1 rfl) sB0 sF0) (saC (sS (sT1 rfl) sB0 sF0) (saC (sS (sT1 rfl) sB0 sF0) (saC (sS (sT1 rfl) sB0 sF0) (saC (sS (sA (sT1 rfl) (sA (sT1 rfl) sT0)) sB0 sF0) (saC (sS (sT1 rfl) sB0 sF0) saN))))))))) ?_
                    exact thenN (cutLeaf (v := false) hr (weak0 ((sT rfl (sT rfl (sT rfl (sT rfl (sT rfl (sT rfl (sT rfl (sT rfl sT0))))))))) (sub_keep (sub_keep sub_nil))))
                  · have hr := hr.trans (cond_t hb8)
                    refine AW_draw mixed
                      (lrC (LR_loads (at_tmp 6 _) ag23 sz23 rfl rfl rfl)
                      (lrC (LR_call Hfaa.func13 rfl rfl (C13 _ rfl) all_nil rfl)
                      (lrC (LR_asB (LR_binA (at_tmp 48 _) (at_tmp 49 _) (neqA23 a1_0 a1_1 F13.1 F13.2) rfl) hb8)
                      (lrC (LR_move (at_tmp 50 _) rfl)
                      (lrC (LR_on rfl rfl rfl (LR_loads (at_tmp 6 _) ag23 sz23 rfl rfl rfl))
                      (lrC (LR_on rfl rfl rfl (LR_call Hfaa.func14 rfl rfl (C14 _ rfl) all_nil rfl))
                      (lrC (LR_on rfl rfl rfl (LR_binA (at_tmp 52 _) (at_tmp 53 _) (neqA23 a1_0 a1_1 F14.1 F14.2) rfl))
                      (lrC (LR_pick (b := true) (at_tmp 51 _) (at_tmp 54 _) (at_c (v' := Bl false) rfl) rfl)
                      (lrC (LR_assign (at_tmp 55 _) rfl)
                      lrN)))))))))
                      (by kernel_rfl)
                      (saC (sS (sT1 rfl) (sB1 rfl) sF0) (saC (sS sT0 sB0 sF0) (saC (sS (sA (sT1 rfl) (sT1 rfl)) sB0 sF0) (saC (sS (sT1 rfl) sB0 sF0) (saC (sS (sT rfl (sT1 rfl)) (sB1 rfl) sF0) (saC (sS (sT rfl sT0) sB0 sF0) (saC (sS (sT rfl (sA (sT1 rfl) (sT1 rfl))) sB0 sF0) (saC (sS (sA (sT1 rfl) (sA (sT1 rfl) sT0)) sB0 sF0) (saC (sS (sT1 rfl) sB0 sF0) saN))))))))) ?_
                    exact thenN (cutLeaf (v := !((a1_0 == F14.1) && (a1_1 == F14.2))) hr (weak0 ((sT rfl (sT rfl (sT rfl (sT rfl (sT rfl (sT rfl (sT rfl (sT rfl sT0))))))))) (sub_keep (sub_keep sub_nil))))
                · rintro x18 hr
                  show AW Hfaa.prog _ _ _ ⟨[(0, .inl (tabp a0)), (2, .inl (is (U8 a2))), (4, .inl (is (Bl a4))), (6, .inr (.inl (6, 0))), (8, .inr (.inl (8, 0))), (12, .inl (is (U64 x2))), (13, .inl (is (I64 x3))), (47, .inl (is (Bl x18)))], [(6, pb 23 [is (U8 a1_0), is (U8 a1_1)]), (8, pb 76 [is (Bl a3_0), is (Sv a3_1), is (I16 a3_2)])]⟩
                  have hr : some r = F89_15 N a0 a1_0 a1_1 a2 a3_0 a3_1 a3_2 a4 x2 x3 x18 := hr
                  refine AW_condT (b := x18) rfl (fun h => ?_) (fun h => ?_)
                  · have hr := hr.trans (cond_t h)
                    clear h
                    refine AW_skip ?_
                    exact thenN (cutLeaf (v := x18) hr (weak0 ((sT rfl (sT rfl (sT rfl (sT rfl (sT rfl (sT rfl (sT rfl (sT rfl sT0))))))))) (sub_keep (sub_keep sub_nil))))
                  · have hr := hr.trans (cond_f h)
                    clear h
                    refine AW_region ?_
                    refine AL_cons (LR_move (at_tmp 2 _) rfl) (sS (sT1 rfl) sB0 sF0) ?_
                    refine AL_cons (LR_bin (at_tmp 56 _) (at_c (v' := U8 (0#8)) rfl) (neq_U8 a2 (0#8)) rfl) (sS (sA (sT1 rfl) sT0) sB0 sF0) ?_
                    refine AL_cons (LR_move (at_tmp 57 _) rfl) (sS (sT1 rfl) sB0 sF0) ?_
                    refine AL_cutAt 3 ⟨[(0, .inl (tabp a0)), (2, .inl (is (U8 a2))), (4, .inl (is (Bl a4))), (6, .inr (.inl (6, 0))), (8, .inr (.inl (8, 0))), (12, .inl (is (U64 x2))), (13, .inl (is (I64 x3))), (47, .inl (is (Bl x18))), (56, .inl (is (U8 a2))), (57, .inl (is (Bl (a2 != (0#8))))), (58, .inl (is (Bl (a2 != (0#8))))), (61, .inl (is (Bl ((a2 != (0#8)) && (decide (a2.toNat ≤ (4#8).toNat))))))], [(6, pb 23 [is (U8 a1_0), is (U8 a1_1)]), (8, pb 76 [is (Bl a3_0), is (Sv a3_1), is (I16 a3_2)])]⟩ ?_ ?_
                    · cases hb : a2 != (0#8)
                      · skip
                        refine AL_cons (LR_off (b := false) rfl rfl rfl rfl) (sS (sT1 rfl) sB0 sF0) ?_
                        refine AL_cons (LR_off (b := false) rfl rfl rfl rfl) (sS (sT1 rfl) sB0 sF0) ?_
                        refine AL_cons (LR_pick (b := false) (at_tmp 58 _) (at_tmp 60 _) (at_c (v' := Bl false) rfl) rfl) (sS (sA (sT1 rfl) (sA (sT1 rfl) sT0)) sB0 sF0) ?_
                        exact AL_nil ⟨rfl, weak0 ((sT rfl (sT rfl (sT rfl (sT rfl (sT rfl (sT rfl (sT rfl (sT rfl (sT rfl (sT rfl (sT rfl (sT rfl sT0))))))))))))) (sub_keep (sub_keep sub_nil))⟩
                      · skip
                        refine AL_cons (LR_on rfl rfl rfl (LR_move (at_tmp 2 _) rfl)) (sS (sT rfl (sT1 rfl)) sB0 sF0) ?_
                        refine AL_cons (LR_on rfl rfl rfl (LR_bin (at_tmp 59 _) (at_c (v' := U8 (4#8)) rfl) (leq_U8 a2 (4#8)) rfl)) (sS (sT rfl (sA (sT1 rfl) sT0)) sB0 sF0) ?_
                        refine AL_cons (LR_pick (b := true) (at_tmp 58 _) (at_tmp 60 _) (at_c (v' := Bl false) rfl) rfl) (sS (sA (sT1 rfl) (sA (sT1 rfl) sT0)) sB0 sF0) ?_
                        exact AL_nil ⟨rfl, weak0 ((sT rfl (sT rfl (sT rfl (sT rfl (sT rfl (sT rfl (sT rfl (sT rfl (sT rfl (sT rfl (sT rfl (sT rfl sT0))))))))))))) (sub_keep (sub_keep sub_nil))⟩
                    refine AL_cons (LR_assign (at_tmp 61 _) rfl) (sS (sT1 rfl) sB0 sF0) ?_
                    refine AL_nil ?_
                    exact thenN (cutLeaf (v := (a2 != (0#8)) && (decide (a2.toNat ≤ (4#8).toNat))) hr (weak0 ((sT rfl (sT rfl (sT rfl (sT rfl (sT rfl (sT rfl (sT rfl (sT rfl sT0))))))))) (sub_keep (sub_keep sub_nil))))
              · rintro x5 hr
                show AW Hfaa.prog _ _ _ ⟨[(0, .inl (tabp a0)), (2, .inl (is (U8 a2))), (4, .inl (is (Bl a4))), (6, .inr (.inl (6, 0))), (8, .inr (.inl (8, 0))), (12, .inl (is (U64 x2))), (13, .inl (is (I64 x3))), (47, .inl (is (Bl x5)))], [(6, pb 23 [is (U8 a1_0), is (U8 a1_1)]), (8, pb 76 [is (Bl a3_0), is (Sv a3_1), is (I16 a3_2)])]⟩
                have hr : some r = F89_5 N a0 a1_0 a1_1 a2 a3_0 a3_1 a3_2 a4 x2 x3 x5 := hr
                refine AW_condT (b := x5) rfl (fun h => ?_) (fun h => ?_)
                · have hr := hr.trans (cond_t h)
                  clear h
                  refine AW_seq1 ?_
                  refine AW_region ?_
                  refine AL_cons (LR_loads (at_tmp 6 _) ag23 sz23 rfl rfl rfl) (sS (sT1 rfl) (sB1 rfl) sF0) ?_
                  refine AL_cons (LR_move (at_tmp 2 _) rfl) (sS (sT1 rfl) sB0 sF0) ?_
                  refine AL_cons (LR_loads (at_tmp 8 _) ag76 sz76 rfl rfl rfl) (sS (sT1 rfl) (sB1 rfl) sF0) ?_
                  obtain ⟨y20, hy20, hr⟩ := bind_some hr
                  refine AL_cons (LR_call Hfaa.func92 rfl rfl (C92 N a1_0 a1_1 a2 a3_0 a3_1 a3_2 y20 hy20) (all_cons (at_tmp 62 _) (all_cons (at_tmp 63 _) (all_cons (at_tmp 64 _) all_nil))) rfl) (sS (sA (sT1 rfl) (sA (sT1 rfl) (sA (sT1 rfl) sT0))) sB0 sF0) ?_
                  refine AL_cons (LR_assign (at_tmp 65 _) rfl) (sS (sT1 rfl) sB0 sF0) ?_
                  refine AL_cons (LR_assign (at_c (v' := U8 (4#8)) rfl) rfl) (sS sT0 sB0 sF0) ?_
                  refine AL_nil ?_
                  refine thenN ?_
                  refine AW_ret ?_
                  refine blR ?_
                  refine thenR ?_
                  obtain rfl := Option.some.inj hr
                  exact res2 rfl (rvT rfl) (rvT rfl)
                · have hr := hr.trans (cond_f h)
                  clear h
                  refine AW_skip ?_
                  refine blN ?_
                  refine thenN ?_
                  refine AW_cut (σ := BitVec 64) (fun v => ⟨[(0, .inl (tabp a0)), (2, .inl (is (U8 a2))), (4, .inl (is (Bl a4))), (6, .inr (.inl (6, 0))), (8, .inr (.inl (8, 0))), (12, .inl (is (U64 x2))), (13, .inl (is (I64 x3))), (14, .inl (is (U64 v)))], [(6, pb 23 [is (U8 a1_0), is (U8 a1_1)]), (8, pb 76 [is (Bl a3_0), is (Sv a3_1), is (I16 a3_2)])]⟩) (fun v => some r = F89_6 N a0 a1_0 a1_1 a2 a3_0 a3_1 a3_2 a4 x2 x3 v) ?_ ?_
                  · skip
                    refine AW_region ?_
                    refine AL_cons (LR_fieldAddr (off := 0) (o := 1) (at_tmp 8 _) (fun b w => fa76_1 b 0 w) rfl) (sS (sT1 rfl) sB0 sF0) ?_
                    refine AL_cons (LR_load (at_tmp 66 _) na9 rfl rfl) (sS (sT1 rfl) (sB1 rfl) sF0) ?_
                    obtain ⟨y44, hy44, hr⟩ := bind_some hr
                    refine AL_cons (LR_call Hfaa.func159 rfl rfl (C159 N a3_1 y44 hy44) (all_cons (at_tmp 67 _) all_nil) rfl) (sS (sA (sT1 rfl) sT0) sB0 sF0) ?_
                    refine AL_cons (LR_assign (at_tmp 68 _) rfl) (sS (sT1 rfl) sB0 sF0) ?_
                    refine AL_nil ?_
                    exact thenN (cutLeaf (v := y44) hr (weak0 ((sT rfl (sT rfl (sT rfl (sT rfl (sT rfl (sT rfl (sT rfl (sT rfl sT0))))))))) (sub_keep (sub_keep sub_nil))))
                  · rintro x6 hr
                    show AW Hfaa.prog _ _ _ ⟨[(0, .inl (tabp a0)), (2, .inl (is (U8 a2))), (4, .inl (is (Bl a4))), (6, .inr (.inl (6, 0))), (8, .inr (.inl (8, 0))), (12, .inl (is (U64 x2))), (13, .inl (is (I64 x3))), (14, .inl (is (U64 x6)))], [(6, pb 23 [is (U8 a1_0), is (U8 a1_1)]), (8, pb 76 [is (Bl a3_0), is (Sv a3_1), is (I16 a3_2)])]⟩
                    have hr : some r = F89_6 N a0 a1_0 a1_1 a2 a3_0 a3_1 a3_2 a4 x2 x3 x6 := hr
                    refine AW_seq1 ?_
                    refine AW_cut (σ := Bool) (fun v => ⟨[(0, .inl (tabp a0)), (2, .inl (is (U8 a2))), (4, .inl (is (Bl a4))), (6, .inr (.inl (6, 0))), (8, .inr (.inl (8, 0))), (12, .inl (is (U64 x2))), (13, .inl (is (I64 x3))), (14, .inl (is (U64 x6))), (70, .inl (is (Bl v)))], [(6, pb 23 [is (U8 a1_0), is (U8 a1_1)]), (8, pb 76 [is (Bl a3_0), is (Sv a3_1), is (I16 a3_2)])]⟩) (fun v => some r = F89_7 N a0 a1_0 a1_1 a2 a3_0 a3_1 a3_2 a4 x2 x3 x6 v) ?_ ?_
                    · skip
                      refine AW_region ?_
                      refine AL_cons (LR_move (at_tmp 13 _) rfl) (sS (sT1 rfl) sB0 sF0) ?_
                      refine AL_cons (LR_bin (at_tmp 69 _) (at_c (v' := I64 19) rfl) (gtr_I64 x3 19) rfl) (sS (sA (sT1 rfl) sT0) sB0 sF0) ?_
                      refine AL_nil ?_
                      exact thenN (cutLeaf (v := decide (x3 > 19)) hr (weak0 ((sT rfl (sT rfl (sT rfl (sT rfl (sT rfl (sT rfl (sT rfl (sT rfl (sT rfl sT0)))))))))) (sub_keep (sub_keep sub_nil))))
                    · rintro x7 hr
                      show AW Hfaa.prog _ _ _ ⟨[(0, .inl (tabp a0)), (2, .inl (is (U8 a2))), (4, .inl (is (Bl a4))), (6, .inr (.inl (6, 0))), (8, .inr (.inl (8, 0))), (12, .inl (is (U64 x2))), (13, .inl (is (I64 x3))), (14, .inl (is (U64 x6))), (70, .inl (is (Bl x7)))], [(6, pb 23 [is (U8 a1_0), is (U8 a1_1)]), (8, pb 76 [is (Bl a3_0), is (Sv a3_1), is (I16 a3_2)])]⟩
                      have hr : some r = F89_7 N a0 a1_0 a1_1 a2 a3_0 a3_1 a3_2 a4 x2 x3 x6 x7 := hr
                      refine AW_condT (b := x7) rfl (fun h => ?_) (fun h => ?_)
                      · have hr := hr.trans (cond_t h)
                        clear h
                        refine AW_cut (σ := Int) (fun v => ⟨[(0, .inl (tabp a0)), (2, .inl (is (U8 a2))), (6, .inr (.inl (6, 0))), (8, .inr (.inl (8, 0))), (12, .inl (is (U64 x2))), (14, .inl (is (U64 x6))), (15, .inl (is (I16 v)))], [(6, pb 23 [is (U8 a1_0), is (U8 a1_1)]), (8, pb 76 [is (Bl a3_0), is (Sv a3_1), is (I16 a3_2)])]⟩) (fun v => some r = F89_8 N a0 a1_0 a1_1 a2 a3_0 a3_1 a3_2 x2 x6 v) ?_ ?_
                        · skip
                          refine AW_region ?_
                          refine AL_cons (LR_fieldAddr (off := 0) (o := 2) (at_tmp 8 _) (fun b w => fa76_2 b 0 w) rfl) (sS (sT1 rfl) sB0 sF0) ?_
                          refine AL_cons (LR_load (at_tmp 71 _) na44 rfl rfl) (sS (sT1 rfl) (sB1 rfl) sF0) ?_
                          refine AL_cons (LR_move (at_tmp 13 _) rfl) (sS (sT1 rfl) sB0 sF0) ?_
                          refine AL_cons (LR_bin (at_tmp 73 _) (at_c (v' := I64 19) rfl) (sub_I64 x3 19) rfl) (sS (sA (sT1 rfl) sT0) sB0 sF0) ?_
                          refine AL_cons (LR_conv (vx := I64 (w64 (x3 - 19))) (at_tmp 74 _) (conv_I16 Hfaa.underlying3 Hfaa.underlying44 (w64 (x3 - 19))) rfl) (sS (sT1 rfl) sB0 sF0) ?_
                          refine AL_cons (LR_bin (at_tmp 72 _) (at_tmp 75 _) (add_I16 a3_2 (w16 (w64 (x3 - 19)))) rfl) (sS (sA (sT1 rfl) (sT1 rfl)) sB0 sF0) ?_
                          refine AL_cons (LR_assign (at_tmp 76 _) rfl) (sS (sT1 rfl) sB0 sF0) ?_
                          refine AL_nil ?_
                          exact thenN (cutLeaf (v := w16 (a3_2 + (w16 (w64 (x3 - 19))))) hr (weak0 ((sT rfl (sT rfl (sT rfl (sT rfl (sT rfl (sT rfl (sT rfl sT0)))))))) (sub_keep (sub_keep sub_nil))))
                        · rintro x8 hr
                          show AW Hfaa.prog _ _ _ ⟨[(0, .inl (tabp a0)), (2, .inl (is (U8 a2))), (6, .inr (.inl (6, 0))), (8, .inr (.inl (8, 0))), (12, .inl (is (U64 x2))), (14, .inl (is (U64 x6))), (15, .inl (is (I16 x8)))], [(6, pb 23 [is (U8 a1_0), is (U8 a1_1)]), (8, pb 76 [is (Bl a3_0), is (Sv a3_1), is (I16 a3_2)])]⟩
                          have hr : some r = F89_8 N a0 a1_0 a1_1 a2 a3_0 a3_1 a3_2 x2 x6 x8 := hr
                          refine AW_cut (σ := BitVec 64 × Bool) (fun v => ⟨[(0, .inl (tabp a0)), (2, .inl (is (U8 a2))), (6, .inr (.inl (6, 0))), (8, .inr (.inl (8, 0))), (12, .inl (is (U64 x2))), (14, .inl (is (U64 x6))), (15, .inl (is (I16 x8))), (16, .inl (is (U64 v.1))), (17, .inl (is (Bl v.2)))], [(6, pb 23 [is (U8 a1_0), is (U8 a1_1)]), (8, pb 76 [is (Bl a3_0), is (Sv a3_1), is (I16 a3_2)])]⟩) (fun v => some r = F89_9 N a0 a1_0 a1_1 a2 a3_0 a3_1 a3_2 x2 x6 x8 v.1 v.2) ?_ ?_
                          · skip
                            refine AW_region ?_
                            refine AL_cons (LR_move (at_tmp 0 _) rfl) (sS (sT1 rfl) sB0 sF0) ?_
                            refine AL_cons (LR_loads (at_tmp 6 _) ag23 sz23 rfl rfl rfl) (sS (sT1 rfl) (sB1 rfl) sF0) ?_
                            refine AL_cons (LR_move (at_tmp 14 _) rfl) (sS (sT1 rfl) sB0 sF0) ?_
                            refine AL_cons (LR_move (at_tmp 15 _) rfl) (sS (sT1 rfl) sB0 sF0) ?_
                            obtain ⟨y33, hy33, hr⟩ := bind_some hr
                            refine AL_cons (LR_call Hfaa.func91 rfl rfl (C91 N a0 a1_0 a1_1 x6 x8 y33 hy33) (all_cons (at_tmp 78 _) (all_cons (at_tmp 79 _) (all_cons (at_tmp 80 _) (all_cons (at_tmp 81 _) all_nil)))) rfl) (sS (sA (sT1 rfl) (sA (sT1 rfl) (sA (sT1 rfl) (sA (sT1 rfl) sT0)))) sB0 sF0) ?_
                            refine AL_cons (LR_move (at_tmp 82 _) rfl) (sS (sT1 rfl) sB0 sF0) ?_
                            refine AL_cons (LR_extract (at_tmp 77 _) rfl rfl) (sS (sT1 rfl) sB0 sF0) ?_
                            refine AL_cons (LR_extract (at_tmp 77 _) rfl rfl) (sS (sT1 rfl) sB0 sF0) ?_
                            refine AL_cons (LR_assign (at_tmp 83 _) rfl) (sS (sT1 rfl) sB0 sF0) ?_
                            refine AL_cons (LR_assign (at_tmp 84 _) rfl) (sS (sT1 rfl) sB0 sF0) ?_
                            refine AL_nil ?_
                            exact thenN (cutLeaf (v := (y33.1, y33.2)) hr (weak0 ((sT rfl (sT rfl (sT rfl (sT rfl (sT rfl (sT rfl (sT rfl (sT rfl (sT rfl sT0)))))))))) (sub_keep (sub_keep sub_nil))))
                          · rintro ⟨x9, x10⟩ hr
                            show AW Hfaa.prog _ _ _ ⟨[(0, .inl (tabp a0)), (2, .inl (is (U8 a2))), (6, .inr (.inl (6, 0))), (8, .inr (.inl (8, 0))), (12, .inl (is (U64 x2))), (14, .inl (is (U64 x6))), (15, .inl (is (I16 x8))), (16, .inl (is (U64 x9))), (17, .inl (is (Bl x10)))], [(6, pb 23 [is (U8 a1_0), is (U8 a1_1)]), (8, pb 76 [is (Bl a3_0), is (Sv a3_1), is (I16 a3_2)])]⟩
                            have hr : some r = F89_9 N a0 a1_0 a1_1 a2 a3_0 a3_1 a3_2 x2 x6 x8 x9 x10 := hr
                            refine AW_cut (σ := BitVec 64 × Bool) (fun v => ⟨[(2, .inl (is (U8 a2))), (6, .inr (.inl (6, 0))), (8, .inr (.inl (8, 0))), (12, .inl (is (U64 x2))), (16, .inl (is (U64 x9))), (17, .inl (is (Bl x10))), (18, .inl (is (U64 v.1))), (19, .inl (is (Bl v.2)))], [(6, pb 23 [is (U8 a1_0), is (U8 a1_1)]), (8, pb 76 [is (Bl a3_0), is (Sv a3_1), is (I16 a3_2)])]⟩) (fun v => some r = F89_10 N a1_0 a1_1 a2 a3_0 a3_1 a3_2 x2 x9 x10 v.1 v.2) ?_ ?_
                            · skip
                              refine AW_region ?_
                              refine AL_cons (LR_move (at_tmp 0 _) rfl) (sS (sT1 rfl) sB0 sF0) ?_
                              refine AL_cons (LR_loads (at_tmp 6 _) ag23 sz23 rfl rfl rfl) (sS (sT1 rfl) (sB1 rfl) sF0) ?_
                              refine AL_cons (LR_move (at_tmp 14 _) rfl) (sS (sT1 rfl) sB0 sF0) ?_
                              refine AL_cons (LR_bin (at_tmp 88 _) (at_c (v' := U64 (1#64)) rfl) (add_U64 x6 (1#64)) rfl) (sS (sA (sT1 rfl) sT0) sB0 sF0) ?_
                              refine AL_cons (LR_move (at_tmp 15 _) rfl) (sS (sT1 rfl) sB0 sF0) ?_
                              obtain ⟨y32, hy32, hr⟩ := bind_some hr
                              refine AL_cons (LR_call Hfaa.func91 rfl rfl (C91 N a0 a1_0 a1_1 (x6 + (1#64)) x8 y32 hy32) (all_cons (at_tmp 86 _) (all_cons (at_tmp 87 _) (all_cons (at_tmp 89 _) (all_cons (at_tmp 90 _) all_nil)))) rfl) (sS (sA (sT1 rfl) (sA (sT1 rfl) (sA (sT1 rfl) (sA (sT1 rfl) sT0)))) sB0 sF0) ?_
                              refine AL_cons (LR_move (at_tmp 91 _) rfl) (sS (sT1 rfl) sB0 sF0) ?_
                              refine AL_cons (LR_extract (at_tmp 85 _) rfl rfl) (sS (sT1 rfl) sB0 sF0) ?_
                              refine AL_cons (LR_extract (at_tmp 85 _) rfl rfl) (sS (sT1 rfl) sB0 sF0) ?_
                              refine AL_cons (LR_assign (at_tmp 92 _) rfl) (sS (sT1 rfl) sB0 sF0) ?_
                              refine AL_cons (LR_assign (at_tmp 93 _) rfl) (sS (sT1 rfl) sB0 sF0) ?_
                              refine AL_nil ?_
                              exact thenN (cutLeaf (v := (y32.1, y32.2)) hr (weak0 ((sT rfl (sT rfl (sT rfl (sT rfl (sT rfl (sT rfl (sT rfl (sT rfl sT0))))))))) (sub_keep (sub_keep sub_nil))))
                            · rintro ⟨x11, x12⟩ hr
                              show AW Hfaa.prog _ _ _ ⟨[(2, .inl (is (U8 a2))), (6, .inr (.inl (6, 0))), (8, .inr (.inl (8, 0))), (12, .inl (is (U64 x2))), (16, .inl (is (U64 x9))), (17, .inl (is (Bl x10))), (18, .inl (is (U64 x11))), (19, .inl (is (Bl x12)))], [(6, pb 23 [is (U8 a1_0), is (U8 a1_1)]), (8, pb 76 [is (Bl a3_0), is (Sv a3_1), is (I16 a3_2)])]⟩
                              have hr : some r = F89_10 N a1_0 a1_1 a2 a3_0 a3_1 a3_2 x2 x9 x10 x11 x12 := hr
                              refine AW_seq1 ?_
                              refine AW_cut (σ := Bool) (fun v => ⟨[(2, .inl (is (U8 a2))), (6, .inr (.inl (6, 0))), (8, .inr (.inl (8, 0))), (12, .inl (is (U64 x2))), (16, .inl (is (U64 x9))), (102, .inl (is (Bl v)))], [(6, pb 23 [is (U8 a1_0), is (U8 a1_1)]), (8, pb 76 [is (Bl a3_0), is (Sv a3_1), is (I16 a3_2)])]⟩) (fun v => some r = F89_11 N a1_0 a1_1 a2 a3_0 a3_1 a3_2 x2 x9 v) ?_ ?_
                              · skip
                                refine AW_region ?_
                                refine AL_cons (LR_move (at_tmp 17 _) rfl) (sS (sT1 rfl) sB0 sF0) ?_
                                refine AL_cons (LR_move (at_tmp 94 _) rfl) (sS (sT1 rfl) sB0 sF0) ?_
                                refine AL_cutAt 2 ⟨[(2, .inl (is (U8 a2))), (6, .inr (.inl (6, 0))), (8, .inr (.inl (8, 0))), (12, .inl (is (U64 x2))), (16, .inl (is (U64 x9))), (17, .inl (is (Bl x10))), (18, .inl (is (U64 x11))), (19, .inl (is (Bl x12))), (94, .inl (is (Bl x10))), (95, .inl (is (Bl x10))), (97, .inl (is (Bl (x10 && x12))))], [(6, pb 23 [is (U8 a1_0), is (U8 a1_1)]), (8, pb 76 [is (Bl a3_0), is (Sv a3_1), is (I16 a3_2)])]⟩ ?_ ?_
                                · cases hb : x10
                                  · skip
                                    refine AL_cons (LR_off (b := false) rfl rfl rfl rfl) (sS (sT1 rfl) sB0 sF0) ?_
                                    refine AL_cons (LR_pick (b := false) (at_tmp 95 _) (at_tmp 96 _) (at_c (v' := Bl false) rfl) rfl) (sS (sA (sT1 rfl) (sA (sT1 rfl) sT0)) sB0 sF0) ?_
                                    exact AL_nil ⟨rfl, weak0 ((sT rfl (sT rfl (sT rfl (sT rfl (sT rfl (sT rfl (sT rfl (sT rfl (sT rfl (sT rfl (sT rfl sT0)))))))))))) (sub_keep (sub_keep sub_nil))⟩
                                  · skip
                                    refine AL_cons (LR_on rfl rfl rfl (LR_move (at_tmp 19 _) rfl)) (sS (sT rfl (sT1 rfl)) sB0 sF0) ?_
                                    refine AL_cons (LR_pick (b := true) (at_tmp 95 _) (at_tmp 96 _) (at_c (v' := Bl false) rfl) rfl) (sS (sA (sT1 rfl) (sA (sT1 rfl) sT0)) sB0 sF0) ?_
                                    exact AL_nil ⟨rfl, weak0 ((sT rfl (sT rfl (sT rfl (sT rfl (sT rfl (sT rfl (sT rfl (sT rfl (sT rfl (sT rfl (sT rfl sT0)))))))))))) (sub_keep (sub_keep sub_nil))⟩
                                refine AL_cons (LR_move (at_tmp 97 _) rfl) (sS (sT1 rfl) sB0 sF0) ?_
                                refine AL_cutAt 4 ⟨[(2, .inl (is (U8 a2))), (6, .inr (.inl (6, 0))), (8, .inr (.inl (8, 0))), (12, .inl (is (U64 x2))), (16, .inl (is (U64 x9))), (17, .inl (is (Bl x10))), (18, .inl (is (U64 x11))), (19, .inl (is (Bl x12))), (94, .inl (is (Bl x10))), (95, .inl (is (Bl x10))), (97, .inl (is (Bl (x10 && x12)))), (98, .inl (is (Bl (x10 && x12)))), (102, .inl (is (Bl ((x10 && x12) && (x9 == x11)))))], [(6, pb 23 [is (U8 a1_0), is (U8 a1_1)]), (8, pb 76 [is (Bl a3_0), is (Sv a3_1), is (I16 a3_2)])]⟩ ?_ ?_
                                · cases hb : x10 && x12
                                  · skip
                                    refine AL_cons (LR_off (b := false) rfl rfl rfl rfl) (sS (sT1 rfl) sB0 sF0) ?_
                                    refine AL_cons (LR_off (b := false) rfl rfl rfl rfl) (sS (sT1 rfl) sB0 sF0) ?_
                                    refine AL_cons (LR_off (b := false) rfl rfl rfl rfl) (sS (sT1 rfl) sB0 sF0) ?_
                                    refine AL_cons (LR_pick (b := false) (at_tmp 98 _) (at_tmp 101 _) (at_c (v' := Bl false) rfl) rfl) (sS (sA (sT1 rfl) (sA (sT1 rfl) sT0)) sB0 sF0) ?_
                                    exact AL_nil ⟨rfl, weak0 ((sT rfl (sT rfl (sT rfl (sT rfl (sT rfl (sT rfl (sT rfl (sT rfl (sT rfl (sT rfl (sT rfl (sT rfl (sT rfl sT0)))))))))))))) (sub_keep (sub_keep sub_nil))⟩
                                  · skip
                                    refine AL_cons (LR_on rfl rfl rfl (LR_move (at_tmp 16 _) rfl)) (sS (sT rfl (sT1 rfl)) sB0 sF0) ?_
                                    refine AL_cons (LR_on rfl rfl rfl (LR_move (at_tmp 18 _) rfl)) (sS (sT rfl (sT1 rfl)) sB0 sF0) ?_
                                    refine AL_cons (LR_on rfl rfl rfl (LR_bin (at_tmp 99 _) (at_tmp 100 _) (eql_U64 x9 x11) rfl)) (sS (sT rfl (sA (sT1 rfl) (sT1 rfl))) sB0 sF0) ?_
                                    refine AL_cons (LR_pick (b := true) (at_tmp 98 _) (at_tmp 101 _) (at_c (v' := Bl false) rfl) rfl) (sS (sA (sT1 rfl) (sA (sT1 rfl) sT0)) sB0 sF0) ?_
                                    exact AL_nil ⟨rfl, weak0 ((sT rfl (sT rfl (sT rfl (sT rfl (sT rfl (sT rfl (sT rfl (sT rfl (sT rfl (sT rfl (sT rfl (sT rfl (sT rfl sT0)))))))))))))) (sub_keep (sub_keep sub_nil))⟩
                                refine AL_nil ?_
                                exact thenN (cutLeaf (v := (x10 && x12) && (x9 == x11)) hr (weak0 ((sT rfl (sT rfl (sT rfl (sT rfl (sT rfl (sT rfl sT0))))))) (sub_keep (sub_keep sub_nil))))
                              · rintro x13 hr
                                show AW Hfaa.prog _ _ _ ⟨[(2, .inl (is (U8 a2))), (6, .inr (.inl (6, 0))), (8, .inr (.inl (8, 0))), (12, .inl (is (U64 x2))), (16, .inl (is (U64 x9))), (102, .inl (is (Bl x13)))], [(6, pb 23 [is (U8 a1_0), is (U8 a1_1)]), (8, pb 76 [is (Bl a3_0), is (Sv a3_1), is (I16 a3_2)])]⟩
                                have hr : some r = F89_11 N a1_0 a1_1 a2 a3_0 a3_1 a3_2 x2 x9 x13 := hr
                                refine AW_condT (b := x13) rfl (fun h => ?_) (fun h => ?_)
                                · have hr := hr.trans (cond_t h)
                                  clear h
                                  refine AW_seq1 ?_
                                  refine AW_region ?_
                                  refine AL_cons (LR_move (at_tmp 16 _) rfl) (sS (sT1 rfl) sB0 sF0) ?_
                                  refine AL_cons (LR_move (at_tmp 12 _) rfl) (sS (sT1 rfl) sB0 sF0) ?_
                                  refine AL_cons (LR_bin (at_tmp 103 _) (at_tmp 104 _) (or_U64 x9 x2) rfl) (sS (sA (sT1 rfl) (sT1 rfl)) sB0 sF0) ?_
                                  refine AL_cons (LR_assign (at_tmp 105 _) rfl) (sS (sT1 rfl) sB0 sF0) ?_
                                  refine AL_cons (LR_assign (at_c (v' := U8 (3#8)) rfl) rfl) (sS sT0 sB0 sF0) ?_
                                  refine AL_nil ?_
                                  refine thenN ?_
                                  refine AW_ret ?_
                                  refine thenR ?_
                                  refine thenR ?_
                                  obtain rfl := Option.some.inj hr
                                  exact res2 rfl (rvT rfl) (rvT rfl)
                                · have hr := hr.trans (cond_f h)
                                  clear h
                                  refine AW_skip ?_
                                  refine thenN ?_
                                  refine AW_seq1 ?_
                                  refine AW_region ?_
                                  refine AL_cons (LR_loads (at_tmp 6 _) ag23 sz23 rfl rfl rfl) (sS (sT1 rfl) (sB1 rfl) sF0) ?_
                                  refine AL_cons (LR_move (at_tmp 2 _) rfl) (sS (sT1 rfl) sB0 sF0) ?_
                                  refine AL_cons (LR_loads (at_tmp 8 _) ag76 sz76 rfl rfl rfl) (sS (sT1 rfl) (sB1 rfl) sF0) ?_
                                  obtain ⟨y31, hy31, hr⟩ := bind_some hr
                                  refine AL_cons (LR_call Hfaa.func92 rfl rfl (C92 N a1_0 a1_1 a2 a3_0 a3_1 a3_2 y31 hy31) (all_cons (at_tmp 106 _) (all_cons (at_tmp 107 _) (all_cons (at_tmp 108 _) all_nil))) rfl) (sS (sA (sT1 rfl) (sA (sT1 rfl) (sA (sT1 rfl) sT0))) sB0 sF0) ?_
                                  refine AL_cons (LR_assign (at_tmp 109 _) rfl) (sS (sT1 rfl) sB0 sF0) ?_
                                  refine AL_cons (LR_assign (at_c (v' := U8 (4#8)) rfl) rfl) (sS sT0 sB0 sF0) ?_
                                  refine AL_nil ?_
                                  refine thenN ?_
                                  refine AW_ret ?_
                                  refine thenR ?_
                                  obtain rfl := Option.some.inj hr
                                  exact res2 rfl (rvT rfl) (rvT rfl)
                      · have hr := hr.trans (cond_f h)
                        clear h
                        refine AW_skip ?_
                        refine thenN ?_
                        refine AW_cut (σ := Unit) (fun _ => ⟨[(0, .inl (tabp a0)), (2, .inl (is (U8 a2))), (6, .inr (.inl (6, 0))), (8, .inr (.inl (8, 0))), (12, .inl (is (U64 x2))), (14, .inl (is (U64 x6)))], [(6, pb 23 [is (U8 a1_0), is (U8 a1_1)]), (8, pb 76 [is (Bl a3_0), is (Sv a3_1), is (I16 a3_2)])]⟩) (fun _ => some r = F89_12 N a0 a1_0 a1_1 a2 a3_0 a3_1 a3_2 x2 x6) ?_ ?_
                        · skip
                          refine AW_seq1 ?_
                          refine AW_region ?_
                          refine AL_cons (LR_move (at_tmp 4 _) rfl) (sS (sT1 rfl) sB0 sF0) ?_
                          refine AL_nil ?_
                          refine thenN ?_
                          refine AW_condT (b := a4) rfl (fun h => ?_) (fun h => ?_)
                          · have hr := hr.trans (cond_t h)
                            clear h
                            refine AW_cut (σ := BitVec 64 × Bool) (fun v => ⟨[(0, .inl (tabp a0)), (2, .inl (is (U8 a2))), (6, .inr (.inl (6, 0))), (8, .inr (.inl (8, 0))), (12, .inl (is (U64 x2))), (14, .inl (is (U64 x6))), (20, .inl (is (U64 v.1))), (21, .inl (is (Bl v.2)))], [(6, pb 23 [is (U8 a1_0), is (U8 a1_1)]), (8, pb 76 [is (Bl a3_0), is (Sv a3_1), is (I16 a3_2)])]⟩) (fun v => some r = F89_14 N a0 a1_0 a1_1 a2 a3_0 a3_1 a3_2 x2 x6 v.1 v.2) ?_ ?_
                            · skip
                              refine AW_region ?_
                              refine AL_cons (LR_loads (at_tmp 6 _) ag23 sz23 rfl rfl rfl) (sS (sT1 rfl) (sB1 rfl) sF0) ?_
                              refine AL_cons (LR_move (at_tmp 14 _) rfl) (sS (sT1 rfl) sB0 sF0) ?_
                              refine AL_cons (LR_fieldAddr (off := 0) (o := 2) (at_tmp 8 _) (fun b w => fa76_2 b 0 w) rfl) (sS (sT1 rfl) sB0 sF0) ?_
                              refine AL_cons (LR_load (at_tmp 114 _) na44 rfl rfl) (sS (sT1 rfl) (sB1 rfl) sF0) ?_
                              obtain ⟨y43, hy43, hr⟩ := bind_some hr
                              refine AL_cons (LR_call Hfaa.func90 rfl rfl (C90 N a1_0 a1_1 x6 a3_2 y43 hy43) (all_cons (at_tmp 112 _) (all_cons (at_tmp 113 _) (all_cons (at_tmp 115 _) all_nil))) rfl) (sS (sA (sT1 rfl) (sA (sT1 rfl) (sA (sT1 rfl) sT0))) sB0 sF0) ?_
                              refine AL_cons (LR_move (at_tmp 116 _) rfl) (sS (sT1 rfl) sB0 sF0) ?_
                              refine AL_cons (LR_extract (at_tmp 111 _) rfl rfl) (sS (sT1 rfl) sB0 sF0) ?_
                              refine AL_cons (LR_extract (at_tmp 111 _) rfl rfl) (sS (sT1 rfl) sB0 sF0) ?_
                              refine AL_cons (LR_assign (at_tmp 117 _) rfl) (sS (sT1 rfl) sB0 sF0) ?_
                              refine AL_cons (LR_assign (at_tmp 118 _) rfl) (sS (sT1 rfl) sB0 sF0) ?_
                              refine AL_nil ?_
                              exact thenN (cutLeaf (v := (y43.1, y43.2)) hr (weak0 ((sT rfl (sT rfl (sT rfl (sT rfl (sT rfl (sT rfl (sT rfl (sT rfl sT0))))))))) (sub_keep (sub_keep sub_nil))))
                            · rintro ⟨x16, x17⟩ hr
                              show AW Hfaa.prog _ _ _ ⟨[(0, .inl (tabp a0)), (2, .inl (is (U8 a2))), (6, .inr (.inl (6, 0))), (8, .inr (.inl (8, 0))), (12, .inl (is (U64 x2))), (14, .inl (is (U64 x6))), (20, .inl (is (U64 x16))), (21, .inl (is (Bl x17)))], [(6, pb 23 [is (U8 a1_0), is (U8 a1_1)]), (8, pb 76 [is (Bl a3_0), is (Sv a3_1), is (I16 a3_2)])]⟩
                              have hr : some r = F89_14 N a0 a1_0 a1_1 a2 a3_0 a3_1 a3_2 x2 x6 x16 x17 := hr
                              refine AW_seq1 ?_
                              refine AW_region ?_
                              refine AL_cons (LR_move (at_tmp 21 _) rfl) (sS (sT1 rfl) sB0 sF0) ?_
                              refine AL_nil ?_
                              refine thenN ?_
                              refine AW_condT (b := x17) rfl (fun h => ?_) (fun h => ?_)
                              · have hr := hr.trans (cond_t h)
                                clear h
                                refine AW_seq1 ?_
                                refine AW_region ?_
                                refine AL_cons (LR_move (at_tmp 20 _) rfl) (sS (sT1 rfl) sB0 sF0) ?_
                                refine AL_cons (LR_move (at_tmp 12 _) rfl) (sS (sT1 rfl) sB0 sF0) ?_
                                refine AL_cons (LR_bin (at_tmp 120 _) (at_tmp 121 _) (or_U64 x16 x2) rfl) (sS (sA (sT1 rfl) (sT1 rfl)) sB0 sF0) ?_
                                refine AL_cons (LR_assign (at_tmp 122 _) rfl) (sS (sT1 rfl) sB0 sF0) ?_
                                refine AL_cons (LR_assign (at_c (v' := U8 (1#8)) rfl) rfl) (sS sT0 sB0 sF0) ?_
                                refine AL_nil ?_
                                refine thenN ?_
                                refine AW_ret ?_
                                refine thenR ?_
                                obtain rfl := Option.some.inj hr
                                exact res2 rfl (rvT rfl) (rvT rfl)
                              · have hr := hr.trans (cond_f h)
                                clear h
                                refine AW_skip ?_
                                exact thenN (cutLeaf (v := ()) hr (weak0 ((sT rfl (sT rfl (sT rfl (sT rfl (sT rfl (sT rfl sT0))))))) (sub_keep (sub_keep sub_nil))))
                          · have hr := hr.trans (cond_f h)
                            clear h
                            refine AW_skip ?_
                            exact thenN (cutLeaf (v := ()) hr (weak0 ((sT rfl (sT rfl (sT rfl (sT rfl (sT rfl (sT rfl sT0))))))) (sub_keep (sub_keep sub_nil))))
                        · rintro _ hr
                          show AW Hfaa.prog _ _ _ ⟨[(0, .inl (tabp a0)), (2, .inl (is (U8 a2))), (6, .inr (.inl (6, 0))), (8, .inr (.inl (8, 0))), (12, .inl (is (U64 x2))), (14, .inl (is (U64 x6)))], [(6, pb 23 [is (U8 a1_0), is (U8 a1_1)]), (8, pb 76 [is (Bl a3_0), is (Sv a3_1), is (I16 a3_2)])]⟩
                          have hr : some r = F89_12 N a0 a1_0 a1_1 a2 a3_0 a3_1 a3_2 x2 x6 := hr
                          refine AW_seq1 ?_
                          refine AW_cut (σ := BitVec 64 × Bool) (fun v => ⟨[(2, .inl (is (U8 a2))), (6, .inr (.inl (6, 0))), (8, .inr (.inl (8, 0))), (12, .inl (is (U64 x2))), (22, .inl (is (U64 v.1))), (23, .inl (is (Bl v.2)))], [(6, pb 23 [is (U8 a1_0), is (U8 a1_1)]), (8, pb 76 [is (Bl a3_0), is (Sv a3_1), is (I16 a3_2)])]⟩) (fun v => some r = F89_13 N a1_0 a1_1 a2 a3_0 a3_1 a3_2 x2 v.1 v.2) ?_ ?_
                          · skip
                            refine AW_region ?_
                            refine AL_cons (LR_move (at_tmp 0 _) rfl) (sS (sT1 rfl) sB0 sF0) ?_
                            refine AL_cons (LR_loads (at_tmp 6 _) ag23 sz23 rfl rfl rfl) (sS (sT1 rfl) (sB1 rfl) sF0) ?_
                            refine AL_cons (LR_move (at_tmp 14 _) rfl) (sS (sT1 rfl) sB0 sF0) ?_
                            refine AL_cons (LR_fieldAddr (off := 0) (o := 2) (at_tmp 8 _) (fun b w => fa76_2 b 0 w) rfl) (sS (sT1 rfl) sB0 sF0) ?_
                            refine AL_cons (LR_load (at_tmp 127 _) na44 rfl rfl) (sS (sT1 rfl) (sB1 rfl) sF0) ?_
                            obtain ⟨y41, hy41, hr⟩ := bind_some hr
                            refine AL_cons (LR_call Hfaa.func91 rfl rfl (C91 N a0 a1_0 a1_1 x6 a3_2 y41 hy41) (all_cons (at_tmp 124 _) (all_cons (at_tmp 125 _) (all_cons (at_tmp 126 _) (all_cons (at_tmp 128 _) all_nil)))) rfl) (sS (sA (sT1 rfl) (sA (sT1 rfl) (sA (sT1 rfl) (sA (sT1 rfl) sT0)))) sB0 sF0) ?_
                            refine AL_cons (LR_move (at_tmp 129 _) rfl) (sS (sT1 rfl) sB0 sF0) ?_
                            refine AL_cons (LR_extract (at_tmp 123 _) rfl rfl) (sS (sT1 rfl) sB0 sF0) ?_
                            refine AL_cons (LR_extract (at_tmp 123 _) rfl rfl) (sS (sT1 rfl) sB0 sF0) ?_
                            refine AL_cons (LR_assign (at_tmp 130 _) rfl) (sS (sT1 rfl) sB0 sF0) ?_
                            refine AL_cons (LR_assign (at_tmp 131 _) rfl) (sS (sT1 rfl) sB0 sF0) ?_
                            refine AL_nil ?_
                            exact thenN (cutLeaf (v := (y41.1, y41.2)) hr (weak0 ((sT rfl (sT rfl (sT rfl (sT rfl (sT rfl (sT rfl sT0))))))) (sub_keep (sub_keep sub_nil))))
                          · rintro ⟨x14, x15⟩ hr
                            show AW Hfaa.prog _ _ _ ⟨[(2, .inl (is (U8 a2))), (6, .inr (.inl (6, 0))), (8, .inr (.inl (8, 0))), (12, .inl (is (U64 x2))), (22, .inl (is (U64 x14))), (23, .inl (is (Bl x15)))], [(6, pb 23 [is (U8 a1_0), is (U8 a1_1)]), (8, pb 76 [is (Bl a3_0), is (Sv a3_1), is (I16 a3_2)])]⟩
                            have hr : some r = F89_13 N a1_0 a1_1 a2 a3_0 a3_1 a3_2 x2 x14 x15 := hr
                            refine AW_seq1 ?_
                            refine AW_region ?_
                            refine AL_cons (LR_move (at_tmp 23 _) rfl) (sS (sT1 rfl) sB0 sF0) ?_
                            refine AL_nil ?_
                            refine thenN ?_
                            refine AW_condT (b := x15) rfl (fun h => ?_) (fun h => ?_)
                            · have hr := hr.trans (cond_t h)
                              clear h
                              refine AW_seq1 ?_
                              refine AW_region ?_
                              refine AL_cons (LR_move (at_tmp 22 _) rfl) (sS (sT1 rfl) sB0 sF0) ?_
                              refine AL_cons (LR_move (at_tmp 12 _) rfl) (sS (sT1 rfl) sB0 sF0) ?_
                              refine AL_cons (LR_bin (at_tmp 133 _) (at_tmp 134 _) (or_U64 x14 x2) rfl) (sS (sA (sT1 rfl) (sT1 rfl)) sB0 sF0) ?_
                              refine AL_cons (LR_assign (at_tmp 135 _) rfl) (sS (sT1 rfl) sB0 sF0) ?_
                              refine AL_cons (LR_assign (at_c (v' := U8 (2#8)) rfl) rfl) (sS sT0 sB0 sF0) ?_
                              refine AL_nil ?_
                              refine thenN ?_
                              refine AW_ret ?_
                              refine thenR ?_
                              obtain rfl := Option.some.inj hr
                              exact res2 rfl (rvT rfl) (rvT rfl)
                            · have hr := hr.trans (cond_f h)
                              clear h
                              refine AW_skip ?_
                              refine thenN ?_
                              refine AW_seq1 ?_
                              refine AW_region ?_
                              refine AL_cons (LR_loads (at_tmp 6 _) ag23 sz23 rfl rfl rfl) (sS (sT1 rfl) (sB1 rfl) sF0) ?_
                              refine AL_cons (LR_move (at_tmp 2 _) rfl) (sS (sT1 rfl) sB0 sF0) ?_
                              refine AL_cons (LR_loads (at_tmp 8 _) ag76 sz76 rfl rfl rfl) (sS (sT1 rfl) (sB1 rfl) sF0) ?_
                              obtain ⟨y40, hy40, hr⟩ := bind_some hr
                              refine AL_cons (LR_call Hfaa.func92 rfl rfl (C92 N a1_0 a1_1 a2 a3_0 a3_1 a3_2 y40 hy40) (all_cons (at_tmp 136 _) (all_cons (at_tmp 137 _) (all_cons (at_tmp 138 _) all_nil))) rfl) (sS (sA (sT1 rfl) (sA (sT1 rfl) (sA (sT1 rfl) sT0))) sB0 sF0) ?_
                              refine AL_cons (LR_assign (at_tmp 139 _) rfl) (sS (sT1 rfl) sB0 sF0) ?_
                              refine AL_cons (LR_assign (at_c (v' := U8 (4#8)) rfl) rfl) (sS sT0 sB0 sF0) ?_
                              refine AL_nil ?_
                              refine thenN ?_
                              refine AW_ret ?_
                              obtain rfl := Option.some.inj hr
                              exact res2 rfl (rvT rfl) (rvT rfl)
end Go.Proofs.YfwaawGreat
