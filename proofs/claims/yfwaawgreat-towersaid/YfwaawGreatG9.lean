import Derived.Test.YfwaawGreatG8
namespace Go.Proofs.YfwaawGreat
open Go.Aw
set_option linter.unusedVariables false
set_option maxRecDepth 100000
set_option maxHeartbeats 1000000
/-- dec/dmodel.cut -/
def F402_3 (N : Nat) (a0 : List UInt8) (a1 : BitVec 8) (a2 : BitVec 8) (x1 : Int) (x3 : Bool) : Option ((Int) ⊕ (Int)) := bif x3 then (some x1).map Sum.inr else some (.inl (w64 (x1 + 1)))
def F402_2 (N : Nat) (a0 : List UInt8) (a1 : BitVec 8) (a2 : BitVec 8) (x1 : Int) (x2 : Bool) : Option ((Int) ⊕ (Int)) := bif x2 then bif (decide (0 ≤ (x1 : Int)) && decide ((x1 : Int) < (a0.length : Int))) then bif ((a0.getD ((x1 : Int)).toNat 0).toBitVec) == a1 then F402_3 N a0 a1 a2 x1 true else bif (decide (0 ≤ (x1 : Int)) && decide ((x1 : Int) < (a0.length : Int))) then F402_3 N a0 a1 a2 x1 (((a0.getD ((x1 : Int)).toNat 0).toBitVec) == a2) else none else none else (some (-1)).map Sum.inr
def F402_L1b (N : Nat) (a0 : List UInt8) (a1 : BitVec 8) (a2 : BitVec 8) (x1 : Int) : Option ((Int) ⊕ (Int)) := F402_2 N a0 a1 a2 x1 (decide (x1 < (a0.length : Int)))
def F402_L1 (N : Nat) (a0 : List UInt8) (a1 : BitVec 8) (a2 : BitVec 8) : (Int) → Option ((Int) ⊕ (Int)) := fun v => F402_L1b N a0 a1 a2 v
def F402 (N : Nat) (a0 : List UInt8) (a1 : BitVec 8) (a2 : BitVec 8) : Option (Int) := iterL (F402_L1 N a0 a1 a2) N 0
theorem C402 (N : Nat) (a0 : List UInt8) (a1 : BitVec 8) (a2 : BitVec 8) (r : Int) (hr : some r = F402 N a0 a1 a2) : Aw.Fn Hfaa.prog 402 [is (Sv a0), is (U8 a1), is (U8 a2)] (is (I64 r)) := by
  refine fn_intro Hfaa.func402 rfl rfl rfl ?_
  intro bn0 w0 H0
  refine AW_seq1 ?_
  refine AW_region ?_
  refine AL_cons (LR_assign (at_c (v' := I64 0) rfl) rfl) (sS sT0 sB0 sF0) ?_
  refine AL_nil ?_
  refine thenN ?_
  refine AW_seq1 ?_
  refine AW_seq1 ?_
  refine AW_region ?_
  refine AL_cons (LR_assign (at_c (v' := I64 0) rfl) rfl) (sS sT0 sB0 sF0) ?_
  refine AL_nil ?_
  refine thenN ?_
  refine AW_block ?_
  refine AW_iterR (σ := Int) (r := r) (x0 := 0) (emb := fun v => ⟨[(0, .inl (is (Sv a0))), (1, .inl (is (U8 a1))), (2, .inl (is (U8 a2))), (7, .inl (is (I64 v)))], []⟩) ?_ hr ?_
  · exact weak0 ((sT rfl (sT rfl (sT rfl (sT rfl sT0))))) sub_nil
  rintro x1 out2 hr
  show AW Hfaa.prog _ _ _ ⟨[(0, .inl (is (Sv a0))), (1, .inl (is (U8 a1))), (2, .inl (is (U8 a2))), (7, .inl (is (I64 x1)))], []⟩
  have hr : some out2 = F402_L1b N a0 a1 a2 x1 := hr
  refine AW_seq1 ?_
  refine AW_cut (σ := Bool) (fun v => ⟨[(0, .inl (is (Sv a0))), (1, .inl (is (U8 a1))), (2, .inl (is (U8 a2))), (7, .inl (is (I64 x1))), (11, .inl (is (Bl v)))], []⟩) (fun v => some out2 = F402_2 N a0 a1 a2 x1 v) ?_ ?_
  · skip
    refine AW_region ?_
    refine AL_cons (LR_move (at_tmp 7 _) rfl) (sS (sT1 rfl) sB0 sF0) ?_
    refine AL_cons (LR_move (at_tmp 0 _) rfl) (sS (sT1 rfl) sB0 sF0) ?_
    refine AL_cons (LR_bi1 (at_tmp 9 _) (len_S Hfaa.underlying9 a0) rfl) (sS (sT1 rfl) sB0 sF0) ?_
    refine AL_cons (LR_bin (at_tmp 8 _) (at_tmp 10 _) (lss_I64 x1 (a0.length : Int)) rfl) (sS (sA (sT1 rfl) (sT1 rfl)) sB0 sF0) ?_
    refine AL_nil ?_
    exact thenN (cutLeaf (v := decide (x1 < (a0.length : Int))) hr (weak0 ((sT rfl (sT rfl (sT rfl (sT rfl (sT rfl sT0)))))) sub_nil))
  · rintro x2 hr
    show AW Hfaa.prog _ _ _ ⟨[(0, .inl (is (Sv a0))), (1, .inl (is (U8 a1))), (2, .inl (is (U8 a2))), (7, .inl (is (I64 x1))), (11, .inl (is (Bl x2)))], []⟩
    have hr : some out2 = F402_2 N a0 a1 a2 x1 x2 := hr
    refine AW_condT (b := x2) rfl (fun h => ?_) (fun h => ?_)
    · have hr := hr.trans (cond_t h)
      clear h
      refine AW_skip ?_
      refine thenN ?_
      refine AW_seq1 ?_
      refine AW_block ?_
      refine AW_cut (σ := Bool) (fun v => ⟨[(0, .inl (is (Sv a0))), (1, .inl (is (U8 a1))), (2, .inl (is (U8 a2))), (7, .inl (is (I64 x1))), (25, .inl (is (Bl v)))], []⟩) (fun v => some out2 = F402_3 N a0 a1 a2 x1 v) ?_ ?_
      · skip
        refine AW_region ?_
        refine AL_cons (LR_move (at_tmp 0 _) rfl) (sS (sT1 rfl) sB0 sF0) ?_
        refine AL_cons (LR_move (at_tmp 7 _) rfl) (sS (sT1 rfl) sB0 sF0) ?_
        obtain ⟨hg46, hr⟩ := guard_some hr
        refine AL_cons (LR_indexS (i := (x1 : Int)) Hfaa.underlying9 (at_tmp 14 _) (at_tmp 15 _) (dand hg46) rfl) (sS (sA (sT1 rfl) (sT1 rfl)) sB0 sF0) ?_
        refine AL_cons (LR_move (at_tmp 1 _) rfl) (sS (sT1 rfl) sB0 sF0) ?_
        refine AL_cons (LR_bin (at_tmp 16 _) (at_tmp 17 _) (eql_U8 ((a0.getD ((x1 : Int)).toNat 0).toBitVec) a1) rfl) (sS (sA (sT1 rfl) (sT1 rfl)) sB0 sF0) ?_
        refine AL_cons (LR_move (at_tmp 18 _) rfl) (sS (sT1 rfl) sB0 sF0) ?_
        cases hb : ((a0.getD ((x1 : Int)).toNat 0).toBitVec) == a1
        · have hr := hr.trans (cond_f hb)
          refine AL_cons (LR_on rfl rfl rfl (LR_move (at_tmp 0 _) rfl)) (sS (sT rfl (sT1 rfl)) sB0 sF0) ?_
          refine AL_cons (LR_on rfl rfl rfl (LR_move (at_tmp 7 _) rfl)) (sS (sT rfl (sT1 rfl)) sB0 sF0) ?_
          obtain ⟨hg48, hr⟩ := guard_some hr
          refine AL_cons (LR_on rfl rfl rfl (LR_indexS (i := (x1 : Int)) Hfaa.underlying9 (at_tmp 20 _) (at_tmp 21 _) (dand hg48) rfl)) (sS (sT rfl (sA (sT1 rfl) (sT1 rfl))) sB0 sF0) ?_
          refine AL_cons (LR_on rfl rfl rfl (LR_move (at_tmp 2 _) rfl)) (sS (sT rfl (sT1 rfl)) sB0 sF0) ?_
          refine AL_cons (LR_on rfl rfl rfl (LR_bin (at_tmp 22 _) (at_tmp 23 _) (eql_U8 ((a0.getD ((x1 : Int)).toNat 0).toBitVec) a2) rfl)) (sS (sT rfl (sA (sT1 rfl) (sT1 rfl))) sB0 sF0) ?_
          refine AL_cons (LR_pick (b := false) (at_tmp 19 _) (at_c (v' := Bl true) rfl) (at_tmp 24 _) rfl) (sS (sA (sT1 rfl) (sA sT0 (sT1 rfl))) sB0 sF0) ?_
          refine AL_nil ?_
          exact thenN (cutLeaf (v := ((a0.getD ((x1 : Int)).toNat 0).toBitVec) == a2) hr (weak0 ((sT rfl (sT rfl (sT rfl (sT rfl (sT rfl sT0)))))) sub_nil))
        · have hr := hr.trans (cond_t hb)
          refine AL_cons (LR_off (b := true) rfl rfl rfl rfl) (sS (sT1 rfl) sB0 sF0) ?_
          refine AL_cons (LR_off (b := true) rfl rfl rfl rfl) (sS (sT1 rfl) sB0 sF0) ?_
          refine AL_cons (LR_off (b := true) rfl rfl rfl rfl) (sS (sT1 rfl) sB0 sF0) ?_
          refine AL_cons (LR_off (b := true) rfl rfl rfl rfl) (sS (sT1 rfl) sB0 sF0) ?_
          refine AL_cons (LR_off (b := true) rfl rfl rfl rfl) (sS (sT1 rfl) sB0 sF0) ?_
          refine AL_cons (LR_pick (b := true) (at_tmp 19 _) (at_c (v' := Bl true) rfl) (at_tmp 24 _) rfl) (sS (sA (sT1 rfl) (sA sT0 (sT1 rfl))) sB0 sF0) ?_
          refine AL_nil ?_
          exact thenN (cutLeaf (v := true) hr (weak0 ((sT rfl (sT rfl (sT rfl (sT rfl (sT rfl sT0)))))) sub_nil))
      · rintro x3 hr
        show AW Hfaa.prog _ _ _ ⟨[(0, .inl (is (Sv a0))), (1, .inl (is (U8 a1))), (2, .inl (is (U8 a2))), (7, .inl (is (I64 x1))), (25, .inl (is (Bl x3)))], []⟩
        have hr : some out2 = F402_3 N a0 a1 a2 x1 x3 := hr
        refine AW_condT (b := x3) rfl (fun h => ?_) (fun h => ?_)
        · have hr := hr.trans (cond_t h)
          clear h
          refine AW_seq1 ?_
          refine AW_region ?_
          refine AL_cons (LR_move (at_tmp 7 _) rfl) (sS (sT1 rfl) sB0 sF0) ?_
          refine AL_cons (LR_assign (at_tmp 26 _) rfl) (sS (sT1 rfl) sB0 sF0) ?_
          refine AL_nil ?_
          refine thenN ?_
          refine AW_ret ?_
          refine blR ?_
          refine thenR ?_
          obtain ⟨r', hro, hr⟩ := map_inr hr
          refine thenR (loopOut hro (fun he => ?_))
          rw [he] at hr
          refine blR ?_
          refine thenR ?_
          obtain rfl := Option.some.inj hr
          exact res1 rfl (rvT rfl)
        · have hr := hr.trans (cond_f h)
          clear h
          refine AW_skip ?_
          refine blN ?_
          refine thenN ?_
          refine AW_region ?_
          refine AL_cons (LR_move (at_tmp 7 _) rfl) (sS (sT1 rfl) sB0 sF0) ?_
          refine AL_cons (LR_bin (at_tmp 12 _) (at_c (v' := I64 1) rfl) (add_I64 x1 1) rfl) (sS (sA (sT1 rfl) sT0) sB0 sF0) ?_
          refine AL_cons (LR_assign (at_tmp 13 _) rfl) (sS (sT1 rfl) sB0 sF0) ?_
          refine AL_nil ?_
          exact thenN (loopNext (x' := w64 (x1 + 1)) hr (weak0 ((sT rfl (sT rfl (sT rfl (sT rfl sT0))))) sub_nil))
    · have hr := hr.trans (cond_f h)
      clear h
      refine AW_exit ?_
      refine thenX ?_
      obtain ⟨r', hro, hr⟩ := map_inr hr
      refine thenX (loopOut hro (fun he => ?_))
      rw [he] at hr
      refine blH ?_
      refine thenN ?_
      refine AW_seq1 ?_
      refine AW_region ?_
      refine AL_cons (LR_assign (at_c (v' := I64 (-1)) rfl) rfl) (sS sT0 sB0 sF0) ?_
      refine AL_nil ?_
      refine thenN ?_
      refine AW_ret ?_
      obtain rfl := Option.some.inj hr
      exact res1 rfl (rvT rfl)
/-- dec/dmodel.digits -/
def F403_1 (N : Nat) (x1 : Int) : Option (Int) := some x1
def F403_3 (N : Nat) (a0 : List UInt8) (x2 : Int) (x3 : Bool) : Option ((Int) ⊕ (Int)) := bif x3 then some (.inl (w64 (x2 + 1))) else (F403_1 N x2).map Sum.inr
def F403_L2b (N : Nat) (a0 : List UInt8) (x2 : Int) : Option ((Int) ⊕ (Int)) := bif decide (x2 < (a0.length : Int)) then bif (decide (0 ≤ (x2 : Int)) && decide ((x2 : Int) < (a0.length : Int))) then bif decide ((48#8).toNat ≤ ((a0.getD ((x2 : Int)).toNat 0).toBitVec).toNat) then bif (decide (0 ≤ (x2 : Int)) && decide ((x2 : Int) < (a0.length : Int))) then F403_3 N a0 x2 (decide (((a0.getD ((x2 : Int)).toNat 0).toBitVec).toNat ≤ (57#8).toNat)) else none else F403_3 N a0 x2 false else none else F403_3 N a0 x2 false
def F403_L2 (N : Nat) (a0 : List UInt8) : (Int) → Option ((Int) ⊕ (Int)) := fun v => F403_L2b N a0 v
def F403 (N : Nat) (a0 : List UInt8) : Option (Int) := iterL (F403_L2 N a0) N 0
theorem C403 (N : Nat) (a0 : List UInt8) (r : Int) (hr : some r = F403 N a0) : Aw.Fn Hfaa.prog 403 [is (Sv a0)] (is (I64 r)) := by
  refine fn_intro Hfaa.func403 rfl rfl rfl ?_
  intro bn0 w0 H0
  refine AW_seq1 ?_
  refine AW_region ?_
  refine AL_cons (LR_assign (at_c (v' := I64 0) rfl) rfl) (sS sT0 sB0 sF0) ?_
  refine AL_nil ?_
  refine thenN ?_
  refine AW_seq1 ?_
  refine AW_region ?_
  refine AL_cons (LR_assign (at_c (v' := I64 0) rfl) rfl) (sS sT0 sB0 sF0) ?_
  refine AL_nil ?_
  refine thenN ?_
  refine AW_cut (σ := Int) (fun v => ⟨[(3, .inl (is (I64 v)))], []⟩) (fun v => some r = F403_1 N v) ?_ ?_
  · skip
    refine AW_block ?_
    refine AW_iterR (σ := Int) (r := r) (x0 := 0) (emb := fun v => ⟨[(0, .inl (is (Sv a0))), (3, .inl (is (I64 v)))], []⟩) ?_ hr ?_
    · exact weak0 ((sT rfl (sT rfl sT0))) sub_nil
    rintro x2 out2 hr
    show AW Hfaa.prog _ _ _ ⟨[(0, .inl (is (Sv a0))), (3, .inl (is (I64 x2)))], []⟩
    have hr : some out2 = F403_L2b N a0 x2 := hr
    refine AW_seq1 ?_
    refine AW_cut (σ := Bool) (fun v => ⟨[(0, .inl (is (Sv a0))), (3, .inl (is (I64 x2))), (19, .inl (is (Bl v)))], []⟩) (fun v => some out2 = F403_3 N a0 x2 v) ?_ ?_
    · skip
      refine AW_region ?_
      refine AL_cons (LR_move (at_tmp 3 _) rfl) (sS (sT1 rfl) sB0 sF0) ?_
      refine AL_cons (LR_move (at_tmp 0 _) rfl) (sS (sT1 rfl) sB0 sF0) ?_
      refine AL_cons (LR_bi1 (at_tmp 5 _) (len_S Hfaa.underlying9 a0) rfl) (sS (sT1 rfl) sB0 sF0) ?_
      refine AL_cons (LR_bin (at_tmp 4 _) (at_tmp 6 _) (lss_I64 x2 (a0.length : Int)) rfl) (sS (sA (sT1 rfl) (sT1 rfl)) sB0 sF0) ?_
      refine AL_cons (LR_move (at_tmp 7 _) rfl) (sS (sT1 rfl) sB0 sF0) ?_
      cases hb : decide (x2 < (a0.length : Int))
      · have hr := hr.trans (cond_f hb)
        refine AL_cons (LR_off (b := false) rfl rfl rfl rfl) (sS (sT1 rfl) sB0 sF0) ?_
        refine AL_cons (LR_off (b := false) rfl rfl rfl rfl) (sS (sT1 rfl) sB0 sF0) ?_
        refine AL_cons (LR_off (b := false) rfl rfl rfl rfl) (sS (sT1 rfl) sB0 sF0) ?_
        refine AL_cons (LR_off (b := false) rfl rfl rfl rfl) (sS (sT1 rfl) sB0 sF0) ?_
        refine AL_cons (LR_pick (b := false) (at_tmp 8 _) (at_tmp 12 _) (at_c (v' := Bl false) rfl) rfl) (sS (sA (sT1 rfl) (sA (sT1 rfl) sT0)) sB0 sF0) ?_
        refine AL_cons (LR_move (at_tmp 13 _) rfl) (sS (sT1 rfl) sB0 sF0) ?_
        refine AL_cons (LR_off (b := false) rfl rfl rfl rfl) (sS (sT1 rfl) sB0 sF0) ?_
        refine AL_cons (LR_off (b := false) rfl rfl rfl rfl) (sS (sT1 rfl) sB0 sF0) ?_
        refine AL_cons (LR_off (b := false) rfl rfl rfl rfl) (sS (sT1 rfl) sB0 sF0) ?_
        refine AL_cons (LR_off (b := false) rfl rfl rfl rfl) (sS (sT1 rfl) sB0 sF0) ?_
        refine AL_cons (LR_pick (b := false) (at_tmp 14 _) (at_tmp 18 _) (at_c (v' := Bl false) rfl) rfl) (sS (sA (sT1 rfl) (sA (sT1 rfl) sT0)) sB0 sF0) ?_
        refine AL_nil ?_
        exact thenN (cutLeaf (v := false) hr (weak0 ((sT rfl (sT rfl (sT rfl sT0)))) sub_nil))
      · have hr := hr.trans (cond_t hb)
        refine AL_cons (LR_on rfl rfl rfl (LR_move (at_tmp 0 _) rfl)) (sS (sT rfl (sT1 rfl)) sB0 sF0) ?_
        refine AL_cons (LR_on rfl rfl rfl (LR_move (at_tmp 3 _) rfl)) (sS (sT rfl (sT1 rfl)) sB0 sF0) ?_
        obtain ⟨hg62, hr⟩ := guard_some hr
        refine AL_cons (LR_on rfl rfl rfl (LR_indexS (i := (x2 : Int)) Hfaa.underlying9 (at_tmp 9 _) (at_tmp 10 _) (dand hg62) rfl)) (sS (sT rfl (sA (sT1 rfl) (sT1 rfl))) sB0 sF0) ?_
        refine AL_cons (LR_on rfl rfl rfl (LR_bin (at_c (v' := U8 (48#8)) rfl) (at_tmp 11 _) (leq_U8 (48#8) ((a0.getD ((x2 : Int)).toNat 0).toBitVec)) rfl)) (sS (sT rfl (sA sT0 (sT1 rfl))) sB0 sF0) ?_
        refine AL_cons (LR_pick (b := true) (at_tmp 8 _) (at_tmp 12 _) (at_c (v' := Bl false) rfl) rfl) (sS (sA (sT1 rfl) (sA (sT1 rfl) sT0)) sB0 sF0) ?_
        refine AL_cons (LR_move (at_tmp 13 _) rfl) (sS (sT1 rfl) sB0 sF0) ?_
        cases hb : decide ((48#8).toNat ≤ ((a0.getD ((x2 : Int)).toNat 0).toBitVec).toNat)
        · have hr := hr.trans (cond_f hb)
          refine AL_cons (LR_off (b := false) rfl rfl rfl rfl) (sS (sT1 rfl) sB0 sF0) ?_
          refine AL_cons (LR_off (b := false) rfl rfl rfl rfl) (sS (sT1 rfl) sB0 sF0) ?_
          refine AL_cons (LR_off (b := false) rfl rfl rfl rfl) (sS (sT1 rfl) sB0 sF0) ?_
          refine AL_cons (LR_off (b := false) rfl rfl rfl rfl) (sS (sT1 rfl) sB0 sF0) ?_
          refine AL_cons (LR_pick (b := false) (at_tmp 14 _) (at_tmp 18 _) (at_c (v' := Bl false) rfl) rfl) (sS (sA (sT1 rfl) (sA (sT1 rfl) sT0)) sB0 sF0) ?_
          refine AL_nil ?_
          exact thenN (cutLeaf (v := false) hr (weak0 ((sT rfl (sT rfl (sT rfl sT0)))) sub_nil))
        · have hr := hr.trans (cond_t hb)
          refine AL_cons (LR_on rfl rfl rfl (LR_move (at_tmp 0 _) rfl)) (sS (sT rfl (sT1 rfl)) sB0 sF0) ?_
          refine AL_cons (LR_on rfl rfl rfl (LR_move (at_tmp 3 _) rfl)) (sS (sT rfl (sT1 rfl)) sB0 sF0) ?_
          obtain ⟨hg64, hr⟩ := guard_some hr
          refine AL_cons (LR_on rfl rfl rfl (LR_indexS (i := (x2 : Int)) Hfaa.underlying9 (at_tmp 15 _) (at_tmp 16 _) (dand hg64) rfl)) (sS (sT rfl (sA (sT1 rfl) (sT1 rfl))) sB0 sF0) ?_
          refine AL_cons (LR_on rfl rfl rfl (LR_bin (at_tmp 17 _) (at_c (v' := U8 (57#8)) rfl) (leq_U8 ((a0.getD ((x2 : Int)).toNat 0).toBitVec) (57#8)) rfl)) (sS (sT rfl (sA (sT1 rfl) sT0)) sB0 sF0) ?_
          refine AL_cons (LR_pick (b := true) (at_tmp 14 _) (at_tmp 18 _) (at_c (v' := Bl false) rfl) rfl) (sS (sA (sT1 rfl) (sA (sT1 rfl) sT0)) sB0 sF0) ?_
          refine AL_nil ?_
          exact thenN (cutLeaf (v := decide (((a0.getD ((x2 : Int)).toNat 0).toBitVec).toNat ≤ (57#8).toNat)) hr (weak0 ((sT rfl (sT rfl (sT rfl sT0)))) sub_nil))
    · rintro x3 hr
      show AW Hfaa.prog _ _ _ ⟨[(0, .inl (is (Sv a0))), (3, .inl (is (I64 x2))), (19, .inl (is (Bl x3)))], []⟩
      have hr : some out2 = F403_3 N a0 x2 x3 := hr
      refine AW_condT (b := x3) rfl (fun h => ?_) (fun h => ?_)
      · have hr := hr.trans (cond_t h)
        clear h
        refine AW_skip ?_
        refine thenN ?_
        refine AW_block ?_
        refine AW_region ?_
        refine AL_cons (LR_move (at_tmp 3 _) rfl) (sS (sT1 rfl) sB0 sF0) ?_
        refine AL_cons (LR_bin (at_tmp 20 _) (at_c (v' := I64 1) rfl) (add_I64 x2 1) rfl) (sS (sA (sT1 rfl) sT0) sB0 sF0) ?_
        refine AL_cons (LR_assign (at_tmp 21 _) rfl) (sS (sT1 rfl) sB0 sF0) ?_
        refine AL_nil ?_
        refine blN ?_
        exact thenN (loopNext (x' := w64 (x2 + 1)) hr (weak0 ((sT rfl (sT rfl sT0))) sub_nil))
      · have hr := hr.trans (cond_f h)
        clear h
        refine AW_exit ?_
        refine thenX ?_
        obtain ⟨r', hro, hr⟩ := map_inr hr
        refine thenX (loopOut hro (fun he => ?_))
        rw [he] at hr
        refine blH ?_
        exact thenN (cutLeaf (v := x2) hr (weak0 ((sT rfl sT0)) sub_nil))
  · rintro x1 hr
    show AW Hfaa.prog _ _ _ ⟨[(3, .inl (is (I64 x1)))], []⟩
    have hr : some r = F403_1 N x1 := hr
    refine AW_seq1 ?_
    refine AW_region ?_
    refine AL_cons (LR_move (at_tmp 3 _) rfl) (sS (sT1 rfl) sB0 sF0) ?_
    refine AL_cons (LR_assign (at_tmp 22 _) rfl) (sS (sT1 rfl) sB0 sF0) ?_
    refine AL_nil ?_
    refine thenN ?_
    refine AW_ret ?_
    obtain rfl := Option.some.inj hr
    exact res1 rfl (rvT rfl)
/-- dec.Make -/
def F39_5 (N : Nat) (a0 : Bool) (a1 : List UInt8) (a2 : Int) (x2 : Int) (x3 : Int) (x5 : Int) (x6 : Bool) : Option (Bool × List UInt8 × Int × Bool) := bif x6 then some ((false, ([] : List UInt8), 0, false)) else bif (decide (0 ≤ (x2 : Int)) && (decide ((x2 : Int) ≤ (x3 : Int)) && decide ((x3 : Int) ≤ (a1.length : Int)))) then some ((a0, (a1.drop ((x2 : Int)).toNat).take (((x3 : Int)).toNat - ((x2 : Int)).toNat), w16 (w64 (a2 + x5)), true)) else none
def F39_4 (N : Nat) (a0 : Bool) (a1 : List UInt8) (a2 : Int) (x2 : Int) (x3 : Int) (x5 : Int) : Option (Bool × List UInt8 × Int × Bool) := F39_5 N a0 a1 a2 x2 x3 x5 ((((decide ((w64 (x3 - x2)) > 800)) || (decide (a2 > 2000))) || (decide ((w64 (a2 + x5)) > 2000))) || (decide ((w64 (a2 + x5)) < (-2000))))
def F39_3 (N : Nat) (a0 : Bool) (a1 : List UInt8) (a2 : Int) (x2 : Int) (x3 : Int) (x4 : Bool) : Option (Bool × List UInt8 × Int × Bool) := bif x4 then some ((a0, ([] : List UInt8), 0, true)) else F39_4 N a0 a1 a2 x2 x3 (w64 ((a1.length : Int) - x3))
def F39_2 (N : Nat) (a0 : Bool) (a1 : List UInt8) (a2 : Int) (x2 : Int) (x3 : Int) : Option (Bool × List UInt8 × Int × Bool) := F39_3 N a0 a1 a2 x2 x3 (x3 == 0)
def F39_8 (N : Nat) (a0 : Bool) (a1 : List UInt8) (a2 : Int) (x9 : Int) (x11 : Int) (x12 : Int) : Option ((Int × Int × Int) ⊕ (Bool × List UInt8 × Int × Bool)) := some (.inl ((x11, x12, w64 (x9 + 1))))
def F39_12 (N : Nat) (a0 : Bool) (a1 : List UInt8) (a2 : Int) (x9 : Int) (x16 : Int) : Option ((Int × Int × Int) ⊕ (Bool × List UInt8 × Int × Bool)) := F39_8 N a0 a1 a2 x9 x16 (w64 (x9 + 1))
def F39_11 (N : Nat) (a0 : Bool) (a1 : List UInt8) (a2 : Int) (x7 : Int) (x8 : Int) (x9 : Int) (x15 : Bool) : Option ((Int × Int × Int) ⊕ (Bool × List UInt8 × Int × Bool)) := bif x15 then F39_12 N a0 a1 a2 x9 (min x7 x9) else F39_8 N a0 a1 a2 x9 x7 x8
def F39_10 (N : Nat) (a0 : Bool) (a1 : List UInt8) (a2 : Int) (x7 : Int) (x8 : Int) (x9 : Int) (x13 : BitVec 8) (x14 : Bool) : Option ((Int × Int × Int) ⊕ (Bool × List UInt8 × Int × Bool)) := bif x14 then (some ((false, ([] : List UInt8), 0, false))).map Sum.inr else F39_11 N a0 a1 a2 x7 x8 x9 (x13 != (48#8))
def F39_9 (N : Nat) (a0 : Bool) (a1 : List UInt8) (a2 : Int) (x7 : Int) (x8 : Int) (x9 : Int) (x13 : BitVec 8) : Option ((Int × Int × Int) ⊕ (Bool × List UInt8 × Int × Bool)) := F39_10 N a0 a1 a2 x7 x8 x9 x13 ((decide (x13.toNat < (48#8).toNat)) || (decide ((57#8).toNat < x13.toNat)))
def F39_7 (N : Nat) (a0 : Bool) (a1 : List UInt8) (a2 : Int) (x7 : Int) (x8 : Int) (x9 : Int) (x10 : Bool) : Option ((Int × Int × Int) ⊕ (Bool × List UInt8 × Int × Bool)) := bif x10 then bif (decide (0 ≤ (x9 : Int)) && decide ((x9 : Int) < (a1.length : Int))) then F39_9 N a0 a1 a2 x7 x8 x9 ((a1.getD ((x9 : Int)).toNat 0).toBitVec) else none else (F39_2 N a0 a1 a2 x7 x8).map Sum.inr
def F39_L6b (N : Nat) (a0 : Bool) (a1 : List UInt8) (a2 : Int) (x7 : Int) (x8 : Int) (x9 : Int) : Option ((Int × Int × Int) ⊕ (Bool × List UInt8 × Int × Bool)) := F39_7 N a0 a1 a2 x7 x8 x9 (decide (x9 < (a1.length : Int)))
def F39_L6 (N : Nat) (a0 : Bool) (a1 : List UInt8) (a2 : Int) : (Int × Int × Int) → Option ((Int × Int × Int) ⊕ (Bool × List UInt8 × Int × Bool)) := fun v => F39_L6b N a0 a1 a2 v.1 v.2.1 v.2.2
def F39_1 (N : Nat) (a0 : Bool) (a1 : List UInt8) (a2 : Int) (x1 : Int) : Option (Bool × List UInt8 × Int × Bool) := iterL (F39_L6 N a0 a1 a2) N (x1, 0, 0)
def F39 (N : Nat) (a0 : Bool) (a1 : List UInt8) (a2 : Int) : Option (Bool × List UInt8 × Int × Bool) := F39_1 N a0 a1 a2 (a1.length : Int)
theorem C39 (N : Nat) (a0 : Bool) (a1 : List UInt8) (a2 : Int) (r : Bool × List UInt8 × Int × Bool) (hr : some r = F39 N a0 a1 a2) : Aw.Fn Hfaa.prog 39 [is (Bl a0), is (Sv a1), is (I64 a2)] (tup [agg [is (Bl r.1), is (Sv r.2.1), is (I16 r.2.2.1)], is (Bl r.2.2.2)]) := by
  refine fn_intro Hfaa.func39 rfl rfl rfl ?_
  intro bn0 w0 H0
  refine AW_seq1 ?_
  refine AW_region ?_
  refine AL_cons (zl76 rfl) (sS sT0 sB0 (sF1 rfl)) ?_
  refine AL_cons (LR_assign (at_c (v' := Bl false) rfl) rfl) (sS sT0 sB0 sF0) ?_
  refine AL_nil ?_
  refine thenN ?_
  refine AW_cut (σ := Int) (fun v => ⟨[(0, .inl (is (Bl a0))), (1, .inl (is (Sv a1))), (2, .inl (is (I64 a2))), (6, .inr (.inl (6, 0))), (8, .inl (is (I64 v))), (9, .inl (is (I64 0)))], [(6, pb 76 [is (Bl false), is (Sv ([] : List UInt8)), is (I16 0)])]⟩) (fun v => some r = F39_1 N a0 a1 a2 v) ?_ ?_
  · skip
    refine AW_region ?_
    refine AL_cons (LR_move (at_tmp 1 _) rfl) (sS (sT1 rfl) sB0 sF0) ?_
    refine AL_cons (LR_bi1 (at_tmp 13 _) (len_S Hfaa.underlying9 a1) rfl) (sS (sT1 rfl) sB0 sF0) ?_
    refine AL_cons (LR_assign (at_tmp 14 _) rfl) (sS (sT1 rfl) sB0 sF0) ?_
    refine AL_cons (LR_assign (at_c (v' := I64 0) rfl) rfl) (sS sT0 sB0 sF0) ?_
    refine AL_nil ?_
    exact thenN (cutLeaf (v := (a1.length : Int)) hr (weak0 ((sT rfl (sT rfl (sT rfl (sT rfl (sT rfl (sT rfl sT0))))))) (sub_keep sub_nil)))
  · rintro x1 hr
    show AW Hfaa.prog _ _ _ ⟨[(0, .inl (is (Bl a0))), (1, .inl (is (Sv a1))), (2, .inl (is (I64 a2))), (6, .inr (.inl (6, 0))), (8, .inl (is (I64 x1))), (9, .inl (is (I64 0)))], [(6, pb 76 [is (Bl false), is (Sv ([] : List UInt8)), is (I16 0)])]⟩
    have hr : some r = F39_1 N a0 a1 a2 x1 := hr
    refine AW_cut (σ := Int × Int) (fun v => ⟨[(0, .inl (is (Bl a0))), (1, .inl (is (Sv a1))), (2, .inl (is (I64 a2))), (6, .inr (.inl (6, 0))), (8, .inl (is (I64 v.1))), (9, .inl (is (I64 v.2)))], [(6, pb 76 [is (Bl false), is (Sv ([] : List UInt8)), is (I16 0)])]⟩) (fun v => some r = F39_2 N a0 a1 a2 v.1 v.2) ?_ ?_
    · skip
      refine AW_seq1 ?_
      refine AW_region ?_
      refine AL_cons (LR_assign (at_c (v' := I64 0) rfl) rfl) (sS sT0 sB0 sF0) ?_
      refine AL_nil ?_
      refine thenN ?_
      refine AW_block ?_
      refine AW_iterR (σ := Int × Int × Int) (r := r) (x0 := (x1, 0, 0)) (emb := fun v => ⟨[(0, .inl (is (Bl a0))), (1, .inl (is (Sv a1))), (2, .inl (is (I64 a2))), (6, .inr (.inl (6, 0))), (8, .inl (is (I64 v.1))), (9, .inl (is (I64 v.2.1))), (10, .inl (is (I64 v.2.2)))], [(6, pb 76 [is (Bl false), is (Sv ([] : List UInt8)), is (I16 0)])]⟩) ?_ hr ?_
      · exact weak0 ((sT rfl (sT rfl (sT rfl (sT rfl (sT rfl (sT rfl (sT rfl sT0)))))))) (sub_keep sub_nil)
      rintro ⟨x7, x8, x9⟩ out2 hr
      show AW Hfaa.prog _ _ _ ⟨[(0, .inl (is (Bl a0))), (1, .inl (is (Sv a1))), (2, .inl (is (I64 a2))), (6, .inr (.inl (6, 0))), (8, .inl (is (I64 x7))), (9, .inl (is (I64 x8))), (10, .inl (is (I64 x9)))], [(6, pb 76 [is (Bl false), is (Sv ([] : List UInt8)), is (I16 0)])]⟩
      have hr : some out2 = F39_L6b N a0 a1 a2 x7 x8 x9 := hr
      refine AW_seq1 ?_
      refine AW_cut (σ := Bool) (fun v => ⟨[(0, .inl (is (Bl a0))), (1, .inl (is (Sv a1))), (2, .inl (is (I64 a2))), (6, .inr (.inl (6, 0))), (8, .inl (is (I64 x7))), (9, .inl (is (I64 x8))), (10, .inl (is (I64 x9))), (18, .inl (is (Bl v)))], [(6, pb 76 [is (Bl false), is (Sv ([] : List UInt8)), is (I16 0)])]⟩) (fun v => some out2 = F39_7 N a0 a1 a2 x7 x8 x9 v) ?_ ?_
      · skip
        refine AW_region ?_
        refine AL_cons (LR_move (at_tmp 10 _) rfl) (sS (sT1 rfl) sB0 sF0) ?_
        refine AL_cons (LR_move (at_tmp 1 _) rfl) (sS (sT1 rfl) sB0 sF0) ?_
        refine AL_cons (LR_bi1 (at_tmp 16 _) (len_S Hfaa.underlying9 a1) rfl) (sS (sT1 rfl) sB0 sF0) ?_
        refine AL_cons (LR_bin (at_tmp 15 _) (at_tmp 17 _) (lss_I64 x9 (a1.length : Int)) rfl) (sS (sA (sT1 rfl) (sT1 rfl)) sB0 sF0) ?_
        refine AL_nil ?_
        exact thenN (cutLeaf (v := decide (x9 < (a1.length : Int))) hr (weak0 ((sT rfl (sT rfl (sT rfl (sT rfl (sT rfl (sT rfl (sT rfl (sT rfl sT0))))))))) (sub_keep sub_nil)))
      · rintro x10 hr
        show AW Hfaa.prog _ _ _ ⟨[(0, .inl (is (Bl a0))), (1, .inl (is (Sv a1))), (2, .inl (is (I64 a2))), (6, .inr (.inl (6, 0))), (8, .inl (is (I64 x7))), (9, .inl (is (I64 x8))), (10, .inl (is (I64 x9))), (18, .inl (is (Bl x10)))], [(6, pb 76 [is (Bl false), is (Sv ([] : List UInt8)), is (I16 0)])]⟩
        have hr : some out2 = F39_7 N a0 a1 a2 x7 x8 x9 x10 := hr
        refine AW_condT (b := x10) rfl (fun h => ?_) (fun h => ?_)
        · have hr := hr.trans (cond_t h)
          clear h
          refine AW_skip ?_
          refine thenN ?_
          refine AW_cut (σ := Int × Int) (fun v => ⟨[(0, .inl (is (Bl a0))), (1, .inl (is (Sv a1))), (2, .inl (is (I64 a2))), (6, .inr (.inl (6, 0))), (8, .inl (is (I64 v.1))), (10, .inl (is (I64 x9))), (9, .inl (is (I64 v.2)))], [(6, pb 76 [is (Bl false), is (Sv ([] : List UInt8)), is (I16 0)])]⟩) (fun v => some out2 = F39_8 N a0 a1 a2 x9 v.1 v.2) ?_ ?_
          · skip
            refine AW_block ?_
            refine AW_cut (σ := BitVec 8) (fun v => ⟨[(0, .inl (is (Bl a0))), (1, .inl (is (Sv a1))), (2, .inl (is (I64 a2))), (6, .inr (.inl (6, 0))), (8, .inl (is (I64 x7))), (9, .inl (is (I64 x8))), (10, .inl (is (I64 x9))), (11, .inl (is (U8 v)))], [(6, pb 76 [is (Bl false), is (Sv ([] : List UInt8)), is (I16 0)])]⟩) (fun v => some out2 = F39_9 N a0 a1 a2 x7 x8 x9 v) ?_ ?_
            · skip
              refine AW_region ?_
              refine AL_cons (LR_move (at_tmp 1 _) rfl) (sS (sT1 rfl) sB0 sF0) ?_
              refine AL_cons (LR_move (at_tmp 10 _) rfl) (sS (sT1 rfl) sB0 sF0) ?_
              obtain ⟨hg18, hr⟩ := guard_some hr
              refine AL_cons (LR_indexS (i := (x9 : Int)) Hfaa.underlying9 (at_tmp 21 _) (at_tmp 22 _) (dand hg18) rfl) (sS (sA (sT1 rfl) (sT1 rfl)) sB0 sF0) ?_
              refine AL_cons (LR_assign (at_tmp 23 _) rfl) (sS (sT1 rfl) sB0 sF0) ?_
              refine AL_nil ?_
              exact thenN (cutLeaf (v := (a1.getD ((x9 : Int)).toNat 0).toBitVec) hr (weak0 ((sT rfl (sT rfl (sT rfl (sT rfl (sT rfl (sT rfl (sT rfl (sT rfl sT0))))))))) (sub_keep sub_nil)))
            · rintro x13 hr
              show AW Hfaa.prog _ _ _ ⟨[(0, .inl (is (Bl a0))), (1, .inl (is (Sv a1))), (2, .inl (is (I64 a2))), (6, .inr (.inl (6, 0))), (8, .inl (is (I64 x7))), (9, .inl (is (I64 x8))), (10, .inl (is (I64 x9))), (11, .inl (is (U8 x13)))], [(6, pb 76 [is (Bl false), is (Sv ([] : List UInt8)), is (I16 0)])]⟩
              have hr : some out2 = F39_9 N a0 a1 a2 x7 x8 x9 x13 := hr
              refine AW_seq1 ?_
              refine AW_cut (σ := Bool) (fun v => ⟨[(0, .inl (is (Bl a0))), (1, .inl (is (Sv a1))), (2, .inl (is (I64 a2))), (6, .inr (.inl (6, 0))), (8, .inl (is (I64 x7))), (9, .inl (is (I64 x8))), (10, .inl (is (I64 x9))), (11, .inl (is (U8 x13))), (29, .inl (is (Bl v)))], [(6, pb 76 [is (Bl false), is (Sv ([] : List UInt8)), is (I16 0)])]⟩) (fun v => some out2 = F39_10 N a0 a1 a2 x7 x8 x9 x13 v) ?_ ?_
              · skip
                refine AW_region ?_
                refine AL_cons (LR_move (at_tmp 11 _) rfl) (sS (sT1 rfl) sB0 sF0) ?_
                refine AL_cons (LR_bin (at_tmp 24 _) (at_c (v' := U8 (48#8)) rfl) (lss_U8 x13 (48#8)) rfl) (sS (sA (sT1 rfl) sT0) sB0 sF0) ?_
                refine AL_cons (LR_move (at_tmp 25 _) rfl) (sS (sT1 rfl) sB0 sF0) ?_
                refine AL_cutAt 3 ⟨[(0, .inl (is (Bl a0))), (1, .inl (is (Sv a1))), (2, .inl (is (I64 a2))), (6, .inr (.inl (6, 0))), (8, .inl (is (I64 x7))), (9, .inl (is (I64 x8))), (10, .inl (is (I64 x9))), (11, .inl (is (U8 x13))), (24, .inl (is (U8 x13))), (25, .inl (is (Bl (decide (x13.toNat < (48#8).toNat))))), (26, .inl (is (Bl (decide (x13.toNat < (48#8).toNat))))), (29, .inl (is (Bl ((decide (x13.toNat < (48#8).toNat)) || (decide ((57#8).toNat < x13.toNat))))))], [(6, pb 76 [is (Bl false), is (Sv ([] : List UInt8)), is (I16 0)])]⟩ ?_ ?_
                · cases hb : decide (x13.toNat < (48#8).toNat)
                  · skip
                    refine AL_cons (LR_on rfl rfl rfl (LR_move (at_tmp 11 _) rfl)) (sS (sT rfl (sT1 rfl)) sB0 sF0) ?_
                    refine AL_cons (LR_on rfl rfl rfl (LR_bin (at_tmp 27 _) (at_c (v' := U8 (57#8)) rfl) (gtr_U8 x13 (57#8)) rfl)) (sS (sT rfl (sA (sT1 rfl) sT0)) sB0 sF0) ?_
                    refine AL_cons (LR_pick (b := false) (at_tmp 26 _) (at_c (v' := Bl true) rfl) (at_tmp 28 _) rfl) (sS (sA (sT1 rfl) (sA sT0 (sT1 rfl))) sB0 sF0) ?_
                    exact AL_nil ⟨rfl, weak0 ((sT rfl (sT rfl (sT rfl (sT rfl (sT rfl (sT rfl (sT rfl (sT rfl (sT rfl (sT rfl (sT rfl (sT rfl sT0))))))))))))) (sub_keep sub_nil)⟩
                  · skip
                    refine AL_cons (LR_off (b := true) rfl rfl rfl rfl) (sS (sT1 rfl) sB0 sF0) ?_
                    refine AL_cons (LR_off (b := true) rfl rfl rfl rfl) (sS (sT1 rfl) sB0 sF0) ?_
                    refine AL_cons (LR_pick (b := true) (at_tmp 26 _) (at_c (v' := Bl true) rfl) (at_tmp 28 _) rfl) (sS (sA (sT1 rfl) (sA sT0 (sT1 rfl))) sB0 sF0) ?_
                    exact AL_nil ⟨rfl, weak0 ((sT rfl (sT rfl (sT rfl (sT rfl (sT rfl (sT rfl (sT rfl (sT rfl (sT rfl (sT rfl (sT rfl (sT rfl sT0))))))))))))) (sub_keep sub_nil)⟩
                refine AL_nil ?_
                exact thenN (cutLeaf (v := (decide (x13.toNat < (48#8).toNat)) || (decide ((57#8).toNat < x13.toNat))) hr (weak0 ((sT rfl (sT rfl (sT rfl (sT rfl (sT rfl (sT rfl (sT rfl (sT rfl (sT rfl sT0)))))))))) (sub_keep sub_nil)))
              · rintro x14 hr
                show AW Hfaa.prog _ _ _ ⟨[(0, .inl (is (Bl a0))), (1, .inl (is (Sv a1))), (2, .inl (is (I64 a2))), (6, .inr (.inl (6, 0))), (8, .inl (is (I64 x7))), (9, .inl (is (I64 x8))), (10, .inl (is (I64 x9))), (11, .inl (is (U8 x13))), (29, .inl (is (Bl x14)))], [(6, pb 76 [is (Bl false), is (Sv ([] : List UInt8)), is (I16 0)])]⟩
                have hr : some out2 = F39_10 N a0 a1 a2 x7 x8 x9 x13 x14 := hr
                refine AW_condT (b := x14) rfl (fun h => ?_) (fun h => ?_)
                · have hr := hr.trans (cond_t h)
                  clear h
                  refine AW_seq1 ?_
                  refine AW_region ?_
                  refine AL_cons (bl76 parts_nil rfl rfl) (sS sT0 sB0 sF0) ?_
                  refine AL_cons (LR_store (at_tmp 6 _) (at_tmp 30 _) (cells_agg _) (onC (one_is rfl) (onC (one_is rfl) (onC (one_is rfl) onN))) sz76 rfl rfl) (sS (sA (sT1 rfl) (sT1 rfl)) (sB1 rfl) sF0) ?_
                  refine AL_cons (LR_assign (at_c (v' := Bl false) rfl) rfl) (sS sT0 sB0 sF0) ?_
                  refine AL_nil ?_
                  refine thenN ?_
                  refine AW_ret ?_
                  refine thenR ?_
                  refine blR ?_
                  refine thenR ?_
                  obtain ⟨r', hro, hr⟩ := map_inr hr
                  refine thenR (loopOut hro (fun he => ?_))
                  rw [he] at hr
                  refine blR ?_
                  refine thenR ?_
                  obtain rfl := Option.some.inj hr
                  exact res2 rfl (rvC rfl rfl ag76 sz76 rfl) (rvT rfl)
                · have hr := hr.trans (cond_f h)
                  clear h
                  refine AW_skip ?_
                  refine thenN ?_
                  refine AW_cut (σ := Bool) (fun v => ⟨[(0, .inl (is (Bl a0))), (1, .inl (is (Sv a1))), (2, .inl (is (I64 a2))), (6, .inr (.inl (6, 0))), (8, .inl (is (I64 x7))), (9, .inl (is (I64 x8))), (10, .inl (is (I64 x9))), (32, .inl (is (Bl v)))], [(6, pb 76 [is (Bl false), is (Sv ([] : List UInt8)), is (I16 0)])]⟩) (fun v => some out2 = F39_11 N a0 a1 a2 x7 x8 x9 v) ?_ ?_
                  · skip
                    refine AW_region ?_
                    refine AL_cons (LR_move (at_tmp 11 _) rfl) (sS (sT1 rfl) sB0 sF0) ?_
                    refine AL_cons (LR_bin (at_tmp 31 _) (at_c (v' := U8 (48#8)) rfl) (neq_U8 x13 (48#8)) rfl) (sS (sA (sT1 rfl) sT0) sB0 sF0) ?_
                    refine AL_nil ?_
                    exact thenN (cutLeaf (v := x13 != (48#8)) hr (weak0 ((sT rfl (sT rfl (sT rfl (sT rfl (sT rfl (sT rfl (sT rfl (sT rfl sT0))))))))) (sub_keep sub_nil)))
                  · rintro x15 hr
                    show AW Hfaa.prog _ _ _ ⟨[(0, .inl (is (Bl a0))), (1, .inl (is (Sv a1))), (2, .inl (is (I64 a2))), (6, .inr (.inl (6, 0))), (8, .inl (is (I64 x7))), (9, .inl (is (I64 x8))), (10, .inl (is (I64 x9))), (32, .inl (is (Bl x15)))], [(6, pb 76 [is (Bl false), is (Sv ([] : List UInt8)), is (I16 0)])]⟩
                    have hr : some out2 = F39_11 N a0 a1 a2 x7 x8 x9 x15 := hr
                    refine AW_condT (b := x15) rfl (fun h => ?_) (fun h => ?_)
                    · have hr := hr.trans (cond_t h)
                      clear h
                      refine AW_cut (σ := Int) (fun v => ⟨[(0, .inl (is (Bl a0))), (1, .inl (is (Sv a1))), (2, .inl (is (I64 a2))), (6, .inr (.inl (6, 0))), (8, .inl (is (I64 v))), (10, .inl (is (I64 x9)))], [(6, pb 76 [is (Bl false), is (Sv ([] : List UInt8)), is (I16 0)])]⟩) (fun v => some out2 = F39_12 N a0 a1 a2 x9 v) ?_ ?_
                      · skip
                        refine AW_region ?_
                        refine AL_cons (LR_move (at_tmp 8 _) rfl) (sS (sT1 rfl) sB0 sF0) ?_
                        refine AL_cons (LR_move (at_tmp 10 _) rfl) (sS (sT1 rfl) sB0 sF0) ?_
                        refine AL_cons (LR_bi2 (vx := I64 x7) (vy := I64 x9) (v := I64 (min x7 x9)) (at_tmp 33 _) (at_tmp 34 _) (fun cs w => min_I .i64 x7 x9 cs w) rfl) (sS (sA (sT1 rfl) (sT1 rfl)) sB0 sF0) ?_
                        refine AL_cons (LR_assign (at_tmp 35 _) rfl) (sS (sT1 rfl) sB0 sF0) ?_
                        refine AL_nil ?_
                        exact thenN (cutLeaf (v := min x7 x9) hr (weak0 ((sT rfl (sT rfl (sT rfl (sT rfl (sT rfl (sT rfl sT0))))))) (sub_keep sub_nil)))
                      · rintro x16 hr
                        show AW Hfaa.prog _ _ _ ⟨[(0, .inl (is (Bl a0))), (1, .inl (is (Sv a1))), (2, .inl (is (I64 a2))), (6, .inr (.inl (6, 0))), (8, .inl (is (I64 x16))), (10, .inl (is (I64 x9)))], [(6, pb 76 [is (Bl false), is (Sv ([] : List UInt8)), is (I16 0)])]⟩
                        have hr : some out2 = F39_12 N a0 a1 a2 x9 x16 := hr
                        refine AW_region ?_
                        refine AL_cons (LR_move (at_tmp 10 _) rfl) (sS (sT1 rfl) sB0 sF0) ?_
                        refine AL_cons (LR_bin (at_tmp 36 _) (at_c (v' := I64 1) rfl) (add_I64 x9 1) rfl) (sS (sA (sT1 rfl) sT0) sB0 sF0) ?_
                        refine AL_cons (LR_assign (at_tmp 37 _) rfl) (sS (sT1 rfl) sB0 sF0) ?_
                        refine AL_nil ?_
                        refine blN ?_
                        exact thenN (cutLeaf (v := (x16, w64 (x9 + 1))) hr (weak0 ((sT rfl (sT rfl (sT rfl (sT rfl (sT rfl (sT rfl (sT rfl sT0)))))))) (sub_keep sub_nil)))
                    · have hr := hr.trans (cond_f h)
                      clear h
                      refine AW_skip ?_
                      refine blN ?_
                      exact thenN (cutLeaf (v := (x7, x8)) hr (weak0 ((sT rfl (sT rfl (sT rfl (sT rfl (sT rfl (sT rfl (sT rfl sT0)))))))) (sub_keep sub_nil)))
          · rintro ⟨x11, x12⟩ hr
            show AW Hfaa.prog _ _ _ ⟨[(0, .inl (is (Bl a0))), (1, .inl (is (Sv a1))), (2, .inl (is (I64 a2))), (6, .inr (.inl (6, 0))), (8, .inl (is (I64 x11))), (10, .inl (is (I64 x9))), (9, .inl (is (I64 x12)))], [(6, pb 76 [is (Bl false), is (Sv ([] : List UInt8)), is (I16 0)])]⟩
            have hr : some out2 = F39_8 N a0 a1 a2 x9 x11 x12 := hr
            refine AW_region ?_
            refine AL_cons (LR_move (at_tmp 10 _) rfl) (sS (sT1 rfl) sB0 sF0) ?_
            refine AL_cons (LR_bin (at_tmp 19 _) (at_c (v' := I64 1) rfl) (add_I64 x9 1) rfl) (sS (sA (sT1 rfl) sT0) sB0 sF0) ?_
            refine AL_cons (LR_assign (at_tmp 20 _) rfl) (sS (sT1 rfl) sB0 sF0) ?_
            refine AL_nil ?_
            exact thenN (loopNext (x' := (x11, x12, w64 (x9 + 1))) hr (weak0 ((sT rfl (sT rfl (sT rfl (sT rfl (sT rfl (sT rfl (sT rfl sT0)))))))) (sub_keep sub_nil)))
        · have hr := hr.trans (cond_f h)
          clear h
          refine AW_exit ?_
          refine thenX ?_
          obtain ⟨r', hro, hr⟩ := map_inr hr
          refine thenX (loopOut hro (fun he => ?_))
          rw [he] at hr
          refine blH ?_
          exact thenN (cutLeaf (v := (x7, x8)) hr (weak0 ((sT rfl (sT rfl (sT rfl (sT rfl (sT rfl (sT rfl sT0))))))) (sub_keep sub_nil)))
    · rintro ⟨x2, x3⟩ hr
      show AW Hfaa.prog _ _ _ ⟨[(0, .inl (is (Bl a0))), (1, .inl (is (Sv a1))), (2, .inl (is (I64 a2))), (6, .inr (.inl (6, 0))), (8, .inl (is (I64 x2))), (9, .inl (is (I64 x3)))], [(6, pb 76 [is (Bl false), is (Sv ([] : List UInt8)), is (I16 0)])]⟩
      have hr : some r = F39_2 N a0 a1 a2 x2 x3 := hr
      refine AW_seq1 ?_
      refine AW_cut (σ := Bool) (fun v => ⟨[(0, .inl (is (Bl a0))), (1, .inl (is (Sv a1))), (2, .inl (is (I64 a2))), (6, .inr (.inl (6, 0))), (8, .inl (is (I64 x2))), (9, .inl (is (I64 x3))), (39, .inl (is (Bl v)))], [(6, pb 76 [is (Bl false), is (Sv ([] : List UInt8)), is (I16 0)])]⟩) (fun v => some r = F39_3 N a0 a1 a2 x2 x3 v) ?_ ?_
      · skip
        refine AW_region ?_
        refine AL_cons (LR_move (at_tmp 9 _) rfl) (sS (sT1 rfl) sB0 sF0) ?_
        refine AL_cons (LR_bin (at_tmp 38 _) (at_c (v' := I64 0) rfl) (eql_I64 x3 0) rfl) (sS (sA (sT1 rfl) sT0) sB0 sF0) ?_
        refine AL_nil ?_
        exact thenN (cutLeaf (v := x3 == 0) hr (weak0 ((sT rfl (sT rfl (sT rfl (sT rfl (sT rfl (sT rfl (sT rfl sT0)))))))) (sub_keep sub_nil)))
      · rintro x4 hr
        show AW Hfaa.prog _ _ _ ⟨[(0, .inl (is (Bl a0))), (1, .inl (is (Sv a1))), (2, .inl (is (I64 a2))), (6, .inr (.inl (6, 0))), (8, .inl (is (I64 x2))), (9, .inl (is (I64 x3))), (39, .inl (is (Bl x4)))], [(6, pb 76 [is (Bl false), is (Sv ([] : List UInt8)), is (I16 0)])]⟩
        have hr : some r = F39_3 N a0 a1 a2 x2 x3 x4 := hr
        refine AW_condT (b := x4) rfl (fun h => ?_) (fun h => ?_)
        · have hr := hr.trans (cond_t h)
          clear h
          refine AW_seq1 ?_
          refine AW_region ?_
          refine AL_cons (LR_move (at_tmp 0 _) rfl) (sS (sT1 rfl) sB0 sF0) ?_
          refine AL_cons (bl76 (parts_cons (i := 0) (off := 0) (at_tmp 40 _) (cells_one (one_is rfl)) rfl rfl parts_nil) rfl rfl) (sS (sA (sT1 rfl) sT0) sB0 sF0) ?_
          refine AL_cons (LR_store (at_tmp 6 _) (at_tmp 41 _) (cells_agg _) (onC (one_is rfl) (onC (one_is rfl) (onC (one_is rfl) onN))) sz76 rfl rfl) (sS (sA (sT1 rfl) (sT1 rfl)) (sB1 rfl) sF0) ?_
          refine AL_cons (LR_assign (at_c (v' := Bl true) rfl) rfl) (sS sT0 sB0 sF0) ?_
          refine AL_nil ?_
          refine thenN ?_
          refine AW_ret ?_
          refine thenR ?_
          obtain rfl := Option.some.inj hr
          exact res2 rfl (rvC rfl rfl ag76 sz76 rfl) (rvT rfl)
        · have hr := hr.trans (cond_f h)
          clear h
          refine AW_skip ?_
          refine thenN ?_
          refine AW_cut (σ := Int) (fun v => ⟨[(0, .inl (is (Bl a0))), (1, .inl (is (Sv a1))), (2, .inl (is (I64 a2))), (6, .inr (.inl (6, 0))), (8, .inl (is (I64 x2))), (9, .inl (is (I64 x3))), (12, .inl (is (I64 v)))], [(6, pb 76 [is (Bl false), is (Sv ([] : List UInt8)), is (I16 0)])]⟩) (fun v => some r = F39_4 N a0 a1 a2 x2 x3 v) ?_ ?_
          · skip
            refine AW_region ?_
            refine AL_cons (LR_move (at_tmp 1 _) rfl) (sS (sT1 rfl) sB0 sF0) ?_
            refine AL_cons (LR_bi1 (at_tmp 42 _) (len_S Hfaa.underlying9 a1) rfl) (sS (sT1 rfl) sB0 sF0) ?_
            refine AL_cons (LR_move (at_tmp 9 _) rfl) (sS (sT1 rfl) sB0 sF0) ?_
            refine AL_cons (LR_bin (at_tmp 43 _) (at_tmp 44 _) (sub_I64 (a1.length : Int) x3) rfl) (sS (sA (sT1 rfl) (sT1 rfl)) sB0 sF0) ?_
            refine AL_cons (LR_assign (at_tmp 45 _) rfl) (sS (sT1 rfl) sB0 sF0) ?_
            refine AL_nil ?_
            exact thenN (cutLeaf (v := w64 ((a1.length : Int) - x3)) hr (weak0 ((sT rfl (sT rfl (sT rfl (sT rfl (sT rfl (sT rfl (sT rfl sT0)))))))) (sub_keep sub_nil)))
          · rintro x5 hr
            show AW Hfaa.prog _ _ _ ⟨[(0, .inl (is (Bl a0))), (1, .inl (is (Sv a1))), (2, .inl (is (I64 a2))), (6, .inr (.inl (6, 0))), (8, .inl (is (I64 x2))), (9, .inl (is (I64 x3))), (12, .inl (is (I64 x5)))], [(6, pb 76 [is (Bl false), is (Sv ([] : List UInt8)), is (I16 0)])]⟩
            have hr : some r = F39_4 N a0 a1 a2 x2 x3 x5 := hr
            refine AW_seq1 ?_
            refine AW_cut (σ := Bool) (fun v => ⟨[(0, .inl (is (Bl a0))), (1, .inl (is (Sv a1))), (2, .inl (is (I64 a2))), (6, .inr (.inl (6, 0))), (8, .inl (is (I64 x2))), (9, .inl (is (I64 x3))), (12, .inl (is (I64 x5))), (65, .inl (is (Bl v)))], [(6, pb 76 [is (Bl false), is (Sv ([] : List UInt8)), is (I16 0)])]⟩) (fun v => some r = F39_5 N a0 a1 a2 x2 x3 x5 v) ?_ ?_
            · skip
              refine AW_region ?_
              refine AL_cons (LR_move (at_tmp 9 _) rfl) (sS (sT1 rfl) sB0 sF0) ?_
              refine AL_cons (LR_move (at_tmp 8 _) rfl) (sS (sT1 rfl) sB0 sF0) ?_
              refine AL_cons (LR_bin (at_tmp 46 _) (at_tmp 47 _) (sub_I64 x3 x2) rfl) (sS (sA (sT1 rfl) (sT1 rfl)) sB0 sF0) ?_
              refine AL_cons (LR_bin (at_tmp 48 _) (at_c (v' := I64 800) rfl) (gtr_I64 (w64 (x3 - x2)) 800) rfl) (sS (sA (sT1 rfl) sT0) sB0 sF0) ?_
              refine AL_cons (LR_move (at_tmp 49 _) rfl) (sS (sT1 rfl) sB0 sF0) ?_
              refine AL_cutAt 3 ⟨[(0, .inl (is (Bl a0))), (1, .inl (is (Sv a1))), (2, .inl (is (I64 a2))), (6, .inr (.inl (6, 0))), (8, .inl (is (I64 x2))), (9, .inl (is (I64 x3))), (12, .inl (is (I64 x5))), (46, .inl (is (I64 x3))), (47, .inl (is (I64 x2))), (48, .inl (is (I64 (w64 (x3 - x2))))), (49, .inl (is (Bl (decide ((w64 (x3 - x2)) > 800))))), (50, .inl (is (Bl (decide ((w64 (x3 - x2)) > 800))))), (53, .inl (is (Bl ((decide ((w64 (x3 - x2)) > 800)) || (decide (a2 > 2000))))))], [(6, pb 76 [is (Bl false), is (Sv ([] : List UInt8)), is (I16 0)])]⟩ ?_ ?_
              · cases hb : decide ((w64 (x3 - x2)) > 800)
                · skip
                  refine AL_cons (LR_on rfl rfl rfl (LR_move (at_tmp 2 _) rfl)) (sS (sT rfl (sT1 rfl)) sB0 sF0) ?_
                  refine AL_cons (LR_on rfl rfl rfl (LR_bin (at_tmp 51 _) (at_c (v' := I64 2000) rfl) (gtr_I64 a2 2000) rfl)) (sS (sT rfl (sA (sT1 rfl) sT0)) sB0 sF0) ?_
                  refine AL_cons (LR_pick (b := false) (at_tmp 50 _) (at_c (v' := Bl true) rfl) (at_tmp 52 _) rfl) (sS (sA (sT1 rfl) (sA sT0 (sT1 rfl))) sB0 sF0) ?_
                  exact AL_nil ⟨rfl, weak0 ((sT rfl (sT rfl (sT rfl (sT rfl (sT rfl (sT rfl (sT rfl (sT rfl (sT rfl (sT rfl (sT rfl (sT rfl (sT rfl sT0)))))))))))))) (sub_keep sub_nil)⟩
                · skip
                  refine AL_cons (LR_off (b := true) rfl rfl rfl rfl) (sS (sT1 rfl) sB0 sF0) ?_
                  refine AL_cons (LR_off (b := true) rfl rfl rfl rfl) (sS (sT1 rfl) sB0 sF0) ?_
                  refine AL_cons (LR_pick (b := true) (at_tmp 50 _) (at_c (v' := Bl true) rfl) (at_tmp 52 _) rfl) (sS (sA (sT1 rfl) (sA sT0 (sT1 rfl))) sB0 sF0) ?_
                  exact AL_nil ⟨rfl, weak0 ((sT rfl (sT rfl (sT rfl (sT rfl (sT rfl (sT rfl (sT rfl (sT rfl (sT rfl (sT rfl (sT rfl (sT rfl (sT rfl sT0)))))))))))))) (sub_keep sub_nil)⟩
              refine AL_cons (LR_move (at_tmp 53 _) rfl) (sS (sT1 rfl) sB0 sF0) ?_
              refine AL_cutAt 5 ⟨[(0, .inl (is (Bl a0))), (1, .inl (is (Sv a1))), (2, .inl (is (I64 a2))), (6, .inr (.inl (6, 0))), (8, .inl (is (I64 x2))), (9, .inl (is (I64 x3))), (12, .inl (is (I64 x5))), (46, .inl (is (I64 x3))), (47, .inl (is (I64 x2))), (48, .inl (is (I64 (w64 (x3 - x2))))), (49, .inl (is (Bl (decide ((w64 (x3 - x2)) > 800))))), (50, .inl (is (Bl (decide ((w64 (x3 - x2)) > 800))))), (53, .inl (is (Bl ((decide ((w64 (x3 - x2)) > 800)) || (decide (a2 > 2000)))))), (54, .inl (is (Bl ((decide ((w64 (x3 - x2)) > 800)) || (decide (a2 > 2000)))))), (59, .inl (is (Bl (((decide ((w64 (x3 - x2)) > 800)) || (decide (a2 > 2000))) || (decide ((w64 (a2 + x5)) > 2000))))))], [(6, pb 76 [is (Bl false), is (Sv ([] : List UInt8)), is (I16 0)])]⟩ ?_ ?_
              · cases hb : (decide ((w64 (x3 - x2)) > 800)) || (decide (a2 > 2000))
                · skip
                  refine AL_cons (LR_on rfl rfl rfl (LR_move (at_tmp 2 _) rfl)) (sS (sT rfl (sT1 rfl)) sB0 sF0) ?_
                  refine AL_cons (LR_on rfl rfl rfl (LR_move (at_tmp 12 _) rfl)) (sS (sT rfl (sT1 rfl)) sB0 sF0) ?_
                  refine AL_cons (LR_on rfl rfl rfl (LR_bin (at_tmp 55 _) (at_tmp 56 _) (add_I64 a2 x5) rfl)) (sS (sT rfl (sA (sT1 rfl) (sT1 rfl))) sB0 sF0) ?_
                  refine AL_cons (LR_on rfl rfl rfl (LR_bin (at_tmp 57 _) (at_c (v' := I64 2000) rfl) (gtr_I64 (w64 (a2 + x5)) 2000) rfl)) (sS (sT rfl (sA (sT1 rfl) sT0)) sB0 sF0) ?_
                  refine AL_cons (LR_pick (b := false) (at_tmp 54 _) (at_c (v' := Bl true) rfl) (at_tmp 58 _) rfl) (sS (sA (sT1 rfl) (sA sT0 (sT1 rfl))) sB0 sF0) ?_
                  exact AL_nil ⟨rfl, weak0 ((sT rfl (sT rfl (sT rfl (sT rfl (sT rfl (sT rfl (sT rfl (sT rfl (sT rfl (sT rfl (sT rfl (sT rfl (sT rfl (sT rfl (sT rfl sT0)))))))))))))))) (sub_keep sub_nil)⟩
                · skip
                  refine AL_cons (LR_off (b := true) rfl rfl rfl rfl) (sS (sT1 rfl) sB0 sF0) ?_
                  refine AL_cons (LR_off (b := true) rfl rfl rfl rfl) (sS (sT1 rfl) sB0 sF0) ?_
                  refine AL_cons (LR_off (b := true) rfl rfl rfl rfl) (sS (sT1 rfl) sB0 sF0) ?_
                  refine AL_cons (LR_off (b := true) rfl rfl rfl rfl) (sS (sT1 rfl) sB0 sF0) ?_
                  refine AL_cons (LR_pick (b := true) (at_tmp 54 _) (at_c (v' := Bl true) rfl) (at_tmp 58 _) rfl) (sS (sA (sT1 rfl) (sA sT0 (sT1 rfl))) sB0 sF0) ?_
                  exact AL_nil ⟨rfl, weak0 ((sT rfl (sT rfl (sT rfl (sT rfl (sT rfl (sT rfl (sT rfl (sT rfl (sT rfl (sT rfl (sT rfl (sT rfl (sT rfl (sT rfl (sT rfl sT0)))))))))))))))) (sub_keep sub_nil)⟩
              refine AL_cons (LR_move (at_tmp 59 _) rfl) (sS (sT1 rfl) sB0 sF0) ?_
              refine AL_cutAt 5 ⟨[(0, .inl (is (Bl a0))), (1, .inl (is (Sv a1))), (2, .inl (is (I64 a2))), (6, .inr (.inl (6, 0))), (8, .inl (is (I64 x2))), (9, .inl (is (I64 x3))), (12, .inl (is (I64 x5))), (46, .inl (is (I64 x3))), (47, .inl (is (I64 x2))), (48, .inl (is (I64 (w64 (x3 - x2))))), (49, .inl (is (Bl (decide ((w64 (x3 - x2)) > 800))))), (50, .inl (is (Bl (decide ((w64 (x3 - x2)) > 800))))), (53, .inl (is (Bl ((decide ((w64 (x3 - x2)) > 800)) || (decide (a2 > 2000)))))), (54, .inl (is (Bl ((decide ((w64 (x3 - x2)) > 800)) || (decide (a2 > 2000)))))), (59, .inl (is (Bl (((decide ((w64 (x3 - x2)) > 800)) || (decide (a2 > 2000))) || (decide ((w64 (a2 + x5)) > 2000)))))), (60, .inl (is (Bl (((decide ((w64 (x3 - x2)) > 800)) || (decide (a2 > 2000))) || (decide ((w64 (a2 + x5)) > 2000)))))), (65, .inl (is (Bl ((((decide ((w64 (x3 - x2)) > 800)) || (decide (a2 > 2000))) || (decide ((w64 (a2 + x5)) > 2000))) || (decide ((w64 (a2 + x5)) < (-2000)))))))], [(6, pb 76 [is (Bl false), is (Sv ([] : List UInt8)), is (I16 0)])]⟩ ?_ ?_
              · cases hb : ((decide ((w64 (x3 - x2)) > 800)) || (decide (a2 > 2000))) || (decide ((w64 (a2 + x5)) > 2000))
                · skip
                  refine AL_cons (LR_on rfl rfl rfl (LR_move (at_tmp 2 _) rfl)) (sS (sT rfl (sT1 rfl)) sB0 sF0) ?_
                  refine AL_cons (LR_on rfl rfl rfl (LR_move (at_tmp 12 _) rfl)) (sS (sT rfl (sT1 rfl)) sB0 sF0) ?_
                  refine AL_cons (LR_on rfl rfl rfl (LR_bin (at_tmp 61 _) (at_tmp 62 _) (add_I64 a2 x5) rfl)) (sS (sT rfl (sA (sT1 rfl) (sT1 rfl))) sB0 sF0) ?_
                  refine AL_cons (LR_on rfl rfl rfl (LR_bin (at_tmp 63 _) (at_c (v' := I64 (-2000)) rfl) (lss_I64 (w64 (a2 + x5)) (-2000)) rfl)) (sS (sT rfl (sA (sT1 rfl) sT0)) sB0 sF0) ?_
                  refine AL_cons (LR_pick (b := false) (at_tmp 60 _) (at_c (v' := Bl true) rfl) (at_tmp 64 _) rfl) (sS (sA (sT1 rfl) (sA sT0 (sT1 rfl))) sB0 sF0) ?_
                  exact AL_nil ⟨rfl, weak0 ((sT rfl (sT rfl (sT rfl (sT rfl (sT rfl (sT rfl (sT rfl (sT rfl (sT rfl (sT rfl (sT rfl (sT rfl (sT rfl (sT rfl (sT rfl (sT rfl (sT rfl sT0)))))))))))))))))) (sub_keep sub_nil)⟩
                · skip
                  refine AL_cons (LR_off (b := true) rfl rfl rfl rfl) (sS (sT1 rfl) sB0 sF0) ?_
                  refine AL_cons (LR_off (b := true) rfl rfl rfl rfl) (sS (sT1 rfl) sB0 sF0) ?_
                  refine AL_cons (LR_off (b := true) rfl rfl rfl rfl) (sS (sT1 rfl) sB0 sF0) ?_
                  refine AL_cons (LR_off (b := true) rfl rfl rfl rfl) (sS (sT1 rfl) sB0 sF0) ?_
                  refine AL_cons (LR_pick (b := true) (at_tmp 60 _) (at_c (v' := Bl true) rfl) (at_tmp 64 _) rfl) (sS (sA (sT1 rfl) (sA sT0 (sT1 rfl))) sB0 sF0) ?_
                  exact AL_nil ⟨rfl, weak0 ((sT rfl (sT rfl (sT rfl (sT rfl (sT rfl (sT rfl (sT rfl (sT rfl (sT rfl (sT rfl (sT rfl (sT rfl (sT rfl (sT rfl (sT rfl (sT rfl (sT rfl sT0)))))))))))))))))) (sub_keep sub_nil)⟩
              refine AL_nil ?_
              exact thenN (cutLeaf (v := (((decide ((w64 (x3 - x2)) > 800)) || (decide (a2 > 2000))) || (decide ((w64 (a2 + x5)) > 2000))) || (decide ((w64 (a2 + x5)) < (-2000)))) hr (weak0 ((sT rfl (sT rfl (sT rfl (sT rfl (sT rfl (sT rfl (sT rfl (sT rfl sT0))))))))) (sub_keep sub_nil)))
            · rintro x6 hr
              show AW Hfaa.prog _ _ _ ⟨[(0, .inl (is (Bl a0))), (1, .inl (is (Sv a1))), (2, .inl (is (I64 a2))), (6, .inr (.inl (6, 0))), (8, .inl (is (I64 x2))), (9, .inl (is (I64 x3))), (12, .inl (is (I64 x5))), (65, .inl (is (Bl x6)))], [(6, pb 76 [is (Bl false), is (Sv ([] : List UInt8)), is (I16 0)])]⟩
              have hr : some r = F39_5 N a0 a1 a2 x2 x3 x5 x6 := hr
              refine AW_condT (b := x6) rfl (fun h => ?_) (fun h => ?_)
              · have hr := hr.trans (cond_t h)
                clear h
                refine AW_seq1 ?_
                refine AW_region ?_
                refine AL_cons (bl76 parts_nil rfl rfl) (sS sT0 sB0 sF0) ?_
                refine AL_cons (LR_store (at_tmp 6 _) (at_tmp 66 _) (cells_agg _) (onC (one_is rfl) (onC (one_is rfl) (onC (one_is rfl) onN))) sz76 rfl rfl) (sS (sA (sT1 rfl) (sT1 rfl)) (sB1 rfl) sF0) ?_
                refine AL_cons (LR_assign (at_c (v' := Bl false) rfl) rfl) (sS sT0 sB0 sF0) ?_
                refine AL_nil ?_
                refine thenN ?_
                refine AW_ret ?_
                refine thenR ?_
                obtain rfl := Option.some.inj hr
                exact res2 rfl (rvC rfl rfl ag76 sz76 rfl) (rvT rfl)
              · have hr := hr.trans (cond_f h)
                clear h
                refine AW_skip ?_
                refine thenN ?_
                refine AW_seq1 ?_
                refine AW_region ?_
                refine AL_cons (LR_move (at_tmp 0 _) rfl) (sS (sT1 rfl) sB0 sF0) ?_
                refine AL_cons (LR_move (at_tmp 1 _) rfl) (sS (sT1 rfl) sB0 sF0) ?_
                refine AL_cons (LR_move (at_tmp 8 _) rfl) (sS (sT1 rfl) sB0 sF0) ?_
                refine AL_cons (LR_move (at_tmp 9 _) rfl) (sS (sT1 rfl) sB0 sF0) ?_
                obtain ⟨hg10, hr⟩ := guard_some hr
                refine AL_cons (LR_sliceS (i := (x2 : Int)) (j := (x3 : Int)) Hfaa.underlying9 (at_tmp 68 _) (fun B bn s a w hs hr => .inr ⟨_, congrArg some ((at_tmp 69 (.inl (is (I64 x2)))) B bn s a w hs hr)⟩) (fun B bn s a w hs hr => .inr ⟨_, congrArg some ((at_tmp 70 (.inl (is (I64 x3)))) B bn s a w hs hr)⟩) (dand3 hg10) rfl) (sS (sA (sT1 rfl) (sA (sT1 rfl) (sT1 rfl))) sB0 sF0) ?_
                refine AL_cons (LR_move (at_tmp 2 _) rfl) (sS (sT1 rfl) sB0 sF0) ?_
                refine AL_cons (LR_move (at_tmp 12 _) rfl) (sS (sT1 rfl) sB0 sF0) ?_
                refine AL_cons (LR_bin (at_tmp 72 _) (at_tmp 73 _) (add_I64 a2 x5) rfl) (sS (sA (sT1 rfl) (sT1 rfl)) sB0 sF0) ?_
                refine AL_cons (LR_conv (vx := I64 (w64 (a2 + x5))) (at_tmp 74 _) (conv_I16 Hfaa.underlying3 Hfaa.underlying44 (w64 (a2 + x5))) rfl) (sS (sT1 rfl) sB0 sF0) ?_
                refine AL_cons (bl76 (parts_cons (i := 0) (off := 0) (at_tmp 67 _) (cells_one (one_is rfl)) rfl rfl (parts_cons (i := 1) (off := 1) (at_tmp 71 _) (cells_one (one_is rfl)) rfl rfl (parts_cons (i := 2) (off := 2) (at_tmp 75 _) (cells_one (one_is rfl)) rfl rfl parts_nil))) rfl rfl) (sS (sA (sT1 rfl) (sA (sT1 rfl) (sA (sT1 rfl) sT0))) sB0 sF0) ?_
                refine AL_cons (LR_store (at_tmp 6 _) (at_tmp 76 _) (cells_agg _) (onC (one_is rfl) (onC (one_is rfl) (onC (one_is rfl) onN))) sz76 rfl rfl) (sS (sA (sT1 rfl) (sT1 rfl)) (sB1 rfl) sF0) ?_
                refine AL_cons (LR_assign (at_c (v' := Bl true) rfl) rfl) (sS sT0 sB0 sF0) ?_
                refine AL_nil ?_
                refine thenN ?_
                refine AW_ret ?_
                obtain rfl := Option.some.inj hr
                exact res2 rfl (rvC rfl rfl ag76 sz76 rfl) (rvT rfl)
/-- dec/dmodel.number -/
def F377_10 (N : Nat) (x13 : Bool) (x14 : List UInt8) (x15 : Int) (x16 : Bool) : Option (BitVec 8 × Bool × List UInt8 × Int × Int × Int) := bif x16 then some ((4#8, false, ([] : List UInt8), 0, 0, 0)) else some (0#8, x13, x14, x15, 0, 0)
def F377_9 (N : Nat) (x12 : Bool) (x13 : Bool) (x14 : List UInt8) (x15 : Int) : Option (BitVec 8 × Bool × List UInt8 × Int × Int × Int) := F377_10 N x13 x14 x15 (!x12)
def F377_8 (N : Nat) (a3 : Bool) (x4 : List UInt8) (x5 : List UInt8) (x11 : Int) : Option (BitVec 8 × Bool × List UInt8 × Int × Int × Int) := bif decide (x4.length + x5.length ≤ 9223372036854775807) then (F39 N a3 (x4 ++ x5) (w64 (x11 - (x5.length : Int)))).bind fun y32 => F377_9 N y32.2.2.2 y32.1 y32.2.1 y32.2.2.1 else none
def F377_15 (N : Nat) (a3 : Bool) (x4 : List UInt8) (x5 : List UInt8) (x20 : Bool) (x23 : Int) : Option (BitVec 8 × Bool × List UInt8 × Int × Int × Int) := bif x20 then F377_8 N a3 x4 x5 (w64 (0 - x23)) else F377_8 N a3 x4 x5 x23
def F377_18 (N : Nat) (a3 : Bool) (x4 : List UInt8) (x5 : List UInt8) (x18 : List UInt8) (x20 : Bool) (x25 : Int) (x27 : Int) : Option ((Int × Int) ⊕ (BitVec 8 × Bool × List UInt8 × Int × Int × Int)) := some (.inl ((x27, w64 (x25 + 1))))
def F377_17 (N : Nat) (a3 : Bool) (x4 : List UInt8) (x5 : List UInt8) (x18 : List UInt8) (x20 : Bool) (x24 : Int) (x25 : Int) (x26 : Bool) : Option ((Int × Int) ⊕ (BitVec 8 × Bool × List UInt8 × Int × Int × Int)) := bif x26 then bif (decide (0 ≤ (x25 : Int)) && decide ((x25 : Int) < (x18.length : Int))) then F377_18 N a3 x4 x5 x18 x20 x25 (min (w64 ((w64 (10 * x24)) + (w64 ((((x18.getD ((x25 : Int)).toNat 0).toBitVec) - (48#8)).toNat : Int)))) 1000000) else none else (F377_15 N a3 x4 x5 x20 x24).map Sum.inr
def F377_L16b (N : Nat) (a3 : Bool) (x4 : List UInt8) (x5 : List UInt8) (x18 : List UInt8) (x20 : Bool) (x24 : Int) (x25 : Int) : Option ((Int × Int) ⊕ (BitVec 8 × Bool × List UInt8 × Int × Int × Int)) := F377_17 N a3 x4 x5 x18 x20 x24 x25 (decide (x25 < (x18.length : Int)))
def F377_L16 (N : Nat) (a3 : Bool) (x4 : List UInt8) (x5 : List UInt8) (x18 : List UInt8) (x20 : Bool) : (Int × Int) → Option ((Int × Int) ⊕ (BitVec 8 × Bool × List UInt8 × Int × Int × Int)) := fun v => F377_L16b N a3 x4 x5 x18 x20 v.1 v.2
def F377_14 (N : Nat) (a0 : List UInt8) (a3 : Bool) (x4 : List UInt8) (x5 : List UInt8) (x18 : List UInt8) (x19 : Int) (x20 : Bool) (x21 : Int) (x22 : Bool) : Option (BitVec 8 × Bool × List UInt8 × Int × Int × Int) := bif x22 then (F376 N a0 (w64 (x19 + x21))).bind fun y39 => some (y39.1, y39.2.1, y39.2.2.1, y39.2.2.2.1, y39.2.2.2.2.1, y39.2.2.2.2.2) else iterL (F377_L16 N a3 x4 x5 x18 x20) N (0, 0)
def F377_13 (N : Nat) (a0 : List UInt8) (a3 : Bool) (x4 : List UInt8) (x5 : List UInt8) (x18 : List UInt8) (x19 : Int) (x20 : Bool) (x21 : Int) : Option (BitVec 8 × Bool × List UInt8 × Int × Int × Int) := F377_14 N a0 a3 x4 x5 x18 x19 x20 x21 ((decide (x21 < (x18.length : Int))) || (x21 == 0))
def F377_12 (N : Nat) (a0 : List UInt8) (a3 : Bool) (x4 : List UInt8) (x5 : List UInt8) (x18 : List UInt8) (x19 : Int) (x20 : Bool) : Option (BitVec 8 × Bool × List UInt8 × Int × Int × Int) := (F403 N x18).bind fun y40 => F377_13 N a0 a3 x4 x5 x18 x19 x20 y40
def F377_21 (N : Nat) (a0 : List UInt8) (a3 : Bool) (x4 : List UInt8) (x5 : List UInt8) (x17 : Int) (x29 : Bool) (x30 : List UInt8) : Option (BitVec 8 × Bool × List UInt8 × Int × Int × Int) := F377_12 N a0 a3 x4 x5 x30 (w64 (x17 + 1)) x29
def F377_20 (N : Nat) (a0 : List UInt8) (a3 : Bool) (x2 : List UInt8) (x4 : List UInt8) (x5 : List UInt8) (x17 : Int) (x29 : Bool) : Option (BitVec 8 × Bool × List UInt8 × Int × Int × Int) := bif (decide (0 ≤ (1 : Int)) && (decide ((1 : Int) ≤ (x2.length : Int)) && decide ((x2.length : Int) ≤ (x2.length : Int)))) then F377_21 N a0 a3 x4 x5 x17 x29 ((x2.drop ((1 : Int)).toNat).take (((x2.length : Int)).toNat - ((1 : Int)).toNat)) else none
def F377_19 (N : Nat) (a0 : List UInt8) (a3 : Bool) (x2 : List UInt8) (x4 : List UInt8) (x5 : List UInt8) (x17 : Int) (x28 : Bool) : Option (BitVec 8 × Bool × List UInt8 × Int × Int × Int) := bif x28 then bif (decide (0 ≤ (0 : Int)) && decide ((0 : Int) < (x2.length : Int))) then F377_20 N a0 a3 x2 x4 x5 x17 (((x2.getD ((0 : Int)).toNat 0).toBitVec) == (45#8)) else none else F377_12 N a0 a3 x4 x5 x2 x17 false
def F377_11 (N : Nat) (a0 : List UInt8) (a3 : Bool) (x2 : List UInt8) (x4 : List UInt8) (x5 : List UInt8) (x17 : Int) : Option (BitVec 8 × Bool × List UInt8 × Int × Int × Int) := bif x2 != ([] : List UInt8) then bif (decide (0 ≤ (0 : Int)) && decide ((0 : Int) < (x2.length : Int))) then bif ((x2.getD ((0 : Int)).toNat 0).toBitVec) == (43#8) then F377_19 N a0 a3 x2 x4 x5 x17 true else bif (decide (0 ≤ (0 : Int)) && decide ((0 : Int) < (x2.length : Int))) then F377_19 N a0 a3 x2 x4 x5 x17 (((x2.getD ((0 : Int)).toNat 0).toBitVec) == (45#8)) else none else none else F377_19 N a0 a3 x2 x4 x5 x17 false
def F377_7 (N : Nat) (a0 : List UInt8) (a2 : Int) (a3 : Bool) (x1 : List UInt8) (x2 : List UInt8) (x3 : Bool) (x4 : List UInt8) (x5 : List UInt8) (x10 : Bool) : Option (BitVec 8 × Bool × List UInt8 × Int × Int × Int) := bif x10 then (F376 N a0 (w64 (a2 + (x1.length : Int)))).bind fun y22 => some (y22.1, y22.2.1, y22.2.2.1, y22.2.2.2.1, y22.2.2.2.2.1, y22.2.2.2.2.2) else bif x3 then F377_11 N a0 a3 x2 x4 x5 (w64 ((a0.length : Int) - (x2.length : Int))) else F377_8 N a3 x4 x5 0
def F377_6 (N : Nat) (a0 : List UInt8) (a2 : Int) (a3 : Bool) (x1 : List UInt8) (x2 : List UInt8) (x3 : Bool) (x4 : List UInt8) (x5 : List UInt8) (x8 : Int) (x9 : Bool) : Option (BitVec 8 × Bool × List UInt8 × Int × Int × Int) := bif x9 then (F376 N a0 (w64 ((w64 ((w64 (a2 + (x4.length : Int))) + 1)) + x8))).bind fun y18 => some (y18.1, y18.2.1, y18.2.2.1, y18.2.2.2.1, y18.2.2.2.2.1, y18.2.2.2.2.2) else F377_7 N a0 a2 a3 x1 x2 x3 x4 x5 ((x4 == ([] : List UInt8)) && (x5 == ([] : List UInt8)))
def F377_5 (N : Nat) (a0 : List UInt8) (a2 : Int) (a3 : Bool) (x1 : List UInt8) (x2 : List UInt8) (x3 : Bool) (x4 : List UInt8) (x5 : List UInt8) (x8 : Int) : Option (BitVec 8 × Bool × List UInt8 × Int × Int × Int) := F377_6 N a0 a2 a3 x1 x2 x3 x4 x5 x8 (decide (x8 < (x5.length : Int)))
def F377_4 (N : Nat) (a0 : List UInt8) (a2 : Int) (a3 : Bool) (x1 : List UInt8) (x2 : List UInt8) (x3 : Bool) (x4 : List UInt8) (x5 : List UInt8) (x6 : Int) (x7 : Bool) : Option (BitVec 8 × Bool × List UInt8 × Int × Int × Int) := bif x7 then (F376 N a0 (w64 (a2 + x6))).bind fun y11 => some (y11.1, y11.2.1, y11.2.2.1, y11.2.2.2.1, y11.2.2.2.2.1, y11.2.2.2.2.2) else (F403 N x5).bind fun y41 => F377_5 N a0 a2 a3 x1 x2 x3 x4 x5 y41
def F377_3 (N : Nat) (a0 : List UInt8) (a2 : Int) (a3 : Bool) (x1 : List UInt8) (x2 : List UInt8) (x3 : Bool) (x4 : List UInt8) (x5 : List UInt8) (x6 : Int) : Option (BitVec 8 × Bool × List UInt8 × Int × Int × Int) := F377_4 N a0 a2 a3 x1 x2 x3 x4 x5 x6 (decide (x6 < (x4.length : Int)))
def F377_2 (N : Nat) (a0 : List UInt8) (a2 : Int) (a3 : Bool) (x1 : List UInt8) (x2 : List UInt8) (x3 : Bool) (x4 : List UInt8) (x5 : List UInt8) : Option (BitVec 8 × Bool × List UInt8 × Int × Int × Int) := (F403 N x4).bind fun y42 => F377_3 N a0 a2 a3 x1 x2 x3 x4 x5 y42
def F377_23 (N : Nat) (a0 : List UInt8) (a2 : Int) (a3 : Bool) (x1 : List UInt8) (x2 : List UInt8) (x3 : Bool) (x31 : Int) (x32 : Bool) : Option (BitVec 8 × Bool × List UInt8 × Int × Int × Int) := bif x32 then bif (decide (0 ≤ (0 : Int)) && (decide ((0 : Int) ≤ (x31 : Int)) && decide ((x31 : Int) ≤ (x1.length : Int)))) then bif (decide (0 ≤ (w64 (x31 + 1) : Int)) && (decide ((w64 (x31 + 1) : Int) ≤ (x1.length : Int)) && decide ((x1.length : Int) ≤ (x1.length : Int)))) then F377_2 N a0 a2 a3 x1 x2 x3 ((x1.drop ((0 : Int)).toNat).take (((x31 : Int)).toNat - ((0 : Int)).toNat)) ((x1.drop ((w64 (x31 + 1) : Int)).toNat).take (((x1.length : Int)).toNat - ((w64 (x31 + 1) : Int)).toNat)) else none else none else F377_2 N a0 a2 a3 x1 x2 x3 x1 ([] : List UInt8)
def F377_22 (N : Nat) (a0 : List UInt8) (a2 : Int) (a3 : Bool) (x1 : List UInt8) (x2 : List UInt8) (x3 : Bool) (x31 : Int) : Option (BitVec 8 × Bool × List UInt8 × Int × Int × Int) := F377_23 N a0 a2 a3 x1 x2 x3 x31 (decide (x31 ≥ 0))
def F377_1 (N : Nat) (a0 : List UInt8) (a2 : Int) (a3 : Bool) (x1 : List UInt8) (x2 : List UInt8) (x3 : Bool) : Option (BitVec 8 × Bool × List UInt8 × Int × Int × Int) := (F402 N x1 (46#8) (46#8)).bind fun y44 => F377_22 N a0 a2 a3 x1 x2 x3 y44
def F377_25 (N : Nat) (a0 : List UInt8) (a1 : List UInt8) (a2 : Int) (a3 : Bool) (x33 : Int) (x34 : Bool) : Option (BitVec 8 × Bool × List UInt8 × Int × Int × Int) := bif x34 then bif (decide (0 ≤ (0 : Int)) && (decide ((0 : Int) ≤ (x33 : Int)) && decide ((x33 : Int) ≤ (a1.length : Int)))) then bif (decide (0 ≤ (w64 (x33 + 1) : Int)) && (decide ((w64 (x33 + 1) : Int) ≤ (a1.length : Int)) && decide ((a1.length : Int) ≤ (a1.length : Int)))) then F377_1 N a0 a2 a3 ((a1.drop ((0 : Int)).toNat).take (((x33 : Int)).toNat - ((0 : Int)).toNat)) ((a1.drop ((w64 (x33 + 1) : Int)).toNat).take (((a1.length : Int)).toNat - ((w64 (x33 + 1) : Int)).toNat)) true else none else none else F377_1 N a0 a2 a3 a1 ([] : List UInt8) false
def F377_24 (N : Nat) (a0 : List UInt8) (a1 : List UInt8) (a2 : Int) (a3 : Bool) (x33 : Int) : Option (BitVec 8 × Bool × List UInt8 × Int × Int × Int) := F377_25 N a0 a1 a2 a3 x33 (decide (x33 ≥ 0))
def F377 (N : Nat) (a0 : List UInt8) (a1 : List UInt8) (a2 : Int) (a3 : Bool) : Option (BitVec 8 × Bool × List UInt8 × Int × Int × Int) := (F402 N a1 (101#8) (69#8)).bind fun y46 => F377_24 N a0 a1 a2 a3 y46
theorem C377 (N : Nat) (a0 : List UInt8) (a1 : List UInt8) (a2 : Int) (a3 : Bool) (r : BitVec 8 × Bool × List UInt8 × Int × Int × Int) (hr : some r = F377 N a0 a1 a2 a3) : Aw.Fn Hfaa.prog 377 [is (Sv a0), is (Sv a1), is (I64 a2), is (Bl a3)] (agg [is (U8 r.1), is (Bl r.2.1), is (Sv r.2.2.1), is (I16 r.2.2.2.1), is (I64 r.2.2.2.2.1), is (I32 r.2.2.2.2.2)]) := by
  refine fn_intro Hfaa.func377 rfl rfl rfl ?_
  intro bn0 w0 H0
  refine AW_seq1 ?_
  refine AW_region ?_
  refine AL_cons (zl297 rfl) (sS sT0 sB0 (sF1 rfl)) ?_
  refine AL_nil ?_
  refine thenN ?_
  refine AW_seq1 ?_
  refine AW_region ?_
  refine AL_cons (LR_move (at_tmp 1 _) rfl) (sS (sT1 rfl) sB0 sF0) ?_
  refine AL_cons (LR_assign (at_tmp 25 _) rfl) (sS (sT1 rfl) sB0 sF0) ?_
  refine AL_cons (LR_assign (at_c (v' := Sv ([] : List UInt8)) rfl) rfl) (sS sT0 sB0 sF0) ?_
  refine AL_cons (LR_assign (at_c (v' := Bl false) rfl) rfl) (sS sT0 sB0 sF0) ?_
  refine AL_nil ?_
  refine thenN ?_
  refine AW_cut (σ := List UInt8 × List UInt8 × Bool) (fun v => ⟨[(0, .inl (is (Sv a0))), (2, .inl (is (I64 a2))), (3, .inl (is (Bl a3))), (8, .inr (.inl (8, 0))), (9, .inl (is (Sv v.1))), (10, .inl (is (Sv v.2.1))), (11, .inl (is (Bl v.2.2)))], [(8, pb 297 [is (U8 (0#8)), is (Bl false), is (Sv ([] : List UInt8)), is (I16 0), is (I64 0), is (I32 0)])]⟩) (fun v => some r = F377_1 N a0 a2 a3 v.1 v.2.1 v.2.2) ?_ ?_
  · skip
    refine AW_cut (σ := Int) (fun v => ⟨[(0, .inl (is (Sv a0))), (1, .inl (is (Sv a1))), (2, .inl (is (I64 a2))), (3, .inl (is (Bl a3))), (8, .inr (.inl (8, 0))), (9, .inl (is (Sv a1))), (10, .inl (is (Sv ([] : List UInt8)))), (11, .inl (is (Bl false))), (12, .inl (is (I64 v)))], [(8, pb 297 [is (U8 (0#8)), is (Bl false), is (Sv ([] : List UInt8)), is (I16 0), is (I64 0), is (I32 0)])]⟩) (fun v => some r = F377_24 N a0 a1 a2 a3 v) ?_ ?_
    · skip
      refine AW_region ?_
      refine AL_cons (LR_move (at_tmp 1 _) rfl) (sS (sT1 rfl) sB0 sF0) ?_
      obtain ⟨y46, hy46, hr⟩ := bind_some hr
      refine AL_cons (LR_call Hfaa.func402 rfl rfl (C402 N a1 (101#8) (69#8) y46 hy46) (all_cons (at_tmp 26 _) (all_cons (at_c (v' := U8 (101#8)) rfl) (all_cons (at_c (v' := U8 (69#8)) rfl) all_nil))) rfl) (sS (sA (sT1 rfl) (sA sT0 (sA sT0 sT0))) sB0 sF0) ?_
      refine AL_cons (LR_assign (at_tmp 27 _) rfl) (sS (sT1 rfl) sB0 sF0) ?_
      refine AL_nil ?_
      exact thenN (cutLeaf (v := y46) hr (weak0 ((sT rfl (sT rfl (sT rfl (sT rfl (sT rfl (sT rfl (sT rfl (sT rfl (sT rfl sT0)))))))))) (sub_keep sub_nil)))
    · rintro x33 hr
      show AW Hfaa.prog _ _ _ ⟨[(0, .inl (is (Sv a0))), (1, .inl (is (Sv a1))), (2, .inl (is (I64 a2))), (3, .inl (is (Bl a3))), (8, .inr (.inl (8, 0))), (9, .inl (is (Sv a1))), (10, .inl (is (Sv ([] : List UInt8)))), (11, .inl (is (Bl false))), (12, .inl (is (I64 x33)))], [(8, pb 297 [is (U8 (0#8)), is (Bl false), is (Sv ([] : List UInt8)), is (I16 0), is (I64 0), is (I32 0)])]⟩
      have hr : some r = F377_24 N a0 a1 a2 a3 x33 := hr
      refine AW_cut (σ := Bool) (fun v => ⟨[(0, .inl (is (Sv a0))), (1, .inl (is (Sv a1))), (2, .inl (is (I64 a2))), (3, .inl (is (Bl a3))), (8, .inr (.inl (8, 0))), (9, .inl (is (Sv a1))), (10, .inl (is (Sv ([] : List UInt8)))), (11, .inl (is (Bl false))), (12, .inl (is (I64 x33))), (29, .inl (is (Bl v)))], [(8, pb 297 [is (U8 (0#8)), is (Bl false), is (Sv ([] : List UInt8)), is (I16 0), is (I64 0), is (I32 0)])]⟩) (fun v => some r = F377_25 N a0 a1 a2 a3 x33 v) ?_ ?_
      · skip
        refine AW_region ?_
        refine AL_cons (LR_move (at_tmp 12 _) rfl) (sS (sT1 rfl) sB0 sF0) ?_
        refine AL_cons (LR_bin (at_tmp 28 _) (at_c (v' := I64 0) rfl) (geq_I64 x33 0) rfl) (sS (sA (sT1 rfl) sT0) sB0 sF0) ?_
        refine AL_nil ?_
        exact thenN (cutLeaf (v := decide (x33 ≥ 0)) hr (weak0 ((sT rfl (sT rfl (sT rfl (sT rfl (sT rfl (sT rfl (sT rfl (sT rfl (sT rfl (sT rfl sT0))))))))))) (sub_keep sub_nil)))
      · rintro x34 hr
        show AW Hfaa.prog _ _ _ ⟨[(0, .inl (is (Sv a0))), (1, .inl (is (Sv a1))), (2, .inl (is (I64 a2))), (3, .inl (is (Bl a3))), (8, .inr (.inl (8, 0))), (9, .inl (is (Sv a1))), (10, .inl (is (Sv ([] : List UInt8)))), (11, .inl (is (Bl false))), (12, .inl (is (I64 x33))), (29, .inl (is (Bl x34)))], [(8, pb 297 [is (U8 (0#8)), is (Bl false), is (Sv ([] : List UInt8)), is (I16 0), is (I64 0), is (I32 0)])]⟩
        have hr : some r = F377_25 N a0 a1 a2 a3 x33 x34 := hr
        refine AW_condT (b := x34) rfl (fun h => ?_) (fun h => ?_)
        · have hr := hr.trans (cond_t h)
          clear h
          obtain ⟨hg73, hr⟩ := guard_some hr
          obtain ⟨hg74, hr⟩ := guard_some hr
          refine AW_draw mixed
            (lrC (LR_move (at_tmp 1 _) rfl)
            (lrC (LR_move (at_tmp 12 _) rfl)
            (lrC (LR_sliceS (i := (0 : Int)) (j := (x33 : Int)) Hfaa.underlying9 (at_tmp 30 _) (fun _ _ _ _ _ _ _ => .inl ⟨rfl, rfl⟩) (fun B bn s a w hs hr => .inr ⟨_, congrArg some ((at_tmp 31 (.inl (is (I64 x33)))) B bn s a w hs hr)⟩) (dand3 hg73) rfl)
            (lrC (LR_move (at_tmp 1 _) rfl)
            (lrC (LR_move (at_tmp 12 _) rfl)
            (lrC (LR_bin (at_tmp 34 _) (at_c (v' := I64 1) rfl) (add_I64 x33 1) rfl)
            (lrC (LR_sliceS (i := (w64 (x33 + 1) : Int)) (j := (a1.length : Int)) Hfaa.underlying9 (at_tmp 33 _) (fun B bn s a w hs hr => .inr ⟨_, congrArg some ((at_tmp 35 (.inl (is (I64 (w64 (x33 + 1)))))) B bn s a w hs hr)⟩) (fun _ _ _ _ _ _ _ => .inl ⟨rfl, rfl⟩) (dand3 hg74) rfl)
            (lrC (LR_assign (at_tmp 32 _) rfl)
            (lrC (LR_assign (at_tmp 36 _) rfl)
            (lrC (LR_assign (at_c (v' := Bl true) rfl) rfl)
            lrN))))))))))
            (by kernel_rfl)
            (saC (sS (sT1 rfl) sB0 sF0) (saC (sS (sT1 rfl) sB0 sF0) (saC (sS (sA (sT1 rfl) (sA sT0 (sT1 rfl))) sB0 sF0) (saC (sS (sT1 rfl) sB0 sF0) (saC (sS (sT1 rfl) sB0 sF0) (saC (sS (sA (sT1 rfl) sT0) sB0 sF0) (saC (sS (sA (sT1 rfl) (sA (sT1 rfl) sT0)) sB0 sF0) (saC (sS (sT1 rfl) sB0 sF0) (saC (sS (sT1 rfl) sB0 sF0) (saC (sS sT0 sB0 sF0) saN)))))))))) ?_
          exact thenN (cutLeaf (v := ((a1.drop ((0 : Int)).toNat).take (((x33 : Int)).toNat - ((0 : Int)).toNat), (a1.drop ((w64 (x33 + 1) : Int)).toNat).take (((a1.length : Int)).toNat - ((w64 (x33 + 1) : Int)).toNat), true)) hr (weak0 ((sT rfl (sT rfl (sT rfl (sT rfl (sT rfl (sT rfl (sT rfl sT0)))))))) (sub_keep sub_nil)))
        · have hr := hr.trans (cond_f h)
          clear h
          refine AW_skip ?_
          exact thenN (cutLeaf (v := (a1, ([] : List UInt8), false)) hr (weak0 ((sT rfl (sT rfl (sT rfl (sT rfl (sT rfl (sT rfl (sT rfl sT0)))))))) (sub_keep sub_nil)))
  · rintro ⟨x1, x2, x3⟩ hr
    show AW Hfaa.prog _ _ _ ⟨[(0, .inl (is (Sv a0))), (2, .inl (is (I64 a2))), (3, .inl (is (Bl a3))), (8, .inr (.inl (8, 0))), (9, .inl (is (Sv x1))), (10, .inl (is (Sv x2))), (11, .inl (is (Bl x3)))], [(8, pb 297 [is (U8 (0#8)), is (Bl false), is (Sv ([] : List UInt8)), is (I16 0), is (I64 0), is (I32 0)])]⟩
    have hr : some r = F377_1 N a0 a2 a3 x1 x2 x3 := hr
    refine AW_seq1 ?_
    refine AW_region ?_
    refine AL_cons (LR_move (at_tmp 9 _) rfl) (sS (sT1 rfl) sB0 sF0) ?_
    refine AL_cons (LR_assign (at_tmp 37 _) rfl) (sS (sT1 rfl) sB0 sF0) ?_
    refine AL_cons (LR_assign (at_c (v' := Sv ([] : List UInt8)) rfl) rfl) (sS sT0 sB0 sF0) ?_
    refine AL_nil ?_
    refine thenN ?_
    refine AW_cut (σ := List UInt8 × List UInt8) (fun v => ⟨[(0, .inl (is (Sv a0))), (2, .inl (is (I64 a2))), (3, .inl (is (Bl a3))), (8, .inr (.inl (8, 0))), (9, .inl (is (Sv x1))), (10, .inl (is (Sv x2))), (11, .inl (is (Bl x3))), (13, .inl (is (Sv v.1))), (14, .inl (is (Sv v.2)))], [(8, pb 297 [is (U8 (0#8)), is (Bl false), is (Sv ([] : List UInt8)), is (I16 0), is (I64 0), is (I32 0)])]⟩) (fun v => some r = F377_2 N a0 a2 a3 x1 x2 x3 v.1 v.2) ?_ ?_
    · skip
      refine AW_cut (σ := Int) (fun v => ⟨[(0, .inl (is (Sv a0))), (2, .inl (is (I64 a2))), (3, .inl (is (Bl a3))), (8, .inr (.inl (8, 0))), (9, .inl (is (Sv x1))), (10, .inl (is (Sv x2))), (11, .inl (is (Bl x3))), (13, .inl (is (Sv x1))), (14, .inl (is (Sv ([] : List UInt8)))), (15, .inl (is (I64 v)))], [(8, pb 297 [is (U8 (0#8)), is (Bl false), is (Sv ([] : List UInt8)), is (I16 0), is (I64 0), is (I32 0)])]⟩) (fun v => some r = F377_22 N a0 a2 a3 x1 x2 x3 v) ?_ ?_
      · skip
        refine AW_region ?_
        refine AL_cons (LR_move (at_tmp 9 _) rfl) (sS (sT1 rfl) sB0 sF0) ?_
        obtain ⟨y44, hy44, hr⟩ := bind_some hr
        refine AL_cons (LR_call Hfaa.func402 rfl rfl (C402 N x1 (46#8) (46#8) y44 hy44) (all_cons (at_tmp 38 _) (all_cons (at_c (v' := U8 (46#8)) rfl) (all_cons (at_c (v' := U8 (46#8)) rfl) all_nil))) rfl) (sS (sA (sT1 rfl) (sA sT0 (sA sT0 sT0))) sB0 sF0) ?_
        refine AL_cons (LR_assign (at_tmp 39 _) rfl) (sS (sT1 rfl) sB0 sF0) ?_
        refine AL_nil ?_
        exact thenN (cutLeaf (v := y44) hr (weak0 ((sT rfl (sT rfl (sT rfl (sT rfl (sT rfl (sT rfl (sT rfl (sT rfl (sT rfl (sT rfl sT0))))))))))) (sub_keep sub_nil)))
      · rintro x31 hr
        show AW Hfaa.prog _ _ _ ⟨[(0, .inl (is (Sv a0))), (2, .inl (is (I64 a2))), (3, .inl (is (Bl a3))), (8, .inr (.inl (8, 0))), (9, .inl (is (Sv x1))), (10, .inl (is (Sv x2))), (11, .inl (is (Bl x3))), (13, .inl (is (Sv x1))), (14, .inl (is (Sv ([] : List UInt8)))), (15, .inl (is (I64 x31)))], [(8, pb 297 [is (U8 (0#8)), is (Bl false), is (Sv ([] : List UInt8)), is (I16 0), is (I64 0), is (I32 0)])]⟩
        have hr : some r = F377_22 N a0 a2 a3 x1 x2 x3 x31 := hr
        refine AW_cut (σ := Bool) (fun v => ⟨[(0, .inl (is (Sv a0))), (2, .inl (is (I64 a2))), (3, .inl (is (Bl a3))), (8, .inr (.inl (8, 0))), (9, .inl (is (Sv x1))), (10, .inl (is (Sv x2))), (11, .inl (is (Bl x3))), (13, .inl (is (Sv x1))), (14, .inl (is (Sv ([] : List UInt8)))), (15, .inl (is (I64 x31))), (41, .inl (is (Bl v)))], [(8, pb 297 [is (U8 (0#8)), is (Bl false), is (Sv ([] : List UInt8)), is (I16 0), is (I64 0), is (I32 0)])]⟩) (fun v => some r = F377_23 N a0 a2 a3 x1 x2 x3 x31 v) ?_ ?_
        · skip
          refine AW_region ?_
          refine AL_cons (LR_move (at_tmp 15 _) rfl) (sS (sT1 rfl) sB0 sF0) ?_
          refine AL_cons (LR_bin (at_tmp 40 _) (at_c (v' := I64 0) rfl) (geq_I64 x31 0) rfl) (sS (sA (sT1 rfl) sT0) sB0 sF0) ?_
          refine AL_nil ?_
          exact thenN (cutLeaf (v := decide (x31 ≥ 0)) hr (weak0 ((sT rfl (sT rfl (sT rfl (sT rfl (sT rfl (sT rfl (sT rfl (sT rfl (sT rfl (sT rfl (sT rfl sT0)))))))))))) (sub_keep sub_nil)))
        · rintro x32 hr
          show AW Hfaa.prog _ _ _ ⟨[(0, .inl (is (Sv a0))), (2, .inl (is (I64 a2))), (3, .inl (is (Bl a3))), (8, .inr (.inl (8, 0))), (9, .inl (is (Sv x1))), (10, .inl (is (Sv x2))), (11, .inl (is (Bl x3))), (13, .inl (is (Sv x1))), (14, .inl (is (Sv ([] : List UInt8)))), (15, .inl (is (I64 x31))), (41, .inl (is (Bl x32)))], [(8, pb 297 [is (U8 (0#8)), is (Bl false), is (Sv ([] : List UInt8)), is (I16 0), is (I64 0), is (I32 0)])]⟩
          have hr : some r = F377_23 N a0 a2 a3 x1 x2 x3 x31 x32 := hr
          refine AW_condT (b := x32) rfl (fun h => ?_) (fun h => ?_)
          · have hr := hr.trans (cond_t h)
            clear h
            obtain ⟨hg71, hr⟩ := guard_some hr
            obtain ⟨hg72, hr⟩ := guard_some hr
            refine AW_draw mixed
              (lrC (LR_move (at_tmp 9 _) rfl)
              (lrC (LR_move (at_tmp 15 _) rfl)
              (lrC (LR_sliceS (i := (0 : Int)) (j := (x31 : Int)) Hfaa.underlying9 (at_tmp 42 _) (fun _ _ _ _ _ _ _ => .inl ⟨rfl, rfl⟩) (fun B bn s a w hs hr => .inr ⟨_, congrArg some ((at_tmp 43 (.inl (is (I64 x31)))) B bn s a w hs hr)⟩) (dand3 hg71) rfl)
              (lrC (LR_move (at_tmp 9 _) rfl)
              (lrC (LR_move (at_tmp 15 _) rfl)
              (lrC (LR_bin (at_tmp 46 _) (at_c (v' := I64 1) rfl) (add_I64 x31 1) rfl)
              (lrC (LR_sliceS (i := (w64 (x31 + 1) : Int)) (j := (x1.length : Int)) Hfaa.underlying9 (at_tmp 45 _) (fun B bn s a w hs hr => .inr ⟨_, congrArg some ((at_tmp 47 (.inl (is (I64 (w64 (x31 + 1)))))) B bn s a w hs hr)⟩) (fun _ _ _ _ _ _ _ => .inl ⟨rfl, rfl⟩) (dand3 hg72) rfl)
              (lrC (LR_assign (at_tmp 44 _) rfl)
              (lrC (LR_assign (at_tmp 48 _) rfl)
              lrN)))))))))
              (by kernel_rfl)
              (saC (sS (sT1 rfl) sB0 sF0) (saC (sS (sT1 rfl) sB0 sF0) (saC (sS (sA (sT1 rfl) (sA sT0 (sT1 rfl))) sB0 sF0) (saC (sS (sT1 rfl) sB0 sF0) (saC (sS (sT1 rfl) sB0 sF0) (saC (sS (sA (sT1 rfl) sT0) sB0 sF0) (saC (sS (sA (sT1 rfl) (sA (sT1 rfl) sT0)) sB0 sF0) (saC (sS (sT1 rfl) sB0 sF0) (saC (sS (sT1 rfl) sB0 sF0) saN))))))))) ?_
            exact thenN (cutLeaf (v := ((x1.drop ((0 : Int)).toNat).take (((x31 : Int)).toNat - ((0 : Int)).toNat), (x1.drop ((w64 (x31 + 1) : Int)).toNat).take (((x1.length : Int)).toNat - ((w64 (x31 + 1) : Int)).toNat))) hr (weak0 ((sT rfl (sT rfl (sT rfl (sT rfl (sT rfl (sT rfl (sT rfl (sT rfl (sT rfl sT0)))))))))) (sub_keep sub_nil)))
          · have hr := hr.trans (cond_f h)
            clear h
            refine AW_skip ?_
            exact thenN (cutLeaf (v := (x1, ([] : List UInt8))) hr (weak0 ((sT rfl (sT rfl (sT rfl (sT rfl (sT rfl (sT rfl (sT rfl (sT rfl (sT rfl sT0)))))))))) (sub_keep sub_nil)))
    · rintro ⟨x4, x5⟩ hr
      show AW Hfaa.prog _ _ _ ⟨[(0, .inl (is (Sv a0))), (2, .inl (is (I64 a2))), (3, .inl (is (Bl a3))), (8, .inr (.inl (8, 0))), (9, .inl (is (Sv x1))), (10, .inl (is (Sv x2))), (11, .inl (is (Bl x3))), (13, .inl (is (Sv x4))), (14, .inl (is (Sv x5)))], [(8, pb 297 [is (U8 (0#8)), is (Bl false), is (Sv ([] : List UInt8)), is (I16 0), is (I64 0), is (I32 0)])]⟩
      have hr : some r = F377_2 N a0 a2 a3 x1 x2 x3 x4 x5 := hr
      refine AW_seq1 ?_
      refine AW_cut (σ := Int) (fun v => ⟨[(0, .inl (is (Sv a0))), (2, .inl (is (I64 a2))), (3, .inl (is (Bl a3))), (8, .inr (.inl (8, 0))), (9, .inl (is (Sv x1))), (10, .inl (is (Sv x2))), (11, .inl (is (Bl x3))), (13, .inl (is (Sv x4))), (14, .inl (is (Sv x5))), (16, .inl (is (I64 v)))], [(8, pb 297 [is (U8 (0#8)), is (Bl false), is (Sv ([] : List UInt8)), is (I16 0), is (I64 0), is (I32 0)])]⟩) (fun v => some r = F377_3 N a0 a2 a3 x1 x2 x3 x4 x5 v) ?_ ?_
      · skip
        refine AW_region ?_
        refine AL_cons (LR_move (at_tmp 13 _) rfl) (sS (sT1 rfl) sB0 sF0) ?_
        obtain ⟨y42, hy42, hr⟩ := bind_some hr
        refine AL_cons (LR_call Hfaa.func403 rfl rfl (C403 N x4 y42 hy42) (all_cons (at_tmp 49 _) all_nil) rfl) (sS (sA (sT1 rfl) sT0) sB0 sF0) ?_
        refine AL_cons (LR_assign (at_tmp 50 _) rfl) (sS (sT1 rfl) sB0 sF0) ?_
        refine AL_nil ?_
        exact thenN (cutLeaf (v := y42) hr (weak0 ((sT rfl (sT rfl (sT rfl (sT rfl (sT rfl (sT rfl (sT rfl (sT rfl (sT rfl (sT rfl sT0))))))))))) (sub_keep sub_nil)))
      · rintro x6 hr
        show AW Hfaa.prog _ _ _ ⟨[(0, .inl (is (Sv a0))), (2, .inl (is (I64 a2))), (3, .inl (is (Bl a3))), (8, .inr (.inl (8, 0))), (9, .inl (is (Sv x1))), (10, .inl (is (Sv x2))), (11, .inl (is (Bl x3))), (13, .inl (is (Sv x4))), (14, .inl (is (Sv x5))), (16, .inl (is (I64 x6)))], [(8, pb 297 [is (U8 (0#8)), is (Bl false), is (Sv ([] : List UInt8)), is (I16 0), is (I64 0), is (I32 0)])]⟩
        have hr : some r = F377_3 N a0 a2 a3 x1 x2 x3 x4 x5 x6 := hr
        refine AW_cut (σ := Bool) (fun v => ⟨[(0, .inl (is (Sv a0))), (2, .inl (is (I64 a2))), (3, .inl (is (Bl a3))), (8, .inr (.inl (8, 0))), (9, .inl (is (Sv x1))), (10, .inl (is (Sv x2))), (11, .inl (is (Bl x3))), (13, .inl (is (Sv x4))), (14, .inl (is (Sv x5))), (16, .inl (is (I64 x6))), (54, .inl (is (Bl v)))], [(8, pb 297 [is (U8 (0#8)), is (Bl false), is (Sv ([] : List UInt8)), is (I16 0), is (I64 0), is (I32 0)])]⟩) (fun v => some r = F377_4 N a0 a2 a3 x1 x2 x3 x4 x5 x6 v) ?_ ?_
        · skip
          refine AW_region ?_
          refine AL_cons (LR_move (at_tmp 16 _) rfl) (sS (sT1 rfl) sB0 sF0) ?_
          refine AL_cons (LR_move (at_tmp 13 _) rfl) (sS (sT1 rfl) sB0 sF0) ?_
          refine AL_cons (LR_bi1 (at_tmp 52 _) (len_S Hfaa.underlying9 x4) rfl) (sS (sT1 rfl) sB0 sF0) ?_
          refine AL_cons (LR_bin (at_tmp 51 _) (at_tmp 53 _) (lss_I64 x6 (x4.length : Int)) rfl) (sS (sA (sT1 rfl) (sT1 rfl)) sB0 sF0) ?_
          refine AL_nil ?_
          exact thenN (cutLeaf (v := decide (x6 < (x4.length : Int))) hr (weak0 ((sT rfl (sT rfl (sT rfl (sT rfl (sT rfl (sT rfl (sT rfl (sT rfl (sT rfl (sT rfl (sT rfl sT0)))))))))))) (sub_keep sub_nil)))
        · rintro x7 hr
          show AW Hfaa.prog _ _ _ ⟨[(0, .inl (is (Sv a0))), (2, .inl (is (I64 a2))), (3, .inl (is (Bl a3))), (8, .inr (.inl (8, 0))), (9, .inl (is (Sv x1))), (10, .inl (is (Sv x2))), (11, .inl (is (Bl x3))), (13, .inl (is (Sv x4))), (14, .inl (is (Sv x5))), (16, .inl (is (I64 x6))), (54, .inl (is (Bl x7)))], [(8, pb 297 [is (U8 (0#8)), is (Bl false), is (Sv ([] : List UInt8)), is (I16 0), is (I64 0), is (I32 0)])]⟩
          have hr : some r = F377_4 N a0 a2 a3 x1 x2 x3 x4 x5 x6 x7 := hr
          refine AW_condT (b := x7) rfl (fun h => ?_) (fun h => ?_)
          · have hr := hr.trans (cond_t h)
            clear h
            refine AW_seq1 ?_
            refine AW_region ?_
            refine AL_cons (LR_move (at_tmp 0 _) rfl) (sS (sT1 rfl) sB0 sF0) ?_
            refine AL_cons (LR_move (at_tmp 2 _) rfl) (sS (sT1 rfl) sB0 sF0) ?_
            refine AL_cons (LR_move (at_tmp 16 _) rfl) (sS (sT1 rfl) sB0 sF0) ?_
            refine AL_cons (LR_bin (at_tmp 56 _) (at_tmp 57 _) (add_I64 a2 x6) rfl) (sS (sA (sT1 rfl) (sT1 rfl)) sB0 sF0) ?_
            obtain ⟨y11, hy11, hr⟩ := bind_some hr
            refine AL_cons (LR_call Hfaa.func376 rfl rfl (C376 N a0 (w64 (a2 + x6)) y11 hy11) (all_cons (at_tmp 55 _) (all_cons (at_tmp 58 _) all_nil)) rfl) (sS (sA (sT1 rfl) (sA (sT1 rfl) sT0)) sB0 sF0) ?_
            refine AL_cons (LR_store (at_tmp 8 _) (at_tmp 59 _) (cells_agg _) (onC (one_is rfl) (onC (one_is rfl) (onC (one_is rfl) (onC (one_is rfl) (onC (one_is rfl) (onC (one_is rfl) onN)))))) sz297 rfl rfl) (sS (sA (sT1 rfl) (sT1 rfl)) (sB1 rfl) sF0) ?_
            refine AL_nil ?_
            refine thenN ?_
            refine AW_ret ?_
            refine thenR ?_
            obtain rfl := Option.some.inj hr
            exact res1 rfl (rvC rfl rfl ag297 sz297 rfl)
          · have hr := hr.trans (cond_f h)
            clear h
            refine AW_skip ?_
            refine thenN ?_
            refine AW_seq1 ?_
            refine AW_cut (σ := Int) (fun v => ⟨[(0, .inl (is (Sv a0))), (2, .inl (is (I64 a2))), (3, .inl (is (Bl a3))), (8, .inr (.inl (8, 0))), (9, .inl (is (Sv x1))), (10, .inl (is (Sv x2))), (11, .inl (is (Bl x3))), (13, .inl (is (Sv x4))), (14, .inl (is (Sv x5))), (17, .inl (is (I64 v)))], [(8, pb 297 [is (U8 (0#8)), is (Bl false), is (Sv ([] : List UInt8)), is (I16 0), is (I64 0), is (I32 0)])]⟩) (fun v => some r = F377_5 N a0 a2 a3 x1 x2 x3 x4 x5 v) ?_ ?_
            · skip
              refine AW_region ?_
              refine AL_cons (LR_move (at_tmp 14 _) rfl) (sS (sT1 rfl) sB0 sF0) ?_
              obtain ⟨y41, hy41, hr⟩ := bind_some hr
              refine AL_cons (LR_call Hfaa.func403 rfl rfl (C403 N x5 y41 hy41) (all_cons (at_tmp 60 _) all_nil) rfl) (sS (sA (sT1 rfl) sT0) sB0 sF0) ?_
              refine AL_cons (LR_assign (at_tmp 61 _) rfl) (sS (sT1 rfl) sB0 sF0) ?_
              refine AL_nil ?_
              exact thenN (cutLeaf (v := y41) hr (weak0 ((sT rfl (sT rfl (sT rfl (sT rfl (sT rfl (sT rfl (sT rfl (sT rfl (sT rfl (sT rfl sT0))))))))))) (sub_keep sub_nil)))
            · rintro x8 hr
              show AW Hfaa.prog _ _ _ ⟨[(0, .inl (is (Sv a0))), (2, .inl (is (I64 a2))), (3, .inl (is (Bl a3))), (8, .inr (.inl (8, 0))), (9, .inl (is (Sv x1))), (10, .inl (is (Sv x2))), (11, .inl (is (Bl x3))), (13, .inl (is (Sv x4))), (14, .inl (is (Sv x5))), (17, .inl (is (I64 x8)))], [(8, pb 297 [is (U8 (0#8)), is (Bl false), is (Sv ([] : List UInt8)), is (I16 0), is (I64 0), is (I32 0)])]⟩
              have hr : some r = F377_5 N a0 a2 a3 x1 x2 x3 x4 x5 x8 := hr
              refine AW_cut (σ := Bool) (fun v => ⟨[(0, .inl (is (Sv a0))), (2, .inl (is (I64 a2))), (3, .inl (is (Bl a3))), (8, .inr (.inl (8, 0))), (9, .inl (is (Sv x1))), (10, .inl (is (Sv x2))), (11, .inl (is (Bl x3))), (13, .inl (is (Sv x4))), (14, .inl (is (Sv x5))), (17, .inl (is (I64 x8))), (65, .inl (is (Bl v)))], [(8, pb 297 [is (U8 (0#8)), is (Bl false), is (Sv ([] : List UInt8)), is (I16 0), is (I64 0), is (I32 0)])]⟩) (fun v => some r = F377_6 N a0 a2 a3 x1 x2 x3 x4 x5 x8 v) ?_ ?_
              · skip
                refine AW_region ?_
                refine AL_cons (LR_move (at_tmp 17 _) rfl) (sS (sT1 rfl) sB0 sF0) ?_
                refine AL_cons (LR_move (at_tmp 14 _) rfl) (sS (sT1 rfl) sB0 sF0) ?_
                refine AL_cons (LR_bi1 (at_tmp 63 _) (len_S Hfaa.underlying9 x5) rfl) (sS (sT1 rfl) sB0 sF0) ?_
                refine AL_cons (LR_bin (at_tmp 62 _) (at_tmp 64 _) (lss_I64 x8 (x5.length : Int)) rfl) (sS (sA (sT1 rfl) (sT1 rfl)) sB0 sF0) ?_
                refine AL_nil ?_
                exact thenN (cutLeaf (v := decide (x8 < (x5.length : Int))) hr (weak0 ((sT rfl (sT rfl (sT rfl (sT rfl (sT rfl (sT rfl (sT rfl (sT rfl (sT rfl (sT rfl (sT rfl sT0)))))))))))) (sub_keep sub_nil)))
              · rintro x9 hr
                show AW Hfaa.prog _ _ _ ⟨[(0, .inl (is (Sv a0))), (2, .inl (is (I64 a2))), (3, .inl (is (Bl a3))), (8, .inr (.inl (8, 0))), (9, .inl (is (Sv x1))), (10, .inl (is (Sv x2))), (11, .inl (is (Bl x3))), (13, .inl (is (Sv x4))), (14, .inl (is (Sv x5))), (17, .inl (is (I64 x8))), (65, .inl (is (Bl x9)))], [(8, pb 297 [is (U8 (0#8)), is (Bl false), is (Sv ([] : List UInt8)), is (I16 0), is (I64 0), is (I32 0)])]⟩
                have hr : some r = F377_6 N a0 a2 a3 x1 x2 x3 x4 x5 x8 x9 := hr
                refine AW_condT (b := x9) rfl (fun h => ?_) (fun h => ?_)
                · have hr := hr.trans (cond_t h)
                  clear h
                  refine AW_seq1 ?_
                  refine AW_region ?_
                  refine AL_cons (LR_move (at_tmp 0 _) rfl) (sS (sT1 rfl) sB0 sF0) ?_
                  refine AL_cons (LR_move (at_tmp 2 _) rfl) (sS (sT1 rfl) sB0 sF0) ?_
                  refine AL_cons (LR_move (at_tmp 13 _) rfl) (sS (sT1 rfl) sB0 sF0) ?_
                  refine AL_cons (LR_bi1 (at_tmp 68 _) (len_S Hfaa.underlying9 x4) rfl) (sS (sT1 rfl) sB0 sF0) ?_
                  refine AL_cons (LR_bin (at_tmp 67 _) (at_tmp 69 _) (add_I64 a2 (x4.length : Int)) rfl) (sS (sA (sT1 rfl) (sT1 rfl)) sB0 sF0) ?_
                  refine AL_cons (LR_bin (at_tmp 70 _) (at_c (v' := I64 1) rfl) (add_I64 (w64 (a2 + (x4.length : Int))) 1) rfl) (sS (sA (sT1 rfl) sT0) sB0 sF0) ?_
                  refine AL_cons (LR_move (at_tmp 17 _) rfl) (sS (sT1 rfl) sB0 sF0) ?_
                  refine AL_cons (LR_bin (at_tmp 71 _) (at_tmp 72 _) (add_I64 (w64 ((w64 (a2 + (x4.length : Int))) + 1)) x8) rfl) (sS (sA (sT1 rfl) (sT1 rfl)) sB0 sF0) ?_
                  obtain ⟨y18, hy18, hr⟩ := bind_some hr
                  refine AL_cons (LR_call Hfaa.func376 rfl rfl (C376 N a0 (w64 ((w64 ((w64 (a2 + (x4.length : Int))) + 1)) + x8)) y18 hy18) (all_cons (at_tmp 66 _) (all_cons (at_tmp 73 _) all_nil)) rfl) (sS (sA (sT1 rfl) (sA (sT1 rfl) sT0)) sB0 sF0) ?_
                  refine AL_cons (LR_store (at_tmp 8 _) (at_tmp 74 _) (cells_agg _) (onC (one_is rfl) (onC (one_is rfl) (onC (one_is rfl) (onC (one_is rfl) (onC (one_is rfl) (onC (one_is rfl) onN)))))) sz297 rfl rfl) (sS (sA (sT1 rfl) (sT1 rfl)) (sB1 rfl) sF0) ?_
                  refine AL_nil ?_
                  refine thenN ?_
                  refine AW_ret ?_
                  refine thenR ?_
                  obtain rfl := Option.some.inj hr
                  exact res1 rfl (rvC rfl rfl ag297 sz297 rfl)
                · have hr := hr.trans (cond_f h)
                  clear h
                  refine AW_skip ?_
                  refine thenN ?_
                  refine AW_seq1 ?_
                  refine AW_cut (σ := Bool) (fun v => ⟨[(0, .inl (is (Sv a0))), (2, .inl (is (I64 a2))), (3, .inl (is (Bl a3))), (8, .inr (.inl (8, 0))), (9, .inl (is (Sv x1))), (10, .inl (is (Sv x2))), (11, .inl (is (Bl x3))), (13, .inl (is (Sv x4))), (14, .inl (is (Sv x5))), (80, .inl (is (Bl v)))], [(8, pb 297 [is (U8 (0#8)), is (Bl false), is (Sv ([] : List UInt8)), is (I16 0), is (I64 0), is (I32 0)])]⟩) (fun v => some r = F377_7 N a0 a2 a3 x1 x2 x3 x4 x5 v) ?_ ?_
                  · skip
                    refine AW_region ?_
                    refine AL_cons (LR_move (at_tmp 13 _) rfl) (sS (sT1 rfl) sB0 sF0) ?_
                    refine AL_cons (LR_bin (at_tmp 75 _) (at_c (v' := Sv ([] : List UInt8)) rfl) (eql_S x4 ([] : List UInt8)) rfl) (sS (sA (sT1 rfl) sT0) sB0 sF0) ?_
                    refine AL_cons (LR_move (at_tmp 76 _) rfl) (sS (sT1 rfl) sB0 sF0) ?_
                    refine AL_cutAt 3 ⟨[(0, .inl (is (Sv a0))), (2, .inl (is (I64 a2))), (3, .inl (is (Bl a3))), (8, .inr (.inl (8, 0))), (9, .inl (is (Sv x1))), (10, .inl (is (Sv x2))), (11, .inl (is (Bl x3))), (13, .inl (is (Sv x4))), (14, .inl (is (Sv x5))), (17, .inl (is (I64 x8))), (65, .inl (is (Bl x9))), (75, .inl (is (Sv x4))), (76, .inl (is (Bl (x4 == ([] : List UInt8))))), (77, .inl (is (Bl (x4 == ([] : List UInt8))))), (80, .inl (is (Bl ((x4 == ([] : List UInt8)) && (x5 == ([] : List UInt8))))))], [(8, pb 297 [is (U8 (0#8)), is (Bl false), is (Sv ([] : List UInt8)), is (I16 0), is (I64 0), is (I32 0)])]⟩ ?_ ?_
                    · cases hb : x4 == ([] : List UInt8)
                      · skip
                        refine AL_cons (LR_off (b := false) rfl rfl rfl rfl) (sS (sT1 rfl) sB0 sF0) ?_
                        refine AL_cons (LR_off (b := false) rfl rfl rfl rfl) (sS (sT1 rfl) sB0 sF0) ?_
                        refine AL_cons (LR_pick (b := false) (at_tmp 77 _) (at_tmp 79 _) (at_c (v' := Bl false) rfl) rfl) (sS (sA (sT1 rfl) (sA (sT1 rfl) sT0)) sB0 sF0) ?_
                        exact AL_nil ⟨rfl, weak0 ((sT rfl (sT rfl (sT rfl (sT rfl (sT rfl (sT rfl (sT rfl (sT rfl (sT rfl (sT rfl (sT rfl (sT rfl (sT rfl (sT rfl (sT rfl sT0)))))))))))))))) (sub_keep sub_nil)⟩
                      · skip
                        refine AL_cons (LR_on rfl rfl rfl (LR_move (at_tmp 14 _) rfl)) (sS (sT rfl (sT1 rfl)) sB0 sF0) ?_
                        refine AL_cons (LR_on rfl rfl rfl (LR_bin (at_tmp 78 _) (at_c (v' := Sv ([] : List UInt8)) rfl) (eql_S x5 ([] : List UInt8)) rfl)) (sS (sT rfl (sA (sT1 rfl) sT0)) sB0 sF0) ?_
                        refine AL_cons (LR_pick (b := true) (at_tmp 77 _) (at_tmp 79 _) (at_c (v' := Bl false) rfl) rfl) (sS (sA (sT1 rfl) (sA (sT1 rfl) sT0)) sB0 sF0) ?_
                        exact AL_nil ⟨rfl, weak0 ((sT rfl (sT rfl (sT rfl (sT rfl (sT rfl (sT rfl (sT rfl (sT rfl (sT rfl (sT rfl (sT rfl (sT rfl (sT rfl (sT rfl (sT rfl sT0)))))))))))))))) (sub_keep sub_nil)⟩
                    refine AL_nil ?_
                    exact thenN (cutLeaf (v := (x4 == ([] : List UInt8)) && (x5 == ([] : List UInt8))) hr (weak0 ((sT rfl (sT rfl (sT rfl (sT rfl (sT rfl (sT rfl (sT rfl (sT rfl (sT rfl (sT rfl sT0))))))))))) (sub_keep sub_nil)))
                  · rintro x10 hr
                    show AW Hfaa.prog _ _ _ ⟨[(0, .inl (is (Sv a0))), (2, .inl (is (I64 a2))), (3, .inl (is (Bl a3))), (8, .inr (.inl (8, 0))), (9, .inl (is (Sv x1))), (10, .inl (is (Sv x2))), (11, .inl (is (Bl x3))), (13, .inl (is (Sv x4))), (14, .inl (is (Sv x5))), (80, .inl (is (Bl x10)))], [(8, pb 297 [is (U8 (0#8)), is (Bl false), is (Sv ([] : List UInt8)), is (I16 0), is (I64 0), is (I32 0)])]⟩
                    have hr : some r = F377_7 N a0 a2 a3 x1 x2 x3 x4 x5 x10 := hr
                    refine AW_condT (b := x10) rfl (fun h => ?_) (fun h => ?_)
                    · have hr := hr.trans (cond_t h)
                      clear h
                      refine AW_seq1 ?_
                      refine AW_region ?_
                      refine AL_cons (LR_move (at_tmp 0 _) rfl) (sS (sT1 rfl) sB0 sF0) ?_
                      refine AL_cons (LR_move (at_tmp 2 _) rfl) (sS (sT1 rfl) sB0 sF0) ?_
                      refine AL_cons (LR_move (at_tmp 9 _) rfl) (sS (sT1 rfl) sB0 sF0) ?_
                      refine AL_cons (LR_bi1 (at_tmp 83 _) (len_S Hfaa.underlying9 x1) rfl) (sS (sT1 rfl) sB0 sF0) ?_
                      refine AL_cons (LR_bin (at_tmp 82 _) (at_tmp 84 _) (add_I64 a2 (x1.length : Int)) rfl) (sS (sA (sT1 rfl) (sT1 rfl)) sB0 sF0) ?_
                      obtain ⟨y22, hy22, hr⟩ := bind_some hr
                      refine AL_cons (LR_call Hfaa.func376 rfl rfl (C376 N a0 (w64 (a2 + (x1.length : Int))) y22 hy22) (all_cons (at_tmp 81 _) (all_cons (at_tmp 85 _) all_nil)) rfl) (sS (sA (sT1 rfl) (sA (sT1 rfl) sT0)) sB0 sF0) ?_
                      refine AL_cons (LR_store (at_tmp 8 _) (at_tmp 86 _) (cells_agg _) (onC (one_is rfl) (onC (one_is rfl) (onC (one_is rfl) (onC (one_is rfl) (onC (one_is rfl) (onC (one_is rfl) onN)))))) sz297 rfl rfl) (sS (sA (sT1 rfl) (sT1 rfl)) (sB1 rfl) sF0) ?_
                      refine AL_nil ?_
                      refine thenN ?_
                      refine AW_ret ?_
                      refine thenR ?_
                      obtain rfl := Option.some.inj hr
                      exact res1 rfl (rvC rfl rfl ag297 sz297 rfl)
                    · have hr := hr.trans (cond_f h)
                      clear h
                      refine AW_skip ?_
                      refine thenN ?_
                      refine AW_seq1 ?_
                      refine AW_region ?_
                      refine AL_cons (LR_assign (at_c (v' := I64 0) rfl) rfl) (sS sT0 sB0 sF0) ?_
                      refine AL_nil ?_
                      refine thenN ?_
                      refine AW_cut (σ := Int) (fun v => ⟨[(3, .inl (is (Bl a3))), (8, .inr (.inl (8, 0))), (13, .inl (is (Sv x4))), (14, .inl (is (Sv x5))), (18, .inl (is (I64 v)))], [(8, pb 297 [is (U8 (0#8)), is (Bl false), is (Sv ([] : List UInt8)), is (I16 0), is (I64 0), is (I32 0)])]⟩) (fun v => some r = F377_8 N a3 x4 x5 v) ?_ ?_
                      · skip
                        refine AW_seq1 ?_
                        refine AW_region ?_
                        refine AL_cons (LR_move (at_tmp 11 _) rfl) (sS (sT1 rfl) sB0 sF0) ?_
                        refine AL_nil ?_
                        refine thenN ?_
                        refine AW_condT (b := x3) rfl (fun h => ?_) (fun h => ?_)
                        · have hr := hr.trans (cond_t h)
                          clear h
                          refine AW_cut (σ := Int) (fun v => ⟨[(0, .inl (is (Sv a0))), (3, .inl (is (Bl a3))), (8, .inr (.inl (8, 0))), (10, .inl (is (Sv x2))), (13, .inl (is (Sv x4))), (14, .inl (is (Sv x5))), (18, .inl (is (I64 0))), (19, .inl (is (I64 v))), (20, .inl (is (Bl false)))], [(8, pb 297 [is (U8 (0#8)), is (Bl false), is (Sv ([] : List UInt8)), is (I16 0), is (I64 0), is (I32 0)])]⟩) (fun v => some r = F377_11 N a0 a3 x2 x4 x5 v) ?_ ?_
                          · skip
                            refine AW_region ?_
                            refine AL_cons (LR_move (at_tmp 0 _) rfl) (sS (sT1 rfl) sB0 sF0) ?_
                            refine AL_cons (LR_bi1 (at_tmp 88 _) (len_S Hfaa.underlying9 a0) rfl) (sS (sT1 rfl) sB0 sF0) ?_
                            refine AL_cons (LR_move (at_tmp 10 _) rfl) (sS (sT1 rfl) sB0 sF0) ?_
                            refine AL_cons (LR_bi1 (at_tmp 90 _) (len_S Hfaa.underlying9 x2) rfl) (sS (sT1 rfl) sB0 sF0) ?_
                            refine AL_cons (LR_bin (at_tmp 89 _) (at_tmp 91 _) (sub_I64 (a0.length : Int) (x2.length : Int)) rfl) (sS (sA (sT1 rfl) (sT1 rfl)) sB0 sF0) ?_
                            refine AL_cons (LR_assign (at_tmp 92 _) rfl) (sS (sT1 rfl) sB0 sF0) ?_
                            refine AL_cons (LR_assign (at_c (v' := Bl false) rfl) rfl) (sS sT0 sB0 sF0) ?_
                            refine AL_nil ?_
                            exact thenN (cutLeaf (v := w64 ((a0.length : Int) - (x2.length : Int))) hr (weak0 ((sT rfl (sT rfl (sT rfl (sT rfl (sT rfl (sT rfl (sT rfl (sT rfl (sT rfl sT0)))))))))) (sub_keep sub_nil)))
                          · rintro x17 hr
                            show AW Hfaa.prog _ _ _ ⟨[(0, .inl (is (Sv a0))), (3, .inl (is (Bl a3))), (8, .inr (.inl (8, 0))), (10, .inl (is (Sv x2))), (13, .inl (is (Sv x4))), (14, .inl (is (Sv x5))), (18, .inl (is (I64 0))), (19, .inl (is (I64 x17))), (20, .inl (is (Bl false)))], [(8, pb 297 [is (U8 (0#8)), is (Bl false), is (Sv ([] : List UInt8)), is (I16 0), is (I64 0), is (I32 0)])]⟩
                            have hr : some r = F377_11 N a0 a3 x2 x4 x5 x17 := hr
                            refine AW_cut (σ := List UInt8 × Int × Bool) (fun v => ⟨[(0, .inl (is (Sv a0))), (3, .inl (is (Bl a3))), (8, .inr (.inl (8, 0))), (10, .inl (is (Sv v.1))), (13, .inl (is (Sv x4))), (14, .inl (is (Sv x5))), (18, .inl (is (I64 0))), (19, .inl (is (I64 v.2.1))), (20, .inl (is (Bl v.2.2)))], [(8, pb 297 [is (U8 (0#8)), is (Bl false), is (Sv ([] : List UInt8)), is (I16 0), is (I64 0), is (I32 0)])]⟩) (fun v => some r = F377_12 N a0 a3 x4 x5 v.1 v.2.1 v.2.2) ?_ ?_
                            · skip
                              refine AW_cut (σ := Bool) (fun v => ⟨[(0, .inl (is (Sv a0))), (3, .inl (is (Bl a3))), (8, .inr (.inl (8, 0))), (10, .inl (is (Sv x2))), (13, .inl (is (Sv x4))), (14, .inl (is (Sv x5))), (18, .inl (is (I64 0))), (19, .inl (is (I64 x17))), (20, .inl (is (Bl false))), (104, .inl (is (Bl v)))], [(8, pb 297 [is (U8 (0#8)), is (Bl false), is (Sv ([] : List UInt8)), is (I16 0), is (I64 0), is (I32 0)])]⟩) (fun v => some r = F377_19 N a0 a3 x2 x4 x5 x17 v) ?_ ?_
                              · skip
                                refine AW_region ?_
                                refine AL_cons (LR_move (at_tmp 10 _) rfl) (sS (sT1 rfl) sB0 sF0) ?_
                                refine AL_cons (LR_bin (at_tmp 93 _) (at_c (v' := Sv ([] : List UInt8)) rfl) (neq_S x2 ([] : List UInt8)) rfl) (sS (sA (sT1 rfl) sT0) sB0 sF0) ?_
                                refine AL_cons (LR_move (at_tmp 94 _) rfl) (sS (sT1 rfl) sB0 sF0) ?_
                                cases hb : x2 != ([] : List UInt8)
                                · have hr := hr.trans (cond_f hb)
                                  refine AL_cons (LR_off (b := false) rfl rfl rfl rfl) (sS (sT1 rfl) sB0 sF0) ?_
                                  refine AL_cons (LR_off (b := false) rfl rfl rfl rfl) (sS (sT1 rfl) sB0 sF0) ?_
                                  refine AL_cons (LR_off (b := false) rfl rfl rfl rfl) (sS (sT1 rfl) sB0 sF0) ?_
                                  refine AL_cons (LR_off (b := false) rfl rfl rfl rfl) (sS (sT1 rfl) sB0 sF0) ?_
                                  refine AL_cons (LR_offU rfl rfl rfl rfl) (sS (sT1 rfl) sB0 sF0) ?_
                                  refine AL_cons (LR_offU rfl rfl rfl rfl) (sS (sT1 rfl) sB0 sF0) ?_
                                  refine AL_cons (LR_offU rfl rfl rfl rfl) (sS (sT1 rfl) sB0 sF0) ?_
                                  refine AL_cons (LR_off (b := false) rfl rfl rfl rfl) (sS (sT1 rfl) sB0 sF0) ?_
                                  refine AL_cons (LR_pick (b := false) (at_tmp 95 _) (at_tmp 103 _) (at_c (v' := Bl false) rfl) rfl) (sS (sA (sT1 rfl) (sA (sT1 rfl) sT0)) sB0 sF0) ?_
                                  refine AL_nil ?_
                                  exact thenN (cutLeaf (v := false) hr (weak0 ((sT rfl (sT rfl (sT rfl (sT rfl (sT rfl (sT rfl (sT rfl (sT rfl (sT rfl (sT rfl sT0))))))))))) (sub_keep sub_nil)))
                                · have hr := hr.trans (cond_t hb)
                                  refine AL_cons (LR_on rfl rfl rfl (LR_move (at_tmp 10 _) rfl)) (sS (sT rfl (sT1 rfl)) sB0 sF0) ?_
                                  obtain ⟨hg68, hr⟩ := guard_some hr
                                  refine AL_cons (LR_on rfl rfl rfl (LR_indexS (i := (0 : Int)) Hfaa.underlying9 (at_tmp 96 _) (at_c (v' := I64 0) rfl) (dand hg68) rfl)) (sS (sT rfl (sA (sT1 rfl) sT0)) sB0 sF0) ?_
                                  refine AL_cons (LR_on rfl rfl rfl (LR_bin (at_tmp 97 _) (at_c (v' := U8 (43#8)) rfl) (eql_U8 ((x2.getD ((0 : Int)).toNat 0).toBitVec) (43#8)) rfl)) (sS (sT rfl (sA (sT1 rfl) sT0)) sB0 sF0) ?_
                                  refine AL_cons (LR_on rfl rfl rfl (LR_move (at_tmp 98 _) rfl)) (sS (sT rfl (sT1 rfl)) sB0 sF0) ?_
                                  cases hb : ((x2.getD ((0 : Int)).toNat 0).toBitVec) == (43#8)
                                  · have hr := hr.trans (cond_f hb)
                                    refine AL_cons (LR_on rfl rfl rfl (LR_move (at_tmp 10 _) rfl)) (sS (sT rfl (sT1 rfl)) sB0 sF0) ?_
                                    obtain ⟨hg70, hr⟩ := guard_some hr
                                    refine AL_cons (LR_on rfl rfl rfl (LR_indexS (i := (0 : Int)) Hfaa.underlying9 (at_tmp 100 _) (at_c (v' := I64 0) rfl) (dand hg70) rfl)) (sS (sT rfl (sA (sT1 rfl) sT0)) sB0 sF0) ?_
                                    refine AL_cons (LR_on rfl rfl rfl (LR_bin (at_tmp 101 _) (at_c (v' := U8 (45#8)) rfl) (eql_U8 ((x2.getD ((0 : Int)).toNat 0).toBitVec) (45#8)) rfl)) (sS (sT rfl (sA (sT1 rfl) sT0)) sB0 sF0) ?_
                                    refine AL_cons (LR_on rfl rfl rfl (LR_pick (b := false) (at_tmp 99 _) (at_c (v' := Bl true) rfl) (at_tmp 102 _) rfl)) (sS (sT rfl (sA (sT1 rfl) (sA sT0 (sT1 rfl)))) sB0 sF0) ?_
                                    refine AL_cons (LR_pick (b := true) (at_tmp 95 _) (at_tmp 103 _) (at_c (v' := Bl false) rfl) rfl) (sS (sA (sT1 rfl) (sA (sT1 rfl) sT0)) sB0 sF0) ?_
                                    refine AL_nil ?_
                                    exact thenN (cutLeaf (v := ((x2.getD ((0 : Int)).toNat 0).toBitVec) == (45#8)) hr (weak0 ((sT rfl (sT rfl (sT rfl (sT rfl (sT rfl (sT rfl (sT rfl (sT rfl (sT rfl (sT rfl sT0))))))))))) (sub_keep sub_nil)))
                                  · have hr := hr.trans (cond_t hb)
                                    refine AL_cons (LR_off (b := true) rfl rfl rfl rfl) (sS (sT1 rfl) sB0 sF0) ?_
                                    refine AL_cons (LR_off (b := true) rfl rfl rfl rfl) (sS (sT1 rfl) sB0 sF0) ?_
                                    refine AL_cons (LR_off (b := true) rfl rfl rfl rfl) (sS (sT1 rfl) sB0 sF0) ?_
                                    refine AL_cons (LR_on rfl rfl rfl (LR_pick (b := true) (at_tmp 99 _) (at_c (v' := Bl true) rfl) (at_tmp 102 _) rfl)) (sS (sT rfl (sA (sT1 rfl) (sA sT0 (sT1 rfl)))) sB0 sF0) ?_
                                    refine AL_cons (LR_pick (b := true) (at_tmp 95 _) (at_tmp 103 _) (at_c (v' := Bl false) rfl) rfl) (sS (sA (sT1 rfl) (sA (sT1 rfl) sT0)) sB0 sF0) ?_
                                    refine AL_nil ?_
                                    exact thenN (cutLeaf (v := true) hr (weak0 ((sT rfl (sT rfl (sT rfl (sT rfl (sT rfl (sT rfl (sT rfl (sT rfl (sT rfl (sT rfl sT0))))))))))) (sub_keep sub_nil)))
                              · rintro x28 hr
                                show AW Hfaa.prog _ _ _ ⟨[(0, .inl (is (Sv a0))), (3, .inl (is (Bl a3))), (8, .inr (.inl (8, 0))), (10, .inl (is (Sv x2))), (13, .inl (is (Sv x4))), (14, .inl (is (Sv x5))), (18, .inl (is (I64 0))), (19, .inl (is (I64 x17))), (20, .inl (is (Bl false))), (104, .inl (is (Bl x28)))], [(8, pb 297 [is (U8 (0#8)), is (Bl false), is (Sv ([] : List UInt8)), is (I16 0), is (I64 0), is (I32 0)])]⟩
                                have hr : some r = F377_19 N a0 a3 x2 x4 x5 x17 x28 := hr
                                refine AW_condT (b := x28) rfl (fun h => ?_) (fun h => ?_)
                                · have hr := hr.trans (cond_t h)
                                  clear h
                                  refine AW_cut (σ := Bool) (fun v => ⟨[(0, .inl (is (Sv a0))), (3, .inl (is (Bl a3))), (8, .inr (.inl (8, 0))), (10, .inl (is (Sv x2))), (13, .inl (is (Sv x4))), (14, .inl (is (Sv x5))), (18, .inl (is (I64 0))), (19, .inl (is (I64 x17))), (20, .inl (is (Bl v)))], [(8, pb 297 [is (U8 (0#8)), is (Bl false), is (Sv ([] : List UInt8)), is (I16 0), is (I64 0), is (I32 0)])]⟩) (fun v => some r = F377_20 N a0 a3 x2 x4 x5 x17 v) ?_ ?_
                                  · skip
                                    refine AW_region ?_
                                    refine AL_cons (LR_move (at_tmp 10 _) rfl) (sS (sT1 rfl) sB0 sF0) ?_
                                    obtain ⟨hg66, hr⟩ := guard_some hr
                                    refine AL_cons (LR_indexS (i := (0 : Int)) Hfaa.underlying9 (at_tmp 105 _) (at_c (v' := I64 0) rfl) (dand hg66) rfl) (sS (sA (sT1 rfl) sT0) sB0 sF0) ?_
                                    refine AL_cons (LR_bin (at_tmp 106 _) (at_c (v' := U8 (45#8)) rfl) (eql_U8 ((x2.getD ((0 : Int)).toNat 0).toBitVec) (45#8)) rfl) (sS (sA (sT1 rfl) sT0) sB0 sF0) ?_
                                    refine AL_cons (LR_assign (at_tmp 107 _) rfl) (sS (sT1 rfl) sB0 sF0) ?_
                                    refine AL_nil ?_
                                    exact thenN (cutLeaf (v := ((x2.getD ((0 : Int)).toNat 0).toBitVec) == (45#8)) hr (weak0 ((sT rfl (sT rfl (sT rfl (sT rfl (sT rfl (sT rfl (sT rfl (sT rfl (sT rfl sT0)))))))))) (sub_keep sub_nil)))
                                  · rintro x29 hr
                                    show AW Hfaa.prog _ _ _ ⟨[(0, .inl (is (Sv a0))), (3, .inl (is (Bl a3))), (8, .inr (.inl (8, 0))), (10, .inl (is (Sv x2))), (13, .inl (is (Sv x4))), (14, .inl (is (Sv x5))), (18, .inl (is (I64 0))), (19, .inl (is (I64 x17))), (20, .inl (is (Bl x29)))], [(8, pb 297 [is (U8 (0#8)), is (Bl false), is (Sv ([] : List UInt8)), is (I16 0), is (I64 0), is (I32 0)])]⟩
                                    have hr : some r = F377_20 N a0 a3 x2 x4 x5 x17 x29 := hr
                                    refine AW_cut (σ := List UInt8) (fun v => ⟨[(0, .inl (is (Sv a0))), (3, .inl (is (Bl a3))), (8, .inr (.inl (8, 0))), (10, .inl (is (Sv v))), (13, .inl (is (Sv x4))), (14, .inl (is (Sv x5))), (18, .inl (is (I64 0))), (19, .inl (is (I64 x17))), (20, .inl (is (Bl x29)))], [(8, pb 297 [is (U8 (0#8)), is (Bl false), is (Sv ([] : List UInt8)), is (I16 0), is (I64 0), is (I32 0)])]⟩) (fun v => some r = F377_21 N a0 a3 x4 x5 x17 x29 v) ?_ ?_
                                    · skip
                                      refine AW_region ?_
                                      refine AL_cons (LR_move (at_tmp 10 _) rfl) (sS (sT1 rfl) sB0 sF0) ?_
                                      obtain ⟨hg65, hr⟩ := guard_some hr
                                      refine AL_cons (LR_sliceS (i := (1 : Int)) (j := (x2.length : Int)) Hfaa.underlying9 (at_tmp 108 _) (fun B bn s a w hs hr => .inr ⟨_, congrArg some ((at_c (v' := I64 1) rfl) B bn s a w hs hr)⟩) (fun _ _ _ _ _ _ _ => .inl ⟨rfl, rfl⟩) (dand3 hg65) rfl) (sS (sA (sT1 rfl) (sA sT0 sT0)) sB0 sF0) ?_
                                      refine AL_cons (LR_assign (at_tmp 109 _) rfl) (sS (sT1 rfl) sB0 sF0) ?_
                                      refine AL_nil ?_
                                      exact thenN (cutLeaf (v := (x2.drop ((1 : Int)).toNat).take (((x2.length : Int)).toNat - ((1 : Int)).toNat)) hr (weak0 ((sT rfl (sT rfl (sT rfl (sT rfl (sT rfl (sT rfl (sT rfl (sT rfl (sT rfl sT0)))))))))) (sub_keep sub_nil)))
                                    · rintro x30 hr
                                      show AW Hfaa.prog _ _ _ ⟨[(0, .inl (is (Sv a0))), (3, .inl (is (Bl a3))), (8, .inr (.inl (8, 0))), (10, .inl (is (Sv x30))), (13, .inl (is (Sv x4))), (14, .inl (is (Sv x5))), (18, .inl (is (I64 0))), (19, .inl (is (I64 x17))), (20, .inl (is (Bl x29)))], [(8, pb 297 [is (U8 (0#8)), is (Bl false), is (Sv ([] : List UInt8)), is (I16 0), is (I64 0), is (I32 0)])]⟩
                                      have hr : some r = F377_21 N a0 a3 x4 x5 x17 x29 x30 := hr
                                      refine AW_region ?_
                                      refine AL_cons (LR_move (at_tmp 19 _) rfl) (sS (sT1 rfl) sB0 sF0) ?_
                                      refine AL_cons (LR_bin (at_tmp 110 _) (at_c (v' := I64 1) rfl) (add_I64 x17 1) rfl) (sS (sA (sT1 rfl) sT0) sB0 sF0) ?_
                                      refine AL_cons (LR_assign (at_tmp 111 _) rfl) (sS (sT1 rfl) sB0 sF0) ?_
                                      refine AL_nil ?_
                                      exact thenN (cutLeaf (v := (x30, w64 (x17 + 1), x29)) hr (weak0 ((sT rfl (sT rfl (sT rfl (sT rfl (sT rfl (sT rfl (sT rfl (sT rfl (sT rfl sT0)))))))))) (sub_keep sub_nil)))
                                · have hr := hr.trans (cond_f h)
                                  clear h
                                  refine AW_skip ?_
                                  exact thenN (cutLeaf (v := (x2, x17, false)) hr (weak0 ((sT rfl (sT rfl (sT rfl (sT rfl (sT rfl (sT rfl (sT rfl (sT rfl (sT rfl sT0)))))))))) (sub_keep sub_nil)))
                            · rintro ⟨x18, x19, x20⟩ hr
                              show AW Hfaa.prog _ _ _ ⟨[(0, .inl (is (Sv a0))), (3, .inl (is (Bl a3))), (8, .inr (.inl (8, 0))), (10, .inl (is (Sv x18))), (13, .inl (is (Sv x4))), (14, .inl (is (Sv x5))), (18, .inl (is (I64 0))), (19, .inl (is (I64 x19))), (20, .inl (is (Bl x20)))], [(8, pb 297 [is (U8 (0#8)), is (Bl false), is (Sv ([] : List UInt8)), is (I16 0), is (I64 0), is (I32 0)])]⟩
                              have hr : some r = F377_12 N a0 a3 x4 x5 x18 x19 x20 := hr
                              refine AW_seq1 ?_
                              refine AW_cut (σ := Int) (fun v => ⟨[(0, .inl (is (Sv a0))), (3, .inl (is (Bl a3))), (8, .inr (.inl (8, 0))), (10, .inl (is (Sv x18))), (13, .inl (is (Sv x4))), (14, .inl (is (Sv x5))), (18, .inl (is (I64 0))), (19, .inl (is (I64 x19))), (20, .inl (is (Bl x20))), (21, .inl (is (I64 v)))], [(8, pb 297 [is (U8 (0#8)), is (Bl false), is (Sv ([] : List UInt8)), is (I16 0), is (I64 0), is (I32 0)])]⟩) (fun v => some r = F377_13 N a0 a3 x4 x5 x18 x19 x20 v) ?_ ?_
                              · skip
                                refine AW_region ?_
                                refine AL_cons (LR_move (at_tmp 10 _) rfl) (sS (sT1 rfl) sB0 sF0) ?_
                                obtain ⟨y40, hy40, hr⟩ := bind_some hr
                                refine AL_cons (LR_call Hfaa.func403 rfl rfl (C403 N x18 y40 hy40) (all_cons (at_tmp 112 _) all_nil) rfl) (sS (sA (sT1 rfl) sT0) sB0 sF0) ?_
                                refine AL_cons (LR_assign (at_tmp 113 _) rfl) (sS (sT1 rfl) sB0 sF0) ?_
                                refine AL_nil ?_
                                exact thenN (cutLeaf (v := y40) hr (weak0 ((sT rfl (sT rfl (sT rfl (sT rfl (sT rfl (sT rfl (sT rfl (sT rfl (sT rfl (sT rfl sT0))))))))))) (sub_keep sub_nil)))
                              · rintro x21 hr
                                show AW Hfaa.prog _ _ _ ⟨[(0, .inl (is (Sv a0))), (3, .inl (is (Bl a3))), (8, .inr (.inl (8, 0))), (10, .inl (is (Sv x18))), (13, .inl (is (Sv x4))), (14, .inl (is (Sv x5))), (18, .inl (is (I64 0))), (19, .inl (is (I64 x19))), (20, .inl (is (Bl x20))), (21, .inl (is (I64 x21)))], [(8, pb 297 [is (U8 (0#8)), is (Bl false), is (Sv ([] : List UInt8)), is (I16 0), is (I64 0), is (I32 0)])]⟩
                                have hr : some r = F377_13 N a0 a3 x4 x5 x18 x19 x20 x21 := hr
                                refine AW_cut (σ := Bool) (fun v => ⟨[(0, .inl (is (Sv a0))), (3, .inl (is (Bl a3))), (8, .inr (.inl (8, 0))), (10, .inl (is (Sv x18))), (13, .inl (is (Sv x4))), (14, .inl (is (Sv x5))), (18, .inl (is (I64 0))), (19, .inl (is (I64 x19))), (20, .inl (is (Bl x20))), (21, .inl (is (I64 x21))), (121, .inl (is (Bl v)))], [(8, pb 297 [is (U8 (0#8)), is (Bl false), is (Sv ([] : List UInt8)), is (I16 0), is (I64 0), is (I32 0)])]⟩) (fun v => some r = F377_14 N a0 a3 x4 x5 x18 x19 x20 x21 v) ?_ ?_
                                · skip
                                  refine AW_region ?_
                                  refine AL_cons (LR_move (at_tmp 21 _) rfl) (sS (sT1 rfl) sB0 sF0) ?_
                                  refine AL_cons (LR_move (at_tmp 10 _) rfl) (sS (sT1 rfl) sB0 sF0) ?_
                                  refine AL_cons (LR_bi1 (at_tmp 115 _) (len_S Hfaa.underlying9 x18) rfl) (sS (sT1 rfl) sB0 sF0) ?_
                                  refine AL_cons (LR_bin (at_tmp 114 _) (at_tmp 116 _) (lss_I64 x21 (x18.length : Int)) rfl) (sS (sA (sT1 rfl) (sT1 rfl)) sB0 sF0) ?_
                                  refine AL_cons (LR_move (at_tmp 117 _) rfl) (sS (sT1 rfl) sB0 sF0) ?_
                                  refine AL_cutAt 3 ⟨[(0, .inl (is (Sv a0))), (3, .inl (is (Bl a3))), (8, .inr (.inl (8, 0))), (10, .inl (is (Sv x18))), (13, .inl (is (Sv x4))), (14, .inl (is (Sv x5))), (18, .inl (is (I64 0))), (19, .inl (is (I64 x19))), (20, .inl (is (Bl x20))), (21, .inl (is (I64 x21))), (114, .inl (is (I64 x21))), (115, .inl (is (Sv x18))), (116, .inl (is (I64 (x18.length : Int)))), (117, .inl (is (Bl (decide (x21 < (x18.length : Int)))))), (118, .inl (is (Bl (decide (x21 < (x18.length : Int)))))), (121, .inl (is (Bl ((decide (x21 < (x18.length : Int))) || (x21 == 0)))))], [(8, pb 297 [is (U8 (0#8)), is (Bl false), is (Sv ([] : List UInt8)), is (I16 0), is (I64 0), is (I32 0)])]⟩ ?_ ?_
                                  · cases hb : decide (x21 < (x18.length : Int))
                                    · skip
                                      refine AL_cons (LR_on rfl rfl rfl (LR_move (at_tmp 21 _) rfl)) (sS (sT rfl (sT1 rfl)) sB0 sF0) ?_
                                      refine AL_cons (LR_on rfl rfl rfl (LR_bin (at_tmp 119 _) (at_c (v' := I64 0) rfl) (eql_I64 x21 0) rfl)) (sS (sT rfl (sA (sT1 rfl) sT0)) sB0 sF0) ?_
                                      refine AL_cons (LR_pick (b := false) (at_tmp 118 _) (at_c (v' := Bl true) rfl) (at_tmp 120 _) rfl) (sS (sA (sT1 rfl) (sA sT0 (sT1 rfl))) sB0 sF0) ?_
                                      exact AL_nil ⟨rfl, weak0 ((sT rfl (sT rfl (sT rfl (sT rfl (sT rfl (sT rfl (sT rfl (sT rfl (sT rfl (sT rfl (sT rfl (sT rfl (sT rfl (sT rfl (sT rfl (sT rfl sT0))))))))))))))))) (sub_keep sub_nil)⟩
                                    · skip
                                      refine AL_cons (LR_off (b := true) rfl rfl rfl rfl) (sS (sT1 rfl) sB0 sF0) ?_
                                      refine AL_cons (LR_off (b := true) rfl rfl rfl rfl) (sS (sT1 rfl) sB0 sF0) ?_
                                      refine AL_cons (LR_pick (b := true) (at_tmp 118 _) (at_c (v' := Bl true) rfl) (at_tmp 120 _) rfl) (sS (sA (sT1 rfl) (sA sT0 (sT1 rfl))) sB0 sF0) ?_
                                      exact AL_nil ⟨rfl, weak0 ((sT rfl (sT rfl (sT rfl (sT rfl (sT rfl (sT rfl (sT rfl (sT rfl (sT rfl (sT rfl (sT rfl (sT rfl (sT rfl (sT rfl (sT rfl (sT rfl sT0))))))))))))))))) (sub_keep sub_nil)⟩
                                  refine AL_nil ?_
                                  exact thenN (cutLeaf (v := (decide (x21 < (x18.length : Int))) || (x21 == 0)) hr (weak0 ((sT rfl (sT rfl (sT rfl (sT rfl (sT rfl (sT rfl (sT rfl (sT rfl (sT rfl (sT rfl (sT rfl sT0)))))))))))) (sub_keep sub_nil)))
                                · rintro x22 hr
                                  show AW Hfaa.prog _ _ _ ⟨[(0, .inl (is (Sv a0))), (3, .inl (is (Bl a3))), (8, .inr (.inl (8, 0))), (10, .inl (is (Sv x18))), (13, .inl (is (Sv x4))), (14, .inl (is (Sv x5))), (18, .inl (is (I64 0))), (19, .inl (is (I64 x19))), (20, .inl (is (Bl x20))), (21, .inl (is (I64 x21))), (121, .inl (is (Bl x22)))], [(8, pb 297 [is (U8 (0#8)), is (Bl false), is (Sv ([] : List UInt8)), is (I16 0), is (I64 0), is (I32 0)])]⟩
                                  have hr : some r = F377_14 N a0 a3 x4 x5 x18 x19 x20 x21 x22 := hr
                                  refine AW_condT (b := x22) rfl (fun h => ?_) (fun h => ?_)
                                  · have hr := hr.trans (cond_t h)
                                    clear h
                                    refine AW_seq1 ?_
                                    refine AW_region ?_
                                    refine AL_cons (LR_move (at_tmp 0 _) rfl) (sS (sT1 rfl) sB0 sF0) ?_
                                    refine AL_cons (LR_move (at_tmp 19 _) rfl) (sS (sT1 rfl) sB0 sF0) ?_
                                    refine AL_cons (LR_move (at_tmp 21 _) rfl) (sS (sT1 rfl) sB0 sF0) ?_
                                    refine AL_cons (LR_bin (at_tmp 123 _) (at_tmp 124 _) (add_I64 x19 x21) rfl) (sS (sA (sT1 rfl) (sT1 rfl)) sB0 sF0) ?_
                                    obtain ⟨y39, hy39, hr⟩ := bind_some hr
                                    refine AL_cons (LR_call Hfaa.func376 rfl rfl (C376 N a0 (w64 (x19 + x21)) y39 hy39) (all_cons (at_tmp 122 _) (all_cons (at_tmp 125 _) all_nil)) rfl) (sS (sA (sT1 rfl) (sA (sT1 rfl) sT0)) sB0 sF0) ?_
                                    refine AL_cons (LR_store (at_tmp 8 _) (at_tmp 126 _) (cells_agg _) (onC (one_is rfl) (onC (one_is rfl) (onC (one_is rfl) (onC (one_is rfl) (onC (one_is rfl) (onC (one_is rfl) onN)))))) sz297 rfl rfl) (sS (sA (sT1 rfl) (sT1 rfl)) (sB1 rfl) sF0) ?_
                                    refine AL_nil ?_
                                    refine thenN ?_
                                    refine AW_ret ?_
                                    refine thenR ?_
                                    refine thenR ?_
                                    obtain rfl := Option.some.inj hr
                                    exact res1 rfl (rvC rfl rfl ag297 sz297 rfl)
                                  · have hr := hr.trans (cond_f h)
                                    clear h
                                    refine AW_skip ?_
                                    refine thenN ?_
                                    refine AW_cut (σ := Int) (fun v => ⟨[(3, .inl (is (Bl a3))), (8, .inr (.inl (8, 0))), (13, .inl (is (Sv x4))), (14, .inl (is (Sv x5))), (18, .inl (is (I64 v))), (20, .inl (is (Bl x20)))], [(8, pb 297 [is (U8 (0#8)), is (Bl false), is (Sv ([] : List UInt8)), is (I16 0), is (I64 0), is (I32 0)])]⟩) (fun v => some r = F377_15 N a3 x4 x5 x20 v) ?_ ?_
                                    · skip
                                      refine AW_seq1 ?_
                                      refine AW_region ?_
                                      refine AL_cons (LR_assign (at_c (v' := I64 0) rfl) rfl) (sS sT0 sB0 sF0) ?_
                                      refine AL_nil ?_
                                      refine thenN ?_
                                      refine AW_block ?_
                                      refine AW_iterR (σ := Int × Int) (r := r) (x0 := (0, 0)) (emb := fun v => ⟨[(3, .inl (is (Bl a3))), (8, .inr (.inl (8, 0))), (10, .inl (is (Sv x18))), (13, .inl (is (Sv x4))), (14, .inl (is (Sv x5))), (18, .inl (is (I64 v.1))), (20, .inl (is (Bl x20))), (22, .inl (is (I64 v.2)))], [(8, pb 297 [is (U8 (0#8)), is (Bl false), is (Sv ([] : List UInt8)), is (I16 0), is (I64 0), is (I32 0)])]⟩) ?_ hr ?_
                                      · exact weak0 ((sT rfl (sT rfl (sT rfl (sT rfl (sT rfl (sT rfl (sT rfl (sT rfl sT0))))))))) (sub_keep sub_nil)
                                      rintro ⟨x24, x25⟩ out4 hr
                                      show AW Hfaa.prog _ _ _ ⟨[(3, .inl (is (Bl a3))), (8, .inr (.inl (8, 0))), (10, .inl (is (Sv x18))), (13, .inl (is (Sv x4))), (14, .inl (is (Sv x5))), (18, .inl (is (I64 x24))), (20, .inl (is (Bl x20))), (22, .inl (is (I64 x25)))], [(8, pb 297 [is (U8 (0#8)), is (Bl false), is (Sv ([] : List UInt8)), is (I16 0), is (I64 0), is (I32 0)])]⟩
                                      have hr : some out4 = F377_L16b N a3 x4 x5 x18 x20 x24 x25 := hr
                                      refine AW_seq1 ?_
                                      refine AW_cut (σ := Bool) (fun v => ⟨[(3, .inl (is (Bl a3))), (8, .inr (.inl (8, 0))), (10, .inl (is (Sv x18))), (13, .inl (is (Sv x4))), (14, .inl (is (Sv x5))), (18, .inl (is (I64 x24))), (20, .inl (is (Bl x20))), (22, .inl (is (I64 x25))), (130, .inl (is (Bl v)))], [(8, pb 297 [is (U8 (0#8)), is (Bl false), is (Sv ([] : List UInt8)), is (I16 0), is (I64 0), is (I32 0)])]⟩) (fun v => some out4 = F377_17 N a3 x4 x5 x18 x20 x24 x25 v) ?_ ?_
                                      · skip
                                        refine AW_region ?_
                                        refine AL_cons (LR_move (at_tmp 22 _) rfl) (sS (sT1 rfl) sB0 sF0) ?_
                                        refine AL_cons (LR_move (at_tmp 10 _) rfl) (sS (sT1 rfl) sB0 sF0) ?_
                                        refine AL_cons (LR_bi1 (at_tmp 128 _) (len_S Hfaa.underlying9 x18) rfl) (sS (sT1 rfl) sB0 sF0) ?_
                                        refine AL_cons (LR_bin (at_tmp 127 _) (at_tmp 129 _) (lss_I64 x25 (x18.length : Int)) rfl) (sS (sA (sT1 rfl) (sT1 rfl)) sB0 sF0) ?_
                                        refine AL_nil ?_
                                        exact thenN (cutLeaf (v := decide (x25 < (x18.length : Int))) hr (weak0 ((sT rfl (sT rfl (sT rfl (sT rfl (sT rfl (sT rfl (sT rfl (sT rfl (sT rfl sT0)))))))))) (sub_keep sub_nil)))
                                      · rintro x26 hr
                                        show AW Hfaa.prog _ _ _ ⟨[(3, .inl (is (Bl a3))), (8, .inr (.inl (8, 0))), (10, .inl (is (Sv x18))), (13, .inl (is (Sv x4))), (14, .inl (is (Sv x5))), (18, .inl (is (I64 x24))), (20, .inl (is (Bl x20))), (22, .inl (is (I64 x25))), (130, .inl (is (Bl x26)))], [(8, pb 297 [is (U8 (0#8)), is (Bl false), is (Sv ([] : List UInt8)), is (I16 0), is (I64 0), is (I32 0)])]⟩
                                        have hr : some out4 = F377_17 N a3 x4 x5 x18 x20 x24 x25 x26 := hr
                                        refine AW_condT (b := x26) rfl (fun h => ?_) (fun h => ?_)
                                        · have hr := hr.trans (cond_t h)
                                          clear h
                                          refine AW_skip ?_
                                          refine thenN ?_
                                          refine AW_cut (σ := Int) (fun v => ⟨[(3, .inl (is (Bl a3))), (8, .inr (.inl (8, 0))), (10, .inl (is (Sv x18))), (13, .inl (is (Sv x4))), (14, .inl (is (Sv x5))), (18, .inl (is (I64 v))), (20, .inl (is (Bl x20))), (22, .inl (is (I64 x25)))], [(8, pb 297 [is (U8 (0#8)), is (Bl false), is (Sv ([] : List UInt8)), is (I16 0), is (I64 0), is (I32 0)])]⟩) (fun v => some out4 = F377_18 N a3 x4 x5 x18 x20 x25 v) ?_ ?_
                                          · skip
                                            refine AW_block ?_
                                            refine AW_region ?_
                                            refine AL_cons (LR_move (at_tmp 18 _) rfl) (sS (sT1 rfl) sB0 sF0) ?_
                                            refine AL_cons (LR_bin (at_c (v' := I64 10) rfl) (at_tmp 133 _) (mul_I64 10 x24) rfl) (sS (sA sT0 (sT1 rfl)) sB0 sF0) ?_
                                            refine AL_cons (LR_move (at_tmp 10 _) rfl) (sS (sT1 rfl) sB0 sF0) ?_
                                            refine AL_cons (LR_move (at_tmp 22 _) rfl) (sS (sT1 rfl) sB0 sF0) ?_
                                            obtain ⟨hg58, hr⟩ := guard_some hr
                                            refine AL_cons (LR_indexS (i := (x25 : Int)) Hfaa.underlying9 (at_tmp 135 _) (at_tmp 136 _) (dand hg58) rfl) (sS (sA (sT1 rfl) (sT1 rfl)) sB0 sF0) ?_
                                            refine AL_cons (LR_bin (at_tmp 137 _) (at_c (v' := U8 (48#8)) rfl) (sub_U8 ((x18.getD ((x25 : Int)).toNat 0).toBitVec) (48#8)) rfl) (sS (sA (sT1 rfl) sT0) sB0 sF0) ?_
                                            refine AL_cons (LR_conv (vx := U8 (((x18.getD ((x25 : Int)).toNat 0).toBitVec) - (48#8))) (at_tmp 138 _) (conv_I64 Hfaa.underlying5 Hfaa.underlying3 ((((x18.getD ((x25 : Int)).toNat 0).toBitVec) - (48#8)).toNat : Int)) rfl) (sS (sT1 rfl) sB0 sF0) ?_
                                            refine AL_cons (LR_bin (at_tmp 134 _) (at_tmp 139 _) (add_I64 (w64 (10 * x24)) (w64 ((((x18.getD ((x25 : Int)).toNat 0).toBitVec) - (48#8)).toNat : Int))) rfl) (sS (sA (sT1 rfl) (sT1 rfl)) sB0 sF0) ?_
                                            refine AL_cons (LR_bi2 (vx := I64 (w64 ((w64 (10 * x24)) + (w64 ((((x18.getD ((x25 : Int)).toNat 0).toBitVec) - (48#8)).toNat : Int))))) (vy := I64 1000000) (v := I64 (min (w64 ((w64 (10 * x24)) + (w64 ((((x18.getD ((x25 : Int)).toNat 0).toBitVec) - (48#8)).toNat : Int)))) 1000000)) (at_tmp 140 _) (at_c (v' := I64 1000000) rfl) (fun cs w => min_I .i64 (w64 ((w64 (10 * x24)) + (w64 ((((x18.getD ((x25 : Int)).toNat 0).toBitVec) - (48#8)).toNat : Int)))) 1000000 cs w) rfl) (sS (sA (sT1 rfl) sT0) sB0 sF0) ?_
                                            refine AL_cons (LR_assign (at_tmp 141 _) rfl) (sS (sT1 rfl) sB0 sF0) ?_
                                            refine AL_nil ?_
                                            refine blN ?_
                                            exact thenN (cutLeaf (v := min (w64 ((w64 (10 * x24)) + (w64 ((((x18.getD ((x25 : Int)).toNat 0).toBitVec) - (48#8)).toNat : Int)))) 1000000) hr (weak0 ((sT rfl (sT rfl (sT rfl (sT rfl (sT rfl (sT rfl (sT rfl (sT rfl sT0))))))))) (sub_keep sub_nil)))
                                          · rintro x27 hr
                                            show AW Hfaa.prog _ _ _ ⟨[(3, .inl (is (Bl a3))), (8, .inr (.inl (8, 0))), (10, .inl (is (Sv x18))), (13, .inl (is (Sv x4))), (14, .inl (is (Sv x5))), (18, .inl (is (I64 x27))), (20, .inl (is (Bl x20))), (22, .inl (is (I64 x25)))], [(8, pb 297 [is (U8 (0#8)), is (Bl false), is (Sv ([] : List UInt8)), is (I16 0), is (I64 0), is (I32 0)])]⟩
                                            have hr : some out4 = F377_18 N a3 x4 x5 x18 x20 x25 x27 := hr
                                            refine AW_region ?_
                                            refine AL_cons (LR_move (at_tmp 22 _) rfl) (sS (sT1 rfl) sB0 sF0) ?_
                                            refine AL_cons (LR_bin (at_tmp 131 _) (at_c (v' := I64 1) rfl) (add_I64 x25 1) rfl) (sS (sA (sT1 rfl) sT0) sB0 sF0) ?_
                                            refine AL_cons (LR_assign (at_tmp 132 _) rfl) (sS (sT1 rfl) sB0 sF0) ?_
                                            refine AL_nil ?_
                                            exact thenN (loopNext (x' := (x27, w64 (x25 + 1))) hr (weak0 ((sT rfl (sT rfl (sT rfl (sT rfl (sT rfl (sT rfl (sT rfl (sT rfl sT0))))))))) (sub_keep sub_nil)))
                                        · have hr := hr.trans (cond_f h)
                                          clear h
                                          refine AW_exit ?_
                                          refine thenX ?_
                                          obtain ⟨r', hro, hr⟩ := map_inr hr
                                          refine thenX (loopOut hro (fun he => ?_))
                                          rw [he] at hr
                                          refine blH ?_
                                          exact thenN (cutLeaf (v := x24) hr (weak0 ((sT rfl (sT rfl (sT rfl (sT rfl (sT rfl (sT rfl sT0))))))) (sub_keep sub_nil)))
                                    · rintro x23 hr
                                      show AW Hfaa.prog _ _ _ ⟨[(3, .inl (is (Bl a3))), (8, .inr (.inl (8, 0))), (13, .inl (is (Sv x4))), (14, .inl (is (Sv x5))), (18, .inl (is (I64 x23))), (20, .inl (is (Bl x20)))], [(8, pb 297 [is (U8 (0#8)), is (Bl false), is (Sv ([] : List UInt8)), is (I16 0), is (I64 0), is (I32 0)])]⟩
                                      have hr : some r = F377_15 N a3 x4 x5 x20 x23 := hr
                                      refine AW_seq1 ?_
                                      refine AW_region ?_
                                      refine AL_cons (LR_move (at_tmp 20 _) rfl) (sS (sT1 rfl) sB0 sF0) ?_
                                      refine AL_nil ?_
                                      refine thenN ?_
                                      refine AW_condT (b := x20) rfl (fun h => ?_) (fun h => ?_)
                                      · have hr := hr.trans (cond_t h)
                                        clear h
                                        refine AW_region ?_
                                        refine AL_cons (LR_move (at_tmp 18 _) rfl) (sS (sT1 rfl) sB0 sF0) ?_
                                        refine AL_cons (LR_un (at_tmp 143 _) (neg_I64 x23) rfl) (sS (sT1 rfl) sB0 sF0) ?_
                                        refine AL_cons (LR_assign (at_tmp 144 _) rfl) (sS (sT1 rfl) sB0 sF0) ?_
                                        refine AL_nil ?_
                                        exact thenN (cutLeaf (v := w64 (0 - x23)) hr (weak0 ((sT rfl (sT rfl (sT rfl (sT rfl (sT rfl sT0)))))) (sub_keep sub_nil)))
                                      · have hr := hr.trans (cond_f h)
                                        clear h
                                        refine AW_skip ?_
                                        exact thenN (cutLeaf (v := x23) hr (weak0 ((sT rfl (sT rfl (sT rfl (sT rfl (sT rfl sT0)))))) (sub_keep sub_nil)))
                        · have hr := hr.trans (cond_f h)
                          clear h
                          refine AW_skip ?_
                          exact thenN (cutLeaf (v := 0) hr (weak0 ((sT rfl (sT rfl (sT rfl (sT rfl (sT rfl sT0)))))) (sub_keep sub_nil)))
                      · rintro x11 hr
                        show AW Hfaa.prog _ _ _ ⟨[(3, .inl (is (Bl a3))), (8, .inr (.inl (8, 0))), (13, .inl (is (Sv x4))), (14, .inl (is (Sv x5))), (18, .inl (is (I64 x11)))], [(8, pb 297 [is (U8 (0#8)), is (Bl false), is (Sv ([] : List UInt8)), is (I16 0), is (I64 0), is (I32 0)])]⟩
                        have hr : some r = F377_8 N a3 x4 x5 x11 := hr
                        refine AW_cut (σ := Bool × Bool × List UInt8 × Int) (fun v => ⟨[(8, .inr (.inl (8, 0))), (23, .inr (.inl (23, 0))), (24, .inl (is (Bl v.1)))], [(8, pb 297 [is (U8 (0#8)), is (Bl false), is (Sv ([] : List UInt8)), is (I16 0), is (I64 0), is (I32 0)]), (23, pb 76 [is (Bl v.2.1), is (Sv v.2.2.1), is (I16 v.2.2.2)])]⟩) (fun v => some r = F377_9 N v.1 v.2.1 v.2.2.1 v.2.2.2) ?_ ?_
                        · skip
                          refine AW_region ?_
                          refine AL_cons (LR_move (at_tmp 3 _) rfl) (sS (sT1 rfl) sB0 sF0) ?_
                          refine AL_cons (LR_move (at_tmp 13 _) rfl) (sS (sT1 rfl) sB0 sF0) ?_
                          refine AL_cons (LR_move (at_tmp 14 _) rfl) (sS (sT1 rfl) sB0 sF0) ?_
                          obtain ⟨hg38, hr⟩ := guard_some hr
                          refine AL_cons (LR_bin (at_tmp 147 _) (at_tmp 148 _) (add_S x4 x5 (of_decide_eq_true hg38)) rfl) (sS (sA (sT1 rfl) (sT1 rfl)) sB0 sF0) ?_
                          refine AL_cons (LR_move (at_tmp 18 _) rfl) (sS (sT1 rfl) sB0 sF0) ?_
                          refine AL_cons (LR_move (at_tmp 14 _) rfl) (sS (sT1 rfl) sB0 sF0) ?_
                          refine AL_cons (LR_bi1 (at_tmp 151 _) (len_S Hfaa.underlying9 x5) rfl) (sS (sT1 rfl) sB0 sF0) ?_
                          refine AL_cons (LR_bin (at_tmp 150 _) (at_tmp 152 _) (sub_I64 x11 (x5.length : Int)) rfl) (sS (sA (sT1 rfl) (sT1 rfl)) sB0 sF0) ?_
                          obtain ⟨y32, hy32, hr⟩ := bind_some hr
                          refine AL_cons (LR_call Hfaa.func39 rfl rfl (C39 N a3 (x4 ++ x5) (w64 (x11 - (x5.length : Int))) y32 hy32) (all_cons (at_tmp 146 _) (all_cons (at_tmp 149 _) (all_cons (at_tmp 153 _) all_nil))) rfl) (sS (sA (sT1 rfl) (sA (sT1 rfl) (sA (sT1 rfl) sT0))) sB0 sF0) ?_
                          refine AL_cons (LR_move (at_tmp 154 _) rfl) (sS (sT1 rfl) sB0 sF0) ?_
                          refine AL_cons (LR_extract (at_tmp 145 _) rfl rfl) (sS (sT1 rfl) sB0 sF0) ?_
                          refine AL_cons (LR_extract (at_tmp 145 _) rfl rfl) (sS (sT1 rfl) sB0 sF0) ?_
                          refine AL_cons (zl76 rfl) (sS sT0 sB0 (sF1 rfl)) ?_
                          refine AL_cons (LR_store (at_tmp 23 _) (at_tmp 155 _) (cells_agg _) (onC (one_is rfl) (onC (one_is rfl) (onC (one_is rfl) onN))) sz76 rfl rfl) (sS (sA (sT1 rfl) (sT1 rfl)) (sB1 rfl) sF0) ?_
                          refine AL_cons (LR_assign (at_tmp 156 _) rfl) (sS (sT1 rfl) sB0 sF0) ?_
                          refine AL_nil ?_
                          exact thenN (cutLeaf (v := (y32.2.2.2, y32.1, y32.2.1, y32.2.2.1)) hr (weak0 ((sT rfl (sT rfl (sT rfl sT0)))) (sub_keep (sub_keep sub_nil))))
                        · rintro ⟨x12, x13, x14, x15⟩ hr
                          show AW Hfaa.prog _ _ _ ⟨[(8, .inr (.inl (8, 0))), (23, .inr (.inl (23, 0))), (24, .inl (is (Bl x12)))], [(8, pb 297 [is (U8 (0#8)), is (Bl false), is (Sv ([] : List UInt8)), is (I16 0), is (I64 0), is (I32 0)]), (23, pb 76 [is (Bl x13), is (Sv x14), is (I16 x15)])]⟩
                          have hr : some r = F377_9 N x12 x13 x14 x15 := hr
                          refine AW_seq1 ?_
                          refine AW_cut (σ := Bool) (fun v => ⟨[(8, .inr (.inl (8, 0))), (23, .inr (.inl (23, 0))), (158, .inl (is (Bl v)))], [(8, pb 297 [is (U8 (0#8)), is (Bl false), is (Sv ([] : List UInt8)), is (I16 0), is (I64 0), is (I32 0)]), (23, pb 76 [is (Bl x13), is (Sv x14), is (I16 x15)])]⟩) (fun v => some r = F377_10 N x13 x14 x15 v) ?_ ?_
                          · skip
                            refine AW_region ?_
                            refine AL_cons (LR_move (at_tmp 24 _) rfl) (sS (sT1 rfl) sB0 sF0) ?_
                            refine AL_cons (LR_un (at_tmp 157 _) (not_Bl x12) rfl) (sS (sT1 rfl) sB0 sF0) ?_
                            refine AL_nil ?_
                            exact thenN (cutLeaf (v := !x12) hr (weak0 ((sT rfl (sT rfl (sT rfl sT0)))) (sub_keep (sub_keep sub_nil))))
                          · rintro x16 hr
                            show AW Hfaa.prog _ _ _ ⟨[(8, .inr (.inl (8, 0))), (23, .inr (.inl (23, 0))), (158, .inl (is (Bl x16)))], [(8, pb 297 [is (U8 (0#8)), is (Bl false), is (Sv ([] : List UInt8)), is (I16 0), is (I64 0), is (I32 0)]), (23, pb 76 [is (Bl x13), is (Sv x14), is (I16 x15)])]⟩
                            have hr : some r = F377_10 N x13 x14 x15 x16 := hr
                            refine AW_condT (b := x16) rfl (fun h => ?_) (fun h => ?_)
                            · have hr := hr.trans (cond_t h)
                              clear h
                              refine AW_seq1 ?_
                              refine AW_region ?_
                              refine AL_cons (bl297 (parts_cons (i := 0) (off := 0) (at_c (v' := U8 (4#8)) rfl) (cells_one (one_is rfl)) rfl rfl parts_nil) rfl rfl) (sS (sA sT0 sT0) sB0 sF0) ?_
                              refine AL_cons (LR_store (at_tmp 8 _) (at_tmp 159 _) (cells_agg _) (onC (one_is rfl) (onC (one_is rfl) (onC (one_is rfl) (onC (one_is rfl) (onC (one_is rfl) (onC (one_is rfl) onN)))))) sz297 rfl rfl) (sS (sA (sT1 rfl) (sT1 rfl)) (sB1 rfl) sF0) ?_
                              refine AL_nil ?_
                              refine thenN ?_
                              refine AW_ret ?_
                              refine thenR ?_
                              obtain rfl := Option.some.inj hr
                              exact res1 rfl (rvC rfl rfl ag297 sz297 rfl)
                            · have hr := hr.trans (cond_f h)
                              clear h
                              refine AW_skip ?_
                              refine thenN ?_
                              refine AW_seq1 ?_
                              refine AW_region ?_
                              refine AL_cons (LR_loads (at_tmp 23 _) ag76 sz76 rfl rfl rfl) (sS (sT1 rfl) (sB1 rfl) sF0) ?_
                              refine AL_cons (bl297 (parts_cons (i := 0) (off := 0) (at_c (v' := U8 (0#8)) rfl) (cells_one (one_is rfl)) rfl rfl (parts_cons (i := 1) (off := 1) (at_tmp 160 _) (cells_agg _) rfl rfl parts_nil)) rfl rfl) (sS (sA sT0 (sA (sT1 rfl) sT0)) sB0 sF0) ?_
                              refine AL_cons (LR_store (at_tmp 8 _) (at_tmp 161 _) (cells_agg _) (onC (one_is rfl) (onC (one_is rfl) (onC (one_is rfl) (onC (one_is rfl) (onC (one_is rfl) (onC (one_is rfl) onN)))))) sz297 rfl rfl) (sS (sA (sT1 rfl) (sT1 rfl)) (sB1 rfl) sF0) ?_
                              refine AL_nil ?_
                              refine thenN ?_
                              refine AW_ret ?_
                              obtain rfl := Option.some.inj hr
                              exact res1 rfl (rvC rfl rfl ag297 sz297 rfl)
end Go.Proofs.YfwaawGreat
